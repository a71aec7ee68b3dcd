/- Layers 3 to 5: what the document's answer is shown to do. Printed by a program of the session's own (genb.py). -/
import Derived.Test.YtafpbibpahjnhaaGreatL05J
import Derived.Test.YtafpbibpahjnhaaGreatL04B
import Derived.Test.YtafpbibpahjnhaaGreatL05Z
namespace Go.Proofs.YtafpbibpahjnhaaGreat.L05X
open Go Go.RowKit Go.Proofs.YtafpbibpahjnhaaGreat.Sx Go.Proofs.YtafpbibpahjnhaaGreat.L05 Go.Proofs.YtafpbibpahjnhaaGreat.L05J
set_option linter.unusedVariables false
set_option linter.unusedSimpArgs false
open Go.Proofs.YtafpbibpahjnhaaGreat.L04 (mAdd1 mAdd2 mSub1 mSub2 mMul1 mMul2 mDiv1 mDiv2 mMod1 mMod2 mPlus1 mPlus2 mMinus1 mMinus2 mShl1 mShl2 mShr1 mShr2 mSar1 mSar2)
theorem t_rbit (t : P2) (i : Int) (hb0 : isU t.1 = true) (hb1 : isU t.2 = true) (hb2 : isX i = true) (ρ : Nat → Nat) (w : World) : Calls Tryz.prog 166 (enV [.a [some .u64, some .u64], .s (some .i64)] ([t.1, t.2, i], [])).toArray w fun e w' => e = .returned (V.den ρ (.u (.c (.si .i64 (bitM t i))))) ∧ Below w.heap.size w w' := by
  refine pure_to nameOK okn (dOK okn) 300 [.u (.agg [.si .u64 t.1, .si .u64 t.2]), .u (.c (.si .i64 i))] (T := (.br (iNeg? (iConv .u64 i)) (.no 11) (.br (iEq (iBit .and .u64 (iShr .u64 t.2 (iConv .u64 i)) 1) 1) (.leaf (.val (.u (.c (.li .i64 2))))) (.br (iNeg? (iConv .u64 i)) (.no 11) (.leaf (.val (.u (.c (.si .i64 (iConv .i64 (iBit .and .u64 (iShr .u64 t.1 (iConv .u64 i)) 1))))))))))) (by kernel_rfl) ρ rfl ?_ w
  · refine brF (by rw [(conv_x hb2).1]; exact (conv_x hb2).2) ?_
    refine br2 (fun k1 => ?_) (fun k1 => ?_)
    · have q : iBit .and .u64 (iShr .u64 t.2 (iConv .u64 i)) 1 = if tb t.hi i.toNat = true then 1 else 0 := by rw [(conv_x hb2).1]; exact bit_at hb1 hb2
      have q1 := eq_t.1 k1
      rw [q] at q1
      have q2 : tb t.hi i.toNat = true := by revert q1; cases tb t.hi i.toNat <;> simp
      have e : bitM t i = 2 := by unfold bitM; rw [q2]
      simp only [Tr.all]; rw [e]; try rfl
    · refine brF (by rw [(conv_x hb2).1]; exact (conv_x hb2).2) ?_
      have q : iBit .and .u64 (iShr .u64 t.2 (iConv .u64 i)) 1 = if tb t.hi i.toNat = true then 1 else 0 := by rw [(conv_x hb2).1]; exact bit_at hb1 hb2
      have q1 := eq_f.1 k1
      rw [q] at q1
      have q2 : tb t.hi i.toNat = false := by revert q1; cases tb t.hi i.toNat <;> simp
      have e : iConv .i64 (iBit .and .u64 (iShr .u64 t.1 (iConv .u64 i)) 1) = bitM t i := by
        rw [bit_conv hb0 hb2]; unfold bitM; rw [q2]; cases tb t.lo i.toNat <;> rfl
      simp only [Tr.all]; rw [e]; try rfl
def s_rbit : Sum := bySum 166 [.a [some .u64, some .u64], .s (some .i64)] fun
  | [a0, a1, a2], [] => some ([isU (P2.mk a0 a1).1, isU (P2.mk a0 a1).2, isX a2], .u (.c (.si .i64 (bitM (P2.mk a0 a1) a2))))
  | _, _ => none
theorem s_rbit_ok : SumOK Tryz.prog s_rbit := by
  refine bySum_ok ⟨_, Tryz.func166, by kernel_rfl⟩ ?_
  intro ns os bs r hm hb ρ w
  split at hm
  · rename_i a0 a1 a2
    cases hm
    exact t_rbit (P2.mk a0 a1) a2 (hb _ (by simp)) (hb _ (by simp)) (hb _ (by simp)) ρ w
  · cases hm
theorem t_rput (t : P2) (i : Int) (b : Int) (hb0 : isX i = true) (ρ : Nat → Nat) (w : World) : Calls Tryz.prog 165 (enV [.a [some .u64, some .u64], .s (some .i64), .s (some .i64)] ([t.1, t.2, i, b], [])).toArray w fun e w' => e = .returned (V.den ρ (.u (.agg [.si .u64 (putM t i b).1, .si .u64 (putM t i b).2]))) ∧ Below w.heap.size w w' := by
  refine pure_to nameOK okn (dOK okn) 300 [.u (.agg [.si .u64 t.1, .si .u64 t.2]), .u (.c (.si .i64 i)), .u (.c (.si .i64 b))] (T := (.br (iEq b 2) (.br (iNeg? (iConv .u64 i)) (.no 11) (.br (iEq b 1) (.br (iNeg? (iConv .u64 i)) (.no 11) (.leaf (.val (.u (.agg [(.si .u64 (iBit .or .u64 t.1 (iShl .u64 1 (iConv .u64 i)))), (.si .u64 (iBit .or .u64 t.2 (iShl .u64 1 (iConv .u64 i))))]))))) (.leaf (.val (.u (.agg [(.si .u64 t.1), (.si .u64 (iBit .or .u64 t.2 (iShl .u64 1 (iConv .u64 i))))])))))) (.br (iEq b 1) (.br (iNeg? (iConv .u64 i)) (.no 11) (.leaf (.val (.u (.agg [(.si .u64 (iBit .or .u64 t.1 (iShl .u64 1 (iConv .u64 i)))), (.si .u64 t.2)]))))) (.leaf (.val (.u (.agg [(.si .u64 t.1), (.si .u64 t.2)]))))))) (by kernel_rfl) ρ rfl ?_ w
  · refine br2 (fun k1 => ?_) (fun k1 => ?_)
    · refine brF (by rw [(conv_x hb0).1]; exact (conv_x hb0).2) ?_
      refine brF (eq_f.2 (by have q := eq_t.1 k1; omega)) ?_
      have q2 := eq_t.1 k1
      have e : putM t i b = ⟨t.lo, orU t.hi (iShl .u64 1 i)⟩ := by unfold putM; rw [if_neg (by omega), if_pos (by omega)]
      simp only [Tr.all, (conv_x hb0).1]; rw [e]; try rfl
    · refine br2 (fun k2 => ?_) (fun k2 => ?_)
      · refine brF (by rw [(conv_x hb0).1]; exact (conv_x hb0).2) ?_
        have q2 := eq_f.1 k1
        have q1 := eq_t.1 k2
        have e : putM t i b = ⟨orU t.lo (iShl .u64 1 i), t.hi⟩ := by unfold putM; rw [if_pos (by omega), if_neg (by omega)]
        simp only [Tr.all, (conv_x hb0).1]; rw [e]; try rfl
      · have q2 := eq_f.1 k1
        have q1 := eq_f.1 k2
        have e : putM t i b = t := by unfold putM; rw [if_neg (by omega), if_neg (by omega)]
        simp only [Tr.all, (conv_x hb0).1]; rw [e]; try rfl
def s_rput : Sum := bySum 165 [.a [some .u64, some .u64], .s (some .i64), .s (some .i64)] fun
  | [a0, a1, a2, a3], [] => some ([isX a2], .u (.agg [.si .u64 (putM (P2.mk a0 a1) a2 a3).1, .si .u64 (putM (P2.mk a0 a1) a2 a3).2]))
  | _, _ => none
theorem s_rput_ok : SumOK Tryz.prog s_rput := by
  refine bySum_ok ⟨_, Tryz.func165, by kernel_rfl⟩ ?_
  intro ns os bs r hm hb ρ w
  split at hm
  · rename_i a0 a1 a2 a3
    cases hm
    exact t_rput (P2.mk a0 a1) a2 a3 (hb _ (by simp)) ρ w
  · cases hm
theorem t_rMay (t : P2) (ρ : Nat → Nat) (w : World) : Calls Tryz.prog 33 (enV [.a [some .u64, some .u64]] ([t.1, t.2], [])).toArray w fun e w' => e = .returned (V.den ρ (.u (.c (.sb (tMay t))))) ∧ Below w.heap.size w w' := by
  refine pure_to nameOK okn (dOK okn) 300 [.u (.agg [.si .u64 t.1, .si .u64 t.2])] (T := (.leaf (.val (.u (.c (.sb (iEq (iBit .and .u64 t.1 t.2) 0))))))) (by kernel_rfl) ρ rfl ?_ w
  · have e : iEq (iBit .and .u64 t.1 t.2) 0 = tMay t := rfl
    simp only [Tr.all]; rw [e]; try rfl
def s_rMay : Sum := bySum 33 [.a [some .u64, some .u64]] fun
  | [a0, a1], [] => some ([], .u (.c (.sb (tMay (P2.mk a0 a1)))))
  | _, _ => none
theorem s_rMay_ok : SumOK Tryz.prog s_rMay := by
  refine bySum_ok ⟨_, Tryz.func33, by kernel_rfl⟩ ?_
  intro ns os bs r hm hb ρ w
  split at hm
  · rename_i a0 a1
    cases hm
    exact t_rMay (P2.mk a0 a1) ρ w
  · cases hm
theorem t_rMeetT (p : P2) (q : P2) (hb0 : isU p.1 = true) (hb1 : isU p.2 = true) (hb2 : isU q.1 = true) (hb3 : isU q.2 = true) (hb4 : tMay p = true) (hb5 : tMay q = true) (ρ : Nat → Nat) (w : World) : Calls Tryz.prog 101 (enV [.a [some .u64, some .u64], .a [some .u64, some .u64]] ([p.1, p.2, q.1, q.2], [])).toArray w fun e w' => e = .returned (V.den ρ (.tup [.agg [.si .u64 (tMeet p q).1, .si .u64 (tMeet p q).2], .c (.sb (tMeetIs p q))])) ∧ Below w.heap.size w w' := by
  refine pure_to nameOK (okc s_rbit_ok (okc s_rput_ok okn)) (drawl_sound nameOK (okc s_rbit_ok (okc s_rput_ok okn)) (by kernel_rfl) (fun n i => match Nat.beq n 37 with | true => some [2,3,4,6,7] | false => none)) 300 [.u (.agg [.si .u64 p.1, .si .u64 p.2]), .u (.agg [.si .u64 q.1, .si .u64 q.2])] (T := (.lp [0, p.1, p.2, q.1, q.2, 0, 0, 0, 0] [] (fun xi0 xb0 j0 => (.br (iLt (iX0 xi0) 64) (.br (isU (iX1 xi0)) (.br (isU (iX2 xi0)) (.br (isX (iX0 xi0)) (.br (isU (iX3 xi0)) (.br (isU (iX4 xi0)) (.br (isX (iX0 xi0)) (.br (iEq (bitM (.mk (iX1 xi0) (iX2 xi0)) (iX0 xi0)) 2) (.br (iNe (bitM (.mk (iX3 xi0) (iX4 xi0)) (iX0 xi0)) 2) (.br (iNe (bitM (.mk (iX3 xi0) (iX4 xi0)) (iX0 xi0)) (bitM (.mk (iX3 xi0) (iX4 xi0)) (iX0 xi0))) (.leaf (.up (.val (.tup [(.agg [(.li .u64 0), (.li .u64 0)]), (.c (.lb false))])))) (.br (isX (iX0 xi0)) (.leaf (.again [(iAdd .i64 (iX0 xi0) 1), (iX1 xi0), (iX2 xi0), (iX3 xi0), (iX4 xi0), (iX5 xi0), (iX6 xi0), (putM (.mk (iX7 xi0) (iX8 xi0)) (iX0 xi0) (bitM (.mk (iX3 xi0) (iX4 xi0)) (iX0 xi0))).1, (putM (.mk (iX7 xi0) (iX8 xi0)) (iX0 xi0) (bitM (.mk (iX3 xi0) (iX4 xi0)) (iX0 xi0))).2] [])) (.no 98))) (.br (isX (iX0 xi0)) (.leaf (.again [(iAdd .i64 (iX0 xi0) 1), (iX1 xi0), (iX2 xi0), (iX3 xi0), (iX4 xi0), (iX5 xi0), (iX6 xi0), (putM (.mk (iX7 xi0) (iX8 xi0)) (iX0 xi0) (bitM (.mk (iX3 xi0) (iX4 xi0)) (iX0 xi0))).1, (putM (.mk (iX7 xi0) (iX8 xi0)) (iX0 xi0) (bitM (.mk (iX3 xi0) (iX4 xi0)) (iX0 xi0))).2] [])) (.no 98))) (.br (iNe (bitM (.mk (iX3 xi0) (iX4 xi0)) (iX0 xi0)) 2) (.br (iNe (bitM (.mk (iX1 xi0) (iX2 xi0)) (iX0 xi0)) (bitM (.mk (iX3 xi0) (iX4 xi0)) (iX0 xi0))) (.leaf (.up (.val (.tup [(.agg [(.li .u64 0), (.li .u64 0)]), (.c (.lb false))])))) (.br (isX (iX0 xi0)) (.leaf (.again [(iAdd .i64 (iX0 xi0) 1), (iX1 xi0), (iX2 xi0), (iX3 xi0), (iX4 xi0), (iX5 xi0), (iX6 xi0), (putM (.mk (iX7 xi0) (iX8 xi0)) (iX0 xi0) (bitM (.mk (iX1 xi0) (iX2 xi0)) (iX0 xi0))).1, (putM (.mk (iX7 xi0) (iX8 xi0)) (iX0 xi0) (bitM (.mk (iX1 xi0) (iX2 xi0)) (iX0 xi0))).2] [])) (.no 98))) (.br (isX (iX0 xi0)) (.leaf (.again [(iAdd .i64 (iX0 xi0) 1), (iX1 xi0), (iX2 xi0), (iX3 xi0), (iX4 xi0), (iX5 xi0), (iX6 xi0), (putM (.mk (iX7 xi0) (iX8 xi0)) (iX0 xi0) (bitM (.mk (iX1 xi0) (iX2 xi0)) (iX0 xi0))).1, (putM (.mk (iX7 xi0) (iX8 xi0)) (iX0 xi0) (bitM (.mk (iX1 xi0) (iX2 xi0)) (iX0 xi0))).2] [])) (.no 98)))) (.no 98)) (.no 98)) (.no 98)) (.no 98)) (.no 98)) (.no 98)) (.leaf (.up (.val (.tup [(.agg [(.si .u64 (iX7 xi0)), (.si .u64 (iX8 xi0))]), (.c (.lb true))])))))))) (by kernel_rfl) ρ rfl ?_ w
  · have hp : TM p := (tMay_iff ⟨hb0, hb1⟩).1 hb4
    have hq : TM q := (tMay_iff ⟨hb2, hb3⟩).1 hb5
    refine all_lp (MeetI p q) mI0 meetI_start ?_
    rintro yi yb j ⟨i, t, rfl, hr, hB, hok⟩
    simp only [iX0, iX1, iX2, iX3, iX4, iX5, iX6, iX7, iX8, iX9, iX10, iX11, iX12, hdI, tlI, hdB, tlB]
    refine brs2 (fun k1 => ?_) (fun k1 => ?_)
    · refine askS (by assumption) ?_
      refine askS (by assumption) ?_
      refine askS (isX_iff.2 ⟨hr.1, lt_t.1 k1⟩) ?_
      refine askS (by assumption) ?_
      refine askS (by assumption) ?_
      refine askS (isX_iff.2 ⟨hr.1, lt_t.1 k1⟩) ?_
      refine brs2 (fun k2 => ?_) (fun k2 => ?_)
      · refine brs2 (fun k3 => ?_) (fun k3 => ?_)
        · refine brs2 (fun k4 => ?_) (fun k4 => ?_)
          · have hi : isX i = true := isX_iff.2 ⟨hr.1, lt_t.1 k1⟩
            have qa : bitM p i = 2 := eq_t.1 k2
            have ef : fMeet p q i.toNat = bitM q i := by rw [fMeet_at hi, if_pos qa]
            have ho : okMeet p q i.toNat = false := by rw [okMeet_at hi, decide_eq_false_iff_not, if_pos qa]; have z1 := ne_t.1 k3; have z2 := ne_t.1 k4; rintro (z | z); exact z1 z; exact z2 z
            obtain ⟨e1, e2⟩ := meetI_bad hp.1 hq.1 hi ho
            show V.den ρ (.tup [.agg [.li .u64 0, .li .u64 0], .c (.lb false)]) = _
            rw [e1, e2]; try rfl
          · refine askS (isX_iff.2 ⟨hr.1, lt_t.1 k1⟩) ?_
            have hi : isX i = true := isX_iff.2 ⟨hr.1, lt_t.1 k1⟩
            have qa : bitM p i = 2 := eq_t.1 k2
            have ef : fMeet p q i.toNat = bitM q i := by rw [fMeet_at hi, if_pos qa]
            have ho : okMeet p q i.toNat = true := by rw [okMeet_at hi, decide_eq_true_eq, if_pos qa]; exact .inr (ne_f.1 k4)
            exact meetI_next hi hB hok ef.symm ho
        · refine askS (isX_iff.2 ⟨hr.1, lt_t.1 k1⟩) ?_
          have hi : isX i = true := isX_iff.2 ⟨hr.1, lt_t.1 k1⟩
          have qa : bitM p i = 2 := eq_t.1 k2
          have ef : fMeet p q i.toNat = bitM q i := by rw [fMeet_at hi, if_pos qa]
          have ho : okMeet p q i.toNat = true := by rw [okMeet_at hi, decide_eq_true_eq]; exact .inl (ne_f.1 k3)
          exact meetI_next hi hB hok ef.symm ho
      · refine brs2 (fun k5 => ?_) (fun k5 => ?_)
        · refine brs2 (fun k6 => ?_) (fun k6 => ?_)
          · have hi : isX i = true := isX_iff.2 ⟨hr.1, lt_t.1 k1⟩
            have qa : ¬ bitM p i = 2 := eq_f.1 k2
            have ef : fMeet p q i.toNat = bitM p i := by rw [fMeet_at hi, if_neg qa]
            have ho : okMeet p q i.toNat = false := by rw [okMeet_at hi, decide_eq_false_iff_not, if_neg qa]; have z1 := ne_t.1 k5; have z2 := ne_t.1 k6; rintro (z | z); exact z1 z; exact z2 z
            obtain ⟨e1, e2⟩ := meetI_bad hp.1 hq.1 hi ho
            show V.den ρ (.tup [.agg [.li .u64 0, .li .u64 0], .c (.lb false)]) = _
            rw [e1, e2]; try rfl
          · refine askS (isX_iff.2 ⟨hr.1, lt_t.1 k1⟩) ?_
            have hi : isX i = true := isX_iff.2 ⟨hr.1, lt_t.1 k1⟩
            have qa : ¬ bitM p i = 2 := eq_f.1 k2
            have ef : fMeet p q i.toNat = bitM p i := by rw [fMeet_at hi, if_neg qa]
            have ho : okMeet p q i.toNat = true := by rw [okMeet_at hi, decide_eq_true_eq, if_neg qa]; exact .inr (ne_f.1 k6)
            exact meetI_next hi hB hok ef.symm ho
        · refine askS (isX_iff.2 ⟨hr.1, lt_t.1 k1⟩) ?_
          have hi : isX i = true := isX_iff.2 ⟨hr.1, lt_t.1 k1⟩
          have qa : ¬ bitM p i = 2 := eq_f.1 k2
          have ef : fMeet p q i.toNat = bitM p i := by rw [fMeet_at hi, if_neg qa]
          have ho : okMeet p q i.toNat = true := by rw [okMeet_at hi, decide_eq_true_eq]; exact .inl (ne_f.1 k5)
          exact meetI_next hi hB hok ef.symm ho
    · obtain ⟨e1, e2⟩ := meetI_exit hp hq (lt_f.1 k1) hB hok
      show V.den ρ (.tup [.agg [.si .u64 t.1, .si .u64 t.2], .c (.lb true)]) = _
      rw [e1, e2]; try rfl
def s_rMeetT : Sum := bySum 101 [.a [some .u64, some .u64], .a [some .u64, some .u64]] fun
  | [a0, a1, a2, a3], [] => some ([isU (P2.mk a0 a1).1, isU (P2.mk a0 a1).2, isU (P2.mk a2 a3).1, isU (P2.mk a2 a3).2, tMay (P2.mk a0 a1), tMay (P2.mk a2 a3)], .tup [.agg [.si .u64 (tMeet (P2.mk a0 a1) (P2.mk a2 a3)).1, .si .u64 (tMeet (P2.mk a0 a1) (P2.mk a2 a3)).2], .c (.sb (tMeetIs (P2.mk a0 a1) (P2.mk a2 a3)))])
  | _, _ => none
theorem s_rMeetT_ok : SumOK Tryz.prog s_rMeetT := by
  refine bySum_ok ⟨_, Tryz.func101, by kernel_rfl⟩ ?_
  intro ns os bs r hm hb ρ w
  split at hm
  · rename_i a0 a1 a2 a3
    cases hm
    exact t_rMeetT (P2.mk a0 a1) (P2.mk a2 a3) (hb _ (by simp)) (hb _ (by simp)) (hb _ (by simp)) (hb _ (by simp)) (hb _ (by simp)) (hb _ (by simp)) ρ w
  · cases hm
theorem t_rRange (x : Int) (y : Int) (hb0 : isU x = true) (hb1 : isU y = true) (ρ : Nat → Nat) (w : World) : Calls Tryz.prog 102 (enV [.s (some .u64), .s (some .u64)] ([x, y], [])).toArray w fun e w' => e = .returned (V.den ρ (.u (.agg [.si .u64 (tRange x y).1, .si .u64 (tRange x y).2]))) ∧ Below w.heap.size w w' := by
  refine pure_to nameOK (okc s_rput_ok okn) (drawl_sound nameOK (okc s_rput_ok okn) (by kernel_rfl) (fun n i => match Nat.beq n 46 with | true => some [0,1,4,5,6,7] | false => none)) 300 [.u (.c (.si .u64 x)), .u (.c (.si .u64 y))] (T := (.br (iGt x y) (.leaf (.val (.u (.agg [(.li .u64 0), (.li .u64 18446744073709551615)])))) (.lp [x, y, 63, 0, 0, 0, 0] [true] (fun xi0 xb0 j0 => (.br (iGe (iX2 xi0) 0) (.br (iNeg? (iConv .u64 (iX2 xi0))) (.no 11) (.br (iNeg? (iConv .u64 (iX2 xi0))) (.no 11) (.br (hdB xb0) (.br (iEq (iConv .i64 (iBit .and .u64 (iShr .u64 (iX0 xi0) (iConv .u64 (iX2 xi0))) 1)) (iConv .i64 (iBit .and .u64 (iShr .u64 (iX1 xi0) (iConv .u64 (iX2 xi0))) 1))) (.br (isX (iX2 xi0)) (.leaf (.again [(iX0 xi0), (iX1 xi0), (iSub .i64 (iX2 xi0) 1), (iX3 xi0), (iX4 xi0), (putM (.mk (iX5 xi0) (iX6 xi0)) (iX2 xi0) (iConv .i64 (iBit .and .u64 (iShr .u64 (iX0 xi0) (iConv .u64 (iX2 xi0))) 1))).1, (putM (.mk (iX5 xi0) (iX6 xi0)) (iX2 xi0) (iConv .i64 (iBit .and .u64 (iShr .u64 (iX0 xi0) (iConv .u64 (iX2 xi0))) 1))).2] [(iEq (iConv .i64 (iBit .and .u64 (iShr .u64 (iX0 xi0) (iConv .u64 (iX2 xi0))) 1)) (iConv .i64 (iBit .and .u64 (iShr .u64 (iX1 xi0) (iConv .u64 (iX2 xi0))) 1)))])) (.no 98)) (.br (isX (iX2 xi0)) (.leaf (.again [(iX0 xi0), (iX1 xi0), (iSub .i64 (iX2 xi0) 1), (iX3 xi0), (iX4 xi0), (putM (.mk (iX5 xi0) (iX6 xi0)) (iX2 xi0) 2).1, (putM (.mk (iX5 xi0) (iX6 xi0)) (iX2 xi0) 2).2] [(iEq (iConv .i64 (iBit .and .u64 (iShr .u64 (iX0 xi0) (iConv .u64 (iX2 xi0))) 1)) (iConv .i64 (iBit .and .u64 (iShr .u64 (iX1 xi0) (iConv .u64 (iX2 xi0))) 1)))])) (.no 98))) (.br (isX (iX2 xi0)) (.leaf (.again [(iX0 xi0), (iX1 xi0), (iSub .i64 (iX2 xi0) 1), (iX3 xi0), (iX4 xi0), (putM (.mk (iX5 xi0) (iX6 xi0)) (iX2 xi0) 2).1, (putM (.mk (iX5 xi0) (iX6 xi0)) (iX2 xi0) 2).2] [false])) (.no 98))))) (.leaf (.up (.val (.u (.agg [(.si .u64 (iX5 xi0)), (.si .u64 (iX6 xi0))])))))))))) (by kernel_rfl) ρ rfl ?_ w
  · refine br2 (fun k1 => ?_) (fun k1 => ?_)
    · have e : tRange x y = ⟨0, 18446744073709551615⟩ := by unfold tRange; rw [if_pos (gt_t.1 k1)]
      simp only [Tr.all]; rw [e]; try rfl
    · refine all_lp (RangeI x y) mD2 rangeI_start ?_
      rintro yi yb j ⟨i, t, kn, rfl, rfl, hr, hB, ek⟩
      simp only [iX0, iX1, iX2, iX3, iX4, iX5, iX6, iX7, iX8, iX9, iX10, iX11, iX12, hdI, tlI, hdB, tlB]
      refine brs2 (fun k2 => ?_) (fun k2 => ?_)
      · refine brsF (by have hi : isX i = true := isX_iff.2 ⟨ge_t.1 k2, by omega⟩; rw [(conv_x hi).1]; exact (conv_x hi).2) ?_
        refine brsF (by have hi : isX i = true := isX_iff.2 ⟨ge_t.1 k2, by omega⟩; rw [(conv_x hi).1]; exact (conv_x hi).2) ?_
        refine brs2 (fun k3 => ?_) (fun k3 => ?_)
        · refine brs2 (fun k4 => ?_) (fun k4 => ?_)
          · refine askS (isX_iff.2 ⟨ge_t.1 (by assumption), by omega⟩) ?_
            have hi : isX i = true := isX_iff.2 ⟨ge_t.1 k2, by omega⟩
            have hI := isX_iff.1 hi
            have ex := bit_conv hb0 hi
            have ey := bit_conv hb1 hi
            have en : (i + 1).toNat = i.toNat + 1 := by omega
            have ks : knownR x y i.toNat = (knownR x y (i.toNat + 1) && (tb x i.toNat == tb y i.toNat)) := known_step (by omega)
            have hkn : knownR x y (i.toNat + 1) = true := by rw [← en, ← ek]; exact k3
            rw [hkn] at ks
            have eb := k4
            rw [ex, ey] at eb
            have ez : (tb x i.toNat == tb y i.toNat) = true := by revert eb; cases tb x i.toNat <;> cases tb y i.toNat <;> decide
            rw [ez] at ks
            have ekn : (iEq (iConv .i64 (iBit .and .u64 (iShr .u64 x (iConv .u64 i)) 1)) (iConv .i64 (iBit .and .u64 (iShr .u64 y (iConv .u64 i)) 1))) = knownR x y i.toNat := by rw [ks, ex, ey]; exact eb
            refine rangeI_next hi hB ekn ?_
            unfold fRange; rw [ks, ex]; rfl
          · refine askS (isX_iff.2 ⟨ge_t.1 (by assumption), by omega⟩) ?_
            have hi : isX i = true := isX_iff.2 ⟨ge_t.1 k2, by omega⟩
            have hI := isX_iff.1 hi
            have ex := bit_conv hb0 hi
            have ey := bit_conv hb1 hi
            have en : (i + 1).toNat = i.toNat + 1 := by omega
            have ks : knownR x y i.toNat = (knownR x y (i.toNat + 1) && (tb x i.toNat == tb y i.toNat)) := known_step (by omega)
            have hkn : knownR x y (i.toNat + 1) = true := by rw [← en, ← ek]; exact k3
            rw [hkn] at ks
            have eb := k4
            rw [ex, ey] at eb
            have ez : (tb x i.toNat == tb y i.toNat) = false := by revert eb; cases tb x i.toNat <;> cases tb y i.toNat <;> decide
            rw [ez] at ks
            have ekn : (iEq (iConv .i64 (iBit .and .u64 (iShr .u64 x (iConv .u64 i)) 1)) (iConv .i64 (iBit .and .u64 (iShr .u64 y (iConv .u64 i)) 1))) = knownR x y i.toNat := by rw [ks, ex, ey]; exact eb
            refine rangeI_next hi hB ekn ?_
            unfold fRange; rw [ks]; rfl
        · refine askS (isX_iff.2 ⟨ge_t.1 (by assumption), by omega⟩) ?_
          have hi : isX i = true := isX_iff.2 ⟨ge_t.1 k2, by omega⟩
          have hI := isX_iff.1 hi
          have ex := bit_conv hb0 hi
          have ey := bit_conv hb1 hi
          have en : (i + 1).toNat = i.toNat + 1 := by omega
          have ks : knownR x y i.toNat = (knownR x y (i.toNat + 1) && (tb x i.toNat == tb y i.toNat)) := known_step (by omega)
          have hkn : knownR x y (i.toNat + 1) = false := by rw [← en, ← ek]; exact k3
          rw [hkn] at ks
          refine rangeI_next hi hB (by rw [ks]; rfl) ?_
          unfold fRange; rw [ks]; rfl
      · have e := rangeI_exit hb0 hb1 (gt_f.1 k1) (ge_f.1 k2) hB
        show V.den ρ (.u (.agg [.si .u64 t.1, .si .u64 t.2])) = _
        rw [e]; try rfl
def s_rRange : Sum := bySum 102 [.s (some .u64), .s (some .u64)] fun
  | [a0, a1], [] => some ([isU a0, isU a1], .u (.agg [.si .u64 (tRange a0 a1).1, .si .u64 (tRange a0 a1).2]))
  | _, _ => none
theorem s_rRange_ok : SumOK Tryz.prog s_rRange := by
  refine bySum_ok ⟨_, Tryz.func102, by kernel_rfl⟩ ?_
  intro ns os bs r hm hb ρ w
  split at hm
  · rename_i a0 a1
    cases hm
    exact t_rRange a0 a1 (hb _ (by simp)) (hb _ (by simp)) ρ w
  · cases hm
theorem t_rLowT (t : P2) (n : Int) (hb0 : isU t.1 = true) (hb1 : isU t.2 = true) (hb2 : tMay t = true) (hb3 : isN n = true) (ρ : Nat → Nat) (w : World) : Calls Tryz.prog 57 (enV [.a [some .u64, some .u64], .s (some .u64)] ([t.1, t.2, n], [])).toArray w fun e w' => e = .returned (V.den ρ (.u (.agg [.si .u64 (tLowN t n).1, .si .u64 (tLowN t n).2]))) ∧ Below w.heap.size w w' := by
  refine pure_to nameOK (okc s_rbit_ok (okc s_rput_ok okn)) (drawl_sound nameOK (okc s_rbit_ok (okc s_rput_ok okn)) (by kernel_rfl) (fun n i => match Nat.beq n 25 with | true => some [1,2,4,5,6] | false => none)) 300 [.u (.agg [.si .u64 t.1, .si .u64 t.2]), .u (.c (.si .u64 n))] (T := (.lp [n, 0, t.1, t.2, 0, 0, 0, 0] [] (fun xi0 xb0 j0 => (.br (iLt (iX1 xi0) 64) (.br (iLt (iConv .u64 (iX1 xi0)) (iX0 xi0)) (.br (isU (iX2 xi0)) (.br (isU (iX3 xi0)) (.br (isX (iX1 xi0)) (.br (isX (iX1 xi0)) (.leaf (.again [(iX0 xi0), (iAdd .i64 (iX1 xi0) 1), (iX2 xi0), (iX3 xi0), (iX4 xi0), (iX5 xi0), (putM (.mk (iX6 xi0) (iX7 xi0)) (iX1 xi0) (bitM (.mk (iX2 xi0) (iX3 xi0)) (iX1 xi0))).1, (putM (.mk (iX6 xi0) (iX7 xi0)) (iX1 xi0) (bitM (.mk (iX2 xi0) (iX3 xi0)) (iX1 xi0))).2] [])) (.no 98)) (.no 98)) (.no 98)) (.no 98)) (.leaf (.up (.val (.u (.agg [(.si .u64 (iX6 xi0)), (.si .u64 (iX7 xi0))])))))) (.leaf (.up (.val (.u (.agg [(.si .u64 (iX6 xi0)), (.si .u64 (iX7 xi0))]))))))))) (by kernel_rfl) ρ rfl ?_ w
  · have ht : TM t := (tMay_iff ⟨hb0, hb1⟩).1 hb2
    have hN := isN_iff.1 hb3
    refine all_lp (LowI t n) mI1 (lowI_start hN.1) ?_
    rintro yi yb j ⟨i, r, rfl, hr, hB⟩
    simp only [iX0, iX1, iX2, iX3, iX4, iX5, iX6, iX7, iX8, iX9, iX10, iX11, iX12, hdI, tlI, hdB, tlB]
    refine brs2 (fun k1 => ?_) (fun k1 => ?_)
    · refine brs2 (fun k2 => ?_) (fun k2 => ?_)
      · refine askS (by assumption) ?_
        refine askS (by assumption) ?_
        refine askS (isX_iff.2 ⟨hr.1, lt_t.1 k1⟩) ?_
        refine askS (isX_iff.2 ⟨hr.1, lt_t.1 k1⟩) ?_
        have hi : isX i = true := isX_iff.2 ⟨hr.1, lt_t.1 k1⟩
        have ec := (conv_x hi).1
        exact lowI_next hi (by have z := lt_t.1 k2; rwa [ec] at z) hB
      · have hi : isX i = true := isX_iff.2 ⟨hr.1, lt_t.1 k1⟩
        have ec := (conv_x hi).1
        have e := lowI_exit ht hr.1 hN.2 (by have z := lt_f.1 k2; rw [ec] at z; omega) hB
        show V.den ρ (.u (.agg [.si .u64 r.1, .si .u64 r.2])) = _
        rw [e]; try rfl
    · have e := lowI_exit ht hr.1 hN.2 (by have := lt_f.1 k1; omega) hB
      show V.den ρ (.u (.agg [.si .u64 r.1, .si .u64 r.2])) = _
      rw [e]; try rfl
def s_rLowT : Sum := bySum 57 [.a [some .u64, some .u64], .s (some .u64)] fun
  | [a0, a1, a2], [] => some ([isU (P2.mk a0 a1).1, isU (P2.mk a0 a1).2, tMay (P2.mk a0 a1), isN a2], .u (.agg [.si .u64 (tLowN (P2.mk a0 a1) a2).1, .si .u64 (tLowN (P2.mk a0 a1) a2).2]))
  | _, _ => none
theorem s_rLowT_ok : SumOK Tryz.prog s_rLowT := by
  refine bySum_ok ⟨_, Tryz.func57, by kernel_rfl⟩ ?_
  intro ns os bs r hm hb ρ w
  split at hm
  · rename_i a0 a1 a2
    cases hm
    exact t_rLowT (P2.mk a0 a1) a2 (hb _ (by simp)) (hb _ (by simp)) (hb _ (by simp)) (hb _ (by simp)) ρ w
  · cases hm
theorem t_rAddT (p : P2) (q : P2) (ρ : Nat → Nat) (w : World) : Calls Tryz.prog 152 (enV [.a [some .u64, some .u64], .a [some .u64, some .u64]] ([p.1, p.2, q.1, q.2], [])).toArray w fun e w' => e = .returned (V.den ρ (.u (.agg [.si .u64 (tAdd p q).1, .si .u64 (tAdd p q).2]))) ∧ Below w.heap.size w w' := by
  refine pure_to nameOK okn (dOK okn) 300 [.u (.agg [.si .u64 p.1, .si .u64 p.2]), .u (.agg [.si .u64 q.1, .si .u64 q.2])] (T := (.leaf (.val (.u (.agg [(.si .u64 (iBit .andNot .u64 (iAdd .u64 p.1 q.1) (iBit .or .u64 (iBit .or .u64 (iBit .xor .u64 (iAdd .u64 (iAdd .u64 p.2 q.2) (iAdd .u64 p.1 q.1)) (iAdd .u64 p.1 q.1)) p.2) q.2))), (.si .u64 (iBit .or .u64 (iBit .or .u64 (iBit .xor .u64 (iAdd .u64 (iAdd .u64 p.2 q.2) (iAdd .u64 p.1 q.1)) (iAdd .u64 p.1 q.1)) p.2) q.2))]))))) (by kernel_rfl) ρ rfl ?_ w
  · simp only [Tr.all]; rfl
def s_rAddT : Sum := bySum 152 [.a [some .u64, some .u64], .a [some .u64, some .u64]] fun
  | [a0, a1, a2, a3], [] => some ([], .u (.agg [.si .u64 (tAdd (P2.mk a0 a1) (P2.mk a2 a3)).1, .si .u64 (tAdd (P2.mk a0 a1) (P2.mk a2 a3)).2]))
  | _, _ => none
theorem s_rAddT_ok : SumOK Tryz.prog s_rAddT := by
  refine bySum_ok ⟨_, Tryz.func152, by kernel_rfl⟩ ?_
  intro ns os bs r hm hb ρ w
  split at hm
  · rename_i a0 a1 a2 a3
    cases hm
    exact t_rAddT (P2.mk a0 a1) (P2.mk a2 a3) ρ w
  · cases hm
theorem t_rSubT (p : P2) (q : P2) (ρ : Nat → Nat) (w : World) : Calls Tryz.prog 157 (enV [.a [some .u64, some .u64], .a [some .u64, some .u64]] ([p.1, p.2, q.1, q.2], [])).toArray w fun e w' => e = .returned (V.den ρ (.u (.agg [.si .u64 (tSub p q).1, .si .u64 (tSub p q).2]))) ∧ Below w.heap.size w w' := by
  refine pure_to nameOK okn (dOK okn) 300 [.u (.agg [.si .u64 p.1, .si .u64 p.2]), .u (.agg [.si .u64 q.1, .si .u64 q.2])] (T := (.leaf (.val (.u (.agg [(.si .u64 (iBit .andNot .u64 (iSub .u64 p.1 q.1) (iBit .or .u64 (iBit .or .u64 (iBit .xor .u64 (iAdd .u64 (iSub .u64 p.1 q.1) p.2) (iSub .u64 (iSub .u64 p.1 q.1) q.2)) p.2) q.2))), (.si .u64 (iBit .or .u64 (iBit .or .u64 (iBit .xor .u64 (iAdd .u64 (iSub .u64 p.1 q.1) p.2) (iSub .u64 (iSub .u64 p.1 q.1) q.2)) p.2) q.2))]))))) (by kernel_rfl) ρ rfl ?_ w
  · simp only [Tr.all]; rfl
def s_rSubT : Sum := bySum 157 [.a [some .u64, some .u64], .a [some .u64, some .u64]] fun
  | [a0, a1, a2, a3], [] => some ([], .u (.agg [.si .u64 (tSub (P2.mk a0 a1) (P2.mk a2 a3)).1, .si .u64 (tSub (P2.mk a0 a1) (P2.mk a2 a3)).2]))
  | _, _ => none
theorem s_rSubT_ok : SumOK Tryz.prog s_rSubT := by
  refine bySum_ok ⟨_, Tryz.func157, by kernel_rfl⟩ ?_
  intro ns os bs r hm hb ρ w
  split at hm
  · rename_i a0 a1 a2 a3
    cases hm
    exact t_rSubT (P2.mk a0 a1) (P2.mk a2 a3) ρ w
  · cases hm
theorem t_rMulT (p : P2) (q : P2) (hb0 : isU p.1 = true) (hb1 : isU p.2 = true) (hb2 : isU q.1 = true) (hb3 : isU q.2 = true) (hb4 : tMay p = true) (hb5 : tMay q = true) (ρ : Nat → Nat) (w : World) : Calls Tryz.prog 159 (enV [.a [some .u64, some .u64], .a [some .u64, some .u64]] ([p.1, p.2, q.1, q.2], [])).toArray w fun e w' => e = .returned (V.den ρ (.u (.agg [.si .u64 (tMul p q).1, .si .u64 (tMul p q).2]))) ∧ Below w.heap.size w w' := by
  refine pure_to nameOK (okc s_rbit_ok (okc s_rAddT_ok okn)) (drawl_sound nameOK (okc s_rbit_ok (okc s_rAddT_ok okn)) (by kernel_rfl) (fun n i => match Nat.beq n 46 with | true => some [2,3,4,5,6] | false => none)) 300 [.u (.agg [.si .u64 p.1, .si .u64 p.2]), .u (.agg [.si .u64 q.1, .si .u64 q.2])] (T := (.lp [0, p.1, p.2, q.1, q.2, 0, 0, 0, 0] [] (fun xi0 xb0 j0 => (.br (iLt (iX0 xi0) 64) (.br (isU (iX1 xi0)) (.br (isU (iX2 xi0)) (.br (isX (iX0 xi0)) (.br (iEq (bitM (.mk (iX1 xi0) (iX2 xi0)) (iX0 xi0)) 1) (.br (iNeg? (iConv .u64 (iX0 xi0))) (.no 11) (.leaf (.again [(iAdd .i64 (iX0 xi0) 1), (iX1 xi0), (iX2 xi0), (iX3 xi0), (iX4 xi0), (iX5 xi0), (iX6 xi0), (tAdd (.mk (iX7 xi0) (iX8 xi0)) (.mk 0 (iShl .u64 (iX4 xi0) (iConv .u64 (iX0 xi0))))).1, (tAdd (.mk (iX7 xi0) (iX8 xi0)) (.mk 0 (iShl .u64 (iX4 xi0) (iConv .u64 (iX0 xi0))))).2] []))) (.br (iEq (bitM (.mk (iX1 xi0) (iX2 xi0)) (iX0 xi0)) 2) (.br (iNeg? (iConv .u64 (iX0 xi0))) (.no 11) (.leaf (.again [(iAdd .i64 (iX0 xi0) 1), (iX1 xi0), (iX2 xi0), (iX3 xi0), (iX4 xi0), (iX5 xi0), (iX6 xi0), (tAdd (.mk (iX7 xi0) (iX8 xi0)) (.mk 0 (iShl .u64 (iBit .or .u64 (iX3 xi0) (iX4 xi0)) (iConv .u64 (iX0 xi0))))).1, (tAdd (.mk (iX7 xi0) (iX8 xi0)) (.mk 0 (iShl .u64 (iBit .or .u64 (iX3 xi0) (iX4 xi0)) (iConv .u64 (iX0 xi0))))).2] []))) (.leaf (.again [(iAdd .i64 (iX0 xi0) 1), (iX1 xi0), (iX2 xi0), (iX3 xi0), (iX4 xi0), (iX5 xi0), (iX6 xi0), (iX7 xi0), (iX8 xi0)] [])))) (.no 98)) (.no 98)) (.no 98)) (.leaf (.up (.val (.u (.agg [(.si .u64 (tAdd (.mk (iX7 xi0) (iX8 xi0)) (.mk (iMul .u64 (iX1 xi0) (iX3 xi0)) 0)).1), (.si .u64 (tAdd (.mk (iX7 xi0) (iX8 xi0)) (.mk (iMul .u64 (iX1 xi0) (iX3 xi0)) 0)).2)]))))))))) (by kernel_rfl) ρ rfl ?_ w
  · have hp : TM p := (tMay_iff ⟨hb0, hb1⟩).1 hb4
    have hq : TM q := (tMay_iff ⟨hb2, hb3⟩).1 hb5
    refine all_lp (MulI p q) mI0 (mulI2_start hp.1 hq.1) ?_
    rintro yi yb j ⟨i, t, rfl, hr, ht, hg⟩
    simp only [iX0, iX1, iX2, iX3, iX4, iX5, iX6, iX7, iX8, iX9, iX10, iX11, iX12, hdI, tlI, hdB, tlB]
    refine brs2 (fun k1 => ?_) (fun k1 => ?_)
    · refine askS (by first | assumption | exact hp.1.1 | exact hp.1.2) ?_
      refine askS (by first | assumption | exact hp.1.1 | exact hp.1.2) ?_
      refine askS (isX_iff.2 ⟨hr.1, lt_t.1 k1⟩) ?_
      refine brs2 (fun k2 => ?_) (fun k2 => ?_)
      · refine brsF (by have hi : isX i = true := isX_iff.2 ⟨hr.1, lt_t.1 k1⟩; rw [(conv_x hi).1]; exact (conv_x hi).2) ?_
        have hi : isX i = true := isX_iff.2 ⟨hr.1, lt_t.1 k1⟩
        have ec := (conv_x hi).1
        rw [ec]
        exact mulI2_next hp.1 hq.1 hi ht hg (mul_bit1 hp hi (eq_t.1 k2))
      · refine brs2 (fun k3 => ?_) (fun k3 => ?_)
        · refine brsF (by have hi : isX i = true := isX_iff.2 ⟨hr.1, lt_t.1 k1⟩; rw [(conv_x hi).1]; exact (conv_x hi).2) ?_
          have hi : isX i = true := isX_iff.2 ⟨hr.1, lt_t.1 k1⟩
          have ec := (conv_x hi).1
          rw [ec]
          exact mulI2_next hp.1 hq.1 hi ht hg (mul_bit2 hp hq.1 hi (eq_t.1 k3))
        · have hi : isX i = true := isX_iff.2 ⟨hr.1, lt_t.1 k1⟩
          have ec := (conv_x hi).1
          exact mulI2_next hp.1 hq.1 hi ht hg (mul_bit0 hp hi (eq_f.1 k2) (eq_f.1 k3))
    · have e := mulI2_exit (p := p) hq.1 (by have := lt_f.1 k1; omega) hg
      exact congrArg (fun z : P2 => V.den ρ (.u (.agg [.si .u64 z.1, .si .u64 z.2]))) e
def s_rMulT : Sum := bySum 159 [.a [some .u64, some .u64], .a [some .u64, some .u64]] fun
  | [a0, a1, a2, a3], [] => some ([isU (P2.mk a0 a1).1, isU (P2.mk a0 a1).2, isU (P2.mk a2 a3).1, isU (P2.mk a2 a3).2, tMay (P2.mk a0 a1), tMay (P2.mk a2 a3)], .u (.agg [.si .u64 (tMul (P2.mk a0 a1) (P2.mk a2 a3)).1, .si .u64 (tMul (P2.mk a0 a1) (P2.mk a2 a3)).2]))
  | _, _ => none
theorem s_rMulT_ok : SumOK Tryz.prog s_rMulT := by
  refine bySum_ok ⟨_, Tryz.func159, by kernel_rfl⟩ ?_
  intro ns os bs r hm hb ρ w
  split at hm
  · rename_i a0 a1 a2 a3
    cases hm
    exact t_rMulT (P2.mk a0 a1) (P2.mk a2 a3) (hb _ (by simp)) (hb _ (by simp)) (hb _ (by simp)) (hb _ (by simp)) (hb _ (by simp)) (hb _ (by simp)) ρ w
  · cases hm
theorem t_rShift0 (t : P2) (n : Int) (hb0 : isU t.1 = true) (hb1 : isU t.2 = true) (hb2 : tMay t = true) (hb3 : isU n = true) (ρ : Nat → Nat) (w : World) : Calls Tryz.prog 160 (enV [.a [some .u64, some .u64], .s (some .u64), .s (some .i64)] ([t.1, t.2, n, 0], [])).toArray w fun e w' => e = .returned (V.den ρ (.u (.agg [.si .u64 (tShl t n).1, .si .u64 (tShl t n).2]))) ∧ Below w.heap.size w w' := by
  refine pure_to nameOK (okc s_rbit_ok (okc s_rput_ok okn)) (drawl_sound nameOK (okc s_rbit_ok (okc s_rput_ok okn)) (by kernel_rfl) (fun n i => match Nat.beq n 47 with | true => some [1,2,3,6,7,8] | false => none)) 300 [.u (.agg [.si .u64 t.1, .si .u64 t.2]), .u (.c (.si .u64 n)), .u (.c (.li .i64 0))] (T := (.lp [n, 0, 0, t.1, t.2, 0, 0, 0, 0] [] (fun xi0 xb0 j0 => (.br (iLt (iX2 xi0) 64) (.br (iGt (iX0 xi0) 63) (.br (iEq (iX1 xi0) 2) (.br (isU (iX3 xi0)) (.br (isU (iX4 xi0)) (.br (isX 63) (.br (isX (iX2 xi0)) (.leaf (.again [(iX0 xi0), (iX1 xi0), (iAdd .i64 (iX2 xi0) 1), (iX3 xi0), (iX4 xi0), (iX5 xi0), (iX6 xi0), (putM (.mk (iX7 xi0) (iX8 xi0)) (iX2 xi0) (bitM (.mk (iX3 xi0) (iX4 xi0)) 63)).1, (putM (.mk (iX7 xi0) (iX8 xi0)) (iX2 xi0) (bitM (.mk (iX3 xi0) (iX4 xi0)) 63)).2] [])) (.no 98)) (.no 98)) (.no 98)) (.no 98)) (.leaf (.again [(iX0 xi0), (iX1 xi0), (iAdd .i64 (iX2 xi0) 1), (iX3 xi0), (iX4 xi0), (iX5 xi0), (iX6 xi0), (iX7 xi0), (iX8 xi0)] []))) (.br (iEq (iX1 xi0) 0) (.br (iGe (iSub .i64 (iX2 xi0) (iConv .i64 (iX0 xi0))) 0) (.br (iLt (iSub .i64 (iX2 xi0) (iConv .i64 (iX0 xi0))) 64) (.br (isU (iX3 xi0)) (.br (isU (iX4 xi0)) (.br (isX (iSub .i64 (iX2 xi0) (iConv .i64 (iX0 xi0)))) (.br (isX (iX2 xi0)) (.leaf (.again [(iX0 xi0), (iX1 xi0), (iAdd .i64 (iX2 xi0) 1), (iX3 xi0), (iX4 xi0), (iX5 xi0), (iX6 xi0), (putM (.mk (iX7 xi0) (iX8 xi0)) (iX2 xi0) (bitM (.mk (iX3 xi0) (iX4 xi0)) (iSub .i64 (iX2 xi0) (iConv .i64 (iX0 xi0))))).1, (putM (.mk (iX7 xi0) (iX8 xi0)) (iX2 xi0) (bitM (.mk (iX3 xi0) (iX4 xi0)) (iSub .i64 (iX2 xi0) (iConv .i64 (iX0 xi0))))).2] [])) (.no 98)) (.no 98)) (.no 98)) (.no 98)) (.leaf (.again [(iX0 xi0), (iX1 xi0), (iAdd .i64 (iX2 xi0) 1), (iX3 xi0), (iX4 xi0), (iX5 xi0), (iX6 xi0), (iX7 xi0), (iX8 xi0)] []))) (.leaf (.again [(iX0 xi0), (iX1 xi0), (iAdd .i64 (iX2 xi0) 1), (iX3 xi0), (iX4 xi0), (iX5 xi0), (iX6 xi0), (iX7 xi0), (iX8 xi0)] []))) (.br (iEq (iX1 xi0) 2) (.br (iGe (iMin2 (iAdd .i64 (iX2 xi0) (iConv .i64 (iX0 xi0))) 63) 0) (.br (iLt (iMin2 (iAdd .i64 (iX2 xi0) (iConv .i64 (iX0 xi0))) 63) 64) (.br (isU (iX3 xi0)) (.br (isU (iX4 xi0)) (.br (isX (iMin2 (iAdd .i64 (iX2 xi0) (iConv .i64 (iX0 xi0))) 63)) (.br (isX (iX2 xi0)) (.leaf (.again [(iX0 xi0), (iX1 xi0), (iAdd .i64 (iX2 xi0) 1), (iX3 xi0), (iX4 xi0), (iX5 xi0), (iX6 xi0), (putM (.mk (iX7 xi0) (iX8 xi0)) (iX2 xi0) (bitM (.mk (iX3 xi0) (iX4 xi0)) (iMin2 (iAdd .i64 (iX2 xi0) (iConv .i64 (iX0 xi0))) 63))).1, (putM (.mk (iX7 xi0) (iX8 xi0)) (iX2 xi0) (bitM (.mk (iX3 xi0) (iX4 xi0)) (iMin2 (iAdd .i64 (iX2 xi0) (iConv .i64 (iX0 xi0))) 63))).2] [])) (.no 98)) (.no 98)) (.no 98)) (.no 98)) (.leaf (.again [(iX0 xi0), (iX1 xi0), (iAdd .i64 (iX2 xi0) 1), (iX3 xi0), (iX4 xi0), (iX5 xi0), (iX6 xi0), (iX7 xi0), (iX8 xi0)] []))) (.leaf (.again [(iX0 xi0), (iX1 xi0), (iAdd .i64 (iX2 xi0) 1), (iX3 xi0), (iX4 xi0), (iX5 xi0), (iX6 xi0), (iX7 xi0), (iX8 xi0)] []))) (.br (iGe (iAdd .i64 (iX2 xi0) (iConv .i64 (iX0 xi0))) 0) (.br (iLt (iAdd .i64 (iX2 xi0) (iConv .i64 (iX0 xi0))) 64) (.br (isU (iX3 xi0)) (.br (isU (iX4 xi0)) (.br (isX (iAdd .i64 (iX2 xi0) (iConv .i64 (iX0 xi0)))) (.br (isX (iX2 xi0)) (.leaf (.again [(iX0 xi0), (iX1 xi0), (iAdd .i64 (iX2 xi0) 1), (iX3 xi0), (iX4 xi0), (iX5 xi0), (iX6 xi0), (putM (.mk (iX7 xi0) (iX8 xi0)) (iX2 xi0) (bitM (.mk (iX3 xi0) (iX4 xi0)) (iAdd .i64 (iX2 xi0) (iConv .i64 (iX0 xi0))))).1, (putM (.mk (iX7 xi0) (iX8 xi0)) (iX2 xi0) (bitM (.mk (iX3 xi0) (iX4 xi0)) (iAdd .i64 (iX2 xi0) (iConv .i64 (iX0 xi0))))).2] [])) (.no 98)) (.no 98)) (.no 98)) (.no 98)) (.leaf (.again [(iX0 xi0), (iX1 xi0), (iAdd .i64 (iX2 xi0) 1), (iX3 xi0), (iX4 xi0), (iX5 xi0), (iX6 xi0), (iX7 xi0), (iX8 xi0)] []))) (.leaf (.again [(iX0 xi0), (iX1 xi0), (iAdd .i64 (iX2 xi0) 1), (iX3 xi0), (iX4 xi0), (iX5 xi0), (iX6 xi0), (iX7 xi0), (iX8 xi0)] [])))))) (.leaf (.up (.val (.u (.agg [(.si .u64 (iX7 xi0)), (.si .u64 (iX8 xi0))]))))))))) (by kernel_rfl) ρ rfl ?_ w
  · have ht : TM t := (tMay_iff ⟨hb0, hb1⟩).1 hb2
    have hn : isU n = true := hb3
    have n0 := isU_iff.1 hn
    refine all_lp (ShiftI 0 (fShl t n) t n) mI2 shiftI_start ?_
    rintro yi yb j ⟨i, r, rfl, hr, hB⟩
    have hF : n ≤ 63 → (iSub .i64 i (iConv .i64 n)) = i - n := fun h => by have := hr; rw [conv_i, sub_i]; omega
    simp only [iX0, iX1, iX2, iX3, iX4, iX5, iX6, iX7, iX8, iX9, iX10, iX11, iX12, hdI, tlI, hdB, tlB]
    refine brs2 (fun k1 => ?_) (fun k1 => ?_)
    · refine brs2 (fun k2 => ?_) (fun k2 => ?_)
      · refine brsF (by decide) ?_
        have hi : isX i = true := isX_iff.2 ⟨hr.1, lt_t.1 k1⟩
        have hI := isX_iff.1 hi
        exact shiftI_skip hi hB (fShl_big (gt_t.1 k2))
      · refine brsT (by decide) ?_
        refine brs2 (fun k3 => ?_) (fun k3 => ?_)
        · refine brsT (by have e := (hF (gt_f.1 k2)); rw [lt_t]; have := lt_t.1 k1; omega) ?_
          refine askS (by assumption) ?_
          refine askS (by assumption) ?_
          refine askS (isX_iff.2 ⟨ge_t.1 (k3 : (iGe (iSub .i64 i (iConv .i64 n)) 0) = true), lt_t.1 (by have e := (hF (gt_f.1 k2)); rw [lt_t]; have := lt_t.1 k1; omega : (iLt (iSub .i64 i (iConv .i64 n)) 64) = true)⟩) ?_
          refine askS (isX_iff.2 ⟨hr.1, lt_t.1 k1⟩) ?_
          have hi : isX i = true := isX_iff.2 ⟨hr.1, lt_t.1 k1⟩
          have hI := isX_iff.1 hi
          have e := hF (gt_f.1 k2)
          have zg := ge_t.1 (k3 : (iGe (iSub .i64 i (iConv .i64 n)) 0) = true)
          have zl := lt_t.1 (by have e := (hF (gt_f.1 k2)); rw [lt_t]; have := lt_t.1 k1; omega : (iLt (iSub .i64 i (iConv .i64 n)) 64) = true)
          exact shiftI_next hi hB (fShl_in hi (gt_f.1 k2) e ⟨zg, zl⟩).symm
        · have hi : isX i = true := isX_iff.2 ⟨hr.1, lt_t.1 k1⟩
          have hI := isX_iff.1 hi
          have e := hF (gt_f.1 k2)
          have z := ge_f.1 (k3 : (iGe (iSub .i64 i (iConv .i64 n)) 0) = false)
          exact shiftI_skip hi hB (fShl_out hi (gt_f.1 k2) e (by omega))
    · have e := shl_fold ht hn (upTo_all (lt_f.1 k1)) hB
      show V.den ρ (.u (.agg [.si .u64 r.1, .si .u64 r.2])) = _
      rw [e]; try rfl
theorem t_rShift1 (t : P2) (n : Int) (hb0 : isU t.1 = true) (hb1 : isU t.2 = true) (hb2 : tMay t = true) (hb3 : isU n = true) (ρ : Nat → Nat) (w : World) : Calls Tryz.prog 160 (enV [.a [some .u64, some .u64], .s (some .u64), .s (some .i64)] ([t.1, t.2, n, 1], [])).toArray w fun e w' => e = .returned (V.den ρ (.u (.agg [.si .u64 (tShr t n).1, .si .u64 (tShr t n).2]))) ∧ Below w.heap.size w w' := by
  refine pure_to nameOK (okc s_rbit_ok (okc s_rput_ok okn)) (drawl_sound nameOK (okc s_rbit_ok (okc s_rput_ok okn)) (by kernel_rfl) (fun n i => match Nat.beq n 47 with | true => some [1,2,3,6,7,8] | false => none)) 300 [.u (.agg [.si .u64 t.1, .si .u64 t.2]), .u (.c (.si .u64 n)), .u (.c (.li .i64 1))] (T := (.lp [n, 1, 0, t.1, t.2, 0, 0, 0, 0] [] (fun xi0 xb0 j0 => (.br (iLt (iX2 xi0) 64) (.br (iGt (iX0 xi0) 63) (.br (iEq (iX1 xi0) 2) (.br (isU (iX3 xi0)) (.br (isU (iX4 xi0)) (.br (isX 63) (.br (isX (iX2 xi0)) (.leaf (.again [(iX0 xi0), (iX1 xi0), (iAdd .i64 (iX2 xi0) 1), (iX3 xi0), (iX4 xi0), (iX5 xi0), (iX6 xi0), (putM (.mk (iX7 xi0) (iX8 xi0)) (iX2 xi0) (bitM (.mk (iX3 xi0) (iX4 xi0)) 63)).1, (putM (.mk (iX7 xi0) (iX8 xi0)) (iX2 xi0) (bitM (.mk (iX3 xi0) (iX4 xi0)) 63)).2] [])) (.no 98)) (.no 98)) (.no 98)) (.no 98)) (.leaf (.again [(iX0 xi0), (iX1 xi0), (iAdd .i64 (iX2 xi0) 1), (iX3 xi0), (iX4 xi0), (iX5 xi0), (iX6 xi0), (iX7 xi0), (iX8 xi0)] []))) (.br (iEq (iX1 xi0) 0) (.br (iGe (iSub .i64 (iX2 xi0) (iConv .i64 (iX0 xi0))) 0) (.br (iLt (iSub .i64 (iX2 xi0) (iConv .i64 (iX0 xi0))) 64) (.br (isU (iX3 xi0)) (.br (isU (iX4 xi0)) (.br (isX (iSub .i64 (iX2 xi0) (iConv .i64 (iX0 xi0)))) (.br (isX (iX2 xi0)) (.leaf (.again [(iX0 xi0), (iX1 xi0), (iAdd .i64 (iX2 xi0) 1), (iX3 xi0), (iX4 xi0), (iX5 xi0), (iX6 xi0), (putM (.mk (iX7 xi0) (iX8 xi0)) (iX2 xi0) (bitM (.mk (iX3 xi0) (iX4 xi0)) (iSub .i64 (iX2 xi0) (iConv .i64 (iX0 xi0))))).1, (putM (.mk (iX7 xi0) (iX8 xi0)) (iX2 xi0) (bitM (.mk (iX3 xi0) (iX4 xi0)) (iSub .i64 (iX2 xi0) (iConv .i64 (iX0 xi0))))).2] [])) (.no 98)) (.no 98)) (.no 98)) (.no 98)) (.leaf (.again [(iX0 xi0), (iX1 xi0), (iAdd .i64 (iX2 xi0) 1), (iX3 xi0), (iX4 xi0), (iX5 xi0), (iX6 xi0), (iX7 xi0), (iX8 xi0)] []))) (.leaf (.again [(iX0 xi0), (iX1 xi0), (iAdd .i64 (iX2 xi0) 1), (iX3 xi0), (iX4 xi0), (iX5 xi0), (iX6 xi0), (iX7 xi0), (iX8 xi0)] []))) (.br (iEq (iX1 xi0) 2) (.br (iGe (iMin2 (iAdd .i64 (iX2 xi0) (iConv .i64 (iX0 xi0))) 63) 0) (.br (iLt (iMin2 (iAdd .i64 (iX2 xi0) (iConv .i64 (iX0 xi0))) 63) 64) (.br (isU (iX3 xi0)) (.br (isU (iX4 xi0)) (.br (isX (iMin2 (iAdd .i64 (iX2 xi0) (iConv .i64 (iX0 xi0))) 63)) (.br (isX (iX2 xi0)) (.leaf (.again [(iX0 xi0), (iX1 xi0), (iAdd .i64 (iX2 xi0) 1), (iX3 xi0), (iX4 xi0), (iX5 xi0), (iX6 xi0), (putM (.mk (iX7 xi0) (iX8 xi0)) (iX2 xi0) (bitM (.mk (iX3 xi0) (iX4 xi0)) (iMin2 (iAdd .i64 (iX2 xi0) (iConv .i64 (iX0 xi0))) 63))).1, (putM (.mk (iX7 xi0) (iX8 xi0)) (iX2 xi0) (bitM (.mk (iX3 xi0) (iX4 xi0)) (iMin2 (iAdd .i64 (iX2 xi0) (iConv .i64 (iX0 xi0))) 63))).2] [])) (.no 98)) (.no 98)) (.no 98)) (.no 98)) (.leaf (.again [(iX0 xi0), (iX1 xi0), (iAdd .i64 (iX2 xi0) 1), (iX3 xi0), (iX4 xi0), (iX5 xi0), (iX6 xi0), (iX7 xi0), (iX8 xi0)] []))) (.leaf (.again [(iX0 xi0), (iX1 xi0), (iAdd .i64 (iX2 xi0) 1), (iX3 xi0), (iX4 xi0), (iX5 xi0), (iX6 xi0), (iX7 xi0), (iX8 xi0)] []))) (.br (iGe (iAdd .i64 (iX2 xi0) (iConv .i64 (iX0 xi0))) 0) (.br (iLt (iAdd .i64 (iX2 xi0) (iConv .i64 (iX0 xi0))) 64) (.br (isU (iX3 xi0)) (.br (isU (iX4 xi0)) (.br (isX (iAdd .i64 (iX2 xi0) (iConv .i64 (iX0 xi0)))) (.br (isX (iX2 xi0)) (.leaf (.again [(iX0 xi0), (iX1 xi0), (iAdd .i64 (iX2 xi0) 1), (iX3 xi0), (iX4 xi0), (iX5 xi0), (iX6 xi0), (putM (.mk (iX7 xi0) (iX8 xi0)) (iX2 xi0) (bitM (.mk (iX3 xi0) (iX4 xi0)) (iAdd .i64 (iX2 xi0) (iConv .i64 (iX0 xi0))))).1, (putM (.mk (iX7 xi0) (iX8 xi0)) (iX2 xi0) (bitM (.mk (iX3 xi0) (iX4 xi0)) (iAdd .i64 (iX2 xi0) (iConv .i64 (iX0 xi0))))).2] [])) (.no 98)) (.no 98)) (.no 98)) (.no 98)) (.leaf (.again [(iX0 xi0), (iX1 xi0), (iAdd .i64 (iX2 xi0) 1), (iX3 xi0), (iX4 xi0), (iX5 xi0), (iX6 xi0), (iX7 xi0), (iX8 xi0)] []))) (.leaf (.again [(iX0 xi0), (iX1 xi0), (iAdd .i64 (iX2 xi0) 1), (iX3 xi0), (iX4 xi0), (iX5 xi0), (iX6 xi0), (iX7 xi0), (iX8 xi0)] [])))))) (.leaf (.up (.val (.u (.agg [(.si .u64 (iX7 xi0)), (.si .u64 (iX8 xi0))]))))))))) (by kernel_rfl) ρ rfl ?_ w
  · have ht : TM t := (tMay_iff ⟨hb0, hb1⟩).1 hb2
    have hn : isU n = true := hb3
    have n0 := isU_iff.1 hn
    refine all_lp (ShiftI 1 (fShr t n) t n) mI2 shiftI_start ?_
    rintro yi yb j ⟨i, r, rfl, hr, hB⟩
    have hF : n ≤ 63 → (iAdd .i64 i (iConv .i64 n)) = i + n := fun h => by have := hr; rw [conv_i, add_i]; omega
    simp only [iX0, iX1, iX2, iX3, iX4, iX5, iX6, iX7, iX8, iX9, iX10, iX11, iX12, hdI, tlI, hdB, tlB]
    refine brs2 (fun k1 => ?_) (fun k1 => ?_)
    · refine brs2 (fun k2 => ?_) (fun k2 => ?_)
      · refine brsF (by decide) ?_
        have hi : isX i = true := isX_iff.2 ⟨hr.1, lt_t.1 k1⟩
        have hI := isX_iff.1 hi
        exact shiftI_skip hi hB (fShr_big (gt_t.1 k2))
      · refine brsF (by decide) ?_
        refine brsF (by decide) ?_
        refine brsT (by have e := (hF (gt_f.1 k2)); rw [ge_t]; omega) ?_
        refine brs2 (fun k3 => ?_) (fun k3 => ?_)
        · refine askS (by assumption) ?_
          refine askS (by assumption) ?_
          refine askS (isX_iff.2 ⟨ge_t.1 (by have e := (hF (gt_f.1 k2)); rw [ge_t]; omega : (iGe (iAdd .i64 i (iConv .i64 n)) 0) = true), lt_t.1 (k3 : (iLt (iAdd .i64 i (iConv .i64 n)) 64) = true)⟩) ?_
          refine askS (isX_iff.2 ⟨hr.1, lt_t.1 k1⟩) ?_
          have hi : isX i = true := isX_iff.2 ⟨hr.1, lt_t.1 k1⟩
          have hI := isX_iff.1 hi
          have e := hF (gt_f.1 k2)
          have zg := ge_t.1 (by have e := (hF (gt_f.1 k2)); rw [ge_t]; omega : (iGe (iAdd .i64 i (iConv .i64 n)) 0) = true)
          have zl := lt_t.1 (k3 : (iLt (iAdd .i64 i (iConv .i64 n)) 64) = true)
          exact shiftI_next hi hB (fShr_in hi (gt_f.1 k2) e ⟨zg, zl⟩).symm
        · have hi : isX i = true := isX_iff.2 ⟨hr.1, lt_t.1 k1⟩
          have hI := isX_iff.1 hi
          have e := hF (gt_f.1 k2)
          have z := lt_f.1 (k3 : (iLt (iAdd .i64 i (iConv .i64 n)) 64) = false)
          exact shiftI_skip hi hB (fShr_out hi (gt_f.1 k2) e (by omega))
    · have e := shr_fold ht hn (upTo_all (lt_f.1 k1)) hB
      show V.den ρ (.u (.agg [.si .u64 r.1, .si .u64 r.2])) = _
      rw [e]; try rfl
theorem t_rShift2 (t : P2) (n : Int) (hb0 : isU t.1 = true) (hb1 : isU t.2 = true) (hb2 : tMay t = true) (hb3 : isU n = true) (ρ : Nat → Nat) (w : World) : Calls Tryz.prog 160 (enV [.a [some .u64, some .u64], .s (some .u64), .s (some .i64)] ([t.1, t.2, n, 2], [])).toArray w fun e w' => e = .returned (V.den ρ (.u (.agg [.si .u64 (tSar t n).1, .si .u64 (tSar t n).2]))) ∧ Below w.heap.size w w' := by
  refine pure_to nameOK (okc s_rbit_ok (okc s_rput_ok okn)) (drawl_sound nameOK (okc s_rbit_ok (okc s_rput_ok okn)) (by kernel_rfl) (fun n i => match Nat.beq n 47 with | true => some [1,2,3,6,7,8] | false => none)) 300 [.u (.agg [.si .u64 t.1, .si .u64 t.2]), .u (.c (.si .u64 n)), .u (.c (.li .i64 2))] (T := (.lp [n, 2, 0, t.1, t.2, 0, 0, 0, 0] [] (fun xi0 xb0 j0 => (.br (iLt (iX2 xi0) 64) (.br (iGt (iX0 xi0) 63) (.br (iEq (iX1 xi0) 2) (.br (isU (iX3 xi0)) (.br (isU (iX4 xi0)) (.br (isX 63) (.br (isX (iX2 xi0)) (.leaf (.again [(iX0 xi0), (iX1 xi0), (iAdd .i64 (iX2 xi0) 1), (iX3 xi0), (iX4 xi0), (iX5 xi0), (iX6 xi0), (putM (.mk (iX7 xi0) (iX8 xi0)) (iX2 xi0) (bitM (.mk (iX3 xi0) (iX4 xi0)) 63)).1, (putM (.mk (iX7 xi0) (iX8 xi0)) (iX2 xi0) (bitM (.mk (iX3 xi0) (iX4 xi0)) 63)).2] [])) (.no 98)) (.no 98)) (.no 98)) (.no 98)) (.leaf (.again [(iX0 xi0), (iX1 xi0), (iAdd .i64 (iX2 xi0) 1), (iX3 xi0), (iX4 xi0), (iX5 xi0), (iX6 xi0), (iX7 xi0), (iX8 xi0)] []))) (.br (iEq (iX1 xi0) 0) (.br (iGe (iSub .i64 (iX2 xi0) (iConv .i64 (iX0 xi0))) 0) (.br (iLt (iSub .i64 (iX2 xi0) (iConv .i64 (iX0 xi0))) 64) (.br (isU (iX3 xi0)) (.br (isU (iX4 xi0)) (.br (isX (iSub .i64 (iX2 xi0) (iConv .i64 (iX0 xi0)))) (.br (isX (iX2 xi0)) (.leaf (.again [(iX0 xi0), (iX1 xi0), (iAdd .i64 (iX2 xi0) 1), (iX3 xi0), (iX4 xi0), (iX5 xi0), (iX6 xi0), (putM (.mk (iX7 xi0) (iX8 xi0)) (iX2 xi0) (bitM (.mk (iX3 xi0) (iX4 xi0)) (iSub .i64 (iX2 xi0) (iConv .i64 (iX0 xi0))))).1, (putM (.mk (iX7 xi0) (iX8 xi0)) (iX2 xi0) (bitM (.mk (iX3 xi0) (iX4 xi0)) (iSub .i64 (iX2 xi0) (iConv .i64 (iX0 xi0))))).2] [])) (.no 98)) (.no 98)) (.no 98)) (.no 98)) (.leaf (.again [(iX0 xi0), (iX1 xi0), (iAdd .i64 (iX2 xi0) 1), (iX3 xi0), (iX4 xi0), (iX5 xi0), (iX6 xi0), (iX7 xi0), (iX8 xi0)] []))) (.leaf (.again [(iX0 xi0), (iX1 xi0), (iAdd .i64 (iX2 xi0) 1), (iX3 xi0), (iX4 xi0), (iX5 xi0), (iX6 xi0), (iX7 xi0), (iX8 xi0)] []))) (.br (iEq (iX1 xi0) 2) (.br (iGe (iMin2 (iAdd .i64 (iX2 xi0) (iConv .i64 (iX0 xi0))) 63) 0) (.br (iLt (iMin2 (iAdd .i64 (iX2 xi0) (iConv .i64 (iX0 xi0))) 63) 64) (.br (isU (iX3 xi0)) (.br (isU (iX4 xi0)) (.br (isX (iMin2 (iAdd .i64 (iX2 xi0) (iConv .i64 (iX0 xi0))) 63)) (.br (isX (iX2 xi0)) (.leaf (.again [(iX0 xi0), (iX1 xi0), (iAdd .i64 (iX2 xi0) 1), (iX3 xi0), (iX4 xi0), (iX5 xi0), (iX6 xi0), (putM (.mk (iX7 xi0) (iX8 xi0)) (iX2 xi0) (bitM (.mk (iX3 xi0) (iX4 xi0)) (iMin2 (iAdd .i64 (iX2 xi0) (iConv .i64 (iX0 xi0))) 63))).1, (putM (.mk (iX7 xi0) (iX8 xi0)) (iX2 xi0) (bitM (.mk (iX3 xi0) (iX4 xi0)) (iMin2 (iAdd .i64 (iX2 xi0) (iConv .i64 (iX0 xi0))) 63))).2] [])) (.no 98)) (.no 98)) (.no 98)) (.no 98)) (.leaf (.again [(iX0 xi0), (iX1 xi0), (iAdd .i64 (iX2 xi0) 1), (iX3 xi0), (iX4 xi0), (iX5 xi0), (iX6 xi0), (iX7 xi0), (iX8 xi0)] []))) (.leaf (.again [(iX0 xi0), (iX1 xi0), (iAdd .i64 (iX2 xi0) 1), (iX3 xi0), (iX4 xi0), (iX5 xi0), (iX6 xi0), (iX7 xi0), (iX8 xi0)] []))) (.br (iGe (iAdd .i64 (iX2 xi0) (iConv .i64 (iX0 xi0))) 0) (.br (iLt (iAdd .i64 (iX2 xi0) (iConv .i64 (iX0 xi0))) 64) (.br (isU (iX3 xi0)) (.br (isU (iX4 xi0)) (.br (isX (iAdd .i64 (iX2 xi0) (iConv .i64 (iX0 xi0)))) (.br (isX (iX2 xi0)) (.leaf (.again [(iX0 xi0), (iX1 xi0), (iAdd .i64 (iX2 xi0) 1), (iX3 xi0), (iX4 xi0), (iX5 xi0), (iX6 xi0), (putM (.mk (iX7 xi0) (iX8 xi0)) (iX2 xi0) (bitM (.mk (iX3 xi0) (iX4 xi0)) (iAdd .i64 (iX2 xi0) (iConv .i64 (iX0 xi0))))).1, (putM (.mk (iX7 xi0) (iX8 xi0)) (iX2 xi0) (bitM (.mk (iX3 xi0) (iX4 xi0)) (iAdd .i64 (iX2 xi0) (iConv .i64 (iX0 xi0))))).2] [])) (.no 98)) (.no 98)) (.no 98)) (.no 98)) (.leaf (.again [(iX0 xi0), (iX1 xi0), (iAdd .i64 (iX2 xi0) 1), (iX3 xi0), (iX4 xi0), (iX5 xi0), (iX6 xi0), (iX7 xi0), (iX8 xi0)] []))) (.leaf (.again [(iX0 xi0), (iX1 xi0), (iAdd .i64 (iX2 xi0) 1), (iX3 xi0), (iX4 xi0), (iX5 xi0), (iX6 xi0), (iX7 xi0), (iX8 xi0)] [])))))) (.leaf (.up (.val (.u (.agg [(.si .u64 (iX7 xi0)), (.si .u64 (iX8 xi0))]))))))))) (by kernel_rfl) ρ rfl ?_ w
  · have ht : TM t := (tMay_iff ⟨hb0, hb1⟩).1 hb2
    have hn : isU n = true := hb3
    have n0 := isU_iff.1 hn
    refine all_lp (ShiftI 2 (fSar t n) t n) mI2 shiftI_start ?_
    rintro yi yb j ⟨i, r, rfl, hr, hB⟩
    have hF : n ≤ 63 → (iMin2 (iAdd .i64 i (iConv .i64 n)) 63) = min (i + n) 63 := fun h => by have := hr; unfold iMin2; rw [conv_i, add_i]; omega
    simp only [iX0, iX1, iX2, iX3, iX4, iX5, iX6, iX7, iX8, iX9, iX10, iX11, iX12, hdI, tlI, hdB, tlB]
    refine brs2 (fun k1 => ?_) (fun k1 => ?_)
    · refine brs2 (fun k2 => ?_) (fun k2 => ?_)
      · refine brsT (by decide) ?_
        refine askS (by assumption) ?_
        refine askS (by assumption) ?_
        refine askS (by decide) ?_
        refine askS (isX_iff.2 ⟨hr.1, lt_t.1 k1⟩) ?_
        have hi : isX i = true := isX_iff.2 ⟨hr.1, lt_t.1 k1⟩
        have hI := isX_iff.1 hi
        exact shiftI_next hi hB (fSar_big (gt_t.1 k2)).symm
      · refine brsF (by decide) ?_
        refine brsT (by decide) ?_
        refine brsT (by have e := (hF (gt_f.1 k2)); rw [ge_t]; omega) ?_
        refine brsT (by have e := (hF (gt_f.1 k2)); rw [lt_t]; omega) ?_
        refine askS (by assumption) ?_
        refine askS (by assumption) ?_
        refine askS (isX_iff.2 ⟨ge_t.1 (by have e := (hF (gt_f.1 k2)); rw [ge_t]; omega : (iGe (iMin2 (iAdd .i64 i (iConv .i64 n)) 63) 0) = true), lt_t.1 (by have e := (hF (gt_f.1 k2)); rw [lt_t]; omega : (iLt (iMin2 (iAdd .i64 i (iConv .i64 n)) 63) 64) = true)⟩) ?_
        refine askS (isX_iff.2 ⟨hr.1, lt_t.1 k1⟩) ?_
        have hi : isX i = true := isX_iff.2 ⟨hr.1, lt_t.1 k1⟩
        have hI := isX_iff.1 hi
        have e := hF (gt_f.1 k2)
        have zg := ge_t.1 (by have e := (hF (gt_f.1 k2)); rw [ge_t]; omega : (iGe (iMin2 (iAdd .i64 i (iConv .i64 n)) 63) 0) = true)
        have zl := lt_t.1 (by have e := (hF (gt_f.1 k2)); rw [lt_t]; omega : (iLt (iMin2 (iAdd .i64 i (iConv .i64 n)) 63) 64) = true)
        exact shiftI_next hi hB (fSar_in hi (gt_f.1 k2) e ⟨zg, zl⟩).symm
    · have e := sar_fold ht hn (upTo_all (lt_f.1 k1)) hB
      show V.den ρ (.u (.agg [.si .u64 r.1, .si .u64 r.2])) = _
      rw [e]; try rfl
theorem t_rBits1 (p : P2) (q : P2) (hb0 : isU p.1 = true) (hb1 : isU p.2 = true) (hb2 : isU q.1 = true) (hb3 : isU q.2 = true) (hb4 : tMay p = true) (hb5 : tMay q = true) (ρ : Nat → Nat) (w : World) : Calls Tryz.prog 164 (enV [.a [some .u64, some .u64], .a [some .u64, some .u64], .s (some .i64)] ([p.1, p.2, q.1, q.2, 1], [])).toArray w fun e w' => e = .returned (V.den ρ (.u (.agg [.si .u64 (tAndM p q).1, .si .u64 (tAndM p q).2]))) ∧ Below w.heap.size w w' := by
  refine pure_to nameOK (okc s_rbit_ok (okc s_rput_ok okn)) (drawl_sound nameOK (okc s_rbit_ok (okc s_rput_ok okn)) (by kernel_rfl) (fun n i => match Nat.beq n 74 with | true => some [2,3,4,6,7,8] | false => none)) 300 [.u (.agg [.si .u64 p.1, .si .u64 p.2]), .u (.agg [.si .u64 q.1, .si .u64 q.2]), .u (.c (.li .i64 1))] (T := (.lp [1, 0, p.1, p.2, q.1, q.2, 0, 0, 0, 0] [] (fun xi0 xb0 j0 => (.br (iLt (iX1 xi0) 64) (.br (isU (iX2 xi0)) (.br (isU (iX3 xi0)) (.br (isX (iX1 xi0)) (.br (isU (iX4 xi0)) (.br (isU (iX5 xi0)) (.br (isX (iX1 xi0)) (.br (iEq (iX0 xi0) 0) (.br (iEq (bitM (.mk (iX2 xi0) (iX3 xi0)) (iX1 xi0)) (bitM (.mk (iX4 xi0) (iX5 xi0)) (iX1 xi0))) (.br (isX (iX1 xi0)) (.leaf (.again [(iX0 xi0), (iAdd .i64 (iX1 xi0) 1), (iX2 xi0), (iX3 xi0), (iX4 xi0), (iX5 xi0), (iX6 xi0), (iX7 xi0), (putM (.mk (iX8 xi0) (iX9 xi0)) (iX1 xi0) (bitM (.mk (iX2 xi0) (iX3 xi0)) (iX1 xi0))).1, (putM (.mk (iX8 xi0) (iX9 xi0)) (iX1 xi0) (bitM (.mk (iX2 xi0) (iX3 xi0)) (iX1 xi0))).2] [])) (.no 98)) (.br (isX (iX1 xi0)) (.leaf (.again [(iX0 xi0), (iAdd .i64 (iX1 xi0) 1), (iX2 xi0), (iX3 xi0), (iX4 xi0), (iX5 xi0), (iX6 xi0), (iX7 xi0), (putM (.mk (iX8 xi0) (iX9 xi0)) (iX1 xi0) 2).1, (putM (.mk (iX8 xi0) (iX9 xi0)) (iX1 xi0) 2).2] [])) (.no 98))) (.br (iEq (iX0 xi0) 1) (.br (iEq (bitM (.mk (iX2 xi0) (iX3 xi0)) (iX1 xi0)) 0) (.br (isX (iX1 xi0)) (.leaf (.again [(iX0 xi0), (iAdd .i64 (iX1 xi0) 1), (iX2 xi0), (iX3 xi0), (iX4 xi0), (iX5 xi0), (iX6 xi0), (iX7 xi0), (putM (.mk (iX8 xi0) (iX9 xi0)) (iX1 xi0) 0).1, (putM (.mk (iX8 xi0) (iX9 xi0)) (iX1 xi0) 0).2] [])) (.no 98)) (.br (iEq (bitM (.mk (iX4 xi0) (iX5 xi0)) (iX1 xi0)) 0) (.br (isX (iX1 xi0)) (.leaf (.again [(iX0 xi0), (iAdd .i64 (iX1 xi0) 1), (iX2 xi0), (iX3 xi0), (iX4 xi0), (iX5 xi0), (iX6 xi0), (iX7 xi0), (putM (.mk (iX8 xi0) (iX9 xi0)) (iX1 xi0) 0).1, (putM (.mk (iX8 xi0) (iX9 xi0)) (iX1 xi0) 0).2] [])) (.no 98)) (.br (iEq (bitM (.mk (iX2 xi0) (iX3 xi0)) (iX1 xi0)) 1) (.br (iEq (bitM (.mk (iX4 xi0) (iX5 xi0)) (iX1 xi0)) 1) (.br (isX (iX1 xi0)) (.leaf (.again [(iX0 xi0), (iAdd .i64 (iX1 xi0) 1), (iX2 xi0), (iX3 xi0), (iX4 xi0), (iX5 xi0), (iX6 xi0), (iX7 xi0), (putM (.mk (iX8 xi0) (iX9 xi0)) (iX1 xi0) 1).1, (putM (.mk (iX8 xi0) (iX9 xi0)) (iX1 xi0) 1).2] [])) (.no 98)) (.br (isX (iX1 xi0)) (.leaf (.again [(iX0 xi0), (iAdd .i64 (iX1 xi0) 1), (iX2 xi0), (iX3 xi0), (iX4 xi0), (iX5 xi0), (iX6 xi0), (iX7 xi0), (putM (.mk (iX8 xi0) (iX9 xi0)) (iX1 xi0) 2).1, (putM (.mk (iX8 xi0) (iX9 xi0)) (iX1 xi0) 2).2] [])) (.no 98))) (.br (isX (iX1 xi0)) (.leaf (.again [(iX0 xi0), (iAdd .i64 (iX1 xi0) 1), (iX2 xi0), (iX3 xi0), (iX4 xi0), (iX5 xi0), (iX6 xi0), (iX7 xi0), (putM (.mk (iX8 xi0) (iX9 xi0)) (iX1 xi0) 2).1, (putM (.mk (iX8 xi0) (iX9 xi0)) (iX1 xi0) 2).2] [])) (.no 98))))) (.br (iEq (iX0 xi0) 2) (.br (iEq (bitM (.mk (iX2 xi0) (iX3 xi0)) (iX1 xi0)) 1) (.br (isX (iX1 xi0)) (.leaf (.again [(iX0 xi0), (iAdd .i64 (iX1 xi0) 1), (iX2 xi0), (iX3 xi0), (iX4 xi0), (iX5 xi0), (iX6 xi0), (iX7 xi0), (putM (.mk (iX8 xi0) (iX9 xi0)) (iX1 xi0) 1).1, (putM (.mk (iX8 xi0) (iX9 xi0)) (iX1 xi0) 1).2] [])) (.no 98)) (.br (iEq (bitM (.mk (iX4 xi0) (iX5 xi0)) (iX1 xi0)) 1) (.br (isX (iX1 xi0)) (.leaf (.again [(iX0 xi0), (iAdd .i64 (iX1 xi0) 1), (iX2 xi0), (iX3 xi0), (iX4 xi0), (iX5 xi0), (iX6 xi0), (iX7 xi0), (putM (.mk (iX8 xi0) (iX9 xi0)) (iX1 xi0) 1).1, (putM (.mk (iX8 xi0) (iX9 xi0)) (iX1 xi0) 1).2] [])) (.no 98)) (.br (iEq (bitM (.mk (iX2 xi0) (iX3 xi0)) (iX1 xi0)) 0) (.br (iEq (bitM (.mk (iX4 xi0) (iX5 xi0)) (iX1 xi0)) 0) (.br (isX (iX1 xi0)) (.leaf (.again [(iX0 xi0), (iAdd .i64 (iX1 xi0) 1), (iX2 xi0), (iX3 xi0), (iX4 xi0), (iX5 xi0), (iX6 xi0), (iX7 xi0), (putM (.mk (iX8 xi0) (iX9 xi0)) (iX1 xi0) 0).1, (putM (.mk (iX8 xi0) (iX9 xi0)) (iX1 xi0) 0).2] [])) (.no 98)) (.br (isX (iX1 xi0)) (.leaf (.again [(iX0 xi0), (iAdd .i64 (iX1 xi0) 1), (iX2 xi0), (iX3 xi0), (iX4 xi0), (iX5 xi0), (iX6 xi0), (iX7 xi0), (putM (.mk (iX8 xi0) (iX9 xi0)) (iX1 xi0) 2).1, (putM (.mk (iX8 xi0) (iX9 xi0)) (iX1 xi0) 2).2] [])) (.no 98))) (.br (isX (iX1 xi0)) (.leaf (.again [(iX0 xi0), (iAdd .i64 (iX1 xi0) 1), (iX2 xi0), (iX3 xi0), (iX4 xi0), (iX5 xi0), (iX6 xi0), (iX7 xi0), (putM (.mk (iX8 xi0) (iX9 xi0)) (iX1 xi0) 2).1, (putM (.mk (iX8 xi0) (iX9 xi0)) (iX1 xi0) 2).2] [])) (.no 98))))) (.br (iEq (iX0 xi0) 3) (.br (iNe (bitM (.mk (iX2 xi0) (iX3 xi0)) (iX1 xi0)) 2) (.br (iNe (bitM (.mk (iX4 xi0) (iX5 xi0)) (iX1 xi0)) 2) (.br (isX (iX1 xi0)) (.leaf (.again [(iX0 xi0), (iAdd .i64 (iX1 xi0) 1), (iX2 xi0), (iX3 xi0), (iX4 xi0), (iX5 xi0), (iX6 xi0), (iX7 xi0), (putM (.mk (iX8 xi0) (iX9 xi0)) (iX1 xi0) (iBit .xor .i64 (bitM (.mk (iX2 xi0) (iX3 xi0)) (iX1 xi0)) (bitM (.mk (iX4 xi0) (iX5 xi0)) (iX1 xi0)))).1, (putM (.mk (iX8 xi0) (iX9 xi0)) (iX1 xi0) (iBit .xor .i64 (bitM (.mk (iX2 xi0) (iX3 xi0)) (iX1 xi0)) (bitM (.mk (iX4 xi0) (iX5 xi0)) (iX1 xi0)))).2] [])) (.no 98)) (.br (isX (iX1 xi0)) (.leaf (.again [(iX0 xi0), (iAdd .i64 (iX1 xi0) 1), (iX2 xi0), (iX3 xi0), (iX4 xi0), (iX5 xi0), (iX6 xi0), (iX7 xi0), (putM (.mk (iX8 xi0) (iX9 xi0)) (iX1 xi0) 2).1, (putM (.mk (iX8 xi0) (iX9 xi0)) (iX1 xi0) 2).2] [])) (.no 98))) (.br (isX (iX1 xi0)) (.leaf (.again [(iX0 xi0), (iAdd .i64 (iX1 xi0) 1), (iX2 xi0), (iX3 xi0), (iX4 xi0), (iX5 xi0), (iX6 xi0), (iX7 xi0), (putM (.mk (iX8 xi0) (iX9 xi0)) (iX1 xi0) 2).1, (putM (.mk (iX8 xi0) (iX9 xi0)) (iX1 xi0) 2).2] [])) (.no 98))) (.br (isX (iX1 xi0)) (.leaf (.again [(iX0 xi0), (iAdd .i64 (iX1 xi0) 1), (iX2 xi0), (iX3 xi0), (iX4 xi0), (iX5 xi0), (iX6 xi0), (iX7 xi0), (putM (.mk (iX8 xi0) (iX9 xi0)) (iX1 xi0) 2).1, (putM (.mk (iX8 xi0) (iX9 xi0)) (iX1 xi0) 2).2] [])) (.no 98)))))) (.no 98)) (.no 98)) (.no 98)) (.no 98)) (.no 98)) (.no 98)) (.leaf (.up (.val (.u (.agg [(.si .u64 (iX8 xi0)), (.si .u64 (iX9 xi0))]))))))))) (by kernel_rfl) ρ rfl ?_ w
  · have hp : TM p := (tMay_iff ⟨hb0, hb1⟩).1 hb4
    have hq : TM q := (tMay_iff ⟨hb2, hb3⟩).1 hb5
    refine all_lp (BitsI 1 (fAnd p q) p q) mI1 bitsI_start ?_
    rintro yi yb j ⟨i, t, rfl, hr, hB⟩
    simp only [iX0, iX1, iX2, iX3, iX4, iX5, iX6, iX7, iX8, iX9, iX10, iX11, iX12, hdI, tlI, hdB, tlB]
    refine brs2 (fun k1 => ?_) (fun k1 => ?_)
    · refine askS (by first | assumption | exact hp.1.1 | exact hp.1.2 | exact hq.1.1 | exact hq.1.2) ?_
      refine askS (by first | assumption | exact hp.1.1 | exact hp.1.2 | exact hq.1.1 | exact hq.1.2) ?_
      refine askS (isX_iff.2 ⟨hr.1, lt_t.1 k1⟩) ?_
      refine askS (by first | assumption | exact hp.1.1 | exact hp.1.2 | exact hq.1.1 | exact hq.1.2) ?_
      refine askS (by first | assumption | exact hp.1.1 | exact hp.1.2 | exact hq.1.1 | exact hq.1.2) ?_
      refine askS (isX_iff.2 ⟨hr.1, lt_t.1 k1⟩) ?_
      refine brsF (by decide) ?_
      refine brsT (by decide) ?_
      refine brs2 (fun k2 => ?_) (fun k2 => ?_)
      · refine askS (isX_iff.2 ⟨hr.1, lt_t.1 k1⟩) ?_
        have hi : isX i = true := isX_iff.2 ⟨hr.1, lt_t.1 k1⟩
        have c0 : (bitM p i) = 0 := eq_t.1 k2
        refine bitsI_next hi hB ?_
        unfold fAnd; rw [nat_i hi]
        have bp := bitM_cases p i
        have bq := bitM_cases q i
        first | (rw [if_pos (by omega)]; done) | (rw [if_pos (by omega)]; rfl) | (rw [if_neg (by omega)]; done) | (rw [if_neg (by omega), if_pos (by omega)]) | (rw [if_neg (by omega), if_neg (by omega)])
      · refine brs2 (fun k3 => ?_) (fun k3 => ?_)
        · refine askS (isX_iff.2 ⟨hr.1, lt_t.1 k1⟩) ?_
          have hi : isX i = true := isX_iff.2 ⟨hr.1, lt_t.1 k1⟩
          have c0 : ¬ (bitM p i) = 0 := eq_f.1 k2
          have c1 : (bitM q i) = 0 := eq_t.1 k3
          refine bitsI_next hi hB ?_
          unfold fAnd; rw [nat_i hi]
          have bp := bitM_cases p i
          have bq := bitM_cases q i
          first | (rw [if_pos (by omega)]; done) | (rw [if_pos (by omega)]; rfl) | (rw [if_neg (by omega)]; done) | (rw [if_neg (by omega), if_pos (by omega)]) | (rw [if_neg (by omega), if_neg (by omega)])
        · refine brs2 (fun k4 => ?_) (fun k4 => ?_)
          · refine brs2 (fun k5 => ?_) (fun k5 => ?_)
            · refine askS (isX_iff.2 ⟨hr.1, lt_t.1 k1⟩) ?_
              have hi : isX i = true := isX_iff.2 ⟨hr.1, lt_t.1 k1⟩
              have c0 : ¬ (bitM p i) = 0 := eq_f.1 k2
              have c1 : ¬ (bitM q i) = 0 := eq_f.1 k3
              have c2 : (bitM p i) = 1 := eq_t.1 k4
              have c3 : (bitM q i) = 1 := eq_t.1 k5
              refine bitsI_next hi hB ?_
              unfold fAnd; rw [nat_i hi]
              have bp := bitM_cases p i
              have bq := bitM_cases q i
              first | (rw [if_pos (by omega)]; done) | (rw [if_pos (by omega)]; rfl) | (rw [if_neg (by omega)]; done) | (rw [if_neg (by omega), if_pos (by omega)]) | (rw [if_neg (by omega), if_neg (by omega)])
            · refine askS (isX_iff.2 ⟨hr.1, lt_t.1 k1⟩) ?_
              have hi : isX i = true := isX_iff.2 ⟨hr.1, lt_t.1 k1⟩
              have c0 : ¬ (bitM p i) = 0 := eq_f.1 k2
              have c1 : ¬ (bitM q i) = 0 := eq_f.1 k3
              have c2 : (bitM p i) = 1 := eq_t.1 k4
              have c3 : ¬ (bitM q i) = 1 := eq_f.1 k5
              refine bitsI_next hi hB ?_
              unfold fAnd; rw [nat_i hi]
              have bp := bitM_cases p i
              have bq := bitM_cases q i
              first | (rw [if_pos (by omega)]; done) | (rw [if_pos (by omega)]; rfl) | (rw [if_neg (by omega)]; done) | (rw [if_neg (by omega), if_pos (by omega)]) | (rw [if_neg (by omega), if_neg (by omega)])
          · refine askS (isX_iff.2 ⟨hr.1, lt_t.1 k1⟩) ?_
            have hi : isX i = true := isX_iff.2 ⟨hr.1, lt_t.1 k1⟩
            have c0 : ¬ (bitM p i) = 0 := eq_f.1 k2
            have c1 : ¬ (bitM q i) = 0 := eq_f.1 k3
            have c2 : ¬ (bitM p i) = 1 := eq_f.1 k4
            refine bitsI_next hi hB ?_
            unfold fAnd; rw [nat_i hi]
            have bp := bitM_cases p i
            have bq := bitM_cases q i
            first | (rw [if_pos (by omega)]; done) | (rw [if_pos (by omega)]; rfl) | (rw [if_neg (by omega)]; done) | (rw [if_neg (by omega), if_pos (by omega)]) | (rw [if_neg (by omega), if_neg (by omega)])
    · have e := and_fold hp hq (upTo_all (lt_f.1 k1)) hB
      show V.den ρ (.u (.agg [.si .u64 t.1, .si .u64 t.2])) = _
      rw [e]; try rfl
theorem t_rBits2 (p : P2) (q : P2) (hb0 : isU p.1 = true) (hb1 : isU p.2 = true) (hb2 : isU q.1 = true) (hb3 : isU q.2 = true) (hb4 : tMay p = true) (hb5 : tMay q = true) (ρ : Nat → Nat) (w : World) : Calls Tryz.prog 164 (enV [.a [some .u64, some .u64], .a [some .u64, some .u64], .s (some .i64)] ([p.1, p.2, q.1, q.2, 2], [])).toArray w fun e w' => e = .returned (V.den ρ (.u (.agg [.si .u64 (tOrM p q).1, .si .u64 (tOrM p q).2]))) ∧ Below w.heap.size w w' := by
  refine pure_to nameOK (okc s_rbit_ok (okc s_rput_ok okn)) (drawl_sound nameOK (okc s_rbit_ok (okc s_rput_ok okn)) (by kernel_rfl) (fun n i => match Nat.beq n 74 with | true => some [2,3,4,6,7,8] | false => none)) 300 [.u (.agg [.si .u64 p.1, .si .u64 p.2]), .u (.agg [.si .u64 q.1, .si .u64 q.2]), .u (.c (.li .i64 2))] (T := (.lp [2, 0, p.1, p.2, q.1, q.2, 0, 0, 0, 0] [] (fun xi0 xb0 j0 => (.br (iLt (iX1 xi0) 64) (.br (isU (iX2 xi0)) (.br (isU (iX3 xi0)) (.br (isX (iX1 xi0)) (.br (isU (iX4 xi0)) (.br (isU (iX5 xi0)) (.br (isX (iX1 xi0)) (.br (iEq (iX0 xi0) 0) (.br (iEq (bitM (.mk (iX2 xi0) (iX3 xi0)) (iX1 xi0)) (bitM (.mk (iX4 xi0) (iX5 xi0)) (iX1 xi0))) (.br (isX (iX1 xi0)) (.leaf (.again [(iX0 xi0), (iAdd .i64 (iX1 xi0) 1), (iX2 xi0), (iX3 xi0), (iX4 xi0), (iX5 xi0), (iX6 xi0), (iX7 xi0), (putM (.mk (iX8 xi0) (iX9 xi0)) (iX1 xi0) (bitM (.mk (iX2 xi0) (iX3 xi0)) (iX1 xi0))).1, (putM (.mk (iX8 xi0) (iX9 xi0)) (iX1 xi0) (bitM (.mk (iX2 xi0) (iX3 xi0)) (iX1 xi0))).2] [])) (.no 98)) (.br (isX (iX1 xi0)) (.leaf (.again [(iX0 xi0), (iAdd .i64 (iX1 xi0) 1), (iX2 xi0), (iX3 xi0), (iX4 xi0), (iX5 xi0), (iX6 xi0), (iX7 xi0), (putM (.mk (iX8 xi0) (iX9 xi0)) (iX1 xi0) 2).1, (putM (.mk (iX8 xi0) (iX9 xi0)) (iX1 xi0) 2).2] [])) (.no 98))) (.br (iEq (iX0 xi0) 1) (.br (iEq (bitM (.mk (iX2 xi0) (iX3 xi0)) (iX1 xi0)) 0) (.br (isX (iX1 xi0)) (.leaf (.again [(iX0 xi0), (iAdd .i64 (iX1 xi0) 1), (iX2 xi0), (iX3 xi0), (iX4 xi0), (iX5 xi0), (iX6 xi0), (iX7 xi0), (putM (.mk (iX8 xi0) (iX9 xi0)) (iX1 xi0) 0).1, (putM (.mk (iX8 xi0) (iX9 xi0)) (iX1 xi0) 0).2] [])) (.no 98)) (.br (iEq (bitM (.mk (iX4 xi0) (iX5 xi0)) (iX1 xi0)) 0) (.br (isX (iX1 xi0)) (.leaf (.again [(iX0 xi0), (iAdd .i64 (iX1 xi0) 1), (iX2 xi0), (iX3 xi0), (iX4 xi0), (iX5 xi0), (iX6 xi0), (iX7 xi0), (putM (.mk (iX8 xi0) (iX9 xi0)) (iX1 xi0) 0).1, (putM (.mk (iX8 xi0) (iX9 xi0)) (iX1 xi0) 0).2] [])) (.no 98)) (.br (iEq (bitM (.mk (iX2 xi0) (iX3 xi0)) (iX1 xi0)) 1) (.br (iEq (bitM (.mk (iX4 xi0) (iX5 xi0)) (iX1 xi0)) 1) (.br (isX (iX1 xi0)) (.leaf (.again [(iX0 xi0), (iAdd .i64 (iX1 xi0) 1), (iX2 xi0), (iX3 xi0), (iX4 xi0), (iX5 xi0), (iX6 xi0), (iX7 xi0), (putM (.mk (iX8 xi0) (iX9 xi0)) (iX1 xi0) 1).1, (putM (.mk (iX8 xi0) (iX9 xi0)) (iX1 xi0) 1).2] [])) (.no 98)) (.br (isX (iX1 xi0)) (.leaf (.again [(iX0 xi0), (iAdd .i64 (iX1 xi0) 1), (iX2 xi0), (iX3 xi0), (iX4 xi0), (iX5 xi0), (iX6 xi0), (iX7 xi0), (putM (.mk (iX8 xi0) (iX9 xi0)) (iX1 xi0) 2).1, (putM (.mk (iX8 xi0) (iX9 xi0)) (iX1 xi0) 2).2] [])) (.no 98))) (.br (isX (iX1 xi0)) (.leaf (.again [(iX0 xi0), (iAdd .i64 (iX1 xi0) 1), (iX2 xi0), (iX3 xi0), (iX4 xi0), (iX5 xi0), (iX6 xi0), (iX7 xi0), (putM (.mk (iX8 xi0) (iX9 xi0)) (iX1 xi0) 2).1, (putM (.mk (iX8 xi0) (iX9 xi0)) (iX1 xi0) 2).2] [])) (.no 98))))) (.br (iEq (iX0 xi0) 2) (.br (iEq (bitM (.mk (iX2 xi0) (iX3 xi0)) (iX1 xi0)) 1) (.br (isX (iX1 xi0)) (.leaf (.again [(iX0 xi0), (iAdd .i64 (iX1 xi0) 1), (iX2 xi0), (iX3 xi0), (iX4 xi0), (iX5 xi0), (iX6 xi0), (iX7 xi0), (putM (.mk (iX8 xi0) (iX9 xi0)) (iX1 xi0) 1).1, (putM (.mk (iX8 xi0) (iX9 xi0)) (iX1 xi0) 1).2] [])) (.no 98)) (.br (iEq (bitM (.mk (iX4 xi0) (iX5 xi0)) (iX1 xi0)) 1) (.br (isX (iX1 xi0)) (.leaf (.again [(iX0 xi0), (iAdd .i64 (iX1 xi0) 1), (iX2 xi0), (iX3 xi0), (iX4 xi0), (iX5 xi0), (iX6 xi0), (iX7 xi0), (putM (.mk (iX8 xi0) (iX9 xi0)) (iX1 xi0) 1).1, (putM (.mk (iX8 xi0) (iX9 xi0)) (iX1 xi0) 1).2] [])) (.no 98)) (.br (iEq (bitM (.mk (iX2 xi0) (iX3 xi0)) (iX1 xi0)) 0) (.br (iEq (bitM (.mk (iX4 xi0) (iX5 xi0)) (iX1 xi0)) 0) (.br (isX (iX1 xi0)) (.leaf (.again [(iX0 xi0), (iAdd .i64 (iX1 xi0) 1), (iX2 xi0), (iX3 xi0), (iX4 xi0), (iX5 xi0), (iX6 xi0), (iX7 xi0), (putM (.mk (iX8 xi0) (iX9 xi0)) (iX1 xi0) 0).1, (putM (.mk (iX8 xi0) (iX9 xi0)) (iX1 xi0) 0).2] [])) (.no 98)) (.br (isX (iX1 xi0)) (.leaf (.again [(iX0 xi0), (iAdd .i64 (iX1 xi0) 1), (iX2 xi0), (iX3 xi0), (iX4 xi0), (iX5 xi0), (iX6 xi0), (iX7 xi0), (putM (.mk (iX8 xi0) (iX9 xi0)) (iX1 xi0) 2).1, (putM (.mk (iX8 xi0) (iX9 xi0)) (iX1 xi0) 2).2] [])) (.no 98))) (.br (isX (iX1 xi0)) (.leaf (.again [(iX0 xi0), (iAdd .i64 (iX1 xi0) 1), (iX2 xi0), (iX3 xi0), (iX4 xi0), (iX5 xi0), (iX6 xi0), (iX7 xi0), (putM (.mk (iX8 xi0) (iX9 xi0)) (iX1 xi0) 2).1, (putM (.mk (iX8 xi0) (iX9 xi0)) (iX1 xi0) 2).2] [])) (.no 98))))) (.br (iEq (iX0 xi0) 3) (.br (iNe (bitM (.mk (iX2 xi0) (iX3 xi0)) (iX1 xi0)) 2) (.br (iNe (bitM (.mk (iX4 xi0) (iX5 xi0)) (iX1 xi0)) 2) (.br (isX (iX1 xi0)) (.leaf (.again [(iX0 xi0), (iAdd .i64 (iX1 xi0) 1), (iX2 xi0), (iX3 xi0), (iX4 xi0), (iX5 xi0), (iX6 xi0), (iX7 xi0), (putM (.mk (iX8 xi0) (iX9 xi0)) (iX1 xi0) (iBit .xor .i64 (bitM (.mk (iX2 xi0) (iX3 xi0)) (iX1 xi0)) (bitM (.mk (iX4 xi0) (iX5 xi0)) (iX1 xi0)))).1, (putM (.mk (iX8 xi0) (iX9 xi0)) (iX1 xi0) (iBit .xor .i64 (bitM (.mk (iX2 xi0) (iX3 xi0)) (iX1 xi0)) (bitM (.mk (iX4 xi0) (iX5 xi0)) (iX1 xi0)))).2] [])) (.no 98)) (.br (isX (iX1 xi0)) (.leaf (.again [(iX0 xi0), (iAdd .i64 (iX1 xi0) 1), (iX2 xi0), (iX3 xi0), (iX4 xi0), (iX5 xi0), (iX6 xi0), (iX7 xi0), (putM (.mk (iX8 xi0) (iX9 xi0)) (iX1 xi0) 2).1, (putM (.mk (iX8 xi0) (iX9 xi0)) (iX1 xi0) 2).2] [])) (.no 98))) (.br (isX (iX1 xi0)) (.leaf (.again [(iX0 xi0), (iAdd .i64 (iX1 xi0) 1), (iX2 xi0), (iX3 xi0), (iX4 xi0), (iX5 xi0), (iX6 xi0), (iX7 xi0), (putM (.mk (iX8 xi0) (iX9 xi0)) (iX1 xi0) 2).1, (putM (.mk (iX8 xi0) (iX9 xi0)) (iX1 xi0) 2).2] [])) (.no 98))) (.br (isX (iX1 xi0)) (.leaf (.again [(iX0 xi0), (iAdd .i64 (iX1 xi0) 1), (iX2 xi0), (iX3 xi0), (iX4 xi0), (iX5 xi0), (iX6 xi0), (iX7 xi0), (putM (.mk (iX8 xi0) (iX9 xi0)) (iX1 xi0) 2).1, (putM (.mk (iX8 xi0) (iX9 xi0)) (iX1 xi0) 2).2] [])) (.no 98)))))) (.no 98)) (.no 98)) (.no 98)) (.no 98)) (.no 98)) (.no 98)) (.leaf (.up (.val (.u (.agg [(.si .u64 (iX8 xi0)), (.si .u64 (iX9 xi0))]))))))))) (by kernel_rfl) ρ rfl ?_ w
  · have hp : TM p := (tMay_iff ⟨hb0, hb1⟩).1 hb4
    have hq : TM q := (tMay_iff ⟨hb2, hb3⟩).1 hb5
    refine all_lp (BitsI 2 (fOr p q) p q) mI1 bitsI_start ?_
    rintro yi yb j ⟨i, t, rfl, hr, hB⟩
    simp only [iX0, iX1, iX2, iX3, iX4, iX5, iX6, iX7, iX8, iX9, iX10, iX11, iX12, hdI, tlI, hdB, tlB]
    refine brs2 (fun k1 => ?_) (fun k1 => ?_)
    · refine askS (by first | assumption | exact hp.1.1 | exact hp.1.2 | exact hq.1.1 | exact hq.1.2) ?_
      refine askS (by first | assumption | exact hp.1.1 | exact hp.1.2 | exact hq.1.1 | exact hq.1.2) ?_
      refine askS (isX_iff.2 ⟨hr.1, lt_t.1 k1⟩) ?_
      refine askS (by first | assumption | exact hp.1.1 | exact hp.1.2 | exact hq.1.1 | exact hq.1.2) ?_
      refine askS (by first | assumption | exact hp.1.1 | exact hp.1.2 | exact hq.1.1 | exact hq.1.2) ?_
      refine askS (isX_iff.2 ⟨hr.1, lt_t.1 k1⟩) ?_
      refine brsF (by decide) ?_
      refine brsF (by decide) ?_
      refine brsT (by decide) ?_
      refine brs2 (fun k2 => ?_) (fun k2 => ?_)
      · refine askS (isX_iff.2 ⟨hr.1, lt_t.1 k1⟩) ?_
        have hi : isX i = true := isX_iff.2 ⟨hr.1, lt_t.1 k1⟩
        have c0 : (bitM p i) = 1 := eq_t.1 k2
        refine bitsI_next hi hB ?_
        unfold fOr; rw [nat_i hi]
        have bp := bitM_cases p i
        have bq := bitM_cases q i
        first | (rw [if_pos (by omega)]; done) | (rw [if_pos (by omega)]; rfl) | (rw [if_neg (by omega)]; done) | (rw [if_neg (by omega), if_pos (by omega)]) | (rw [if_neg (by omega), if_neg (by omega)])
      · refine brs2 (fun k3 => ?_) (fun k3 => ?_)
        · refine askS (isX_iff.2 ⟨hr.1, lt_t.1 k1⟩) ?_
          have hi : isX i = true := isX_iff.2 ⟨hr.1, lt_t.1 k1⟩
          have c0 : ¬ (bitM p i) = 1 := eq_f.1 k2
          have c1 : (bitM q i) = 1 := eq_t.1 k3
          refine bitsI_next hi hB ?_
          unfold fOr; rw [nat_i hi]
          have bp := bitM_cases p i
          have bq := bitM_cases q i
          first | (rw [if_pos (by omega)]; done) | (rw [if_pos (by omega)]; rfl) | (rw [if_neg (by omega)]; done) | (rw [if_neg (by omega), if_pos (by omega)]) | (rw [if_neg (by omega), if_neg (by omega)])
        · refine brs2 (fun k4 => ?_) (fun k4 => ?_)
          · refine brs2 (fun k5 => ?_) (fun k5 => ?_)
            · refine askS (isX_iff.2 ⟨hr.1, lt_t.1 k1⟩) ?_
              have hi : isX i = true := isX_iff.2 ⟨hr.1, lt_t.1 k1⟩
              have c0 : ¬ (bitM p i) = 1 := eq_f.1 k2
              have c1 : ¬ (bitM q i) = 1 := eq_f.1 k3
              have c2 : (bitM p i) = 0 := eq_t.1 k4
              have c3 : (bitM q i) = 0 := eq_t.1 k5
              refine bitsI_next hi hB ?_
              unfold fOr; rw [nat_i hi]
              have bp := bitM_cases p i
              have bq := bitM_cases q i
              first | (rw [if_pos (by omega)]; done) | (rw [if_pos (by omega)]; rfl) | (rw [if_neg (by omega)]; done) | (rw [if_neg (by omega), if_pos (by omega)]) | (rw [if_neg (by omega), if_neg (by omega)])
            · refine askS (isX_iff.2 ⟨hr.1, lt_t.1 k1⟩) ?_
              have hi : isX i = true := isX_iff.2 ⟨hr.1, lt_t.1 k1⟩
              have c0 : ¬ (bitM p i) = 1 := eq_f.1 k2
              have c1 : ¬ (bitM q i) = 1 := eq_f.1 k3
              have c2 : (bitM p i) = 0 := eq_t.1 k4
              have c3 : ¬ (bitM q i) = 0 := eq_f.1 k5
              refine bitsI_next hi hB ?_
              unfold fOr; rw [nat_i hi]
              have bp := bitM_cases p i
              have bq := bitM_cases q i
              first | (rw [if_pos (by omega)]; done) | (rw [if_pos (by omega)]; rfl) | (rw [if_neg (by omega)]; done) | (rw [if_neg (by omega), if_pos (by omega)]) | (rw [if_neg (by omega), if_neg (by omega)])
          · refine askS (isX_iff.2 ⟨hr.1, lt_t.1 k1⟩) ?_
            have hi : isX i = true := isX_iff.2 ⟨hr.1, lt_t.1 k1⟩
            have c0 : ¬ (bitM p i) = 1 := eq_f.1 k2
            have c1 : ¬ (bitM q i) = 1 := eq_f.1 k3
            have c2 : ¬ (bitM p i) = 0 := eq_f.1 k4
            refine bitsI_next hi hB ?_
            unfold fOr; rw [nat_i hi]
            have bp := bitM_cases p i
            have bq := bitM_cases q i
            first | (rw [if_pos (by omega)]; done) | (rw [if_pos (by omega)]; rfl) | (rw [if_neg (by omega)]; done) | (rw [if_neg (by omega), if_pos (by omega)]) | (rw [if_neg (by omega), if_neg (by omega)])
    · have e := or_fold hp hq (upTo_all (lt_f.1 k1)) hB
      show V.den ρ (.u (.agg [.si .u64 t.1, .si .u64 t.2])) = _
      rw [e]; try rfl
theorem t_rBits3 (p : P2) (q : P2) (hb0 : isU p.1 = true) (hb1 : isU p.2 = true) (hb2 : isU q.1 = true) (hb3 : isU q.2 = true) (hb4 : tMay p = true) (hb5 : tMay q = true) (ρ : Nat → Nat) (w : World) : Calls Tryz.prog 164 (enV [.a [some .u64, some .u64], .a [some .u64, some .u64], .s (some .i64)] ([p.1, p.2, q.1, q.2, 3], [])).toArray w fun e w' => e = .returned (V.den ρ (.u (.agg [.si .u64 (tXorM p q).1, .si .u64 (tXorM p q).2]))) ∧ Below w.heap.size w w' := by
  refine pure_to nameOK (okc s_rbit_ok (okc s_rput_ok okn)) (drawl_sound nameOK (okc s_rbit_ok (okc s_rput_ok okn)) (by kernel_rfl) (fun n i => match Nat.beq n 74 with | true => some [2,3,4,6,7,8] | false => none)) 300 [.u (.agg [.si .u64 p.1, .si .u64 p.2]), .u (.agg [.si .u64 q.1, .si .u64 q.2]), .u (.c (.li .i64 3))] (T := (.lp [3, 0, p.1, p.2, q.1, q.2, 0, 0, 0, 0] [] (fun xi0 xb0 j0 => (.br (iLt (iX1 xi0) 64) (.br (isU (iX2 xi0)) (.br (isU (iX3 xi0)) (.br (isX (iX1 xi0)) (.br (isU (iX4 xi0)) (.br (isU (iX5 xi0)) (.br (isX (iX1 xi0)) (.br (iEq (iX0 xi0) 0) (.br (iEq (bitM (.mk (iX2 xi0) (iX3 xi0)) (iX1 xi0)) (bitM (.mk (iX4 xi0) (iX5 xi0)) (iX1 xi0))) (.br (isX (iX1 xi0)) (.leaf (.again [(iX0 xi0), (iAdd .i64 (iX1 xi0) 1), (iX2 xi0), (iX3 xi0), (iX4 xi0), (iX5 xi0), (iX6 xi0), (iX7 xi0), (putM (.mk (iX8 xi0) (iX9 xi0)) (iX1 xi0) (bitM (.mk (iX2 xi0) (iX3 xi0)) (iX1 xi0))).1, (putM (.mk (iX8 xi0) (iX9 xi0)) (iX1 xi0) (bitM (.mk (iX2 xi0) (iX3 xi0)) (iX1 xi0))).2] [])) (.no 98)) (.br (isX (iX1 xi0)) (.leaf (.again [(iX0 xi0), (iAdd .i64 (iX1 xi0) 1), (iX2 xi0), (iX3 xi0), (iX4 xi0), (iX5 xi0), (iX6 xi0), (iX7 xi0), (putM (.mk (iX8 xi0) (iX9 xi0)) (iX1 xi0) 2).1, (putM (.mk (iX8 xi0) (iX9 xi0)) (iX1 xi0) 2).2] [])) (.no 98))) (.br (iEq (iX0 xi0) 1) (.br (iEq (bitM (.mk (iX2 xi0) (iX3 xi0)) (iX1 xi0)) 0) (.br (isX (iX1 xi0)) (.leaf (.again [(iX0 xi0), (iAdd .i64 (iX1 xi0) 1), (iX2 xi0), (iX3 xi0), (iX4 xi0), (iX5 xi0), (iX6 xi0), (iX7 xi0), (putM (.mk (iX8 xi0) (iX9 xi0)) (iX1 xi0) 0).1, (putM (.mk (iX8 xi0) (iX9 xi0)) (iX1 xi0) 0).2] [])) (.no 98)) (.br (iEq (bitM (.mk (iX4 xi0) (iX5 xi0)) (iX1 xi0)) 0) (.br (isX (iX1 xi0)) (.leaf (.again [(iX0 xi0), (iAdd .i64 (iX1 xi0) 1), (iX2 xi0), (iX3 xi0), (iX4 xi0), (iX5 xi0), (iX6 xi0), (iX7 xi0), (putM (.mk (iX8 xi0) (iX9 xi0)) (iX1 xi0) 0).1, (putM (.mk (iX8 xi0) (iX9 xi0)) (iX1 xi0) 0).2] [])) (.no 98)) (.br (iEq (bitM (.mk (iX2 xi0) (iX3 xi0)) (iX1 xi0)) 1) (.br (iEq (bitM (.mk (iX4 xi0) (iX5 xi0)) (iX1 xi0)) 1) (.br (isX (iX1 xi0)) (.leaf (.again [(iX0 xi0), (iAdd .i64 (iX1 xi0) 1), (iX2 xi0), (iX3 xi0), (iX4 xi0), (iX5 xi0), (iX6 xi0), (iX7 xi0), (putM (.mk (iX8 xi0) (iX9 xi0)) (iX1 xi0) 1).1, (putM (.mk (iX8 xi0) (iX9 xi0)) (iX1 xi0) 1).2] [])) (.no 98)) (.br (isX (iX1 xi0)) (.leaf (.again [(iX0 xi0), (iAdd .i64 (iX1 xi0) 1), (iX2 xi0), (iX3 xi0), (iX4 xi0), (iX5 xi0), (iX6 xi0), (iX7 xi0), (putM (.mk (iX8 xi0) (iX9 xi0)) (iX1 xi0) 2).1, (putM (.mk (iX8 xi0) (iX9 xi0)) (iX1 xi0) 2).2] [])) (.no 98))) (.br (isX (iX1 xi0)) (.leaf (.again [(iX0 xi0), (iAdd .i64 (iX1 xi0) 1), (iX2 xi0), (iX3 xi0), (iX4 xi0), (iX5 xi0), (iX6 xi0), (iX7 xi0), (putM (.mk (iX8 xi0) (iX9 xi0)) (iX1 xi0) 2).1, (putM (.mk (iX8 xi0) (iX9 xi0)) (iX1 xi0) 2).2] [])) (.no 98))))) (.br (iEq (iX0 xi0) 2) (.br (iEq (bitM (.mk (iX2 xi0) (iX3 xi0)) (iX1 xi0)) 1) (.br (isX (iX1 xi0)) (.leaf (.again [(iX0 xi0), (iAdd .i64 (iX1 xi0) 1), (iX2 xi0), (iX3 xi0), (iX4 xi0), (iX5 xi0), (iX6 xi0), (iX7 xi0), (putM (.mk (iX8 xi0) (iX9 xi0)) (iX1 xi0) 1).1, (putM (.mk (iX8 xi0) (iX9 xi0)) (iX1 xi0) 1).2] [])) (.no 98)) (.br (iEq (bitM (.mk (iX4 xi0) (iX5 xi0)) (iX1 xi0)) 1) (.br (isX (iX1 xi0)) (.leaf (.again [(iX0 xi0), (iAdd .i64 (iX1 xi0) 1), (iX2 xi0), (iX3 xi0), (iX4 xi0), (iX5 xi0), (iX6 xi0), (iX7 xi0), (putM (.mk (iX8 xi0) (iX9 xi0)) (iX1 xi0) 1).1, (putM (.mk (iX8 xi0) (iX9 xi0)) (iX1 xi0) 1).2] [])) (.no 98)) (.br (iEq (bitM (.mk (iX2 xi0) (iX3 xi0)) (iX1 xi0)) 0) (.br (iEq (bitM (.mk (iX4 xi0) (iX5 xi0)) (iX1 xi0)) 0) (.br (isX (iX1 xi0)) (.leaf (.again [(iX0 xi0), (iAdd .i64 (iX1 xi0) 1), (iX2 xi0), (iX3 xi0), (iX4 xi0), (iX5 xi0), (iX6 xi0), (iX7 xi0), (putM (.mk (iX8 xi0) (iX9 xi0)) (iX1 xi0) 0).1, (putM (.mk (iX8 xi0) (iX9 xi0)) (iX1 xi0) 0).2] [])) (.no 98)) (.br (isX (iX1 xi0)) (.leaf (.again [(iX0 xi0), (iAdd .i64 (iX1 xi0) 1), (iX2 xi0), (iX3 xi0), (iX4 xi0), (iX5 xi0), (iX6 xi0), (iX7 xi0), (putM (.mk (iX8 xi0) (iX9 xi0)) (iX1 xi0) 2).1, (putM (.mk (iX8 xi0) (iX9 xi0)) (iX1 xi0) 2).2] [])) (.no 98))) (.br (isX (iX1 xi0)) (.leaf (.again [(iX0 xi0), (iAdd .i64 (iX1 xi0) 1), (iX2 xi0), (iX3 xi0), (iX4 xi0), (iX5 xi0), (iX6 xi0), (iX7 xi0), (putM (.mk (iX8 xi0) (iX9 xi0)) (iX1 xi0) 2).1, (putM (.mk (iX8 xi0) (iX9 xi0)) (iX1 xi0) 2).2] [])) (.no 98))))) (.br (iEq (iX0 xi0) 3) (.br (iNe (bitM (.mk (iX2 xi0) (iX3 xi0)) (iX1 xi0)) 2) (.br (iNe (bitM (.mk (iX4 xi0) (iX5 xi0)) (iX1 xi0)) 2) (.br (isX (iX1 xi0)) (.leaf (.again [(iX0 xi0), (iAdd .i64 (iX1 xi0) 1), (iX2 xi0), (iX3 xi0), (iX4 xi0), (iX5 xi0), (iX6 xi0), (iX7 xi0), (putM (.mk (iX8 xi0) (iX9 xi0)) (iX1 xi0) (iBit .xor .i64 (bitM (.mk (iX2 xi0) (iX3 xi0)) (iX1 xi0)) (bitM (.mk (iX4 xi0) (iX5 xi0)) (iX1 xi0)))).1, (putM (.mk (iX8 xi0) (iX9 xi0)) (iX1 xi0) (iBit .xor .i64 (bitM (.mk (iX2 xi0) (iX3 xi0)) (iX1 xi0)) (bitM (.mk (iX4 xi0) (iX5 xi0)) (iX1 xi0)))).2] [])) (.no 98)) (.br (isX (iX1 xi0)) (.leaf (.again [(iX0 xi0), (iAdd .i64 (iX1 xi0) 1), (iX2 xi0), (iX3 xi0), (iX4 xi0), (iX5 xi0), (iX6 xi0), (iX7 xi0), (putM (.mk (iX8 xi0) (iX9 xi0)) (iX1 xi0) 2).1, (putM (.mk (iX8 xi0) (iX9 xi0)) (iX1 xi0) 2).2] [])) (.no 98))) (.br (isX (iX1 xi0)) (.leaf (.again [(iX0 xi0), (iAdd .i64 (iX1 xi0) 1), (iX2 xi0), (iX3 xi0), (iX4 xi0), (iX5 xi0), (iX6 xi0), (iX7 xi0), (putM (.mk (iX8 xi0) (iX9 xi0)) (iX1 xi0) 2).1, (putM (.mk (iX8 xi0) (iX9 xi0)) (iX1 xi0) 2).2] [])) (.no 98))) (.br (isX (iX1 xi0)) (.leaf (.again [(iX0 xi0), (iAdd .i64 (iX1 xi0) 1), (iX2 xi0), (iX3 xi0), (iX4 xi0), (iX5 xi0), (iX6 xi0), (iX7 xi0), (putM (.mk (iX8 xi0) (iX9 xi0)) (iX1 xi0) 2).1, (putM (.mk (iX8 xi0) (iX9 xi0)) (iX1 xi0) 2).2] [])) (.no 98)))))) (.no 98)) (.no 98)) (.no 98)) (.no 98)) (.no 98)) (.no 98)) (.leaf (.up (.val (.u (.agg [(.si .u64 (iX8 xi0)), (.si .u64 (iX9 xi0))]))))))))) (by kernel_rfl) ρ rfl ?_ w
  · have hp : TM p := (tMay_iff ⟨hb0, hb1⟩).1 hb4
    have hq : TM q := (tMay_iff ⟨hb2, hb3⟩).1 hb5
    refine all_lp (BitsI 3 (fXor p q) p q) mI1 bitsI_start ?_
    rintro yi yb j ⟨i, t, rfl, hr, hB⟩
    simp only [iX0, iX1, iX2, iX3, iX4, iX5, iX6, iX7, iX8, iX9, iX10, iX11, iX12, hdI, tlI, hdB, tlB]
    refine brs2 (fun k1 => ?_) (fun k1 => ?_)
    · refine askS (by first | assumption | exact hp.1.1 | exact hp.1.2 | exact hq.1.1 | exact hq.1.2) ?_
      refine askS (by first | assumption | exact hp.1.1 | exact hp.1.2 | exact hq.1.1 | exact hq.1.2) ?_
      refine askS (isX_iff.2 ⟨hr.1, lt_t.1 k1⟩) ?_
      refine askS (by first | assumption | exact hp.1.1 | exact hp.1.2 | exact hq.1.1 | exact hq.1.2) ?_
      refine askS (by first | assumption | exact hp.1.1 | exact hp.1.2 | exact hq.1.1 | exact hq.1.2) ?_
      refine askS (isX_iff.2 ⟨hr.1, lt_t.1 k1⟩) ?_
      iterate 3 (refine brsF (by decide) ?_)
      refine brsT (by decide) ?_
      refine brs2 (fun k2 => ?_) (fun k2 => ?_)
      · refine brs2 (fun k3 => ?_) (fun k3 => ?_)
        · refine askS (isX_iff.2 ⟨hr.1, lt_t.1 k1⟩) ?_
          have hi : isX i = true := isX_iff.2 ⟨hr.1, lt_t.1 k1⟩
          have c0 : ¬ (bitM p i) = 2 := ne_t.1 k2
          have c1 : ¬ (bitM q i) = 2 := ne_t.1 k3
          refine bitsI_next hi hB ?_
          unfold fXor; rw [nat_i hi]
          have bp := bitM_cases p i
          have bq := bitM_cases q i
          first | (rw [if_pos (by omega)]; done) | (rw [if_pos (by omega)]; rfl) | (rw [if_neg (by omega)]; done) | (rw [if_neg (by omega), if_pos (by omega)]) | (rw [if_neg (by omega), if_neg (by omega)])
        · refine askS (isX_iff.2 ⟨hr.1, lt_t.1 k1⟩) ?_
          have hi : isX i = true := isX_iff.2 ⟨hr.1, lt_t.1 k1⟩
          have c0 : ¬ (bitM p i) = 2 := ne_t.1 k2
          have c1 : (bitM q i) = 2 := ne_f.1 k3
          refine bitsI_next hi hB ?_
          unfold fXor; rw [nat_i hi]
          have bp := bitM_cases p i
          have bq := bitM_cases q i
          first | (rw [if_pos (by omega)]; done) | (rw [if_pos (by omega)]; rfl) | (rw [if_neg (by omega)]; done) | (rw [if_neg (by omega), if_pos (by omega)]) | (rw [if_neg (by omega), if_neg (by omega)])
      · refine askS (isX_iff.2 ⟨hr.1, lt_t.1 k1⟩) ?_
        have hi : isX i = true := isX_iff.2 ⟨hr.1, lt_t.1 k1⟩
        have c0 : (bitM p i) = 2 := ne_f.1 k2
        refine bitsI_next hi hB ?_
        unfold fXor; rw [nat_i hi]
        have bp := bitM_cases p i
        have bq := bitM_cases q i
        first | (rw [if_pos (by omega)]; done) | (rw [if_pos (by omega)]; rfl) | (rw [if_neg (by omega)]; done) | (rw [if_neg (by omega), if_pos (by omega)]) | (rw [if_neg (by omega), if_neg (by omega)])
    · have e := xor_fold hp hq (upTo_all (lt_f.1 k1)) hB
      show V.den ρ (.u (.agg [.si .u64 t.1, .si .u64 t.2])) = _
      rw [e]; try rfl
theorem t_rMeet (p : P2) (q : P2) (ρ : Nat → Nat) (w : World) : Calls Tryz.prog 96 (enV [.a [some .u64, some .u64], .a [some .u64, some .u64]] ([p.1, p.2, q.1, q.2], [])).toArray w fun e w' => e = .returned (V.den ρ (.u (.agg [.si .u64 (pMeet p q).1, .si .u64 (pMeet p q).2]))) ∧ Below w.heap.size w w' := by
  refine pure_to nameOK okn (dOK okn) 300 [.u (.agg [.si .u64 p.1, .si .u64 p.2]), .u (.agg [.si .u64 q.1, .si .u64 q.2])] (T := (.br (iLt p.2 p.1) (.leaf (.val (.u (.agg [(.li .u64 1), (.li .u64 0)])))) (.br (iLt q.2 q.1) (.leaf (.val (.u (.agg [(.li .u64 1), (.li .u64 0)])))) (.br (iLt (iMin2 p.2 q.2) (iMax2 p.1 q.1)) (.leaf (.val (.u (.agg [(.li .u64 1), (.li .u64 0)])))) (.leaf (.val (.u (.agg [(.si .u64 (iMax2 p.1 q.1)), (.si .u64 (iMin2 p.2 q.2))])))))))) (by kernel_rfl) ρ rfl ?_ w
  · refine br2 (fun k1 => ?_) (fun k1 => ?_)
    · have q0 := lt_t.1 k1
      try simp only [max_d, min_d] at *
      have e : pMeet p q = ⟨1, 0⟩ := by unfold pMeet; rw [if_pos (by omega)]
      simp only [Tr.all]; rw [e]; try rfl
    · refine br2 (fun k2 => ?_) (fun k2 => ?_)
      · have q0 := lt_f.1 k1
        have q1 := lt_t.1 k2
        try simp only [max_d, min_d] at *
        have e : pMeet p q = ⟨1, 0⟩ := by unfold pMeet; rw [if_pos (by omega)]
        simp only [Tr.all]; rw [e]; try rfl
      · refine br2 (fun k3 => ?_) (fun k3 => ?_)
        · have q0 := lt_f.1 k1
          have q1 := lt_f.1 k2
          have q2 := lt_t.1 k3
          try simp only [max_d, min_d] at *
          have e : pMeet p q = ⟨1, 0⟩ := by unfold pMeet; rw [if_pos (by omega)]
          simp only [Tr.all]; rw [e]; try rfl
        · have q0 := lt_f.1 k1
          have q1 := lt_f.1 k2
          have q2 := lt_f.1 k3
          try simp only [max_d, min_d] at *
          have e : pMeet p q = ⟨max p.lo q.lo, min p.hi q.hi⟩ := by unfold pMeet; rw [if_neg (by omega)]
          simp only [Tr.all]; (try simp only [max_d, min_d]); rw [e]; try rfl
def s_rMeet : Sum := bySum 96 [.a [some .u64, some .u64], .a [some .u64, some .u64]] fun
  | [a0, a1, a2, a3], [] => some ([], .u (.agg [.si .u64 (pMeet (P2.mk a0 a1) (P2.mk a2 a3)).1, .si .u64 (pMeet (P2.mk a0 a1) (P2.mk a2 a3)).2]))
  | _, _ => none
theorem s_rMeet_ok : SumOK Tryz.prog s_rMeet := by
  refine bySum_ok ⟨_, Tryz.func96, by kernel_rfl⟩ ?_
  intro ns os bs r hm hb ρ w
  split at hm
  · rename_i a0 a1 a2 a3
    cases hm
    exact t_rMeet (P2.mk a0 a1) (P2.mk a2 a3) ρ w
  · cases hm
theorem t_rCut (p : P2) (q : P2) (ρ : Nat → Nat) (w : World) : Calls Tryz.prog 97 (enV [.a [some .i64, some .i64], .a [some .i64, some .i64]] ([p.1, p.2, q.1, q.2], [])).toArray w fun e w' => e = .returned (V.den ρ (.u (.agg [.si .i64 (pMeet p q).1, .si .i64 (pMeet p q).2]))) ∧ Below w.heap.size w w' := by
  refine pure_to nameOK okn (dOK okn) 300 [.u (.agg [.si .i64 p.1, .si .i64 p.2]), .u (.agg [.si .i64 q.1, .si .i64 q.2])] (T := (.br (iLt p.2 p.1) (.leaf (.val (.u (.agg [(.li .i64 1), (.li .i64 0)])))) (.br (iLt q.2 q.1) (.leaf (.val (.u (.agg [(.li .i64 1), (.li .i64 0)])))) (.br (iLt (iMin2 p.2 q.2) (iMax2 p.1 q.1)) (.leaf (.val (.u (.agg [(.li .i64 1), (.li .i64 0)])))) (.leaf (.val (.u (.agg [(.si .i64 (iMax2 p.1 q.1)), (.si .i64 (iMin2 p.2 q.2))])))))))) (by kernel_rfl) ρ rfl ?_ w
  · refine br2 (fun k1 => ?_) (fun k1 => ?_)
    · have q0 := lt_t.1 k1
      try simp only [max_d, min_d] at *
      have e : pMeet p q = ⟨1, 0⟩ := by unfold pMeet; rw [if_pos (by omega)]
      simp only [Tr.all]; rw [e]; try rfl
    · refine br2 (fun k2 => ?_) (fun k2 => ?_)
      · have q0 := lt_f.1 k1
        have q1 := lt_t.1 k2
        try simp only [max_d, min_d] at *
        have e : pMeet p q = ⟨1, 0⟩ := by unfold pMeet; rw [if_pos (by omega)]
        simp only [Tr.all]; rw [e]; try rfl
      · refine br2 (fun k3 => ?_) (fun k3 => ?_)
        · have q0 := lt_f.1 k1
          have q1 := lt_f.1 k2
          have q2 := lt_t.1 k3
          try simp only [max_d, min_d] at *
          have e : pMeet p q = ⟨1, 0⟩ := by unfold pMeet; rw [if_pos (by omega)]
          simp only [Tr.all]; rw [e]; try rfl
        · have q0 := lt_f.1 k1
          have q1 := lt_f.1 k2
          have q2 := lt_f.1 k3
          try simp only [max_d, min_d] at *
          have e : pMeet p q = ⟨max p.lo q.lo, min p.hi q.hi⟩ := by unfold pMeet; rw [if_neg (by omega)]
          simp only [Tr.all]; (try simp only [max_d, min_d]); rw [e]; try rfl
def s_rCut : Sum := bySum 97 [.a [some .i64, some .i64], .a [some .i64, some .i64]] fun
  | [a0, a1, a2, a3], [] => some ([], .u (.agg [.si .i64 (pMeet (P2.mk a0 a1) (P2.mk a2 a3)).1, .si .i64 (pMeet (P2.mk a0 a1) (P2.mk a2 a3)).2]))
  | _, _ => none
theorem s_rCut_ok : SumOK Tryz.prog s_rCut := by
  refine bySum_ok ⟨_, Tryz.func97, by kernel_rfl⟩ ?_
  intro ns os bs r hm hb ρ w
  split at hm
  · rename_i a0 a1 a2 a3
    cases hm
    exact t_rCut (P2.mk a0 a1) (P2.mk a2 a3) ρ w
  · cases hm
theorem t_rSign (p : P2) (hb0 : isU p.1 = true) (hb1 : isU p.2 = true) (ρ : Nat → Nat) (w : World) : Calls Tryz.prog 99 (enV [.a [some .u64, some .u64]] ([p.1, p.2], [])).toArray w fun e w' => e = .returned (V.den ρ (.u (.agg [.si .i64 (pSign p).1, .si .i64 (pSign p).2]))) ∧ Below w.heap.size w w' := by
  have e : pSign p = ⟨L04.mSign1 p.lo p.hi, L04.mSign2 p.lo p.hi⟩ := by unfold pSign L04.mSign1 L04.mSign2 L04.mSign; (repeat' split) <;> rfl
  have h := L04.t_rSign p.lo p.hi (isU_iff.1 hb0) (isU_iff.1 hb1) ρ w
  rw [e]
  exact h
def s_rSign : Sum := bySum 99 [.a [some .u64, some .u64]] fun
  | [a0, a1], [] => some ([isU (P2.mk a0 a1).1, isU (P2.mk a0 a1).2], .u (.agg [.si .i64 (pSign (P2.mk a0 a1)).1, .si .i64 (pSign (P2.mk a0 a1)).2]))
  | _, _ => none
theorem s_rSign_ok : SumOK Tryz.prog s_rSign := by
  refine bySum_ok ⟨_, Tryz.func99, by kernel_rfl⟩ ?_
  intro ns os bs r hm hb ρ w
  split at hm
  · rename_i a0 a1
    cases hm
    exact t_rSign (P2.mk a0 a1) (hb _ (by simp)) (hb _ (by simp)) ρ w
  · cases hm
theorem t_rBare (p : P2) (hb0 : isI p.1 = true) (hb1 : isI p.2 = true) (ρ : Nat → Nat) (w : World) : Calls Tryz.prog 100 (enV [.a [some .i64, some .i64]] ([p.1, p.2], [])).toArray w fun e w' => e = .returned (V.den ρ (.u (.agg [.si .u64 (pBare p).1, .si .u64 (pBare p).2]))) ∧ Below w.heap.size w w' := by
  have e : pBare p = ⟨L04.mBare1 p.lo p.hi, L04.mBare2 p.lo p.hi⟩ := by unfold pBare L04.mBare1 L04.mBare2 L04.mBare; (repeat' split) <;> rfl
  have h := L04.t_rBare p.lo p.hi (isI_iff.1 hb0) (isI_iff.1 hb1) ρ w
  rw [e]
  exact h
def s_rBare : Sum := bySum 100 [.a [some .i64, some .i64]] fun
  | [a0, a1], [] => some ([isI (P2.mk a0 a1).1, isI (P2.mk a0 a1).2], .u (.agg [.si .u64 (pBare (P2.mk a0 a1)).1, .si .u64 (pBare (P2.mk a0 a1)).2]))
  | _, _ => none
theorem s_rBare_ok : SumOK Tryz.prog s_rBare := by
  refine bySum_ok ⟨_, Tryz.func100, by kernel_rfl⟩ ?_
  intro ns os bs r hm hb ρ w
  split at hm
  · rename_i a0 a1
    cases hm
    exact t_rBare (P2.mk a0 a1) (hb _ (by simp)) (hb _ (by simp)) ρ w
  · cases hm
theorem t_rsign (x : Int) (hb0 : isU x = true) (ρ : Nat → Nat) (w : World) : Calls Tryz.prog 104 (enV [.s (some .u64)] ([x], [])).toArray w fun e w' => e = .returned (V.den ρ (.u (.c (.si .i64 (sg32 x))))) ∧ Below w.heap.size w w' := by
  refine pure_to nameOK okn (dOK okn) 300 [.u (.c (.si .u64 x))] (T := (.br (iGe (iRem x 4294967296) 2147483648) (.leaf (.val (.u (.c (.si .i64 (iSub .i64 (iConv .i64 (iRem x 4294967296)) 4294967296)))))) (.leaf (.val (.u (.c (.si .i64 (iConv .i64 (iRem x 4294967296))))))))) (by kernel_rfl) ρ rfl ?_ w
  · refine br2 (fun k1 => ?_) (fun k1 => ?_)
    · have x0 := isU_iff.1 hb0
      have q := ge_t.1 k1
      rw [rem_p hb0] at q
      have e : iSub .i64 (iConv .i64 (iRem x 4294967296)) 4294967296 = sg32 x := by rw [rem_p hb0, sub_i, conv_i]; unfold sg32; rw [if_neg (by omega)]; omega
      simp only [Tr.all]; rw [e]; try rfl
    · have x0 := isU_iff.1 hb0
      have q := ge_f.1 k1
      rw [rem_p hb0] at q
      have e : iConv .i64 (iRem x 4294967296) = sg32 x := by rw [rem_p hb0, conv_i]; unfold sg32; rw [if_pos (by omega)]; omega
      simp only [Tr.all]; rw [e]; try rfl
def s_rsign : Sum := bySum 104 [.s (some .u64)] fun
  | [a0], [] => some ([isU a0], .u (.c (.si .i64 (sg32 a0))))
  | _, _ => none
theorem s_rsign_ok : SumOK Tryz.prog s_rsign := by
  refine bySum_ok ⟨_, Tryz.func104, by kernel_rfl⟩ ?_
  intro ns os bs r hm hb ρ w
  split at hm
  · rename_i a0
    cases hm
    exact t_rsign a0 (hb _ (by simp)) ρ w
  · cases hm
theorem t_rends (t : P2) (hb0 : isU t.1 = true) (hb1 : isU t.2 = true) (ρ : Nat → Nat) (w : World) : Calls Tryz.prog 98 (enV [.a [some .u64, some .u64]] ([t.1, t.2], [])).toArray w fun e w' => e = .returned (V.den ρ (.u (.agg [.si .i64 (endsM t).1, .si .i64 (endsM t).2]))) ∧ Below w.heap.size w w' := by
  refine pure_to nameOK okn (dOK okn) 300 [.u (.agg [.si .u64 t.1, .si .u64 t.2])] (T := (.leaf (.val (.u (.agg [(.si .i64 (iConv .i64 (iBit .or .u64 t.1 (iBit .and .u64 t.2 9223372036854775808)))), (.si .i64 (iConv .i64 (iBit .or .u64 t.1 (iBit .andNot .u64 t.2 9223372036854775808))))]))))) (by kernel_rfl) ρ rfl ?_ w
  · simp only [Tr.all]; rfl
def s_rends : Sum := bySum 98 [.a [some .u64, some .u64]] fun
  | [a0, a1], [] => some ([isU (P2.mk a0 a1).1, isU (P2.mk a0 a1).2], .u (.agg [.si .i64 (endsM (P2.mk a0 a1)).1, .si .i64 (endsM (P2.mk a0 a1)).2]))
  | _, _ => none
theorem s_rends_ok : SumOK Tryz.prog s_rends := by
  refine bySum_ok ⟨_, Tryz.func98, by kernel_rfl⟩ ?_
  intro ns os bs r hm hb ρ w
  split at hm
  · rename_i a0 a1
    cases hm
    exact t_rends (P2.mk a0 a1) (hb _ (by simp)) (hb _ (by simp)) ρ w
  · cases hm
theorem t_rhalf (t : P2) (hb0 : isU t.1 = true) (hb1 : isU t.2 = true) (hb2 : tMay t = true) (ρ : Nat → Nat) (w : World) : Calls Tryz.prog 103 (enV [.a [some .u64, some .u64]] ([t.1, t.2], [])).toArray w fun e w' => e = .returned (V.den ρ (.u (.agg [.si .i64 (halfM t).1, .si .i64 (halfM t).2]))) ∧ Below w.heap.size w w' := by
  refine pure_to nameOK (okc s_rLowT_ok (okc s_rsign_ok okn)) (dOK (okc s_rLowT_ok (okc s_rsign_ok okn))) 300 [.u (.agg [.si .u64 t.1, .si .u64 t.2])] (T := (.br (isU t.1) (.br (isU t.2) (.br (tMay t) (.br (isN 32) (.br (isU (iBit .or .u64 (tLowN t 32).1 (iBit .and .u64 (tLowN t 32).2 2147483648))) (.br (isU (iBit .or .u64 (tLowN t 32).1 (iBit .andNot .u64 (tLowN t 32).2 2147483648))) (.leaf (.val (.u (.agg [(.si .i64 (sg32 (iBit .or .u64 (tLowN t 32).1 (iBit .and .u64 (tLowN t 32).2 2147483648)))), (.si .i64 (sg32 (iBit .or .u64 (tLowN t 32).1 (iBit .andNot .u64 (tLowN t 32).2 2147483648))))])))) (.no 98)) (.no 98)) (.no 98)) (.no 98)) (.no 98)) (.no 98))) (by kernel_rfl) ρ rfl ?_ w
  · have ht : TM t := (tMay_iff ⟨hb0, hb1⟩).1 hb2
    have hl := lowN_uu ht.1 32
    have g1 : isU (iBit .or .u64 (tLowN t 32).1 (iBit .and .u64 (tLowN t 32).2 2147483648)) = true := or_u hl.1 (and_u hl.2 top32)
    have g2 : isU (iBit .or .u64 (tLowN t 32).1 (iBit .andNot .u64 (tLowN t 32).2 2147483648)) = true := or_u hl.1 (not_u hl.2 top32)
    have e : halfM t = ⟨sg32 (iBit .or .u64 (tLowN t 32).1 (iBit .and .u64 (tLowN t 32).2 2147483648)), sg32 (iBit .or .u64 (tLowN t 32).1 (iBit .andNot .u64 (tLowN t 32).2 2147483648))⟩ := by unfold halfM orU andU notU; exact Eq.refl _
    iterate 6 (refine askB (by first | with_reducible assumption | decide) ?_)
    simp only [Tr.all]; rw [e]
def s_rhalf : Sum := bySum 103 [.a [some .u64, some .u64]] fun
  | [a0, a1], [] => some ([isU (P2.mk a0 a1).1, isU (P2.mk a0 a1).2, tMay (P2.mk a0 a1)], .u (.agg [.si .i64 (halfM (P2.mk a0 a1)).1, .si .i64 (halfM (P2.mk a0 a1)).2]))
  | _, _ => none
theorem s_rhalf_ok : SumOK Tryz.prog s_rhalf := by
  refine bySum_ok ⟨_, Tryz.func103, by kernel_rfl⟩ ?_
  intro ns os bs r hm hb ρ w
  split at hm
  · rename_i a0 a1
    cases hm
    exact t_rhalf (P2.mk a0 a1) (hb _ (by simp)) (hb _ (by simp)) (hb _ (by simp)) ρ w
  · cases hm
theorem t_rBNone (b : Bd) (ρ : Nat → Nat) (w : World) : Calls Tryz.prog 32 (enV [.a [some .u64, some .u64, some .u64, some .u64, some .i64, some .i64, some .u64, some .u64, some .i64, some .i64]] ([b.1.1, b.1.2, b.2.1, b.2.2, b.3.1, b.3.2, b.4.1, b.4.2, b.5.1, b.5.2], [])).toArray w fun e w' => e = .returned (V.den ρ (.u (.c (.sb (bNone b))))) ∧ Below w.heap.size w w' := by
  refine pure_to nameOK okn (dOK okn) 300 [.u (.agg (cB b))] (T := (.br (iLt b.2.2 b.2.1) (.leaf (.val (.u (.c (.lb true))))) (.br (iLt b.4.2 b.4.1) (.leaf (.val (.u (.c (.lb true))))) (.br (iLt b.3.2 b.3.1) (.leaf (.val (.u (.c (.lb true))))) (.leaf (.val (.u (.c (.sb (iLt b.5.2 b.5.1)))))))))) (by kernel_rfl) ρ rfl ?_ w
  · refine br2 (fun k1 => ?_) (fun k1 => ?_)
    · have q0 := lt_t.1 k1
      have e : bNone b = true := none_t.2 (by omega)
      simp only [Tr.all]; rw [e]; try rfl
    · refine br2 (fun k2 => ?_) (fun k2 => ?_)
      · have q0 := lt_f.1 k1
        have q1 := lt_t.1 k2
        have e : bNone b = true := none_t.2 (by omega)
        simp only [Tr.all]; rw [e]; try rfl
      · refine br2 (fun k3 => ?_) (fun k3 => ?_)
        · have q0 := lt_f.1 k1
          have q1 := lt_f.1 k2
          have q2 := lt_t.1 k3
          have e : bNone b = true := none_t.2 (by omega)
          simp only [Tr.all]; rw [e]; try rfl
        · have q0 := lt_f.1 k1
          have q1 := lt_f.1 k2
          have q2 := lt_f.1 k3
          have e : iLt b.5.2 b.5.1 = bNone b := by rw [Bool.eq_iff_iff, lt_t, none_t]; omega
          simp only [Tr.all]; rw [e]; try rfl
def s_rBNone : Sum := bySum 32 [.a [some .u64, some .u64, some .u64, some .u64, some .i64, some .i64, some .u64, some .u64, some .i64, some .i64]] fun
  | [a0, a1, a2, a3, a4, a5, a6, a7, a8, a9], [] => some ([], .u (.c (.sb (bNone (Bd.mk (P2.mk a0 a1) (P2.mk a2 a3) (P2.mk a4 a5) (P2.mk a6 a7) (P2.mk a8 a9))))))
  | _, _ => none
theorem s_rBNone_ok : SumOK Tryz.prog s_rBNone := by
  refine bySum_ok ⟨_, Tryz.func32, by kernel_rfl⟩ ?_
  intro ns os bs r hm hb ρ w
  split at hm
  · rename_i a0 a1 a2 a3 a4 a5 a6 a7 a8 a9
    cases hm
    exact t_rBNone (Bd.mk (P2.mk a0 a1) (P2.mk a2 a3) (P2.mk a4 a5) (P2.mk a6 a7) (P2.mk a8 a9)) ρ w
  · cases hm
theorem t_rround (b : Bd) (hb0 : invB b = true) (ρ : Nat → Nat) (w : World) : Calls Tryz.prog 35 (enV [.a [some .u64, some .u64, some .u64, some .u64, some .i64, some .i64, some .u64, some .u64, some .i64, some .i64]] ([b.1.1, b.1.2, b.2.1, b.2.2, b.3.1, b.3.2, b.4.1, b.4.2, b.5.1, b.5.2], [])).toArray w fun e w' => e = .returned (V.den ρ (.tup [.agg (cB ((rndR b).1)), .c (.sb ((rndR b).2))])) ∧ Below w.heap.size w w' := by
  refine pure_to nameOK (okc s_rMeet_ok (okc s_rends_ok (okc s_rCut_ok (okc s_rSign_ok (okc s_rBare_ok (okc s_rBNone_ok (okc s_rRange_ok (okc s_rMeetT_ok (okc s_rLowT_ok (okc s_rhalf_ok (okc s_rsign_ok okn))))))))))) (dOK (okc s_rMeet_ok (okc s_rends_ok (okc s_rCut_ok (okc s_rSign_ok (okc s_rBare_ok (okc s_rBNone_ok (okc s_rRange_ok (okc s_rMeetT_ok (okc s_rLowT_ok (okc s_rhalf_ok (okc s_rsign_ok okn)))))))))))) 300 [.u (.agg (cB b))] (T := T1 b) (by kernel_rfl) ρ rfl ?_ w
  exact T1_all (invB_iff.1 hb0)
def s_rround : Sum := bySum 35 [.a [some .u64, some .u64, some .u64, some .u64, some .i64, some .i64, some .u64, some .u64, some .i64, some .i64]] fun
  | [a0, a1, a2, a3, a4, a5, a6, a7, a8, a9], [] => some ([invB (Bd.mk (P2.mk a0 a1) (P2.mk a2 a3) (P2.mk a4 a5) (P2.mk a6 a7) (P2.mk a8 a9))], .tup [.agg (cB ((rndR (Bd.mk (P2.mk a0 a1) (P2.mk a2 a3) (P2.mk a4 a5) (P2.mk a6 a7) (P2.mk a8 a9))).1)), .c (.sb ((rndR (Bd.mk (P2.mk a0 a1) (P2.mk a2 a3) (P2.mk a4 a5) (P2.mk a6 a7) (P2.mk a8 a9))).2))])
  | _, _ => none
theorem s_rround_ok : SumOK Tryz.prog s_rround := by
  refine bySum_ok ⟨_, Tryz.func35, by kernel_rfl⟩ ?_
  intro ns os bs r hm hb ρ w
  split at hm
  · rename_i a0 a1 a2 a3 a4 a5 a6 a7 a8 a9
    cases hm
    exact t_rround (Bd.mk (P2.mk a0 a1) (P2.mk a2 a3) (P2.mk a4 a5) (P2.mk a6 a7) (P2.mk a8 a9)) (hb _ (by simp)) ρ w
  · cases hm
theorem oks_L05X_0 : ∀ q ∈ [s_rBNone, s_rMay, s_rround], SumOK Tryz.prog q := (okc s_rBNone_ok (okc s_rMay_ok (okc s_rround_ok okn)))
theorem t_rsync (b : Bd) (hb0 : isU b.1.1 = true) (hb1 : isU b.1.2 = true) (hb2 : isU b.2.1 = true) (hb3 : isU b.2.2 = true) (hb4 : isI b.3.1 = true) (hb5 : isI b.3.2 = true) (hb6 : isU b.4.1 = true) (hb7 : isU b.4.2 = true) (hb8 : isI b.5.1 = true) (hb9 : isI b.5.2 = true) (ρ : Nat → Nat) (w : World) : Calls Tryz.prog 10 (enV [.a [some .u64, some .u64, some .u64, some .u64, some .i64, some .i64, some .u64, some .u64, some .i64, some .i64]] ([b.1.1, b.1.2, b.2.1, b.2.2, b.3.1, b.3.2, b.4.1, b.4.2, b.5.1, b.5.2], [])).toArray w fun e w' => e = .returned (V.den ρ (.u (.agg (cB (sync b))))) ∧ Below w.heap.size w w' := by
  refine pure_to nameOK oks_L05X_0 (dOK oks_L05X_0) 300 [.u (.agg (cB b))] (T := (.br (bNone b) (.leaf (.val (.u (.agg cN)))) (.br (bNot (tMay b.1)) (.leaf (.val (.u (.agg cN)))) (.br (iGt b.4.2 4294967295) (.leaf (.val (.u (.agg cN)))) (.br (iLt b.5.1 (-2147483648)) (.leaf (.val (.u (.agg cN)))) (.br (iGt b.5.2 2147483647) (.leaf (.val (.u (.agg cN)))) (.br (invB b) (.br (bNot (rndR b).2) (.leaf (.val (.u (.agg cN)))) (.br (invB (rndR b).1) (.br (bNot (rndR (rndR b).1).2) (.leaf (.val (.u (.agg cN)))) (.br (invB (rndR (rndR b).1).1) (.br (bNot (rndR (rndR (rndR b).1).1).2) (.leaf (.val (.u (.agg cN)))) (.leaf (.val (.u (.agg (cB (rndR (rndR (rndR b).1).1).1)))))) (.no 98))) (.no 98))) (.no 98)))))))) (by kernel_rfl) ρ rfl ?_ w
  · have rb : Raw5 b := raw_of hb0 hb1 hb2 hb3 hb4 hb5 hb6 hb7 hb8 hb9
    refine br2 (fun k1 => ?_) (fun k1 => ?_)
    · have e : sync b = nothing := sync_no1 (may_not (.inl k1))
      simp only [Tr.all]; rw [e]; try rfl
    · refine brn2 (fun k2 => ?_) (fun k2 => ?_)
      · refine br2 (fun k3 => ?_) (fun k3 => ?_)
        · have e : sync b = nothing := sync_no1 (may_not (.inr (.inr (.inl (gt_t.1 k3)))))
          simp only [Tr.all]; rw [e]; try rfl
        · refine br2 (fun k4 => ?_) (fun k4 => ?_)
          · have e : sync b = nothing := sync_no1 (may_not (.inr (.inr (.inr (.inl (lt_t.1 k4))))))
            simp only [Tr.all]; rw [e]; try rfl
          · refine br2 (fun k5 => ?_) (fun k5 => ?_)
            · have e : sync b = nothing := sync_no1 (may_not (.inr (.inr (.inr (.inr (gt_t.1 k5))))))
              simp only [Tr.all]; rw [e]; try rfl
            · refine askB (invB_iff.2 (may_inv rb (may_parts rb k1 k2 (gt_f.1 k3) (lt_f.1 k4) (gt_f.1 k5))).1) ?_
              refine brn2 (fun k6 => ?_) (fun k6 => ?_)
              · refine askB (invB_iff.2 (rnd_inv (may_inv rb (may_parts rb k1 k2 (gt_f.1 k3) (lt_f.1 k4) (gt_f.1 k5))).1 k6)) ?_
                refine brn2 (fun k7 => ?_) (fun k7 => ?_)
                · refine askB (invB_iff.2 (rnd_inv (rnd_inv (may_inv rb (may_parts rb k1 k2 (gt_f.1 k3) (lt_f.1 k4) (gt_f.1 k5))).1 k6) k7)) ?_
                  refine brn2 (fun k8 => ?_) (fun k8 => ?_)
                  · have hm := may_parts rb k1 k2 (gt_f.1 k3) (lt_f.1 k4) (gt_f.1 k5)
                    have e := sync_steps hm (may_inv rb hm).1
                    rw [(k6 : _ = true)] at e
                    rw [(k7 : _ = true)] at e
                    rw [(k8 : _ = true)] at e
                    simp only [Tr.all]; rw [e]; try rfl
                  · have hm := may_parts rb k1 k2 (gt_f.1 k3) (lt_f.1 k4) (gt_f.1 k5)
                    have e := sync_steps hm (may_inv rb hm).1
                    rw [(k6 : _ = true)] at e
                    rw [(k7 : _ = true)] at e
                    rw [(k8 : _ = false)] at e
                    simp only [Tr.all]; rw [e]; try rfl
                · have hm := may_parts rb k1 k2 (gt_f.1 k3) (lt_f.1 k4) (gt_f.1 k5)
                  have e := sync_steps hm (may_inv rb hm).1
                  rw [(k6 : _ = true)] at e
                  rw [(k7 : _ = false)] at e
                  simp only [Tr.all]; rw [e]; try rfl
              · have hm := may_parts rb k1 k2 (gt_f.1 k3) (lt_f.1 k4) (gt_f.1 k5)
                have e := sync_steps hm (may_inv rb hm).1
                rw [(k6 : _ = false)] at e
                simp only [Tr.all]; rw [e]; try rfl
      · have e : sync b = nothing := sync_no1 (may_not (.inr (.inl k2)))
        simp only [Tr.all]; rw [e]; try rfl
def s_rsync : Sum := bySum 10 [.a [some .u64, some .u64, some .u64, some .u64, some .i64, some .i64, some .u64, some .u64, some .i64, some .i64]] fun
  | [a0, a1, a2, a3, a4, a5, a6, a7, a8, a9], [] => some ([isU (Bd.mk (P2.mk a0 a1) (P2.mk a2 a3) (P2.mk a4 a5) (P2.mk a6 a7) (P2.mk a8 a9)).1.1, isU (Bd.mk (P2.mk a0 a1) (P2.mk a2 a3) (P2.mk a4 a5) (P2.mk a6 a7) (P2.mk a8 a9)).1.2, isU (Bd.mk (P2.mk a0 a1) (P2.mk a2 a3) (P2.mk a4 a5) (P2.mk a6 a7) (P2.mk a8 a9)).2.1, isU (Bd.mk (P2.mk a0 a1) (P2.mk a2 a3) (P2.mk a4 a5) (P2.mk a6 a7) (P2.mk a8 a9)).2.2, isI (Bd.mk (P2.mk a0 a1) (P2.mk a2 a3) (P2.mk a4 a5) (P2.mk a6 a7) (P2.mk a8 a9)).3.1, isI (Bd.mk (P2.mk a0 a1) (P2.mk a2 a3) (P2.mk a4 a5) (P2.mk a6 a7) (P2.mk a8 a9)).3.2, isU (Bd.mk (P2.mk a0 a1) (P2.mk a2 a3) (P2.mk a4 a5) (P2.mk a6 a7) (P2.mk a8 a9)).4.1, isU (Bd.mk (P2.mk a0 a1) (P2.mk a2 a3) (P2.mk a4 a5) (P2.mk a6 a7) (P2.mk a8 a9)).4.2, isI (Bd.mk (P2.mk a0 a1) (P2.mk a2 a3) (P2.mk a4 a5) (P2.mk a6 a7) (P2.mk a8 a9)).5.1, isI (Bd.mk (P2.mk a0 a1) (P2.mk a2 a3) (P2.mk a4 a5) (P2.mk a6 a7) (P2.mk a8 a9)).5.2], .u (.agg (cB (sync (Bd.mk (P2.mk a0 a1) (P2.mk a2 a3) (P2.mk a4 a5) (P2.mk a6 a7) (P2.mk a8 a9))))))
  | _, _ => none
theorem s_rsync_ok : SumOK Tryz.prog s_rsync := by
  refine bySum_ok ⟨_, Tryz.func10, by kernel_rfl⟩ ?_
  intro ns os bs r hm hb ρ w
  split at hm
  · rename_i a0 a1 a2 a3 a4 a5 a6 a7 a8 a9
    cases hm
    exact t_rsync (Bd.mk (P2.mk a0 a1) (P2.mk a2 a3) (P2.mk a4 a5) (P2.mk a6 a7) (P2.mk a8 a9)) (hb _ (by simp)) (hb _ (by simp)) (hb _ (by simp)) (hb _ (by simp)) (hb _ (by simp)) (hb _ (by simp)) (hb _ (by simp)) (hb _ (by simp)) (hb _ (by simp)) (hb _ (by simp)) ρ w
  · cases hm
end Go.Proofs.YtafpbibpahjnhaaGreat.L05X
