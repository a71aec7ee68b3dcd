/- Layer 6: what the document's answer is shown to do. Printed by a program of the session's own (genb.py). -/
import Derived.Test.YtafpbibpahjnhaaGreatL05X
import Derived.Test.YtafpbibpahjnhaaGreatL06B
import Derived.Test.YtafpbibpahjnhaaGreatL06F
namespace Go.Proofs.YtafpbibpahjnhaaGreat.L06G
open Go Go.RowKit Go.Proofs.YtafpbibpahjnhaaGreat.Sx Go.Proofs.YtafpbibpahjnhaaGreat.L05 Go.Proofs.YtafpbibpahjnhaaGreat.L06 Go.Proofs.YtafpbibpahjnhaaGreat.L05X
set_option linter.unusedVariables false
set_option linter.unusedSimpArgs false
theorem oks_L06G_0 : ∀ q ∈ [s_rMeetT, s_rBNone, s_rMeet, s_rCut, s_rsync], SumOK Tryz.prog q := (okc s_rMeetT_ok (okc s_rBNone_ok (okc s_rMeet_ok (okc s_rCut_ok (okc s_rsync_ok okn)))))
theorem t_r5Meet (a : Bd) (b : Bd) (hb0 : invB a = true) (hb1 : invB b = true) (ρ : Nat → Nat) (w : World) : Calls Tryz.prog 191 (enV [.a [some .u64, some .u64, some .u64, some .u64, some .i64, some .i64, some .u64, some .u64, some .i64, some .i64], .a [some .u64, some .u64, some .u64, some .u64, some .i64, some .i64, some .u64, some .u64, some .i64, some .i64]] ([a.1.1, a.1.2, a.2.1, a.2.2, a.3.1, a.3.2, a.4.1, a.4.2, a.5.1, a.5.2, b.1.1, b.1.2, b.2.1, b.2.2, b.3.1, b.3.2, b.4.1, b.4.2, b.5.1, b.5.2], [])).toArray w fun e w' => e = .returned (V.den ρ (.u (.agg (cB (meet5 a b))))) ∧ Below w.heap.size w w' := by
  refine pure_to nameOK oks_L06G_0 (dOK oks_L06G_0) 300 [.u (.agg (cB a)), .u (.agg (cB b))] (T := (.br (isU a.1.1) (.br (isU a.1.2) (.br (isU b.1.1) (.br (isU b.1.2) (.br (tMay a.1) (.br (tMay b.1) (.br (bNone a) (.leaf (.val (.u (.agg cN)))) (.br (bNone b) (.leaf (.val (.u (.agg cN)))) (.br (bNot (tMeetIs a.1 b.1)) (.leaf (.val (.u (.agg cN)))) (.br (isU (tMeet a.1 b.1).1) (.br (isU (tMeet a.1 b.1).2) (.br (isU (pMeet a.2 b.2).1) (.br (isU (pMeet a.2 b.2).2) (.br (isI (pMeet a.3 b.3).1) (.br (isI (pMeet a.3 b.3).2) (.br (isU (pMeet a.4 b.4).1) (.br (isU (pMeet a.4 b.4).2) (.br (isI (pMeet a.5 b.5).1) (.br (isI (pMeet a.5 b.5).2) (.leaf (.val (.u (.agg (cB (sync (.mk (tMeet a.1 b.1) (pMeet a.2 b.2) (pMeet a.3 b.3) (pMeet a.4 b.4) (pMeet a.5 b.5)))))))) (.no 98)) (.no 98)) (.no 98)) (.no 98)) (.no 98)) (.no 98)) (.no 98)) (.no 98)) (.no 98)) (.no 98))))) (.no 98)) (.no 98)) (.no 98)) (.no 98)) (.no 98)) (.no 98))) (by kernel_rfl) ρ rfl ?_ w
  · have ia : Inv5 a := invB_iff.1 hb0
    have ib : Inv5 b := invB_iff.1 hb1
    refine askB (ia.t.1.1) ?_
    refine askB (ia.t.1.2) ?_
    refine askB (ib.t.1.1) ?_
    refine askB (ib.t.1.2) ?_
    refine askB ((tMay_iff ia.t.1).2 ia.t) ?_
    refine askB ((tMay_iff ib.t.1).2 ib.t) ?_
    refine br2 (fun k1 => ?_) (fun k1 => ?_)
    · have e : meet5 a b = nothing := by simp only [meet5, (k1 : (bNone a) = true), Bool.not_true, Bool.not_false, Bool.and_false, Bool.false_and, Bool.and_true, Bool.true_and, Bool.and_self]
      simp only [Tr.all]; rw [e]; try rfl
    · refine br2 (fun k2 => ?_) (fun k2 => ?_)
      · have e : meet5 a b = nothing := by simp only [meet5, (k1 : (bNone a) = false), (k2 : (bNone b) = true), Bool.not_true, Bool.not_false, Bool.and_false, Bool.false_and, Bool.and_true, Bool.true_and, Bool.and_self]
        simp only [Tr.all]; rw [e]; try rfl
      · refine brn2 (fun k3 => ?_) (fun k3 => ?_)
        · refine askB ((meet_uu ia.t.1 ib.t.1).1) ?_
          refine askB ((meet_uu ia.t.1 ib.t.1).2) ?_
          refine askB ((meet_uu2 ia.u ib.u).1) ?_
          refine askB ((meet_uu2 ia.u ib.u).2) ?_
          refine askB (isI_iff.2 (meet_ii ia.s ib.s).1) ?_
          refine askB (isI_iff.2 (meet_ii ia.s ib.s).2) ?_
          refine askB ((meet_uu2 (ww_uu ia.w) (ww_uu ib.w)).1) ?_
          refine askB ((meet_uu2 (ww_uu ia.w) (ww_uu ib.w)).2) ?_
          refine askB (isI_iff.2 (meet_ii ia.raw.v ib.raw.v).1) ?_
          refine askB (isI_iff.2 (meet_ii ia.raw.v ib.raw.v).2) ?_
          have e : meet5 a b = sync ⟨tMeet a.t b.t, pMeet a.u b.u, pMeet a.s b.s, pMeet a.w b.w, pMeet a.v b.v⟩ := by simp only [meet5, (k1 : (bNone a) = false), (k2 : (bNone b) = false), (k3 : (tMeetIs a.1 b.1) = true), Bool.not_true, Bool.not_false, Bool.and_false, Bool.false_and, Bool.and_true, Bool.true_and, Bool.and_self]
          simp only [Tr.all]; rw [e]; try rfl
        · have e : meet5 a b = nothing := by simp only [meet5, (k1 : (bNone a) = false), (k2 : (bNone b) = false), (k3 : (tMeetIs a.1 b.1) = false), Bool.not_true, Bool.not_false, Bool.and_false, Bool.false_and, Bool.and_true, Bool.true_and, Bool.and_self]
          simp only [Tr.all]; rw [e]; try rfl
def s_r5Meet : Sum := bySum 191 [.a [some .u64, some .u64, some .u64, some .u64, some .i64, some .i64, some .u64, some .u64, some .i64, some .i64], .a [some .u64, some .u64, some .u64, some .u64, some .i64, some .i64, some .u64, some .u64, some .i64, some .i64]] fun
  | [a0, a1, a2, a3, a4, a5, a6, a7, a8, a9, a10, a11, a12, a13, a14, a15, a16, a17, a18, a19], [] => some ([invB (Bd.mk (P2.mk a0 a1) (P2.mk a2 a3) (P2.mk a4 a5) (P2.mk a6 a7) (P2.mk a8 a9)), invB (Bd.mk (P2.mk a10 a11) (P2.mk a12 a13) (P2.mk a14 a15) (P2.mk a16 a17) (P2.mk a18 a19))], .u (.agg (cB (meet5 (Bd.mk (P2.mk a0 a1) (P2.mk a2 a3) (P2.mk a4 a5) (P2.mk a6 a7) (P2.mk a8 a9)) (Bd.mk (P2.mk a10 a11) (P2.mk a12 a13) (P2.mk a14 a15) (P2.mk a16 a17) (P2.mk a18 a19))))))
  | _, _ => none
theorem s_r5Meet_ok : SumOK Tryz.prog s_r5Meet := by
  refine bySum_ok ⟨_, Tryz.func191, by kernel_rfl⟩ ?_
  intro ns os bs r hm hb ρ w
  split at hm
  · rename_i a0 a1 a2 a3 a4 a5 a6 a7 a8 a9 a10 a11 a12 a13 a14 a15 a16 a17 a18 a19
    cases hm
    exact t_r5Meet (Bd.mk (P2.mk a0 a1) (P2.mk a2 a3) (P2.mk a4 a5) (P2.mk a6 a7) (P2.mk a8 a9)) (Bd.mk (P2.mk a10 a11) (P2.mk a12 a13) (P2.mk a14 a15) (P2.mk a16 a17) (P2.mk a18 a19)) (hb _ (by simp)) (hb _ (by simp)) ρ w
  · cases hm
theorem t_r6low (t : P2) (hb0 : isU t.1 = true) (hb1 : isU t.2 = true) (hb2 : tMay t = true) (ρ : Nat → Nat) (w : World) : Calls Tryz.prog 192 (enV [.a [some .u64, some .u64]] ([t.1, t.2], [])).toArray w fun e w' => e = .returned (V.den ρ (.u (.agg [.si .u64 (lowK t).1, .si .u64 (lowK t).2]))) ∧ Below w.heap.size w w' := by
  refine pure_to nameOK (okc s_rLowT_ok okn) (dOK (okc s_rLowT_ok okn)) 300 [.u (.agg [.si .u64 t.1, .si .u64 t.2])] (T := (.br (isU t.1) (.br (isU t.2) (.br (tMay t) (.br (isN 32) (.leaf (.val (.u (.agg [(.si .u64 (tLowN t 32).1), (.si .u64 (iBit .or .u64 (tLowN t 32).2 18446744069414584320))])))) (.no 98)) (.no 98)) (.no 98)) (.no 98))) (by kernel_rfl) ρ rfl ?_ w
  · have ht : TM t := (tMay_iff ⟨hb0, hb1⟩).1 hb2
    iterate 4 (refine askB (by first | with_reducible assumption | decide) ?_)
    simp only [Tr.all]; rfl
def s_r6low : Sum := bySum 192 [.a [some .u64, some .u64]] fun
  | [a0, a1], [] => some ([isU (P2.mk a0 a1).1, isU (P2.mk a0 a1).2, tMay (P2.mk a0 a1)], .u (.agg [.si .u64 (lowK (P2.mk a0 a1)).1, .si .u64 (lowK (P2.mk a0 a1)).2]))
  | _, _ => none
theorem s_r6low_ok : SumOK Tryz.prog s_r6low := by
  refine bySum_ok ⟨_, Tryz.func192, by kernel_rfl⟩ ?_
  intro ns os bs r hm hb ρ w
  split at hm
  · rename_i a0 a1
    cases hm
    exact t_r6low (P2.mk a0 a1) (hb _ (by simp)) (hb _ (by simp)) (hb _ (by simp)) ρ w
  · cases hm
theorem t_r6half (t : P2) (wide : Bool) (hb0 : isU t.1 = true) (hb1 : isU t.2 = true) (hb2 : tMay t = true) (ρ : Nat → Nat) (w : World) : Calls Tryz.prog 126 (enV [.a [some .u64, some .u64], .s none] ([t.1, t.2], [wide])).toArray w fun e w' => e = .returned (V.den ρ (.u (.agg [.si .u64 (seenM t wide).1, .si .u64 (seenM t wide).2]))) ∧ Below w.heap.size w w' := by
  refine pure_to nameOK (okc s_rLowT_ok okn) (dOK (okc s_rLowT_ok okn)) 300 [.u (.agg [.si .u64 t.1, .si .u64 t.2]), .u (.c (.sb wide))] (T := (.br wide (.leaf (.val (.u (.agg [(.si .u64 t.1), (.si .u64 t.2)])))) (.br (isU t.1) (.br (isU t.2) (.br (tMay t) (.br (isN 32) (.leaf (.val (.u (.agg [(.si .u64 (tLowN t 32).1), (.si .u64 (tLowN t 32).2)])))) (.no 98)) (.no 98)) (.no 98)) (.no 98)))) (by kernel_rfl) ρ rfl ?_ w
  · have ht : TM t := (tMay_iff ⟨hb0, hb1⟩).1 hb2
    refine br2 (fun k1 => ?_) (fun k1 => ?_)
    · subst k1
      simp only [Tr.all]; rfl
    · iterate 4 (refine askB (by first | with_reducible assumption | decide) ?_)
      subst k1
      simp only [Tr.all]; rw [tLowN32]; rfl
def s_r6half : Sum := bySum 126 [.a [some .u64, some .u64], .s none] fun
  | [a0, a1], [o0] => some ([isU (P2.mk a0 a1).1, isU (P2.mk a0 a1).2, tMay (P2.mk a0 a1)], .u (.agg [.si .u64 (seenM (P2.mk a0 a1) o0).1, .si .u64 (seenM (P2.mk a0 a1) o0).2]))
  | _, _ => none
theorem s_r6half_ok : SumOK Tryz.prog s_r6half := by
  refine bySum_ok ⟨_, Tryz.func126, by kernel_rfl⟩ ?_
  intro ns os bs r hm hb ρ w
  split at hm
  · rename_i a0 a1 o0
    cases hm
    exact t_r6half (P2.mk a0 a1) o0 (hb _ (by simp)) (hb _ (by simp)) (hb _ (by simp)) ρ w
  · cases hm
theorem t_r6sign (x : Int) (hb0 : isWu x = true) (ρ : Nat → Nat) (w : World) : Calls Tryz.prog 195 (enV [.s (some .u64)] ([x], [])).toArray w fun e w' => e = .returned (V.den ρ (.u (.c (.si .i64 (sg32 x))))) ∧ Below w.heap.size w w' := by
  refine pure_to nameOK okn (dOK okn) 300 [.u (.c (.si .u64 x))] (T := (.br (iGe x 2147483648) (.leaf (.val (.u (.c (.si .i64 (iSub .i64 (iConv .i64 x) 4294967296)))))) (.leaf (.val (.u (.c (.si .i64 (iConv .i64 x)))))))) (by kernel_rfl) ρ rfl ?_ w
  · refine br2 (fun k1 => ?_) (fun k1 => ?_)
    · have hx := isWu_iff.1 hb0
      have q := ge_t.1 k1
      have e : iSub .i64 (iConv .i64 x) 4294967296 = sg32 x := by rw [sign_half hx, if_pos (by omega)]; rw [sub_i, conv_i]; omega
      simp only [Tr.all]; rw [e]; try rfl
    · have hx := isWu_iff.1 hb0
      have q := ge_f.1 k1
      have e : iConv .i64 x = sg32 x := by rw [sign_half hx, if_neg (by omega)]; rw [conv_i]; omega
      simp only [Tr.all]; rw [e]; try rfl
def s_r6sign : Sum := bySum 195 [.s (some .u64)] fun
  | [a0], [] => some ([isWu a0], .u (.c (.si .i64 (sg32 a0))))
  | _, _ => none
theorem s_r6sign_ok : SumOK Tryz.prog s_r6sign := by
  refine bySum_ok ⟨_, Tryz.func195, by kernel_rfl⟩ ?_
  intro ns os bs r hm hb ρ w
  split at hm
  · rename_i a0
    cases hm
    exact t_r6sign a0 (hb _ (by simp)) ρ w
  · cases hm
theorem t_r6less (p : P2) (n : Int) (ρ : Nat → Nat) (w : World) : Calls Tryz.prog 193 (enV [.a [some .u64, some .u64], .s (some .u64)] ([p.1, p.2, n], [])).toArray w fun e w' => e = .returned (V.den ρ (.u (.agg [.si .u64 (plainU p n).1, .si .u64 (plainU p n).2]))) ∧ Below w.heap.size w w' := by
  refine pure_to nameOK okn (dOK okn) 300 [.u (.agg [.si .u64 p.1, .si .u64 p.2]), .u (.c (.si .u64 n))] (T := (.br (iEq p.1 n) (.br (iEq p.2 n) (.leaf (.val (.u (.agg [(.li .u64 1), (.li .u64 0)])))) (.br (iEq p.1 n) (.leaf (.val (.u (.agg [(.si .u64 (iAdd .u64 p.1 1)), (.si .u64 p.2)])))) (.br (iEq p.2 n) (.leaf (.val (.u (.agg [(.si .u64 p.1), (.si .u64 (iSub .u64 p.2 1))])))) (.leaf (.val (.u (.agg [(.si .u64 p.1), (.si .u64 p.2)]))))))) (.br (iEq p.1 n) (.leaf (.val (.u (.agg [(.si .u64 (iAdd .u64 p.1 1)), (.si .u64 p.2)])))) (.br (iEq p.2 n) (.leaf (.val (.u (.agg [(.si .u64 p.1), (.si .u64 (iSub .u64 p.2 1))])))) (.leaf (.val (.u (.agg [(.si .u64 p.1), (.si .u64 p.2)])))))))) (by kernel_rfl) ρ rfl ?_ w
  · refine br2 (fun k1 => ?_) (fun k1 => ?_)
    · refine br2 (fun k2 => ?_) (fun k2 => ?_)
      · have q0 := eq_t.1 k1
        have q1 := eq_t.1 k2
        simp only [Tr.all, plainU, plainM, q0, q1, and_true, true_and, and_false, false_and, if_true, if_false, and_self]; try rfl
      · refine brT (k1) ?_
        have q0 := eq_t.1 k1
        have q1 := eq_f.1 k2
        simp only [Tr.all, plainU, plainM, q0, q1, and_true, true_and, and_false, false_and, if_true, if_false, and_self]; try rfl
    · refine brF (k1) ?_
      refine br2 (fun k3 => ?_) (fun k3 => ?_)
      · have q0 := eq_f.1 k1
        have q1 := eq_t.1 k3
        simp only [Tr.all, plainU, plainM, q0, q1, and_true, true_and, and_false, false_and, if_true, if_false, and_self]; try rfl
      · have q0 := eq_f.1 k1
        have q1 := eq_f.1 k3
        simp only [Tr.all, plainU, plainM, q0, q1, and_true, true_and, and_false, false_and, if_true, if_false, and_self]; try rfl
def s_r6less : Sum := bySum 193 [.a [some .u64, some .u64], .s (some .u64)] fun
  | [a0, a1, a2], [] => some ([], .u (.agg [.si .u64 (plainU (P2.mk a0 a1) a2).1, .si .u64 (plainU (P2.mk a0 a1) a2).2]))
  | _, _ => none
theorem s_r6less_ok : SumOK Tryz.prog s_r6less := by
  refine bySum_ok ⟨_, Tryz.func193, by kernel_rfl⟩ ?_
  intro ns os bs r hm hb ρ w
  split at hm
  · rename_i a0 a1 a2
    cases hm
    exact t_r6less (P2.mk a0 a1) a2 ρ w
  · cases hm
theorem t_r6fewer (p : P2) (n : Int) (ρ : Nat → Nat) (w : World) : Calls Tryz.prog 194 (enV [.a [some .i64, some .i64], .s (some .i64)] ([p.1, p.2, n], [])).toArray w fun e w' => e = .returned (V.den ρ (.u (.agg [.si .i64 (plainI p n).1, .si .i64 (plainI p n).2]))) ∧ Below w.heap.size w w' := by
  refine pure_to nameOK okn (dOK okn) 300 [.u (.agg [.si .i64 p.1, .si .i64 p.2]), .u (.c (.si .i64 n))] (T := (.br (iEq p.1 n) (.br (iEq p.2 n) (.leaf (.val (.u (.agg [(.li .i64 1), (.li .i64 0)])))) (.br (iEq p.1 n) (.leaf (.val (.u (.agg [(.si .i64 (iAdd .i64 p.1 1)), (.si .i64 p.2)])))) (.br (iEq p.2 n) (.leaf (.val (.u (.agg [(.si .i64 p.1), (.si .i64 (iSub .i64 p.2 1))])))) (.leaf (.val (.u (.agg [(.si .i64 p.1), (.si .i64 p.2)]))))))) (.br (iEq p.1 n) (.leaf (.val (.u (.agg [(.si .i64 (iAdd .i64 p.1 1)), (.si .i64 p.2)])))) (.br (iEq p.2 n) (.leaf (.val (.u (.agg [(.si .i64 p.1), (.si .i64 (iSub .i64 p.2 1))])))) (.leaf (.val (.u (.agg [(.si .i64 p.1), (.si .i64 p.2)])))))))) (by kernel_rfl) ρ rfl ?_ w
  · refine br2 (fun k1 => ?_) (fun k1 => ?_)
    · refine br2 (fun k2 => ?_) (fun k2 => ?_)
      · have q0 := eq_t.1 k1
        have q1 := eq_t.1 k2
        simp only [Tr.all, plainI, plainM, q0, q1, and_true, true_and, and_false, false_and, if_true, if_false, and_self]; try rfl
      · refine brT (k1) ?_
        have q0 := eq_t.1 k1
        have q1 := eq_f.1 k2
        simp only [Tr.all, plainI, plainM, q0, q1, and_true, true_and, and_false, false_and, if_true, if_false, and_self]; try rfl
    · refine brF (k1) ?_
      refine br2 (fun k3 => ?_) (fun k3 => ?_)
      · have q0 := eq_f.1 k1
        have q1 := eq_t.1 k3
        simp only [Tr.all, plainI, plainM, q0, q1, and_true, true_and, and_false, false_and, if_true, if_false, and_self]; try rfl
      · have q0 := eq_f.1 k1
        have q1 := eq_f.1 k3
        simp only [Tr.all, plainI, plainM, q0, q1, and_true, true_and, and_false, false_and, if_true, if_false, and_self]; try rfl
def s_r6fewer : Sum := bySum 194 [.a [some .i64, some .i64], .s (some .i64)] fun
  | [a0, a1, a2], [] => some ([], .u (.agg [.si .i64 (plainI (P2.mk a0 a1) a2).1, .si .i64 (plainI (P2.mk a0 a1) a2).2]))
  | _, _ => none
theorem s_r6fewer_ok : SumOK Tryz.prog s_r6fewer := by
  refine bySum_ok ⟨_, Tryz.func194, by kernel_rfl⟩ ?_
  intro ns os bs r hm hb ρ w
  split at hm
  · rename_i a0 a1 a2
    cases hm
    exact t_r6fewer (P2.mk a0 a1) a2 ρ w
  · cases hm
theorem oks_L06G_1 : ∀ q ∈ [s_r6less, s_r6fewer, s_r6sign], SumOK Tryz.prog q := (okc s_r6less_ok (okc s_r6fewer_ok (okc s_r6sign_ok okn)))
theorem t_r6not (wide : Bool) (a : Bd) (b : Bd) (hb0 : invB a = true) (hb1 : invB b = true) (ρ : Nat → Nat) (w : World) : Calls Tryz.prog 121 (enV [.s none, .a [some .u64, some .u64, some .u64, some .u64, some .i64, some .i64, some .u64, some .u64, some .i64, some .i64], .a [some .u64, some .u64, some .u64, some .u64, some .i64, some .i64, some .u64, some .u64, some .i64, some .i64]] ([a.1.1, a.1.2, a.2.1, a.2.2, a.3.1, a.3.2, a.4.1, a.4.2, a.5.1, a.5.2, b.1.1, b.1.2, b.2.1, b.2.2, b.3.1, b.3.2, b.4.1, b.4.2, b.5.1, b.5.2], [wide])).toArray w fun e w' => e = .returned (V.den ρ (.u (.agg (cB (unlikeM wide a b))))) ∧ Below w.heap.size w w' := by
  refine pure_to nameOK oks_L06G_1 (dOK oks_L06G_1) 300 [.u (.c (.sb wide)), .u (.agg (cB a)), .u (.agg (cB b))] (T := (.br wide (.br (iEq b.2.1 b.2.2) (.br (bNot wide) (.br (iEq b.4.1 b.4.2) (.br (isWu b.4.1) (.leaf (.val (.u (.agg [(.si .u64 a.1.1), (.si .u64 a.1.2), (.si .u64 (plainU a.2 b.2.1).1), (.si .u64 (plainU a.2 b.2.1).2), (.si .i64 (plainI a.3 (iConv .i64 b.2.1)).1), (.si .i64 (plainI a.3 (iConv .i64 b.2.1)).2), (.si .u64 (plainU a.4 b.4.1).1), (.si .u64 (plainU a.4 b.4.1).2), (.si .i64 (plainI a.5 (sg32 b.4.1)).1), (.si .i64 (plainI a.5 (sg32 b.4.1)).2)])))) (.no 98)) (.leaf (.val (.u (.agg [(.si .u64 a.1.1), (.si .u64 a.1.2), (.si .u64 (plainU a.2 b.2.1).1), (.si .u64 (plainU a.2 b.2.1).2), (.si .i64 (plainI a.3 (iConv .i64 b.2.1)).1), (.si .i64 (plainI a.3 (iConv .i64 b.2.1)).2), (.si .u64 a.4.1), (.si .u64 a.4.2), (.si .i64 a.5.1), (.si .i64 a.5.2)]))))) (.leaf (.val (.u (.agg [(.si .u64 a.1.1), (.si .u64 a.1.2), (.si .u64 (plainU a.2 b.2.1).1), (.si .u64 (plainU a.2 b.2.1).2), (.si .i64 (plainI a.3 (iConv .i64 b.2.1)).1), (.si .i64 (plainI a.3 (iConv .i64 b.2.1)).2), (.si .u64 a.4.1), (.si .u64 a.4.2), (.si .i64 a.5.1), (.si .i64 a.5.2)]))))) (.br (bNot wide) (.br (iEq b.4.1 b.4.2) (.br (isWu b.4.1) (.leaf (.val (.u (.agg [(.si .u64 a.1.1), (.si .u64 a.1.2), (.si .u64 a.2.1), (.si .u64 a.2.2), (.si .i64 a.3.1), (.si .i64 a.3.2), (.si .u64 (plainU a.4 b.4.1).1), (.si .u64 (plainU a.4 b.4.1).2), (.si .i64 (plainI a.5 (sg32 b.4.1)).1), (.si .i64 (plainI a.5 (sg32 b.4.1)).2)])))) (.no 98)) (.leaf (.val (.u (.agg (cB a)))))) (.leaf (.val (.u (.agg (cB a))))))) (.br (bNot wide) (.br (iEq b.4.1 b.4.2) (.br (isWu b.4.1) (.leaf (.val (.u (.agg [(.si .u64 a.1.1), (.si .u64 a.1.2), (.si .u64 a.2.1), (.si .u64 a.2.2), (.si .i64 a.3.1), (.si .i64 a.3.2), (.si .u64 (plainU a.4 b.4.1).1), (.si .u64 (plainU a.4 b.4.1).2), (.si .i64 (plainI a.5 (sg32 b.4.1)).1), (.si .i64 (plainI a.5 (sg32 b.4.1)).2)])))) (.no 98)) (.leaf (.val (.u (.agg (cB a)))))) (.leaf (.val (.u (.agg (cB a)))))))) (by kernel_rfl) ρ rfl ?_ w
  · have ia : Inv5 a := invB_iff.1 hb0
    have ib : Inv5 b := invB_iff.1 hb1
    refine br2 (fun k1 => ?_) (fun k1 => ?_)
    · refine br2 (fun k2 => ?_) (fun k2 => ?_)
      · refine brnT (k1) ?_
        subst k1
        have q : b.u.lo = b.u.hi := eq_t.1 k2
        simp only [Tr.all, unlikeM, if_pos q, conv_sgn ib.u.1]; try rfl
      · refine brnT (k1) ?_
        subst k1
        have q : ¬ b.u.lo = b.u.hi := eq_f.1 k2
        simp only [Tr.all, unlikeM, if_neg q]; try rfl
    · refine brnF (k1) ?_
      refine br2 (fun k3 => ?_) (fun k3 => ?_)
      · refine askB (isWu_iff.2 ib.w.1) ?_
        subst k1
        have q : b.w.lo = b.w.hi := eq_t.1 k3
        simp only [Tr.all, unlikeM, if_pos q]; try rfl
      · subst k1
        have q : ¬ b.w.lo = b.w.hi := eq_f.1 k3
        simp only [Tr.all, unlikeM, if_neg q]; try rfl
def s_r6not : Sum := bySum 121 [.s none, .a [some .u64, some .u64, some .u64, some .u64, some .i64, some .i64, some .u64, some .u64, some .i64, some .i64], .a [some .u64, some .u64, some .u64, some .u64, some .i64, some .i64, some .u64, some .u64, some .i64, some .i64]] fun
  | [a0, a1, a2, a3, a4, a5, a6, a7, a8, a9, a10, a11, a12, a13, a14, a15, a16, a17, a18, a19], [o0] => some ([invB (Bd.mk (P2.mk a0 a1) (P2.mk a2 a3) (P2.mk a4 a5) (P2.mk a6 a7) (P2.mk a8 a9)), invB (Bd.mk (P2.mk a10 a11) (P2.mk a12 a13) (P2.mk a14 a15) (P2.mk a16 a17) (P2.mk a18 a19))], .u (.agg (cB (unlikeM o0 (Bd.mk (P2.mk a0 a1) (P2.mk a2 a3) (P2.mk a4 a5) (P2.mk a6 a7) (P2.mk a8 a9)) (Bd.mk (P2.mk a10 a11) (P2.mk a12 a13) (P2.mk a14 a15) (P2.mk a16 a17) (P2.mk a18 a19))))))
  | _, _ => none
theorem s_r6not_ok : SumOK Tryz.prog s_r6not := by
  refine bySum_ok ⟨_, Tryz.func121, by kernel_rfl⟩ ?_
  intro ns os bs r hm hb ρ w
  split at hm
  · rename_i a0 a1 a2 a3 a4 a5 a6 a7 a8 a9 a10 a11 a12 a13 a14 a15 a16 a17 a18 a19 o0
    cases hm
    exact t_r6not o0 (Bd.mk (P2.mk a0 a1) (P2.mk a2 a3) (P2.mk a4 a5) (P2.mk a6 a7) (P2.mk a8 a9)) (Bd.mk (P2.mk a10 a11) (P2.mk a12 a13) (P2.mk a14 a15) (P2.mk a16 a17) (P2.mk a18 a19)) (hb _ (by simp)) (hb _ (by simp)) ρ w
  · cases hm
theorem oks_L06G_2 : ∀ q ∈ [s_r5Meet, s_rMeetT, s_r6low, s_rMeet, s_rCut], SumOK Tryz.prog q := (okc s_r5Meet_ok (okc s_rMeetT_ok (okc s_r6low_ok (okc s_rMeet_ok (okc s_rCut_ok okn)))))
theorem t_r6eq (wide : Bool) (a : Bd) (b : Bd) (hb0 : invB a = true) (hb1 : invB b = true) (ρ : Nat → Nat) (w : World) : Calls Tryz.prog 120 (enV [.s none, .a [some .u64, some .u64, some .u64, some .u64, some .i64, some .i64, some .u64, some .u64, some .i64, some .i64], .a [some .u64, some .u64, some .u64, some .u64, some .i64, some .i64, some .u64, some .u64, some .i64, some .i64]] ([a.1.1, a.1.2, a.2.1, a.2.2, a.3.1, a.3.2, a.4.1, a.4.2, a.5.1, a.5.2, b.1.1, b.1.2, b.2.1, b.2.2, b.3.1, b.3.2, b.4.1, b.4.2, b.5.1, b.5.2], [wide])).toArray w fun e w' => e = .returned (V.den ρ (.u (.agg [.si .u64 (fixT (equalM wide a b)).1.1.1, .si .u64 (fixT (equalM wide a b)).1.1.2, .si .u64 (fixT (equalM wide a b)).1.2.1, .si .u64 (fixT (equalM wide a b)).1.2.2, .si .i64 (fixT (equalM wide a b)).1.3.1, .si .i64 (fixT (equalM wide a b)).1.3.2, .si .u64 (fixT (equalM wide a b)).1.4.1, .si .u64 (fixT (equalM wide a b)).1.4.2, .si .i64 (fixT (equalM wide a b)).1.5.1, .si .i64 (fixT (equalM wide a b)).1.5.2, .si .u64 (fixT (equalM wide a b)).2.1.1, .si .u64 (fixT (equalM wide a b)).2.1.2, .si .u64 (fixT (equalM wide a b)).2.2.1, .si .u64 (fixT (equalM wide a b)).2.2.2, .si .i64 (fixT (equalM wide a b)).2.3.1, .si .i64 (fixT (equalM wide a b)).2.3.2, .si .u64 (fixT (equalM wide a b)).2.4.1, .si .u64 (fixT (equalM wide a b)).2.4.2, .si .i64 (fixT (equalM wide a b)).2.5.1, .si .i64 (fixT (equalM wide a b)).2.5.2, .sb (fixT (equalM wide a b)).3]))) ∧ Below w.heap.size w w' := by
  refine pure_to nameOK oks_L06G_2 (dOK oks_L06G_2) 300 [.u (.c (.sb wide)), .u (.agg (cB a)), .u (.agg (cB b))] (T := (.br wide (.br (invB a) (.br (invB b) (.leaf (.val (.u (.agg [(.si .u64 (meet5 a b).1.1), (.si .u64 (meet5 a b).1.2), (.si .u64 (meet5 a b).2.1), (.si .u64 (meet5 a b).2.2), (.si .i64 (meet5 a b).3.1), (.si .i64 (meet5 a b).3.2), (.si .u64 (meet5 a b).4.1), (.si .u64 (meet5 a b).4.2), (.si .i64 (meet5 a b).5.1), (.si .i64 (meet5 a b).5.2), (.si .u64 (meet5 a b).1.1), (.si .u64 (meet5 a b).1.2), (.si .u64 (meet5 a b).2.1), (.si .u64 (meet5 a b).2.2), (.si .i64 (meet5 a b).3.1), (.si .i64 (meet5 a b).3.2), (.si .u64 (meet5 a b).4.1), (.si .u64 (meet5 a b).4.2), (.si .i64 (meet5 a b).5.1), (.si .i64 (meet5 a b).5.2), (.lb true)])))) (.no 98)) (.no 98)) (.br (isU b.1.1) (.br (isU b.1.2) (.br (tMay b.1) (.br (isU a.1.1) (.br (isU a.1.2) (.br (isU (lowK b.1).1) (.br (isU (lowK b.1).2) (.br (tMay a.1) (.br (tMay (lowK b.1)) (.br (isU a.1.1) (.br (isU a.1.2) (.br (tMay a.1) (.br (isU b.1.1) (.br (isU b.1.2) (.br (isU (lowK a.1).1) (.br (isU (lowK a.1).2) (.br (tMay b.1) (.br (tMay (lowK a.1)) (.br (bNot (tMeetIs a.1 (lowK b.1))) (.leaf (.val (.u (.agg [(.li .u64 0), (.li .u64 0), (.li .u64 1), (.li .u64 0), (.li .i64 1), (.li .i64 0), (.li .u64 1), (.li .u64 0), (.li .i64 1), (.li .i64 0), (.li .u64 0), (.li .u64 0), (.li .u64 1), (.li .u64 0), (.li .i64 1), (.li .i64 0), (.li .u64 1), (.li .u64 0), (.li .i64 1), (.li .i64 0), (.lb false)])))) (.br (bNot (tMeetIs b.1 (lowK a.1))) (.leaf (.val (.u (.agg [(.li .u64 0), (.li .u64 0), (.li .u64 1), (.li .u64 0), (.li .i64 1), (.li .i64 0), (.li .u64 1), (.li .u64 0), (.li .i64 1), (.li .i64 0), (.li .u64 0), (.li .u64 0), (.li .u64 1), (.li .u64 0), (.li .i64 1), (.li .i64 0), (.li .u64 1), (.li .u64 0), (.li .i64 1), (.li .i64 0), (.lb false)])))) (.leaf (.val (.u (.agg [(.si .u64 (tMeet a.1 (lowK b.1)).1), (.si .u64 (tMeet a.1 (lowK b.1)).2), (.si .u64 a.2.1), (.si .u64 a.2.2), (.si .i64 a.3.1), (.si .i64 a.3.2), (.si .u64 (pMeet a.4 b.4).1), (.si .u64 (pMeet a.4 b.4).2), (.si .i64 (pMeet a.5 b.5).1), (.si .i64 (pMeet a.5 b.5).2), (.si .u64 (tMeet b.1 (lowK a.1)).1), (.si .u64 (tMeet b.1 (lowK a.1)).2), (.si .u64 b.2.1), (.si .u64 b.2.2), (.si .i64 b.3.1), (.si .i64 b.3.2), (.si .u64 (pMeet a.4 b.4).1), (.si .u64 (pMeet a.4 b.4).2), (.si .i64 (pMeet a.5 b.5).1), (.si .i64 (pMeet a.5 b.5).2), (.lb true)])))))) (.no 98)) (.no 98)) (.no 98)) (.no 98)) (.no 98)) (.no 98)) (.no 98)) (.no 98)) (.no 98)) (.no 98)) (.no 98)) (.no 98)) (.no 98)) (.no 98)) (.no 98)) (.no 98)) (.no 98)) (.no 98)))) (by kernel_rfl) ρ rfl ?_ w
  · have ia : Inv5 a := invB_iff.1 hb0
    have ib : Inv5 b := invB_iff.1 hb1
    refine br2 (fun k1 => ?_) (fun k1 => ?_)
    · refine askB (invB_iff.2 ia) ?_
      refine askB (invB_iff.2 ib) ?_
      subst k1
      simp only [Tr.all]; rfl
    · refine askB (ib.t.1.1) ?_
      refine askB (ib.t.1.2) ?_
      refine askB ((tMay_iff ib.t.1).2 ib.t) ?_
      refine askB (ia.t.1.1) ?_
      refine askB (ia.t.1.2) ?_
      refine askB ((lowK_tm ib.t).1.1) ?_
      refine askB ((lowK_tm ib.t).1.2) ?_
      refine askB ((tMay_iff ia.t.1).2 ia.t) ?_
      refine askB ((tMay_iff (lowK_tm ib.t).1).2 (lowK_tm ib.t)) ?_
      refine askB (ia.t.1.1) ?_
      refine askB (ia.t.1.2) ?_
      refine askB ((tMay_iff ia.t.1).2 ia.t) ?_
      refine askB (ib.t.1.1) ?_
      refine askB (ib.t.1.2) ?_
      refine askB ((lowK_tm ia.t).1.1) ?_
      refine askB ((lowK_tm ia.t).1.2) ?_
      refine askB ((tMay_iff ib.t.1).2 ib.t) ?_
      refine askB ((tMay_iff (lowK_tm ia.t).1).2 (lowK_tm ia.t)) ?_
      refine brn2 (fun k2 => ?_) (fun k2 => ?_)
      · refine brn2 (fun k3 => ?_) (fun k3 => ?_)
        · subst k1
          have e := eq_half (a := a) (b := b) ia.t ib.t
          simp only [(k2 : (tMeetIs a.1 (lowK b.1)) = true), (k3 : (tMeetIs b.1 (lowK a.1)) = true), Bool.not_true, Bool.not_false, Bool.and_false, Bool.false_and, Bool.and_true, Bool.true_and, Bool.and_self] at e
          simp only [Tr.all]; rw [e]; try rfl
        · subst k1
          have e := eq_half (a := a) (b := b) ia.t ib.t
          simp only [(k2 : (tMeetIs a.1 (lowK b.1)) = true), (k3 : (tMeetIs b.1 (lowK a.1)) = false), Bool.not_true, Bool.not_false, Bool.and_false, Bool.false_and, Bool.and_true, Bool.true_and, Bool.and_self] at e
          simp only [Tr.all]; rw [e]; try rfl
      · subst k1
        have e := eq_half (a := a) (b := b) ia.t ib.t
        simp only [(k2 : (tMeetIs a.1 (lowK b.1)) = false), Bool.not_true, Bool.not_false, Bool.and_false, Bool.false_and, Bool.and_true, Bool.true_and, Bool.and_self] at e
        simp only [Tr.all]; rw [e]; try rfl
def s_r6eq : Sum := bySum 120 [.s none, .a [some .u64, some .u64, some .u64, some .u64, some .i64, some .i64, some .u64, some .u64, some .i64, some .i64], .a [some .u64, some .u64, some .u64, some .u64, some .i64, some .i64, some .u64, some .u64, some .i64, some .i64]] fun
  | [a0, a1, a2, a3, a4, a5, a6, a7, a8, a9, a10, a11, a12, a13, a14, a15, a16, a17, a18, a19], [o0] => some ([invB (Bd.mk (P2.mk a0 a1) (P2.mk a2 a3) (P2.mk a4 a5) (P2.mk a6 a7) (P2.mk a8 a9)), invB (Bd.mk (P2.mk a10 a11) (P2.mk a12 a13) (P2.mk a14 a15) (P2.mk a16 a17) (P2.mk a18 a19))], .u (.agg [.si .u64 (fixT (equalM o0 (Bd.mk (P2.mk a0 a1) (P2.mk a2 a3) (P2.mk a4 a5) (P2.mk a6 a7) (P2.mk a8 a9)) (Bd.mk (P2.mk a10 a11) (P2.mk a12 a13) (P2.mk a14 a15) (P2.mk a16 a17) (P2.mk a18 a19)))).1.1.1, .si .u64 (fixT (equalM o0 (Bd.mk (P2.mk a0 a1) (P2.mk a2 a3) (P2.mk a4 a5) (P2.mk a6 a7) (P2.mk a8 a9)) (Bd.mk (P2.mk a10 a11) (P2.mk a12 a13) (P2.mk a14 a15) (P2.mk a16 a17) (P2.mk a18 a19)))).1.1.2, .si .u64 (fixT (equalM o0 (Bd.mk (P2.mk a0 a1) (P2.mk a2 a3) (P2.mk a4 a5) (P2.mk a6 a7) (P2.mk a8 a9)) (Bd.mk (P2.mk a10 a11) (P2.mk a12 a13) (P2.mk a14 a15) (P2.mk a16 a17) (P2.mk a18 a19)))).1.2.1, .si .u64 (fixT (equalM o0 (Bd.mk (P2.mk a0 a1) (P2.mk a2 a3) (P2.mk a4 a5) (P2.mk a6 a7) (P2.mk a8 a9)) (Bd.mk (P2.mk a10 a11) (P2.mk a12 a13) (P2.mk a14 a15) (P2.mk a16 a17) (P2.mk a18 a19)))).1.2.2, .si .i64 (fixT (equalM o0 (Bd.mk (P2.mk a0 a1) (P2.mk a2 a3) (P2.mk a4 a5) (P2.mk a6 a7) (P2.mk a8 a9)) (Bd.mk (P2.mk a10 a11) (P2.mk a12 a13) (P2.mk a14 a15) (P2.mk a16 a17) (P2.mk a18 a19)))).1.3.1, .si .i64 (fixT (equalM o0 (Bd.mk (P2.mk a0 a1) (P2.mk a2 a3) (P2.mk a4 a5) (P2.mk a6 a7) (P2.mk a8 a9)) (Bd.mk (P2.mk a10 a11) (P2.mk a12 a13) (P2.mk a14 a15) (P2.mk a16 a17) (P2.mk a18 a19)))).1.3.2, .si .u64 (fixT (equalM o0 (Bd.mk (P2.mk a0 a1) (P2.mk a2 a3) (P2.mk a4 a5) (P2.mk a6 a7) (P2.mk a8 a9)) (Bd.mk (P2.mk a10 a11) (P2.mk a12 a13) (P2.mk a14 a15) (P2.mk a16 a17) (P2.mk a18 a19)))).1.4.1, .si .u64 (fixT (equalM o0 (Bd.mk (P2.mk a0 a1) (P2.mk a2 a3) (P2.mk a4 a5) (P2.mk a6 a7) (P2.mk a8 a9)) (Bd.mk (P2.mk a10 a11) (P2.mk a12 a13) (P2.mk a14 a15) (P2.mk a16 a17) (P2.mk a18 a19)))).1.4.2, .si .i64 (fixT (equalM o0 (Bd.mk (P2.mk a0 a1) (P2.mk a2 a3) (P2.mk a4 a5) (P2.mk a6 a7) (P2.mk a8 a9)) (Bd.mk (P2.mk a10 a11) (P2.mk a12 a13) (P2.mk a14 a15) (P2.mk a16 a17) (P2.mk a18 a19)))).1.5.1, .si .i64 (fixT (equalM o0 (Bd.mk (P2.mk a0 a1) (P2.mk a2 a3) (P2.mk a4 a5) (P2.mk a6 a7) (P2.mk a8 a9)) (Bd.mk (P2.mk a10 a11) (P2.mk a12 a13) (P2.mk a14 a15) (P2.mk a16 a17) (P2.mk a18 a19)))).1.5.2, .si .u64 (fixT (equalM o0 (Bd.mk (P2.mk a0 a1) (P2.mk a2 a3) (P2.mk a4 a5) (P2.mk a6 a7) (P2.mk a8 a9)) (Bd.mk (P2.mk a10 a11) (P2.mk a12 a13) (P2.mk a14 a15) (P2.mk a16 a17) (P2.mk a18 a19)))).2.1.1, .si .u64 (fixT (equalM o0 (Bd.mk (P2.mk a0 a1) (P2.mk a2 a3) (P2.mk a4 a5) (P2.mk a6 a7) (P2.mk a8 a9)) (Bd.mk (P2.mk a10 a11) (P2.mk a12 a13) (P2.mk a14 a15) (P2.mk a16 a17) (P2.mk a18 a19)))).2.1.2, .si .u64 (fixT (equalM o0 (Bd.mk (P2.mk a0 a1) (P2.mk a2 a3) (P2.mk a4 a5) (P2.mk a6 a7) (P2.mk a8 a9)) (Bd.mk (P2.mk a10 a11) (P2.mk a12 a13) (P2.mk a14 a15) (P2.mk a16 a17) (P2.mk a18 a19)))).2.2.1, .si .u64 (fixT (equalM o0 (Bd.mk (P2.mk a0 a1) (P2.mk a2 a3) (P2.mk a4 a5) (P2.mk a6 a7) (P2.mk a8 a9)) (Bd.mk (P2.mk a10 a11) (P2.mk a12 a13) (P2.mk a14 a15) (P2.mk a16 a17) (P2.mk a18 a19)))).2.2.2, .si .i64 (fixT (equalM o0 (Bd.mk (P2.mk a0 a1) (P2.mk a2 a3) (P2.mk a4 a5) (P2.mk a6 a7) (P2.mk a8 a9)) (Bd.mk (P2.mk a10 a11) (P2.mk a12 a13) (P2.mk a14 a15) (P2.mk a16 a17) (P2.mk a18 a19)))).2.3.1, .si .i64 (fixT (equalM o0 (Bd.mk (P2.mk a0 a1) (P2.mk a2 a3) (P2.mk a4 a5) (P2.mk a6 a7) (P2.mk a8 a9)) (Bd.mk (P2.mk a10 a11) (P2.mk a12 a13) (P2.mk a14 a15) (P2.mk a16 a17) (P2.mk a18 a19)))).2.3.2, .si .u64 (fixT (equalM o0 (Bd.mk (P2.mk a0 a1) (P2.mk a2 a3) (P2.mk a4 a5) (P2.mk a6 a7) (P2.mk a8 a9)) (Bd.mk (P2.mk a10 a11) (P2.mk a12 a13) (P2.mk a14 a15) (P2.mk a16 a17) (P2.mk a18 a19)))).2.4.1, .si .u64 (fixT (equalM o0 (Bd.mk (P2.mk a0 a1) (P2.mk a2 a3) (P2.mk a4 a5) (P2.mk a6 a7) (P2.mk a8 a9)) (Bd.mk (P2.mk a10 a11) (P2.mk a12 a13) (P2.mk a14 a15) (P2.mk a16 a17) (P2.mk a18 a19)))).2.4.2, .si .i64 (fixT (equalM o0 (Bd.mk (P2.mk a0 a1) (P2.mk a2 a3) (P2.mk a4 a5) (P2.mk a6 a7) (P2.mk a8 a9)) (Bd.mk (P2.mk a10 a11) (P2.mk a12 a13) (P2.mk a14 a15) (P2.mk a16 a17) (P2.mk a18 a19)))).2.5.1, .si .i64 (fixT (equalM o0 (Bd.mk (P2.mk a0 a1) (P2.mk a2 a3) (P2.mk a4 a5) (P2.mk a6 a7) (P2.mk a8 a9)) (Bd.mk (P2.mk a10 a11) (P2.mk a12 a13) (P2.mk a14 a15) (P2.mk a16 a17) (P2.mk a18 a19)))).2.5.2, .sb (fixT (equalM o0 (Bd.mk (P2.mk a0 a1) (P2.mk a2 a3) (P2.mk a4 a5) (P2.mk a6 a7) (P2.mk a8 a9)) (Bd.mk (P2.mk a10 a11) (P2.mk a12 a13) (P2.mk a14 a15) (P2.mk a16 a17) (P2.mk a18 a19)))).3]))
  | _, _ => none
theorem s_r6eq_ok : SumOK Tryz.prog s_r6eq := by
  refine bySum_ok ⟨_, Tryz.func120, by kernel_rfl⟩ ?_
  intro ns os bs r hm hb ρ w
  split at hm
  · rename_i a0 a1 a2 a3 a4 a5 a6 a7 a8 a9 a10 a11 a12 a13 a14 a15 a16 a17 a18 a19 o0
    cases hm
    exact t_r6eq o0 (Bd.mk (P2.mk a0 a1) (P2.mk a2 a3) (P2.mk a4 a5) (P2.mk a6 a7) (P2.mk a8 a9)) (Bd.mk (P2.mk a10 a11) (P2.mk a12 a13) (P2.mk a14 a15) (P2.mk a16 a17) (P2.mk a18 a19)) (hb _ (by simp)) (hb _ (by simp)) ρ w
  · cases hm
theorem t_r6above0 (wide : Bool) (a : Bd) (b : Bd) (hb0 : invB a = true) (hb1 : invB b = true) (ρ : Nat → Nat) (w : World) : Calls Tryz.prog 122 (enV [.s none, .s (some .u64), .a [some .u64, some .u64, some .u64, some .u64, some .i64, some .i64, some .u64, some .u64, some .i64, some .i64], .a [some .u64, some .u64, some .u64, some .u64, some .i64, some .i64, some .u64, some .u64, some .i64, some .i64]] ([0, a.1.1, a.1.2, a.2.1, a.2.2, a.3.1, a.3.2, a.4.1, a.4.2, a.5.1, a.5.2, b.1.1, b.1.2, b.2.1, b.2.2, b.3.1, b.3.2, b.4.1, b.4.2, b.5.1, b.5.2], [wide])).toArray w fun e w' => e = .returned (V.den ρ (.u (.agg [.si .u64 (fixT (aboveM wide 0 a b)).1.1.1, .si .u64 (fixT (aboveM wide 0 a b)).1.1.2, .si .u64 (fixT (aboveM wide 0 a b)).1.2.1, .si .u64 (fixT (aboveM wide 0 a b)).1.2.2, .si .i64 (fixT (aboveM wide 0 a b)).1.3.1, .si .i64 (fixT (aboveM wide 0 a b)).1.3.2, .si .u64 (fixT (aboveM wide 0 a b)).1.4.1, .si .u64 (fixT (aboveM wide 0 a b)).1.4.2, .si .i64 (fixT (aboveM wide 0 a b)).1.5.1, .si .i64 (fixT (aboveM wide 0 a b)).1.5.2, .si .u64 (fixT (aboveM wide 0 a b)).2.1.1, .si .u64 (fixT (aboveM wide 0 a b)).2.1.2, .si .u64 (fixT (aboveM wide 0 a b)).2.2.1, .si .u64 (fixT (aboveM wide 0 a b)).2.2.2, .si .i64 (fixT (aboveM wide 0 a b)).2.3.1, .si .i64 (fixT (aboveM wide 0 a b)).2.3.2, .si .u64 (fixT (aboveM wide 0 a b)).2.4.1, .si .u64 (fixT (aboveM wide 0 a b)).2.4.2, .si .i64 (fixT (aboveM wide 0 a b)).2.5.1, .si .i64 (fixT (aboveM wide 0 a b)).2.5.2, .sb (fixT (aboveM wide 0 a b)).3]))) ∧ Below w.heap.size w w' := by
  refine pure_to nameOK okn (dOK okn) 300 [.u (.c (.sb wide)), .u (.c (.li .u64 0)), .u (.agg (cB a)), .u (.agg (cB b))] (T := (.br (bNot wide) (.br wide (.leaf (.val (.u (.agg [(.si .u64 a.1.1), (.si .u64 a.1.2), (.si .u64 (iMax2 a.4.1 (iAdd .u64 b.4.1 0))), (.si .u64 a.4.2), (.si .i64 a.3.1), (.si .i64 a.3.2), (.si .u64 a.4.1), (.si .u64 a.4.2), (.si .i64 a.5.1), (.si .i64 a.5.2), (.si .u64 b.1.1), (.si .u64 b.1.2), (.si .u64 b.4.1), (.si .u64 (iMin2 b.4.2 (iSub .u64 a.4.2 0))), (.si .i64 b.3.1), (.si .i64 b.3.2), (.si .u64 b.4.1), (.si .u64 b.4.2), (.si .i64 b.5.1), (.si .i64 b.5.2), (.lb true)])))) (.leaf (.val (.u (.agg [(.si .u64 a.1.1), (.si .u64 a.1.2), (.si .u64 a.2.1), (.si .u64 a.2.2), (.si .i64 a.3.1), (.si .i64 a.3.2), (.si .u64 (iMax2 a.4.1 (iAdd .u64 b.4.1 0))), (.si .u64 a.4.2), (.si .i64 a.5.1), (.si .i64 a.5.2), (.si .u64 b.1.1), (.si .u64 b.1.2), (.si .u64 b.2.1), (.si .u64 b.2.2), (.si .i64 b.3.1), (.si .i64 b.3.2), (.si .u64 b.4.1), (.si .u64 (iMin2 b.4.2 (iSub .u64 a.4.2 0))), (.si .i64 b.5.1), (.si .i64 b.5.2), (.lb true)]))))) (.br wide (.leaf (.val (.u (.agg [(.si .u64 a.1.1), (.si .u64 a.1.2), (.si .u64 (iMax2 a.2.1 (iAdd .u64 b.2.1 0))), (.si .u64 a.2.2), (.si .i64 a.3.1), (.si .i64 a.3.2), (.si .u64 a.4.1), (.si .u64 a.4.2), (.si .i64 a.5.1), (.si .i64 a.5.2), (.si .u64 b.1.1), (.si .u64 b.1.2), (.si .u64 b.2.1), (.si .u64 (iMin2 b.2.2 (iSub .u64 a.2.2 0))), (.si .i64 b.3.1), (.si .i64 b.3.2), (.si .u64 b.4.1), (.si .u64 b.4.2), (.si .i64 b.5.1), (.si .i64 b.5.2), (.lb true)])))) (.leaf (.val (.u (.agg [(.si .u64 a.1.1), (.si .u64 a.1.2), (.si .u64 a.2.1), (.si .u64 a.2.2), (.si .i64 a.3.1), (.si .i64 a.3.2), (.si .u64 (iMax2 a.2.1 (iAdd .u64 b.2.1 0))), (.si .u64 a.2.2), (.si .i64 a.5.1), (.si .i64 a.5.2), (.si .u64 b.1.1), (.si .u64 b.1.2), (.si .u64 b.2.1), (.si .u64 b.2.2), (.si .i64 b.3.1), (.si .i64 b.3.2), (.si .u64 b.2.1), (.si .u64 (iMin2 b.2.2 (iSub .u64 a.2.2 0))), (.si .i64 b.5.1), (.si .i64 b.5.2), (.lb true)]))))))) (by kernel_rfl) ρ rfl ?_ w
  · have ia : Inv5 a := invB_iff.1 hb0
    have ib : Inv5 b := invB_iff.1 hb1
    refine brn2 (fun k1 => ?_) (fun k1 => ?_)
    · refine brT (k1) ?_
      subst k1
      have ra := uu_iff.1 ia.u; have rb := uu_iff.1 ib.u
      have e : aboveIs 0 a.u b.u = true := by unfold aboveIs; rw [decide_eq_true_eq]; rw [Sx.add_u]; omega
      simp only [Tr.all, aboveM, e, fixT, aboveX, aboveY, max_d, min_d]; try rfl
    · refine brF (k1) ?_
      subst k1
      have ra := uu_iff.1 (ww_uu ia.w); have rb := uu_iff.1 (ww_uu ib.w)
      have e : aboveIs 0 a.w b.w = true := by unfold aboveIs; rw [decide_eq_true_eq]; rw [Sx.add_u]; omega
      simp only [Tr.all, aboveM, e, fixT, aboveX, aboveY, max_d, min_d]; try rfl
theorem t_r6over0 (wide : Bool) (a : Bd) (b : Bd) (hb0 : invB a = true) (hb1 : invB b = true) (ρ : Nat → Nat) (w : World) : Calls Tryz.prog 124 (enV [.s none, .s (some .i64), .a [some .u64, some .u64, some .u64, some .u64, some .i64, some .i64, some .u64, some .u64, some .i64, some .i64], .a [some .u64, some .u64, some .u64, some .u64, some .i64, some .i64, some .u64, some .u64, some .i64, some .i64]] ([0, a.1.1, a.1.2, a.2.1, a.2.2, a.3.1, a.3.2, a.4.1, a.4.2, a.5.1, a.5.2, b.1.1, b.1.2, b.2.1, b.2.2, b.3.1, b.3.2, b.4.1, b.4.2, b.5.1, b.5.2], [wide])).toArray w fun e w' => e = .returned (V.den ρ (.u (.agg [.si .u64 (fixT (overM wide 0 a b)).1.1.1, .si .u64 (fixT (overM wide 0 a b)).1.1.2, .si .u64 (fixT (overM wide 0 a b)).1.2.1, .si .u64 (fixT (overM wide 0 a b)).1.2.2, .si .i64 (fixT (overM wide 0 a b)).1.3.1, .si .i64 (fixT (overM wide 0 a b)).1.3.2, .si .u64 (fixT (overM wide 0 a b)).1.4.1, .si .u64 (fixT (overM wide 0 a b)).1.4.2, .si .i64 (fixT (overM wide 0 a b)).1.5.1, .si .i64 (fixT (overM wide 0 a b)).1.5.2, .si .u64 (fixT (overM wide 0 a b)).2.1.1, .si .u64 (fixT (overM wide 0 a b)).2.1.2, .si .u64 (fixT (overM wide 0 a b)).2.2.1, .si .u64 (fixT (overM wide 0 a b)).2.2.2, .si .i64 (fixT (overM wide 0 a b)).2.3.1, .si .i64 (fixT (overM wide 0 a b)).2.3.2, .si .u64 (fixT (overM wide 0 a b)).2.4.1, .si .u64 (fixT (overM wide 0 a b)).2.4.2, .si .i64 (fixT (overM wide 0 a b)).2.5.1, .si .i64 (fixT (overM wide 0 a b)).2.5.2, .sb (fixT (overM wide 0 a b)).3]))) ∧ Below w.heap.size w w' := by
  refine pure_to nameOK okn (dOK okn) 300 [.u (.c (.sb wide)), .u (.c (.li .i64 0)), .u (.agg (cB a)), .u (.agg (cB b))] (T := (.br (bNot wide) (.br wide (.leaf (.val (.u (.agg [(.si .u64 a.1.1), (.si .u64 a.1.2), (.si .u64 a.2.1), (.si .u64 a.2.2), (.si .i64 (iMax2 a.5.1 (iAdd .i64 b.5.1 0))), (.si .i64 a.5.2), (.si .u64 a.4.1), (.si .u64 a.4.2), (.si .i64 a.5.1), (.si .i64 a.5.2), (.si .u64 b.1.1), (.si .u64 b.1.2), (.si .u64 b.2.1), (.si .u64 b.2.2), (.si .i64 b.5.1), (.si .i64 (iMin2 b.5.2 (iSub .i64 a.5.2 0))), (.si .u64 b.4.1), (.si .u64 b.4.2), (.si .i64 b.5.1), (.si .i64 b.5.2), (.lb true)])))) (.leaf (.val (.u (.agg [(.si .u64 a.1.1), (.si .u64 a.1.2), (.si .u64 a.2.1), (.si .u64 a.2.2), (.si .i64 a.3.1), (.si .i64 a.3.2), (.si .u64 a.4.1), (.si .u64 a.4.2), (.si .i64 (iMax2 a.5.1 (iAdd .i64 b.5.1 0))), (.si .i64 a.5.2), (.si .u64 b.1.1), (.si .u64 b.1.2), (.si .u64 b.2.1), (.si .u64 b.2.2), (.si .i64 b.3.1), (.si .i64 b.3.2), (.si .u64 b.4.1), (.si .u64 b.4.2), (.si .i64 b.5.1), (.si .i64 (iMin2 b.5.2 (iSub .i64 a.5.2 0))), (.lb true)]))))) (.br wide (.leaf (.val (.u (.agg [(.si .u64 a.1.1), (.si .u64 a.1.2), (.si .u64 a.2.1), (.si .u64 a.2.2), (.si .i64 (iMax2 a.3.1 (iAdd .i64 b.3.1 0))), (.si .i64 a.3.2), (.si .u64 a.4.1), (.si .u64 a.4.2), (.si .i64 a.5.1), (.si .i64 a.5.2), (.si .u64 b.1.1), (.si .u64 b.1.2), (.si .u64 b.2.1), (.si .u64 b.2.2), (.si .i64 b.3.1), (.si .i64 (iMin2 b.3.2 (iSub .i64 a.3.2 0))), (.si .u64 b.4.1), (.si .u64 b.4.2), (.si .i64 b.5.1), (.si .i64 b.5.2), (.lb true)])))) (.leaf (.val (.u (.agg [(.si .u64 a.1.1), (.si .u64 a.1.2), (.si .u64 a.2.1), (.si .u64 a.2.2), (.si .i64 a.3.1), (.si .i64 a.3.2), (.si .u64 a.4.1), (.si .u64 a.4.2), (.si .i64 (iMax2 a.3.1 (iAdd .i64 b.3.1 0))), (.si .i64 a.3.2), (.si .u64 b.1.1), (.si .u64 b.1.2), (.si .u64 b.2.1), (.si .u64 b.2.2), (.si .i64 b.3.1), (.si .i64 b.3.2), (.si .u64 b.4.1), (.si .u64 b.4.2), (.si .i64 b.3.1), (.si .i64 (iMin2 b.3.2 (iSub .i64 a.3.2 0))), (.lb true)]))))))) (by kernel_rfl) ρ rfl ?_ w
  · have ia : Inv5 a := invB_iff.1 hb0
    have ib : Inv5 b := invB_iff.1 hb1
    refine brn2 (fun k1 => ?_) (fun k1 => ?_)
    · refine brT (k1) ?_
      subst k1
      have ra := ia.s; have rb := ib.s; unfold II at ra rb
      have e : overIs 0 a.s b.s = true := by unfold overIs; rw [decide_eq_true_eq]; rw [add_i, sub_i]; omega
      simp only [Tr.all, overM, e, fixT, overX, overY, max_d, min_d]; try rfl
    · refine brF (k1) ?_
      subst k1
      have ra := ia.raw.v; have rb := ib.raw.v; unfold II at ra rb
      have e : overIs 0 a.v b.v = true := by unfold overIs; rw [decide_eq_true_eq]; rw [add_i, sub_i]; omega
      simp only [Tr.all, overM, e, fixT, overX, overY, max_d, min_d]; try rfl
theorem t_r6above1 (wide : Bool) (a : Bd) (b : Bd) (hb0 : invB a = true) (hb1 : invB b = true) (ρ : Nat → Nat) (w : World) : Calls Tryz.prog 122 (enV [.s none, .s (some .u64), .a [some .u64, some .u64, some .u64, some .u64, some .i64, some .i64, some .u64, some .u64, some .i64, some .i64], .a [some .u64, some .u64, some .u64, some .u64, some .i64, some .i64, some .u64, some .u64, some .i64, some .i64]] ([1, a.1.1, a.1.2, a.2.1, a.2.2, a.3.1, a.3.2, a.4.1, a.4.2, a.5.1, a.5.2, b.1.1, b.1.2, b.2.1, b.2.2, b.3.1, b.3.2, b.4.1, b.4.2, b.5.1, b.5.2], [wide])).toArray w fun e w' => e = .returned (V.den ρ (.u (.agg [.si .u64 (fixT (aboveM wide 1 a b)).1.1.1, .si .u64 (fixT (aboveM wide 1 a b)).1.1.2, .si .u64 (fixT (aboveM wide 1 a b)).1.2.1, .si .u64 (fixT (aboveM wide 1 a b)).1.2.2, .si .i64 (fixT (aboveM wide 1 a b)).1.3.1, .si .i64 (fixT (aboveM wide 1 a b)).1.3.2, .si .u64 (fixT (aboveM wide 1 a b)).1.4.1, .si .u64 (fixT (aboveM wide 1 a b)).1.4.2, .si .i64 (fixT (aboveM wide 1 a b)).1.5.1, .si .i64 (fixT (aboveM wide 1 a b)).1.5.2, .si .u64 (fixT (aboveM wide 1 a b)).2.1.1, .si .u64 (fixT (aboveM wide 1 a b)).2.1.2, .si .u64 (fixT (aboveM wide 1 a b)).2.2.1, .si .u64 (fixT (aboveM wide 1 a b)).2.2.2, .si .i64 (fixT (aboveM wide 1 a b)).2.3.1, .si .i64 (fixT (aboveM wide 1 a b)).2.3.2, .si .u64 (fixT (aboveM wide 1 a b)).2.4.1, .si .u64 (fixT (aboveM wide 1 a b)).2.4.2, .si .i64 (fixT (aboveM wide 1 a b)).2.5.1, .si .i64 (fixT (aboveM wide 1 a b)).2.5.2, .sb (fixT (aboveM wide 1 a b)).3]))) ∧ Below w.heap.size w w' := by
  refine pure_to nameOK okn (dOK okn) 300 [.u (.c (.sb wide)), .u (.c (.li .u64 1)), .u (.agg (cB a)), .u (.agg (cB b))] (T := (.br (bNot wide) (.br (iEq b.4.1 18446744073709551615) (.leaf (.val (.u (.agg [(.li .u64 0), (.li .u64 0), (.li .u64 1), (.li .u64 0), (.li .i64 1), (.li .i64 0), (.li .u64 1), (.li .u64 0), (.li .i64 1), (.li .i64 0), (.li .u64 0), (.li .u64 0), (.li .u64 1), (.li .u64 0), (.li .i64 1), (.li .i64 0), (.li .u64 1), (.li .u64 0), (.li .i64 1), (.li .i64 0), (.lb false)])))) (.br (iEq a.4.2 0) (.leaf (.val (.u (.agg [(.li .u64 0), (.li .u64 0), (.li .u64 1), (.li .u64 0), (.li .i64 1), (.li .i64 0), (.li .u64 1), (.li .u64 0), (.li .i64 1), (.li .i64 0), (.li .u64 0), (.li .u64 0), (.li .u64 1), (.li .u64 0), (.li .i64 1), (.li .i64 0), (.li .u64 1), (.li .u64 0), (.li .i64 1), (.li .i64 0), (.lb false)])))) (.br wide (.leaf (.val (.u (.agg [(.si .u64 a.1.1), (.si .u64 a.1.2), (.si .u64 (iMax2 a.4.1 (iAdd .u64 b.4.1 1))), (.si .u64 a.4.2), (.si .i64 a.3.1), (.si .i64 a.3.2), (.si .u64 a.4.1), (.si .u64 a.4.2), (.si .i64 a.5.1), (.si .i64 a.5.2), (.si .u64 b.1.1), (.si .u64 b.1.2), (.si .u64 b.4.1), (.si .u64 (iMin2 b.4.2 (iSub .u64 a.4.2 1))), (.si .i64 b.3.1), (.si .i64 b.3.2), (.si .u64 b.4.1), (.si .u64 b.4.2), (.si .i64 b.5.1), (.si .i64 b.5.2), (.lb true)])))) (.leaf (.val (.u (.agg [(.si .u64 a.1.1), (.si .u64 a.1.2), (.si .u64 a.2.1), (.si .u64 a.2.2), (.si .i64 a.3.1), (.si .i64 a.3.2), (.si .u64 (iMax2 a.4.1 (iAdd .u64 b.4.1 1))), (.si .u64 a.4.2), (.si .i64 a.5.1), (.si .i64 a.5.2), (.si .u64 b.1.1), (.si .u64 b.1.2), (.si .u64 b.2.1), (.si .u64 b.2.2), (.si .i64 b.3.1), (.si .i64 b.3.2), (.si .u64 b.4.1), (.si .u64 (iMin2 b.4.2 (iSub .u64 a.4.2 1))), (.si .i64 b.5.1), (.si .i64 b.5.2), (.lb true)]))))))) (.br (iEq b.2.1 18446744073709551615) (.leaf (.val (.u (.agg [(.li .u64 0), (.li .u64 0), (.li .u64 1), (.li .u64 0), (.li .i64 1), (.li .i64 0), (.li .u64 1), (.li .u64 0), (.li .i64 1), (.li .i64 0), (.li .u64 0), (.li .u64 0), (.li .u64 1), (.li .u64 0), (.li .i64 1), (.li .i64 0), (.li .u64 1), (.li .u64 0), (.li .i64 1), (.li .i64 0), (.lb false)])))) (.br (iEq a.2.2 0) (.leaf (.val (.u (.agg [(.li .u64 0), (.li .u64 0), (.li .u64 1), (.li .u64 0), (.li .i64 1), (.li .i64 0), (.li .u64 1), (.li .u64 0), (.li .i64 1), (.li .i64 0), (.li .u64 0), (.li .u64 0), (.li .u64 1), (.li .u64 0), (.li .i64 1), (.li .i64 0), (.li .u64 1), (.li .u64 0), (.li .i64 1), (.li .i64 0), (.lb false)])))) (.br wide (.leaf (.val (.u (.agg [(.si .u64 a.1.1), (.si .u64 a.1.2), (.si .u64 (iMax2 a.2.1 (iAdd .u64 b.2.1 1))), (.si .u64 a.2.2), (.si .i64 a.3.1), (.si .i64 a.3.2), (.si .u64 a.4.1), (.si .u64 a.4.2), (.si .i64 a.5.1), (.si .i64 a.5.2), (.si .u64 b.1.1), (.si .u64 b.1.2), (.si .u64 b.2.1), (.si .u64 (iMin2 b.2.2 (iSub .u64 a.2.2 1))), (.si .i64 b.3.1), (.si .i64 b.3.2), (.si .u64 b.4.1), (.si .u64 b.4.2), (.si .i64 b.5.1), (.si .i64 b.5.2), (.lb true)])))) (.leaf (.val (.u (.agg [(.si .u64 a.1.1), (.si .u64 a.1.2), (.si .u64 a.2.1), (.si .u64 a.2.2), (.si .i64 a.3.1), (.si .i64 a.3.2), (.si .u64 (iMax2 a.2.1 (iAdd .u64 b.2.1 1))), (.si .u64 a.2.2), (.si .i64 a.5.1), (.si .i64 a.5.2), (.si .u64 b.1.1), (.si .u64 b.1.2), (.si .u64 b.2.1), (.si .u64 b.2.2), (.si .i64 b.3.1), (.si .i64 b.3.2), (.si .u64 b.2.1), (.si .u64 (iMin2 b.2.2 (iSub .u64 a.2.2 1))), (.si .i64 b.5.1), (.si .i64 b.5.2), (.lb true)]))))))))) (by kernel_rfl) ρ rfl ?_ w
  · have ia : Inv5 a := invB_iff.1 hb0
    have ib : Inv5 b := invB_iff.1 hb1
    refine brn2 (fun k1 => ?_) (fun k1 => ?_)
    · refine br2 (fun k2 => ?_) (fun k2 => ?_)
      · subst k1
        have q0 := eq_t.1 k2
        have ra := uu_iff.1 ia.u; have rb := uu_iff.1 ib.u
        have e : aboveIs 1 a.u b.u = false := by unfold aboveIs; rw [decide_eq_false_iff_not]; rw [Sx.add_u]; omega
        simp only [Tr.all, aboveM, e, fixT, aboveX, aboveY, max_d, min_d]; try rfl
      · refine br2 (fun k3 => ?_) (fun k3 => ?_)
        · subst k1
          have q0 := eq_f.1 k2
          have q1 := eq_t.1 k3
          have ra := uu_iff.1 ia.u; have rb := uu_iff.1 ib.u
          have e : aboveIs 1 a.u b.u = false := by unfold aboveIs; rw [decide_eq_false_iff_not]; rw [Sx.add_u]; omega
          simp only [Tr.all, aboveM, e, fixT, aboveX, aboveY, max_d, min_d]; try rfl
        · refine brT (k1) ?_
          subst k1
          have q0 := eq_f.1 k2
          have q1 := eq_f.1 k3
          have ra := uu_iff.1 ia.u; have rb := uu_iff.1 ib.u
          have e : aboveIs 1 a.u b.u = true := by unfold aboveIs; rw [decide_eq_true_eq]; rw [Sx.add_u]; omega
          simp only [Tr.all, aboveM, e, fixT, aboveX, aboveY, max_d, min_d]; try rfl
    · refine br2 (fun k4 => ?_) (fun k4 => ?_)
      · subst k1
        have q0 := eq_t.1 k4
        have ra := uu_iff.1 (ww_uu ia.w); have rb := uu_iff.1 (ww_uu ib.w)
        have e : aboveIs 1 a.w b.w = false := by unfold aboveIs; rw [decide_eq_false_iff_not]; rw [Sx.add_u]; omega
        simp only [Tr.all, aboveM, e, fixT, aboveX, aboveY, max_d, min_d]; try rfl
      · refine br2 (fun k5 => ?_) (fun k5 => ?_)
        · subst k1
          have q0 := eq_f.1 k4
          have q1 := eq_t.1 k5
          have ra := uu_iff.1 (ww_uu ia.w); have rb := uu_iff.1 (ww_uu ib.w)
          have e : aboveIs 1 a.w b.w = false := by unfold aboveIs; rw [decide_eq_false_iff_not]; rw [Sx.add_u]; omega
          simp only [Tr.all, aboveM, e, fixT, aboveX, aboveY, max_d, min_d]; try rfl
        · refine brF (k1) ?_
          subst k1
          have q0 := eq_f.1 k4
          have q1 := eq_f.1 k5
          have ra := uu_iff.1 (ww_uu ia.w); have rb := uu_iff.1 (ww_uu ib.w)
          have e : aboveIs 1 a.w b.w = true := by unfold aboveIs; rw [decide_eq_true_eq]; rw [Sx.add_u]; omega
          simp only [Tr.all, aboveM, e, fixT, aboveX, aboveY, max_d, min_d]; try rfl
theorem t_r6over1 (wide : Bool) (a : Bd) (b : Bd) (hb0 : invB a = true) (hb1 : invB b = true) (ρ : Nat → Nat) (w : World) : Calls Tryz.prog 124 (enV [.s none, .s (some .i64), .a [some .u64, some .u64, some .u64, some .u64, some .i64, some .i64, some .u64, some .u64, some .i64, some .i64], .a [some .u64, some .u64, some .u64, some .u64, some .i64, some .i64, some .u64, some .u64, some .i64, some .i64]] ([1, a.1.1, a.1.2, a.2.1, a.2.2, a.3.1, a.3.2, a.4.1, a.4.2, a.5.1, a.5.2, b.1.1, b.1.2, b.2.1, b.2.2, b.3.1, b.3.2, b.4.1, b.4.2, b.5.1, b.5.2], [wide])).toArray w fun e w' => e = .returned (V.den ρ (.u (.agg [.si .u64 (fixT (overM wide 1 a b)).1.1.1, .si .u64 (fixT (overM wide 1 a b)).1.1.2, .si .u64 (fixT (overM wide 1 a b)).1.2.1, .si .u64 (fixT (overM wide 1 a b)).1.2.2, .si .i64 (fixT (overM wide 1 a b)).1.3.1, .si .i64 (fixT (overM wide 1 a b)).1.3.2, .si .u64 (fixT (overM wide 1 a b)).1.4.1, .si .u64 (fixT (overM wide 1 a b)).1.4.2, .si .i64 (fixT (overM wide 1 a b)).1.5.1, .si .i64 (fixT (overM wide 1 a b)).1.5.2, .si .u64 (fixT (overM wide 1 a b)).2.1.1, .si .u64 (fixT (overM wide 1 a b)).2.1.2, .si .u64 (fixT (overM wide 1 a b)).2.2.1, .si .u64 (fixT (overM wide 1 a b)).2.2.2, .si .i64 (fixT (overM wide 1 a b)).2.3.1, .si .i64 (fixT (overM wide 1 a b)).2.3.2, .si .u64 (fixT (overM wide 1 a b)).2.4.1, .si .u64 (fixT (overM wide 1 a b)).2.4.2, .si .i64 (fixT (overM wide 1 a b)).2.5.1, .si .i64 (fixT (overM wide 1 a b)).2.5.2, .sb (fixT (overM wide 1 a b)).3]))) ∧ Below w.heap.size w w' := by
  refine pure_to nameOK okn (dOK okn) 300 [.u (.c (.sb wide)), .u (.c (.li .i64 1)), .u (.agg (cB a)), .u (.agg (cB b))] (T := (.br (bNot wide) (.br (iEq b.5.1 9223372036854775807) (.leaf (.val (.u (.agg [(.li .u64 0), (.li .u64 0), (.li .u64 1), (.li .u64 0), (.li .i64 1), (.li .i64 0), (.li .u64 1), (.li .u64 0), (.li .i64 1), (.li .i64 0), (.li .u64 0), (.li .u64 0), (.li .u64 1), (.li .u64 0), (.li .i64 1), (.li .i64 0), (.li .u64 1), (.li .u64 0), (.li .i64 1), (.li .i64 0), (.lb false)])))) (.br (iEq a.5.2 (-9223372036854775808)) (.leaf (.val (.u (.agg [(.li .u64 0), (.li .u64 0), (.li .u64 1), (.li .u64 0), (.li .i64 1), (.li .i64 0), (.li .u64 1), (.li .u64 0), (.li .i64 1), (.li .i64 0), (.li .u64 0), (.li .u64 0), (.li .u64 1), (.li .u64 0), (.li .i64 1), (.li .i64 0), (.li .u64 1), (.li .u64 0), (.li .i64 1), (.li .i64 0), (.lb false)])))) (.br wide (.leaf (.val (.u (.agg [(.si .u64 a.1.1), (.si .u64 a.1.2), (.si .u64 a.2.1), (.si .u64 a.2.2), (.si .i64 (iMax2 a.5.1 (iAdd .i64 b.5.1 1))), (.si .i64 a.5.2), (.si .u64 a.4.1), (.si .u64 a.4.2), (.si .i64 a.5.1), (.si .i64 a.5.2), (.si .u64 b.1.1), (.si .u64 b.1.2), (.si .u64 b.2.1), (.si .u64 b.2.2), (.si .i64 b.5.1), (.si .i64 (iMin2 b.5.2 (iSub .i64 a.5.2 1))), (.si .u64 b.4.1), (.si .u64 b.4.2), (.si .i64 b.5.1), (.si .i64 b.5.2), (.lb true)])))) (.leaf (.val (.u (.agg [(.si .u64 a.1.1), (.si .u64 a.1.2), (.si .u64 a.2.1), (.si .u64 a.2.2), (.si .i64 a.3.1), (.si .i64 a.3.2), (.si .u64 a.4.1), (.si .u64 a.4.2), (.si .i64 (iMax2 a.5.1 (iAdd .i64 b.5.1 1))), (.si .i64 a.5.2), (.si .u64 b.1.1), (.si .u64 b.1.2), (.si .u64 b.2.1), (.si .u64 b.2.2), (.si .i64 b.3.1), (.si .i64 b.3.2), (.si .u64 b.4.1), (.si .u64 b.4.2), (.si .i64 b.5.1), (.si .i64 (iMin2 b.5.2 (iSub .i64 a.5.2 1))), (.lb true)]))))))) (.br (iEq b.3.1 9223372036854775807) (.leaf (.val (.u (.agg [(.li .u64 0), (.li .u64 0), (.li .u64 1), (.li .u64 0), (.li .i64 1), (.li .i64 0), (.li .u64 1), (.li .u64 0), (.li .i64 1), (.li .i64 0), (.li .u64 0), (.li .u64 0), (.li .u64 1), (.li .u64 0), (.li .i64 1), (.li .i64 0), (.li .u64 1), (.li .u64 0), (.li .i64 1), (.li .i64 0), (.lb false)])))) (.br (iEq a.3.2 (-9223372036854775808)) (.leaf (.val (.u (.agg [(.li .u64 0), (.li .u64 0), (.li .u64 1), (.li .u64 0), (.li .i64 1), (.li .i64 0), (.li .u64 1), (.li .u64 0), (.li .i64 1), (.li .i64 0), (.li .u64 0), (.li .u64 0), (.li .u64 1), (.li .u64 0), (.li .i64 1), (.li .i64 0), (.li .u64 1), (.li .u64 0), (.li .i64 1), (.li .i64 0), (.lb false)])))) (.br wide (.leaf (.val (.u (.agg [(.si .u64 a.1.1), (.si .u64 a.1.2), (.si .u64 a.2.1), (.si .u64 a.2.2), (.si .i64 (iMax2 a.3.1 (iAdd .i64 b.3.1 1))), (.si .i64 a.3.2), (.si .u64 a.4.1), (.si .u64 a.4.2), (.si .i64 a.5.1), (.si .i64 a.5.2), (.si .u64 b.1.1), (.si .u64 b.1.2), (.si .u64 b.2.1), (.si .u64 b.2.2), (.si .i64 b.3.1), (.si .i64 (iMin2 b.3.2 (iSub .i64 a.3.2 1))), (.si .u64 b.4.1), (.si .u64 b.4.2), (.si .i64 b.5.1), (.si .i64 b.5.2), (.lb true)])))) (.leaf (.val (.u (.agg [(.si .u64 a.1.1), (.si .u64 a.1.2), (.si .u64 a.2.1), (.si .u64 a.2.2), (.si .i64 a.3.1), (.si .i64 a.3.2), (.si .u64 a.4.1), (.si .u64 a.4.2), (.si .i64 (iMax2 a.3.1 (iAdd .i64 b.3.1 1))), (.si .i64 a.3.2), (.si .u64 b.1.1), (.si .u64 b.1.2), (.si .u64 b.2.1), (.si .u64 b.2.2), (.si .i64 b.3.1), (.si .i64 b.3.2), (.si .u64 b.4.1), (.si .u64 b.4.2), (.si .i64 b.3.1), (.si .i64 (iMin2 b.3.2 (iSub .i64 a.3.2 1))), (.lb true)]))))))))) (by kernel_rfl) ρ rfl ?_ w
  · have ia : Inv5 a := invB_iff.1 hb0
    have ib : Inv5 b := invB_iff.1 hb1
    refine brn2 (fun k1 => ?_) (fun k1 => ?_)
    · refine br2 (fun k2 => ?_) (fun k2 => ?_)
      · subst k1
        have q0 := eq_t.1 k2
        have ra := ia.s; have rb := ib.s; unfold II at ra rb
        have e : overIs 1 a.s b.s = false := by unfold overIs; rw [decide_eq_false_iff_not]; rw [add_i, sub_i]; omega
        simp only [Tr.all, overM, e, fixT, overX, overY, max_d, min_d]; try rfl
      · refine br2 (fun k3 => ?_) (fun k3 => ?_)
        · subst k1
          have q0 := eq_f.1 k2
          have q1 := eq_t.1 k3
          have ra := ia.s; have rb := ib.s; unfold II at ra rb
          have e : overIs 1 a.s b.s = false := by unfold overIs; rw [decide_eq_false_iff_not]; rw [add_i, sub_i]; omega
          simp only [Tr.all, overM, e, fixT, overX, overY, max_d, min_d]; try rfl
        · refine brT (k1) ?_
          subst k1
          have q0 := eq_f.1 k2
          have q1 := eq_f.1 k3
          have ra := ia.s; have rb := ib.s; unfold II at ra rb
          have e : overIs 1 a.s b.s = true := by unfold overIs; rw [decide_eq_true_eq]; rw [add_i, sub_i]; omega
          simp only [Tr.all, overM, e, fixT, overX, overY, max_d, min_d]; try rfl
    · refine br2 (fun k4 => ?_) (fun k4 => ?_)
      · subst k1
        have q0 := eq_t.1 k4
        have ra := ia.raw.v; have rb := ib.raw.v; unfold II at ra rb
        have e : overIs 1 a.v b.v = false := by unfold overIs; rw [decide_eq_false_iff_not]; rw [add_i, sub_i]; omega
        simp only [Tr.all, overM, e, fixT, overX, overY, max_d, min_d]; try rfl
      · refine br2 (fun k5 => ?_) (fun k5 => ?_)
        · subst k1
          have q0 := eq_f.1 k4
          have q1 := eq_t.1 k5
          have ra := ia.raw.v; have rb := ib.raw.v; unfold II at ra rb
          have e : overIs 1 a.v b.v = false := by unfold overIs; rw [decide_eq_false_iff_not]; rw [add_i, sub_i]; omega
          simp only [Tr.all, overM, e, fixT, overX, overY, max_d, min_d]; try rfl
        · refine brF (k1) ?_
          subst k1
          have q0 := eq_f.1 k4
          have q1 := eq_f.1 k5
          have ra := ia.raw.v; have rb := ib.raw.v; unfold II at ra rb
          have e : overIs 1 a.v b.v = true := by unfold overIs; rw [decide_eq_true_eq]; rw [add_i, sub_i]; omega
          simp only [Tr.all, overM, e, fixT, overX, overY, max_d, min_d]; try rfl
theorem t_r6aboveH (wide : Bool) (n : Int) (a : Bd) (b : Bd) (hb0 : is01 n = true) (hb1 : invB a = true) (hb2 : invB b = true) (ρ : Nat → Nat) (w : World) : Calls Tryz.prog 122 (enV [.s none, .s (some .u64), .a [some .u64, some .u64, some .u64, some .u64, some .i64, some .i64, some .u64, some .u64, some .i64, some .i64], .a [some .u64, some .u64, some .u64, some .u64, some .i64, some .i64, some .u64, some .u64, some .i64, some .i64]] ([n, a.1.1, a.1.2, a.2.1, a.2.2, a.3.1, a.3.2, a.4.1, a.4.2, a.5.1, a.5.2, b.1.1, b.1.2, b.2.1, b.2.2, b.3.1, b.3.2, b.4.1, b.4.2, b.5.1, b.5.2], [wide])).toArray w fun e w' => e = .returned (V.den ρ (.u (.agg [.si .u64 (fixT (aboveM wide n a b)).1.1.1, .si .u64 (fixT (aboveM wide n a b)).1.1.2, .si .u64 (fixT (aboveM wide n a b)).1.2.1, .si .u64 (fixT (aboveM wide n a b)).1.2.2, .si .i64 (fixT (aboveM wide n a b)).1.3.1, .si .i64 (fixT (aboveM wide n a b)).1.3.2, .si .u64 (fixT (aboveM wide n a b)).1.4.1, .si .u64 (fixT (aboveM wide n a b)).1.4.2, .si .i64 (fixT (aboveM wide n a b)).1.5.1, .si .i64 (fixT (aboveM wide n a b)).1.5.2, .si .u64 (fixT (aboveM wide n a b)).2.1.1, .si .u64 (fixT (aboveM wide n a b)).2.1.2, .si .u64 (fixT (aboveM wide n a b)).2.2.1, .si .u64 (fixT (aboveM wide n a b)).2.2.2, .si .i64 (fixT (aboveM wide n a b)).2.3.1, .si .i64 (fixT (aboveM wide n a b)).2.3.2, .si .u64 (fixT (aboveM wide n a b)).2.4.1, .si .u64 (fixT (aboveM wide n a b)).2.4.2, .si .i64 (fixT (aboveM wide n a b)).2.5.1, .si .i64 (fixT (aboveM wide n a b)).2.5.2, .sb (fixT (aboveM wide n a b)).3]))) ∧ Below w.heap.size w w' := by
  have hcs := of_decide_eq_true hb0
  rcases hcs with rfl | rfl
  · exact t_r6above0 wide a b hb1 hb2 ρ w
  · exact t_r6above1 wide a b hb1 hb2 ρ w
def s_r6aboveH : Sum := bySum 122 [.s none, .s (some .u64), .a [some .u64, some .u64, some .u64, some .u64, some .i64, some .i64, some .u64, some .u64, some .i64, some .i64], .a [some .u64, some .u64, some .u64, some .u64, some .i64, some .i64, some .u64, some .u64, some .i64, some .i64]] fun
  | [a0, a1, a2, a3, a4, a5, a6, a7, a8, a9, a10, a11, a12, a13, a14, a15, a16, a17, a18, a19, a20], [o0] => some ([is01 a0, invB (Bd.mk (P2.mk a1 a2) (P2.mk a3 a4) (P2.mk a5 a6) (P2.mk a7 a8) (P2.mk a9 a10)), invB (Bd.mk (P2.mk a11 a12) (P2.mk a13 a14) (P2.mk a15 a16) (P2.mk a17 a18) (P2.mk a19 a20))], .u (.agg [.si .u64 (fixT (aboveM o0 a0 (Bd.mk (P2.mk a1 a2) (P2.mk a3 a4) (P2.mk a5 a6) (P2.mk a7 a8) (P2.mk a9 a10)) (Bd.mk (P2.mk a11 a12) (P2.mk a13 a14) (P2.mk a15 a16) (P2.mk a17 a18) (P2.mk a19 a20)))).1.1.1, .si .u64 (fixT (aboveM o0 a0 (Bd.mk (P2.mk a1 a2) (P2.mk a3 a4) (P2.mk a5 a6) (P2.mk a7 a8) (P2.mk a9 a10)) (Bd.mk (P2.mk a11 a12) (P2.mk a13 a14) (P2.mk a15 a16) (P2.mk a17 a18) (P2.mk a19 a20)))).1.1.2, .si .u64 (fixT (aboveM o0 a0 (Bd.mk (P2.mk a1 a2) (P2.mk a3 a4) (P2.mk a5 a6) (P2.mk a7 a8) (P2.mk a9 a10)) (Bd.mk (P2.mk a11 a12) (P2.mk a13 a14) (P2.mk a15 a16) (P2.mk a17 a18) (P2.mk a19 a20)))).1.2.1, .si .u64 (fixT (aboveM o0 a0 (Bd.mk (P2.mk a1 a2) (P2.mk a3 a4) (P2.mk a5 a6) (P2.mk a7 a8) (P2.mk a9 a10)) (Bd.mk (P2.mk a11 a12) (P2.mk a13 a14) (P2.mk a15 a16) (P2.mk a17 a18) (P2.mk a19 a20)))).1.2.2, .si .i64 (fixT (aboveM o0 a0 (Bd.mk (P2.mk a1 a2) (P2.mk a3 a4) (P2.mk a5 a6) (P2.mk a7 a8) (P2.mk a9 a10)) (Bd.mk (P2.mk a11 a12) (P2.mk a13 a14) (P2.mk a15 a16) (P2.mk a17 a18) (P2.mk a19 a20)))).1.3.1, .si .i64 (fixT (aboveM o0 a0 (Bd.mk (P2.mk a1 a2) (P2.mk a3 a4) (P2.mk a5 a6) (P2.mk a7 a8) (P2.mk a9 a10)) (Bd.mk (P2.mk a11 a12) (P2.mk a13 a14) (P2.mk a15 a16) (P2.mk a17 a18) (P2.mk a19 a20)))).1.3.2, .si .u64 (fixT (aboveM o0 a0 (Bd.mk (P2.mk a1 a2) (P2.mk a3 a4) (P2.mk a5 a6) (P2.mk a7 a8) (P2.mk a9 a10)) (Bd.mk (P2.mk a11 a12) (P2.mk a13 a14) (P2.mk a15 a16) (P2.mk a17 a18) (P2.mk a19 a20)))).1.4.1, .si .u64 (fixT (aboveM o0 a0 (Bd.mk (P2.mk a1 a2) (P2.mk a3 a4) (P2.mk a5 a6) (P2.mk a7 a8) (P2.mk a9 a10)) (Bd.mk (P2.mk a11 a12) (P2.mk a13 a14) (P2.mk a15 a16) (P2.mk a17 a18) (P2.mk a19 a20)))).1.4.2, .si .i64 (fixT (aboveM o0 a0 (Bd.mk (P2.mk a1 a2) (P2.mk a3 a4) (P2.mk a5 a6) (P2.mk a7 a8) (P2.mk a9 a10)) (Bd.mk (P2.mk a11 a12) (P2.mk a13 a14) (P2.mk a15 a16) (P2.mk a17 a18) (P2.mk a19 a20)))).1.5.1, .si .i64 (fixT (aboveM o0 a0 (Bd.mk (P2.mk a1 a2) (P2.mk a3 a4) (P2.mk a5 a6) (P2.mk a7 a8) (P2.mk a9 a10)) (Bd.mk (P2.mk a11 a12) (P2.mk a13 a14) (P2.mk a15 a16) (P2.mk a17 a18) (P2.mk a19 a20)))).1.5.2, .si .u64 (fixT (aboveM o0 a0 (Bd.mk (P2.mk a1 a2) (P2.mk a3 a4) (P2.mk a5 a6) (P2.mk a7 a8) (P2.mk a9 a10)) (Bd.mk (P2.mk a11 a12) (P2.mk a13 a14) (P2.mk a15 a16) (P2.mk a17 a18) (P2.mk a19 a20)))).2.1.1, .si .u64 (fixT (aboveM o0 a0 (Bd.mk (P2.mk a1 a2) (P2.mk a3 a4) (P2.mk a5 a6) (P2.mk a7 a8) (P2.mk a9 a10)) (Bd.mk (P2.mk a11 a12) (P2.mk a13 a14) (P2.mk a15 a16) (P2.mk a17 a18) (P2.mk a19 a20)))).2.1.2, .si .u64 (fixT (aboveM o0 a0 (Bd.mk (P2.mk a1 a2) (P2.mk a3 a4) (P2.mk a5 a6) (P2.mk a7 a8) (P2.mk a9 a10)) (Bd.mk (P2.mk a11 a12) (P2.mk a13 a14) (P2.mk a15 a16) (P2.mk a17 a18) (P2.mk a19 a20)))).2.2.1, .si .u64 (fixT (aboveM o0 a0 (Bd.mk (P2.mk a1 a2) (P2.mk a3 a4) (P2.mk a5 a6) (P2.mk a7 a8) (P2.mk a9 a10)) (Bd.mk (P2.mk a11 a12) (P2.mk a13 a14) (P2.mk a15 a16) (P2.mk a17 a18) (P2.mk a19 a20)))).2.2.2, .si .i64 (fixT (aboveM o0 a0 (Bd.mk (P2.mk a1 a2) (P2.mk a3 a4) (P2.mk a5 a6) (P2.mk a7 a8) (P2.mk a9 a10)) (Bd.mk (P2.mk a11 a12) (P2.mk a13 a14) (P2.mk a15 a16) (P2.mk a17 a18) (P2.mk a19 a20)))).2.3.1, .si .i64 (fixT (aboveM o0 a0 (Bd.mk (P2.mk a1 a2) (P2.mk a3 a4) (P2.mk a5 a6) (P2.mk a7 a8) (P2.mk a9 a10)) (Bd.mk (P2.mk a11 a12) (P2.mk a13 a14) (P2.mk a15 a16) (P2.mk a17 a18) (P2.mk a19 a20)))).2.3.2, .si .u64 (fixT (aboveM o0 a0 (Bd.mk (P2.mk a1 a2) (P2.mk a3 a4) (P2.mk a5 a6) (P2.mk a7 a8) (P2.mk a9 a10)) (Bd.mk (P2.mk a11 a12) (P2.mk a13 a14) (P2.mk a15 a16) (P2.mk a17 a18) (P2.mk a19 a20)))).2.4.1, .si .u64 (fixT (aboveM o0 a0 (Bd.mk (P2.mk a1 a2) (P2.mk a3 a4) (P2.mk a5 a6) (P2.mk a7 a8) (P2.mk a9 a10)) (Bd.mk (P2.mk a11 a12) (P2.mk a13 a14) (P2.mk a15 a16) (P2.mk a17 a18) (P2.mk a19 a20)))).2.4.2, .si .i64 (fixT (aboveM o0 a0 (Bd.mk (P2.mk a1 a2) (P2.mk a3 a4) (P2.mk a5 a6) (P2.mk a7 a8) (P2.mk a9 a10)) (Bd.mk (P2.mk a11 a12) (P2.mk a13 a14) (P2.mk a15 a16) (P2.mk a17 a18) (P2.mk a19 a20)))).2.5.1, .si .i64 (fixT (aboveM o0 a0 (Bd.mk (P2.mk a1 a2) (P2.mk a3 a4) (P2.mk a5 a6) (P2.mk a7 a8) (P2.mk a9 a10)) (Bd.mk (P2.mk a11 a12) (P2.mk a13 a14) (P2.mk a15 a16) (P2.mk a17 a18) (P2.mk a19 a20)))).2.5.2, .sb (fixT (aboveM o0 a0 (Bd.mk (P2.mk a1 a2) (P2.mk a3 a4) (P2.mk a5 a6) (P2.mk a7 a8) (P2.mk a9 a10)) (Bd.mk (P2.mk a11 a12) (P2.mk a13 a14) (P2.mk a15 a16) (P2.mk a17 a18) (P2.mk a19 a20)))).3]))
  | _, _ => none
theorem s_r6aboveH_ok : SumOK Tryz.prog s_r6aboveH := by
  refine bySum_ok ⟨_, Tryz.func122, by kernel_rfl⟩ ?_
  intro ns os bs r hm hb ρ w
  split at hm
  · rename_i a0 a1 a2 a3 a4 a5 a6 a7 a8 a9 a10 a11 a12 a13 a14 a15 a16 a17 a18 a19 a20 o0
    cases hm
    exact t_r6aboveH o0 a0 (Bd.mk (P2.mk a1 a2) (P2.mk a3 a4) (P2.mk a5 a6) (P2.mk a7 a8) (P2.mk a9 a10)) (Bd.mk (P2.mk a11 a12) (P2.mk a13 a14) (P2.mk a15 a16) (P2.mk a17 a18) (P2.mk a19 a20)) (hb _ (by simp)) (hb _ (by simp)) (hb _ (by simp)) ρ w
  · cases hm
theorem t_r6overH (wide : Bool) (n : Int) (a : Bd) (b : Bd) (hb0 : is01 n = true) (hb1 : invB a = true) (hb2 : invB b = true) (ρ : Nat → Nat) (w : World) : Calls Tryz.prog 124 (enV [.s none, .s (some .i64), .a [some .u64, some .u64, some .u64, some .u64, some .i64, some .i64, some .u64, some .u64, some .i64, some .i64], .a [some .u64, some .u64, some .u64, some .u64, some .i64, some .i64, some .u64, some .u64, some .i64, some .i64]] ([n, a.1.1, a.1.2, a.2.1, a.2.2, a.3.1, a.3.2, a.4.1, a.4.2, a.5.1, a.5.2, b.1.1, b.1.2, b.2.1, b.2.2, b.3.1, b.3.2, b.4.1, b.4.2, b.5.1, b.5.2], [wide])).toArray w fun e w' => e = .returned (V.den ρ (.u (.agg [.si .u64 (fixT (overM wide n a b)).1.1.1, .si .u64 (fixT (overM wide n a b)).1.1.2, .si .u64 (fixT (overM wide n a b)).1.2.1, .si .u64 (fixT (overM wide n a b)).1.2.2, .si .i64 (fixT (overM wide n a b)).1.3.1, .si .i64 (fixT (overM wide n a b)).1.3.2, .si .u64 (fixT (overM wide n a b)).1.4.1, .si .u64 (fixT (overM wide n a b)).1.4.2, .si .i64 (fixT (overM wide n a b)).1.5.1, .si .i64 (fixT (overM wide n a b)).1.5.2, .si .u64 (fixT (overM wide n a b)).2.1.1, .si .u64 (fixT (overM wide n a b)).2.1.2, .si .u64 (fixT (overM wide n a b)).2.2.1, .si .u64 (fixT (overM wide n a b)).2.2.2, .si .i64 (fixT (overM wide n a b)).2.3.1, .si .i64 (fixT (overM wide n a b)).2.3.2, .si .u64 (fixT (overM wide n a b)).2.4.1, .si .u64 (fixT (overM wide n a b)).2.4.2, .si .i64 (fixT (overM wide n a b)).2.5.1, .si .i64 (fixT (overM wide n a b)).2.5.2, .sb (fixT (overM wide n a b)).3]))) ∧ Below w.heap.size w w' := by
  have hcs := of_decide_eq_true hb0
  rcases hcs with rfl | rfl
  · exact t_r6over0 wide a b hb1 hb2 ρ w
  · exact t_r6over1 wide a b hb1 hb2 ρ w
def s_r6overH : Sum := bySum 124 [.s none, .s (some .i64), .a [some .u64, some .u64, some .u64, some .u64, some .i64, some .i64, some .u64, some .u64, some .i64, some .i64], .a [some .u64, some .u64, some .u64, some .u64, some .i64, some .i64, some .u64, some .u64, some .i64, some .i64]] fun
  | [a0, a1, a2, a3, a4, a5, a6, a7, a8, a9, a10, a11, a12, a13, a14, a15, a16, a17, a18, a19, a20], [o0] => some ([is01 a0, invB (Bd.mk (P2.mk a1 a2) (P2.mk a3 a4) (P2.mk a5 a6) (P2.mk a7 a8) (P2.mk a9 a10)), invB (Bd.mk (P2.mk a11 a12) (P2.mk a13 a14) (P2.mk a15 a16) (P2.mk a17 a18) (P2.mk a19 a20))], .u (.agg [.si .u64 (fixT (overM o0 a0 (Bd.mk (P2.mk a1 a2) (P2.mk a3 a4) (P2.mk a5 a6) (P2.mk a7 a8) (P2.mk a9 a10)) (Bd.mk (P2.mk a11 a12) (P2.mk a13 a14) (P2.mk a15 a16) (P2.mk a17 a18) (P2.mk a19 a20)))).1.1.1, .si .u64 (fixT (overM o0 a0 (Bd.mk (P2.mk a1 a2) (P2.mk a3 a4) (P2.mk a5 a6) (P2.mk a7 a8) (P2.mk a9 a10)) (Bd.mk (P2.mk a11 a12) (P2.mk a13 a14) (P2.mk a15 a16) (P2.mk a17 a18) (P2.mk a19 a20)))).1.1.2, .si .u64 (fixT (overM o0 a0 (Bd.mk (P2.mk a1 a2) (P2.mk a3 a4) (P2.mk a5 a6) (P2.mk a7 a8) (P2.mk a9 a10)) (Bd.mk (P2.mk a11 a12) (P2.mk a13 a14) (P2.mk a15 a16) (P2.mk a17 a18) (P2.mk a19 a20)))).1.2.1, .si .u64 (fixT (overM o0 a0 (Bd.mk (P2.mk a1 a2) (P2.mk a3 a4) (P2.mk a5 a6) (P2.mk a7 a8) (P2.mk a9 a10)) (Bd.mk (P2.mk a11 a12) (P2.mk a13 a14) (P2.mk a15 a16) (P2.mk a17 a18) (P2.mk a19 a20)))).1.2.2, .si .i64 (fixT (overM o0 a0 (Bd.mk (P2.mk a1 a2) (P2.mk a3 a4) (P2.mk a5 a6) (P2.mk a7 a8) (P2.mk a9 a10)) (Bd.mk (P2.mk a11 a12) (P2.mk a13 a14) (P2.mk a15 a16) (P2.mk a17 a18) (P2.mk a19 a20)))).1.3.1, .si .i64 (fixT (overM o0 a0 (Bd.mk (P2.mk a1 a2) (P2.mk a3 a4) (P2.mk a5 a6) (P2.mk a7 a8) (P2.mk a9 a10)) (Bd.mk (P2.mk a11 a12) (P2.mk a13 a14) (P2.mk a15 a16) (P2.mk a17 a18) (P2.mk a19 a20)))).1.3.2, .si .u64 (fixT (overM o0 a0 (Bd.mk (P2.mk a1 a2) (P2.mk a3 a4) (P2.mk a5 a6) (P2.mk a7 a8) (P2.mk a9 a10)) (Bd.mk (P2.mk a11 a12) (P2.mk a13 a14) (P2.mk a15 a16) (P2.mk a17 a18) (P2.mk a19 a20)))).1.4.1, .si .u64 (fixT (overM o0 a0 (Bd.mk (P2.mk a1 a2) (P2.mk a3 a4) (P2.mk a5 a6) (P2.mk a7 a8) (P2.mk a9 a10)) (Bd.mk (P2.mk a11 a12) (P2.mk a13 a14) (P2.mk a15 a16) (P2.mk a17 a18) (P2.mk a19 a20)))).1.4.2, .si .i64 (fixT (overM o0 a0 (Bd.mk (P2.mk a1 a2) (P2.mk a3 a4) (P2.mk a5 a6) (P2.mk a7 a8) (P2.mk a9 a10)) (Bd.mk (P2.mk a11 a12) (P2.mk a13 a14) (P2.mk a15 a16) (P2.mk a17 a18) (P2.mk a19 a20)))).1.5.1, .si .i64 (fixT (overM o0 a0 (Bd.mk (P2.mk a1 a2) (P2.mk a3 a4) (P2.mk a5 a6) (P2.mk a7 a8) (P2.mk a9 a10)) (Bd.mk (P2.mk a11 a12) (P2.mk a13 a14) (P2.mk a15 a16) (P2.mk a17 a18) (P2.mk a19 a20)))).1.5.2, .si .u64 (fixT (overM o0 a0 (Bd.mk (P2.mk a1 a2) (P2.mk a3 a4) (P2.mk a5 a6) (P2.mk a7 a8) (P2.mk a9 a10)) (Bd.mk (P2.mk a11 a12) (P2.mk a13 a14) (P2.mk a15 a16) (P2.mk a17 a18) (P2.mk a19 a20)))).2.1.1, .si .u64 (fixT (overM o0 a0 (Bd.mk (P2.mk a1 a2) (P2.mk a3 a4) (P2.mk a5 a6) (P2.mk a7 a8) (P2.mk a9 a10)) (Bd.mk (P2.mk a11 a12) (P2.mk a13 a14) (P2.mk a15 a16) (P2.mk a17 a18) (P2.mk a19 a20)))).2.1.2, .si .u64 (fixT (overM o0 a0 (Bd.mk (P2.mk a1 a2) (P2.mk a3 a4) (P2.mk a5 a6) (P2.mk a7 a8) (P2.mk a9 a10)) (Bd.mk (P2.mk a11 a12) (P2.mk a13 a14) (P2.mk a15 a16) (P2.mk a17 a18) (P2.mk a19 a20)))).2.2.1, .si .u64 (fixT (overM o0 a0 (Bd.mk (P2.mk a1 a2) (P2.mk a3 a4) (P2.mk a5 a6) (P2.mk a7 a8) (P2.mk a9 a10)) (Bd.mk (P2.mk a11 a12) (P2.mk a13 a14) (P2.mk a15 a16) (P2.mk a17 a18) (P2.mk a19 a20)))).2.2.2, .si .i64 (fixT (overM o0 a0 (Bd.mk (P2.mk a1 a2) (P2.mk a3 a4) (P2.mk a5 a6) (P2.mk a7 a8) (P2.mk a9 a10)) (Bd.mk (P2.mk a11 a12) (P2.mk a13 a14) (P2.mk a15 a16) (P2.mk a17 a18) (P2.mk a19 a20)))).2.3.1, .si .i64 (fixT (overM o0 a0 (Bd.mk (P2.mk a1 a2) (P2.mk a3 a4) (P2.mk a5 a6) (P2.mk a7 a8) (P2.mk a9 a10)) (Bd.mk (P2.mk a11 a12) (P2.mk a13 a14) (P2.mk a15 a16) (P2.mk a17 a18) (P2.mk a19 a20)))).2.3.2, .si .u64 (fixT (overM o0 a0 (Bd.mk (P2.mk a1 a2) (P2.mk a3 a4) (P2.mk a5 a6) (P2.mk a7 a8) (P2.mk a9 a10)) (Bd.mk (P2.mk a11 a12) (P2.mk a13 a14) (P2.mk a15 a16) (P2.mk a17 a18) (P2.mk a19 a20)))).2.4.1, .si .u64 (fixT (overM o0 a0 (Bd.mk (P2.mk a1 a2) (P2.mk a3 a4) (P2.mk a5 a6) (P2.mk a7 a8) (P2.mk a9 a10)) (Bd.mk (P2.mk a11 a12) (P2.mk a13 a14) (P2.mk a15 a16) (P2.mk a17 a18) (P2.mk a19 a20)))).2.4.2, .si .i64 (fixT (overM o0 a0 (Bd.mk (P2.mk a1 a2) (P2.mk a3 a4) (P2.mk a5 a6) (P2.mk a7 a8) (P2.mk a9 a10)) (Bd.mk (P2.mk a11 a12) (P2.mk a13 a14) (P2.mk a15 a16) (P2.mk a17 a18) (P2.mk a19 a20)))).2.5.1, .si .i64 (fixT (overM o0 a0 (Bd.mk (P2.mk a1 a2) (P2.mk a3 a4) (P2.mk a5 a6) (P2.mk a7 a8) (P2.mk a9 a10)) (Bd.mk (P2.mk a11 a12) (P2.mk a13 a14) (P2.mk a15 a16) (P2.mk a17 a18) (P2.mk a19 a20)))).2.5.2, .sb (fixT (overM o0 a0 (Bd.mk (P2.mk a1 a2) (P2.mk a3 a4) (P2.mk a5 a6) (P2.mk a7 a8) (P2.mk a9 a10)) (Bd.mk (P2.mk a11 a12) (P2.mk a13 a14) (P2.mk a15 a16) (P2.mk a17 a18) (P2.mk a19 a20)))).3]))
  | _, _ => none
theorem s_r6overH_ok : SumOK Tryz.prog s_r6overH := by
  refine bySum_ok ⟨_, Tryz.func124, by kernel_rfl⟩ ?_
  intro ns os bs r hm hb ρ w
  split at hm
  · rename_i a0 a1 a2 a3 a4 a5 a6 a7 a8 a9 a10 a11 a12 a13 a14 a15 a16 a17 a18 a19 a20 o0
    cases hm
    exact t_r6overH o0 a0 (Bd.mk (P2.mk a1 a2) (P2.mk a3 a4) (P2.mk a5 a6) (P2.mk a7 a8) (P2.mk a9 a10)) (Bd.mk (P2.mk a11 a12) (P2.mk a13 a14) (P2.mk a15 a16) (P2.mk a17 a18) (P2.mk a19 a20)) (hb _ (by simp)) (hb _ (by simp)) (hb _ (by simp)) ρ w
  · cases hm
theorem t_r6set (wide : Bool) (a : Bd) (b : Bd) (hb0 : invB a = true) (hb1 : invB b = true) (ρ : Nat → Nat) (w : World) : Calls Tryz.prog 125 (enV [.s none, .a [some .u64, some .u64, some .u64, some .u64, some .i64, some .i64, some .u64, some .u64, some .i64, some .i64], .a [some .u64, some .u64, some .u64, some .u64, some .i64, some .i64, some .u64, some .u64, some .i64, some .i64]] ([a.1.1, a.1.2, a.2.1, a.2.2, a.3.1, a.3.2, a.4.1, a.4.2, a.5.1, a.5.2, b.1.1, b.1.2, b.2.1, b.2.2, b.3.1, b.3.2, b.4.1, b.4.2, b.5.1, b.5.2], [wide])).toArray w fun e w' => e = .returned (V.den ρ (.u (.agg [.si .u64 (fixT (commonM wide a b)).1.1.1, .si .u64 (fixT (commonM wide a b)).1.1.2, .si .u64 (fixT (commonM wide a b)).1.2.1, .si .u64 (fixT (commonM wide a b)).1.2.2, .si .i64 (fixT (commonM wide a b)).1.3.1, .si .i64 (fixT (commonM wide a b)).1.3.2, .si .u64 (fixT (commonM wide a b)).1.4.1, .si .u64 (fixT (commonM wide a b)).1.4.2, .si .i64 (fixT (commonM wide a b)).1.5.1, .si .i64 (fixT (commonM wide a b)).1.5.2, .si .u64 (fixT (commonM wide a b)).2.1.1, .si .u64 (fixT (commonM wide a b)).2.1.2, .si .u64 (fixT (commonM wide a b)).2.2.1, .si .u64 (fixT (commonM wide a b)).2.2.2, .si .i64 (fixT (commonM wide a b)).2.3.1, .si .i64 (fixT (commonM wide a b)).2.3.2, .si .u64 (fixT (commonM wide a b)).2.4.1, .si .u64 (fixT (commonM wide a b)).2.4.2, .si .i64 (fixT (commonM wide a b)).2.5.1, .si .i64 (fixT (commonM wide a b)).2.5.2, .sb (fixT (commonM wide a b)).3]))) ∧ Below w.heap.size w w' := by
  refine pure_to nameOK (okc s_r6half_ok (okc s_rMeetT_ok okn)) (dOK (okc s_r6half_ok (okc s_rMeetT_ok okn))) 300 [.u (.c (.sb wide)), .u (.agg (cB a)), .u (.agg (cB b))] (T := (.br (isU a.1.1) (.br (isU a.1.2) (.br (tMay a.1) (.br (isU b.1.1) (.br (isU b.1.2) (.br (tMay b.1) (.br (iEq (iBit .and .u64 (iBit .or .u64 (seenM a.1 wide).1 (seenM a.1 wide).2) (iBit .or .u64 (seenM b.1 wide).1 (seenM b.1 wide).2)) 0) (.leaf (.val (.u (.agg [(.li .u64 0), (.li .u64 0), (.li .u64 1), (.li .u64 0), (.li .i64 1), (.li .i64 0), (.li .u64 1), (.li .u64 0), (.li .i64 1), (.li .i64 0), (.li .u64 0), (.li .u64 0), (.li .u64 1), (.li .u64 0), (.li .i64 1), (.li .i64 0), (.li .u64 1), (.li .u64 0), (.li .i64 1), (.li .i64 0), (.lb false)])))) (.br (iEq (seenM b.1 wide).2 0) (.br (iNe (seenM b.1 wide).1 0) (.br (iEq (iBit .and .u64 (seenM b.1 wide).1 (iSub .u64 (seenM b.1 wide).1 1)) 0) (.br (isU a.1.1) (.br (isU a.1.2) (.br (isU (seenM b.1 wide).1) (.br (isU (iBit .xor .u64 18446744073709551615 (seenM b.1 wide).1)) (.br (tMay a.1) (.br (tMay (.mk (seenM b.1 wide).1 (iBit .xor .u64 18446744073709551615 (seenM b.1 wide).1))) (.br (bNot (tMeetIs a.1 (.mk (seenM b.1 wide).1 (iBit .xor .u64 18446744073709551615 (seenM b.1 wide).1)))) (.leaf (.val (.u (.agg [(.li .u64 0), (.li .u64 0), (.li .u64 1), (.li .u64 0), (.li .i64 1), (.li .i64 0), (.li .u64 1), (.li .u64 0), (.li .i64 1), (.li .i64 0), (.li .u64 0), (.li .u64 0), (.li .u64 1), (.li .u64 0), (.li .i64 1), (.li .i64 0), (.li .u64 1), (.li .u64 0), (.li .i64 1), (.li .i64 0), (.lb false)])))) (.br (iEq (seenM a.1 wide).2 0) (.br (iNe (seenM a.1 wide).1 0) (.br (iEq (iBit .and .u64 (seenM a.1 wide).1 (iSub .u64 (seenM a.1 wide).1 1)) 0) (.br (isU b.1.1) (.br (isU b.1.2) (.br (isU (seenM a.1 wide).1) (.br (isU (iBit .xor .u64 18446744073709551615 (seenM a.1 wide).1)) (.br (tMay b.1) (.br (tMay (.mk (seenM a.1 wide).1 (iBit .xor .u64 18446744073709551615 (seenM a.1 wide).1))) (.br (bNot (tMeetIs b.1 (.mk (seenM a.1 wide).1 (iBit .xor .u64 18446744073709551615 (seenM a.1 wide).1)))) (.leaf (.val (.u (.agg [(.li .u64 0), (.li .u64 0), (.li .u64 1), (.li .u64 0), (.li .i64 1), (.li .i64 0), (.li .u64 1), (.li .u64 0), (.li .i64 1), (.li .i64 0), (.li .u64 0), (.li .u64 0), (.li .u64 1), (.li .u64 0), (.li .i64 1), (.li .i64 0), (.li .u64 1), (.li .u64 0), (.li .i64 1), (.li .i64 0), (.lb false)])))) (.leaf (.val (.u (.agg [(.si .u64 (tMeet a.1 (.mk (seenM b.1 wide).1 (iBit .xor .u64 18446744073709551615 (seenM b.1 wide).1))).1), (.si .u64 (tMeet a.1 (.mk (seenM b.1 wide).1 (iBit .xor .u64 18446744073709551615 (seenM b.1 wide).1))).2), (.si .u64 a.2.1), (.si .u64 a.2.2), (.si .i64 a.3.1), (.si .i64 a.3.2), (.si .u64 a.4.1), (.si .u64 a.4.2), (.si .i64 a.5.1), (.si .i64 a.5.2), (.si .u64 (tMeet b.1 (.mk (seenM a.1 wide).1 (iBit .xor .u64 18446744073709551615 (seenM a.1 wide).1))).1), (.si .u64 (tMeet b.1 (.mk (seenM a.1 wide).1 (iBit .xor .u64 18446744073709551615 (seenM a.1 wide).1))).2), (.si .u64 b.2.1), (.si .u64 b.2.2), (.si .i64 b.3.1), (.si .i64 b.3.2), (.si .u64 b.4.1), (.si .u64 b.4.2), (.si .i64 b.5.1), (.si .i64 b.5.2), (.lb true)]))))) (.no 98)) (.no 98)) (.no 98)) (.no 98)) (.no 98)) (.no 98)) (.leaf (.val (.u (.agg [(.si .u64 (tMeet a.1 (.mk (seenM b.1 wide).1 (iBit .xor .u64 18446744073709551615 (seenM b.1 wide).1))).1), (.si .u64 (tMeet a.1 (.mk (seenM b.1 wide).1 (iBit .xor .u64 18446744073709551615 (seenM b.1 wide).1))).2), (.si .u64 a.2.1), (.si .u64 a.2.2), (.si .i64 a.3.1), (.si .i64 a.3.2), (.si .u64 a.4.1), (.si .u64 a.4.2), (.si .i64 a.5.1), (.si .i64 a.5.2), (.si .u64 b.1.1), (.si .u64 b.1.2), (.si .u64 b.2.1), (.si .u64 b.2.2), (.si .i64 b.3.1), (.si .i64 b.3.2), (.si .u64 b.4.1), (.si .u64 b.4.2), (.si .i64 b.5.1), (.si .i64 b.5.2), (.lb true)]))))) (.leaf (.val (.u (.agg [(.si .u64 (tMeet a.1 (.mk (seenM b.1 wide).1 (iBit .xor .u64 18446744073709551615 (seenM b.1 wide).1))).1), (.si .u64 (tMeet a.1 (.mk (seenM b.1 wide).1 (iBit .xor .u64 18446744073709551615 (seenM b.1 wide).1))).2), (.si .u64 a.2.1), (.si .u64 a.2.2), (.si .i64 a.3.1), (.si .i64 a.3.2), (.si .u64 a.4.1), (.si .u64 a.4.2), (.si .i64 a.5.1), (.si .i64 a.5.2), (.si .u64 b.1.1), (.si .u64 b.1.2), (.si .u64 b.2.1), (.si .u64 b.2.2), (.si .i64 b.3.1), (.si .i64 b.3.2), (.si .u64 b.4.1), (.si .u64 b.4.2), (.si .i64 b.5.1), (.si .i64 b.5.2), (.lb true)]))))) (.leaf (.val (.u (.agg [(.si .u64 (tMeet a.1 (.mk (seenM b.1 wide).1 (iBit .xor .u64 18446744073709551615 (seenM b.1 wide).1))).1), (.si .u64 (tMeet a.1 (.mk (seenM b.1 wide).1 (iBit .xor .u64 18446744073709551615 (seenM b.1 wide).1))).2), (.si .u64 a.2.1), (.si .u64 a.2.2), (.si .i64 a.3.1), (.si .i64 a.3.2), (.si .u64 a.4.1), (.si .u64 a.4.2), (.si .i64 a.5.1), (.si .i64 a.5.2), (.si .u64 b.1.1), (.si .u64 b.1.2), (.si .u64 b.2.1), (.si .u64 b.2.2), (.si .i64 b.3.1), (.si .i64 b.3.2), (.si .u64 b.4.1), (.si .u64 b.4.2), (.si .i64 b.5.1), (.si .i64 b.5.2), (.lb true)])))))) (.no 98)) (.no 98)) (.no 98)) (.no 98)) (.no 98)) (.no 98)) (.br (iEq (seenM a.1 wide).2 0) (.br (iNe (seenM a.1 wide).1 0) (.br (iEq (iBit .and .u64 (seenM a.1 wide).1 (iSub .u64 (seenM a.1 wide).1 1)) 0) (.br (isU b.1.1) (.br (isU b.1.2) (.br (isU (seenM a.1 wide).1) (.br (isU (iBit .xor .u64 18446744073709551615 (seenM a.1 wide).1)) (.br (tMay b.1) (.br (tMay (.mk (seenM a.1 wide).1 (iBit .xor .u64 18446744073709551615 (seenM a.1 wide).1))) (.br (bNot (tMeetIs b.1 (.mk (seenM a.1 wide).1 (iBit .xor .u64 18446744073709551615 (seenM a.1 wide).1)))) (.leaf (.val (.u (.agg [(.li .u64 0), (.li .u64 0), (.li .u64 1), (.li .u64 0), (.li .i64 1), (.li .i64 0), (.li .u64 1), (.li .u64 0), (.li .i64 1), (.li .i64 0), (.li .u64 0), (.li .u64 0), (.li .u64 1), (.li .u64 0), (.li .i64 1), (.li .i64 0), (.li .u64 1), (.li .u64 0), (.li .i64 1), (.li .i64 0), (.lb false)])))) (.leaf (.val (.u (.agg [(.si .u64 a.1.1), (.si .u64 a.1.2), (.si .u64 a.2.1), (.si .u64 a.2.2), (.si .i64 a.3.1), (.si .i64 a.3.2), (.si .u64 a.4.1), (.si .u64 a.4.2), (.si .i64 a.5.1), (.si .i64 a.5.2), (.si .u64 (tMeet b.1 (.mk (seenM a.1 wide).1 (iBit .xor .u64 18446744073709551615 (seenM a.1 wide).1))).1), (.si .u64 (tMeet b.1 (.mk (seenM a.1 wide).1 (iBit .xor .u64 18446744073709551615 (seenM a.1 wide).1))).2), (.si .u64 b.2.1), (.si .u64 b.2.2), (.si .i64 b.3.1), (.si .i64 b.3.2), (.si .u64 b.4.1), (.si .u64 b.4.2), (.si .i64 b.5.1), (.si .i64 b.5.2), (.lb true)]))))) (.no 98)) (.no 98)) (.no 98)) (.no 98)) (.no 98)) (.no 98)) (.leaf (.val (.u (.agg [(.si .u64 a.1.1), (.si .u64 a.1.2), (.si .u64 a.2.1), (.si .u64 a.2.2), (.si .i64 a.3.1), (.si .i64 a.3.2), (.si .u64 a.4.1), (.si .u64 a.4.2), (.si .i64 a.5.1), (.si .i64 a.5.2), (.si .u64 b.1.1), (.si .u64 b.1.2), (.si .u64 b.2.1), (.si .u64 b.2.2), (.si .i64 b.3.1), (.si .i64 b.3.2), (.si .u64 b.4.1), (.si .u64 b.4.2), (.si .i64 b.5.1), (.si .i64 b.5.2), (.lb true)]))))) (.leaf (.val (.u (.agg [(.si .u64 a.1.1), (.si .u64 a.1.2), (.si .u64 a.2.1), (.si .u64 a.2.2), (.si .i64 a.3.1), (.si .i64 a.3.2), (.si .u64 a.4.1), (.si .u64 a.4.2), (.si .i64 a.5.1), (.si .i64 a.5.2), (.si .u64 b.1.1), (.si .u64 b.1.2), (.si .u64 b.2.1), (.si .u64 b.2.2), (.si .i64 b.3.1), (.si .i64 b.3.2), (.si .u64 b.4.1), (.si .u64 b.4.2), (.si .i64 b.5.1), (.si .i64 b.5.2), (.lb true)]))))) (.leaf (.val (.u (.agg [(.si .u64 a.1.1), (.si .u64 a.1.2), (.si .u64 a.2.1), (.si .u64 a.2.2), (.si .i64 a.3.1), (.si .i64 a.3.2), (.si .u64 a.4.1), (.si .u64 a.4.2), (.si .i64 a.5.1), (.si .i64 a.5.2), (.si .u64 b.1.1), (.si .u64 b.1.2), (.si .u64 b.2.1), (.si .u64 b.2.2), (.si .i64 b.3.1), (.si .i64 b.3.2), (.si .u64 b.4.1), (.si .u64 b.4.2), (.si .i64 b.5.1), (.si .i64 b.5.2), (.lb true)])))))) (.br (iEq (seenM a.1 wide).2 0) (.br (iNe (seenM a.1 wide).1 0) (.br (iEq (iBit .and .u64 (seenM a.1 wide).1 (iSub .u64 (seenM a.1 wide).1 1)) 0) (.br (isU b.1.1) (.br (isU b.1.2) (.br (isU (seenM a.1 wide).1) (.br (isU (iBit .xor .u64 18446744073709551615 (seenM a.1 wide).1)) (.br (tMay b.1) (.br (tMay (.mk (seenM a.1 wide).1 (iBit .xor .u64 18446744073709551615 (seenM a.1 wide).1))) (.br (bNot (tMeetIs b.1 (.mk (seenM a.1 wide).1 (iBit .xor .u64 18446744073709551615 (seenM a.1 wide).1)))) (.leaf (.val (.u (.agg [(.li .u64 0), (.li .u64 0), (.li .u64 1), (.li .u64 0), (.li .i64 1), (.li .i64 0), (.li .u64 1), (.li .u64 0), (.li .i64 1), (.li .i64 0), (.li .u64 0), (.li .u64 0), (.li .u64 1), (.li .u64 0), (.li .i64 1), (.li .i64 0), (.li .u64 1), (.li .u64 0), (.li .i64 1), (.li .i64 0), (.lb false)])))) (.leaf (.val (.u (.agg [(.si .u64 a.1.1), (.si .u64 a.1.2), (.si .u64 a.2.1), (.si .u64 a.2.2), (.si .i64 a.3.1), (.si .i64 a.3.2), (.si .u64 a.4.1), (.si .u64 a.4.2), (.si .i64 a.5.1), (.si .i64 a.5.2), (.si .u64 (tMeet b.1 (.mk (seenM a.1 wide).1 (iBit .xor .u64 18446744073709551615 (seenM a.1 wide).1))).1), (.si .u64 (tMeet b.1 (.mk (seenM a.1 wide).1 (iBit .xor .u64 18446744073709551615 (seenM a.1 wide).1))).2), (.si .u64 b.2.1), (.si .u64 b.2.2), (.si .i64 b.3.1), (.si .i64 b.3.2), (.si .u64 b.4.1), (.si .u64 b.4.2), (.si .i64 b.5.1), (.si .i64 b.5.2), (.lb true)]))))) (.no 98)) (.no 98)) (.no 98)) (.no 98)) (.no 98)) (.no 98)) (.leaf (.val (.u (.agg [(.si .u64 a.1.1), (.si .u64 a.1.2), (.si .u64 a.2.1), (.si .u64 a.2.2), (.si .i64 a.3.1), (.si .i64 a.3.2), (.si .u64 a.4.1), (.si .u64 a.4.2), (.si .i64 a.5.1), (.si .i64 a.5.2), (.si .u64 b.1.1), (.si .u64 b.1.2), (.si .u64 b.2.1), (.si .u64 b.2.2), (.si .i64 b.3.1), (.si .i64 b.3.2), (.si .u64 b.4.1), (.si .u64 b.4.2), (.si .i64 b.5.1), (.si .i64 b.5.2), (.lb true)]))))) (.leaf (.val (.u (.agg [(.si .u64 a.1.1), (.si .u64 a.1.2), (.si .u64 a.2.1), (.si .u64 a.2.2), (.si .i64 a.3.1), (.si .i64 a.3.2), (.si .u64 a.4.1), (.si .u64 a.4.2), (.si .i64 a.5.1), (.si .i64 a.5.2), (.si .u64 b.1.1), (.si .u64 b.1.2), (.si .u64 b.2.1), (.si .u64 b.2.2), (.si .i64 b.3.1), (.si .i64 b.3.2), (.si .u64 b.4.1), (.si .u64 b.4.2), (.si .i64 b.5.1), (.si .i64 b.5.2), (.lb true)]))))) (.leaf (.val (.u (.agg [(.si .u64 a.1.1), (.si .u64 a.1.2), (.si .u64 a.2.1), (.si .u64 a.2.2), (.si .i64 a.3.1), (.si .i64 a.3.2), (.si .u64 a.4.1), (.si .u64 a.4.2), (.si .i64 a.5.1), (.si .i64 a.5.2), (.si .u64 b.1.1), (.si .u64 b.1.2), (.si .u64 b.2.1), (.si .u64 b.2.2), (.si .i64 b.3.1), (.si .i64 b.3.2), (.si .u64 b.4.1), (.si .u64 b.4.2), (.si .i64 b.5.1), (.si .i64 b.5.2), (.lb true)])))))) (.br (iEq (seenM a.1 wide).2 0) (.br (iNe (seenM a.1 wide).1 0) (.br (iEq (iBit .and .u64 (seenM a.1 wide).1 (iSub .u64 (seenM a.1 wide).1 1)) 0) (.br (isU b.1.1) (.br (isU b.1.2) (.br (isU (seenM a.1 wide).1) (.br (isU (iBit .xor .u64 18446744073709551615 (seenM a.1 wide).1)) (.br (tMay b.1) (.br (tMay (.mk (seenM a.1 wide).1 (iBit .xor .u64 18446744073709551615 (seenM a.1 wide).1))) (.br (bNot (tMeetIs b.1 (.mk (seenM a.1 wide).1 (iBit .xor .u64 18446744073709551615 (seenM a.1 wide).1)))) (.leaf (.val (.u (.agg [(.li .u64 0), (.li .u64 0), (.li .u64 1), (.li .u64 0), (.li .i64 1), (.li .i64 0), (.li .u64 1), (.li .u64 0), (.li .i64 1), (.li .i64 0), (.li .u64 0), (.li .u64 0), (.li .u64 1), (.li .u64 0), (.li .i64 1), (.li .i64 0), (.li .u64 1), (.li .u64 0), (.li .i64 1), (.li .i64 0), (.lb false)])))) (.leaf (.val (.u (.agg [(.si .u64 a.1.1), (.si .u64 a.1.2), (.si .u64 a.2.1), (.si .u64 a.2.2), (.si .i64 a.3.1), (.si .i64 a.3.2), (.si .u64 a.4.1), (.si .u64 a.4.2), (.si .i64 a.5.1), (.si .i64 a.5.2), (.si .u64 (tMeet b.1 (.mk (seenM a.1 wide).1 (iBit .xor .u64 18446744073709551615 (seenM a.1 wide).1))).1), (.si .u64 (tMeet b.1 (.mk (seenM a.1 wide).1 (iBit .xor .u64 18446744073709551615 (seenM a.1 wide).1))).2), (.si .u64 b.2.1), (.si .u64 b.2.2), (.si .i64 b.3.1), (.si .i64 b.3.2), (.si .u64 b.4.1), (.si .u64 b.4.2), (.si .i64 b.5.1), (.si .i64 b.5.2), (.lb true)]))))) (.no 98)) (.no 98)) (.no 98)) (.no 98)) (.no 98)) (.no 98)) (.leaf (.val (.u (.agg [(.si .u64 a.1.1), (.si .u64 a.1.2), (.si .u64 a.2.1), (.si .u64 a.2.2), (.si .i64 a.3.1), (.si .i64 a.3.2), (.si .u64 a.4.1), (.si .u64 a.4.2), (.si .i64 a.5.1), (.si .i64 a.5.2), (.si .u64 b.1.1), (.si .u64 b.1.2), (.si .u64 b.2.1), (.si .u64 b.2.2), (.si .i64 b.3.1), (.si .i64 b.3.2), (.si .u64 b.4.1), (.si .u64 b.4.2), (.si .i64 b.5.1), (.si .i64 b.5.2), (.lb true)]))))) (.leaf (.val (.u (.agg [(.si .u64 a.1.1), (.si .u64 a.1.2), (.si .u64 a.2.1), (.si .u64 a.2.2), (.si .i64 a.3.1), (.si .i64 a.3.2), (.si .u64 a.4.1), (.si .u64 a.4.2), (.si .i64 a.5.1), (.si .i64 a.5.2), (.si .u64 b.1.1), (.si .u64 b.1.2), (.si .u64 b.2.1), (.si .u64 b.2.2), (.si .i64 b.3.1), (.si .i64 b.3.2), (.si .u64 b.4.1), (.si .u64 b.4.2), (.si .i64 b.5.1), (.si .i64 b.5.2), (.lb true)]))))) (.leaf (.val (.u (.agg [(.si .u64 a.1.1), (.si .u64 a.1.2), (.si .u64 a.2.1), (.si .u64 a.2.2), (.si .i64 a.3.1), (.si .i64 a.3.2), (.si .u64 a.4.1), (.si .u64 a.4.2), (.si .i64 a.5.1), (.si .i64 a.5.2), (.si .u64 b.1.1), (.si .u64 b.1.2), (.si .u64 b.2.1), (.si .u64 b.2.2), (.si .i64 b.3.1), (.si .i64 b.3.2), (.si .u64 b.4.1), (.si .u64 b.4.2), (.si .i64 b.5.1), (.si .i64 b.5.2), (.lb true)]))))))) (.no 98)) (.no 98)) (.no 98)) (.no 98)) (.no 98)) (.no 98))) (by kernel_rfl) ρ rfl ?_ w
  · have ia : Inv5 a := invB_iff.1 hb0
    have ib : Inv5 b := invB_iff.1 hb1
    refine askB (ia.t.1.1) ?_
    refine askB (ia.t.1.2) ?_
    refine askB ((tMay_iff ia.t.1).2 ia.t) ?_
    refine askB (ib.t.1.1) ?_
    refine askB (ib.t.1.2) ?_
    refine askB ((tMay_iff ib.t.1).2 ib.t) ?_
    refine br2 (fun k1 => ?_) (fun k1 => ?_)
    · have e := set_eq (a := a) (b := b) (wide := wide) ia.t ib.t
      have ec : commonIs (seenM a.t wide) (seenM b.t wide) = false := by unfold commonIs; rw [decide_eq_false_iff_not]; exact fun z => z (eq_t.1 k1)
      simp only [ec, Bool.not_true, Bool.not_false, Bool.and_false, Bool.false_and, Bool.and_true, Bool.true_and, Bool.and_self] at e
      simp only [Tr.all]; rw [e]; try rfl
    · refine br2 (fun k2 => ?_) (fun k2 => ?_)
      · refine br2 (fun k3 => ?_) (fun k3 => ?_)
        · refine br2 (fun k4 => ?_) (fun k4 => ?_)
          · refine askB (ia.t.1.1) ?_
            refine askB (ia.t.1.2) ?_
            refine askB ((seen_tm ib.t wide).1.1) ?_
            refine askB (inv_u (seen_tm ib.t wide).1.1) ?_
            refine askB ((tMay_iff ia.t.1).2 ia.t) ?_
            refine askB ((tMay_iff (bit_tm (seen_tm ib.t wide).1.1).1).2 (bit_tm (seen_tm ib.t wide).1.1)) ?_
            refine brn2 (fun k5 => ?_) (fun k5 => ?_)
            · refine br2 (fun k6 => ?_) (fun k6 => ?_)
              · refine br2 (fun k7 => ?_) (fun k7 => ?_)
                · refine br2 (fun k8 => ?_) (fun k8 => ?_)
                  · refine askB (ib.t.1.1) ?_
                    refine askB (ib.t.1.2) ?_
                    refine askB ((seen_tm ia.t wide).1.1) ?_
                    refine askB (inv_u (seen_tm ia.t wide).1.1) ?_
                    refine askB ((tMay_iff ib.t.1).2 ib.t) ?_
                    refine askB ((tMay_iff (bit_tm (seen_tm ia.t wide).1.1).1).2 (bit_tm (seen_tm ia.t wide).1.1)) ?_
                    refine brn2 (fun k9 => ?_) (fun k9 => ?_)
                    · have e := set_eq (a := a) (b := b) (wide := wide) ia.t ib.t
                      have ec : commonIs (seenM a.t wide) (seenM b.t wide) = true := by unfold commonIs; rw [decide_eq_true_eq]; exact eq_f.1 k1
                      have eb : (decide ((seenM b.t wide).hi = 0) && aloneQ (seenM b.t wide).lo) = true := by unfold aloneQ; rw [Bool.and_eq_true, decide_eq_true_eq, decide_eq_true_eq]; exact ⟨eq_t.1 k2, ne_t.1 k3, eq_t.1 k4⟩
                      have ea : (decide ((seenM a.t wide).hi = 0) && aloneQ (seenM a.t wide).lo) = true := by unfold aloneQ; rw [Bool.and_eq_true, decide_eq_true_eq, decide_eq_true_eq]; exact ⟨eq_t.1 k6, ne_t.1 k7, eq_t.1 k8⟩
                      have ema : tMeetIs a.t ⟨(seenM b.t wide).lo, inv64 (seenM b.t wide).lo⟩ = true := k5
                      have emb : tMeetIs b.t ⟨(seenM a.t wide).lo, inv64 (seenM a.t wide).lo⟩ = true := k9
                      simp only [ec, eb, ea, ema, emb, Bool.not_true, Bool.not_false, Bool.and_false, Bool.false_and, Bool.and_true, Bool.true_and, Bool.and_self] at e
                      simp only [Tr.all]; rw [e]; try rfl
                    · have e := set_eq (a := a) (b := b) (wide := wide) ia.t ib.t
                      have ec : commonIs (seenM a.t wide) (seenM b.t wide) = true := by unfold commonIs; rw [decide_eq_true_eq]; exact eq_f.1 k1
                      have eb : (decide ((seenM b.t wide).hi = 0) && aloneQ (seenM b.t wide).lo) = true := by unfold aloneQ; rw [Bool.and_eq_true, decide_eq_true_eq, decide_eq_true_eq]; exact ⟨eq_t.1 k2, ne_t.1 k3, eq_t.1 k4⟩
                      have ea : (decide ((seenM a.t wide).hi = 0) && aloneQ (seenM a.t wide).lo) = true := by unfold aloneQ; rw [Bool.and_eq_true, decide_eq_true_eq, decide_eq_true_eq]; exact ⟨eq_t.1 k6, ne_t.1 k7, eq_t.1 k8⟩
                      have ema : tMeetIs a.t ⟨(seenM b.t wide).lo, inv64 (seenM b.t wide).lo⟩ = true := k5
                      have emb : tMeetIs b.t ⟨(seenM a.t wide).lo, inv64 (seenM a.t wide).lo⟩ = false := k9
                      simp only [ec, eb, ea, ema, emb, Bool.not_true, Bool.not_false, Bool.and_false, Bool.false_and, Bool.and_true, Bool.true_and, Bool.and_self] at e
                      simp only [Tr.all]; rw [e]; try rfl
                  · have e := set_eq (a := a) (b := b) (wide := wide) ia.t ib.t
                    have ec : commonIs (seenM a.t wide) (seenM b.t wide) = true := by unfold commonIs; rw [decide_eq_true_eq]; exact eq_f.1 k1
                    have eb : (decide ((seenM b.t wide).hi = 0) && aloneQ (seenM b.t wide).lo) = true := by unfold aloneQ; rw [Bool.and_eq_true, decide_eq_true_eq, decide_eq_true_eq]; exact ⟨eq_t.1 k2, ne_t.1 k3, eq_t.1 k4⟩
                    have ea : (decide ((seenM a.t wide).hi = 0) && aloneQ (seenM a.t wide).lo) = false := by rw [Bool.eq_false_iff]; intro z; unfold aloneQ at z; rw [Bool.and_eq_true, decide_eq_true_eq, decide_eq_true_eq] at z; exact absurd z.2.2 (eq_f.1 k8)
                    have ema : tMeetIs a.t ⟨(seenM b.t wide).lo, inv64 (seenM b.t wide).lo⟩ = true := k5
                    simp only [ec, eb, ea, ema, Bool.not_true, Bool.not_false, Bool.and_false, Bool.false_and, Bool.and_true, Bool.true_and, Bool.and_self] at e
                    simp only [Tr.all]; rw [e]; try rfl
                · have e := set_eq (a := a) (b := b) (wide := wide) ia.t ib.t
                  have ec : commonIs (seenM a.t wide) (seenM b.t wide) = true := by unfold commonIs; rw [decide_eq_true_eq]; exact eq_f.1 k1
                  have eb : (decide ((seenM b.t wide).hi = 0) && aloneQ (seenM b.t wide).lo) = true := by unfold aloneQ; rw [Bool.and_eq_true, decide_eq_true_eq, decide_eq_true_eq]; exact ⟨eq_t.1 k2, ne_t.1 k3, eq_t.1 k4⟩
                  have ea : (decide ((seenM a.t wide).hi = 0) && aloneQ (seenM a.t wide).lo) = false := by rw [Bool.eq_false_iff]; intro z; unfold aloneQ at z; rw [Bool.and_eq_true, decide_eq_true_eq, decide_eq_true_eq] at z; exact absurd (ne_f.1 k7) z.2.1
                  have ema : tMeetIs a.t ⟨(seenM b.t wide).lo, inv64 (seenM b.t wide).lo⟩ = true := k5
                  simp only [ec, eb, ea, ema, Bool.not_true, Bool.not_false, Bool.and_false, Bool.false_and, Bool.and_true, Bool.true_and, Bool.and_self] at e
                  simp only [Tr.all]; rw [e]; try rfl
              · have e := set_eq (a := a) (b := b) (wide := wide) ia.t ib.t
                have ec : commonIs (seenM a.t wide) (seenM b.t wide) = true := by unfold commonIs; rw [decide_eq_true_eq]; exact eq_f.1 k1
                have eb : (decide ((seenM b.t wide).hi = 0) && aloneQ (seenM b.t wide).lo) = true := by unfold aloneQ; rw [Bool.and_eq_true, decide_eq_true_eq, decide_eq_true_eq]; exact ⟨eq_t.1 k2, ne_t.1 k3, eq_t.1 k4⟩
                have ea : (decide ((seenM a.t wide).hi = 0) && aloneQ (seenM a.t wide).lo) = false := by rw [Bool.eq_false_iff]; intro z; unfold aloneQ at z; rw [Bool.and_eq_true, decide_eq_true_eq, decide_eq_true_eq] at z; exact absurd z.1 (eq_f.1 k6)
                have ema : tMeetIs a.t ⟨(seenM b.t wide).lo, inv64 (seenM b.t wide).lo⟩ = true := k5
                simp only [ec, eb, ea, ema, Bool.not_true, Bool.not_false, Bool.and_false, Bool.false_and, Bool.and_true, Bool.true_and, Bool.and_self] at e
                simp only [Tr.all]; rw [e]; try rfl
            · have e := set_eq (a := a) (b := b) (wide := wide) ia.t ib.t
              have ec : commonIs (seenM a.t wide) (seenM b.t wide) = true := by unfold commonIs; rw [decide_eq_true_eq]; exact eq_f.1 k1
              have eb : (decide ((seenM b.t wide).hi = 0) && aloneQ (seenM b.t wide).lo) = true := by unfold aloneQ; rw [Bool.and_eq_true, decide_eq_true_eq, decide_eq_true_eq]; exact ⟨eq_t.1 k2, ne_t.1 k3, eq_t.1 k4⟩
              have ema : tMeetIs a.t ⟨(seenM b.t wide).lo, inv64 (seenM b.t wide).lo⟩ = false := k5
              simp only [ec, eb, ema, Bool.not_true, Bool.not_false, Bool.and_false, Bool.false_and, Bool.and_true, Bool.true_and, Bool.and_self] at e
              simp only [Tr.all]; rw [e]; try rfl
          · refine br2 (fun k10 => ?_) (fun k10 => ?_)
            · refine br2 (fun k11 => ?_) (fun k11 => ?_)
              · refine br2 (fun k12 => ?_) (fun k12 => ?_)
                · refine askB (ib.t.1.1) ?_
                  refine askB (ib.t.1.2) ?_
                  refine askB ((seen_tm ia.t wide).1.1) ?_
                  refine askB (inv_u (seen_tm ia.t wide).1.1) ?_
                  refine askB ((tMay_iff ib.t.1).2 ib.t) ?_
                  refine askB ((tMay_iff (bit_tm (seen_tm ia.t wide).1.1).1).2 (bit_tm (seen_tm ia.t wide).1.1)) ?_
                  refine brn2 (fun k13 => ?_) (fun k13 => ?_)
                  · have e := set_eq (a := a) (b := b) (wide := wide) ia.t ib.t
                    have ec : commonIs (seenM a.t wide) (seenM b.t wide) = true := by unfold commonIs; rw [decide_eq_true_eq]; exact eq_f.1 k1
                    have eb : (decide ((seenM b.t wide).hi = 0) && aloneQ (seenM b.t wide).lo) = false := by rw [Bool.eq_false_iff]; intro z; unfold aloneQ at z; rw [Bool.and_eq_true, decide_eq_true_eq, decide_eq_true_eq] at z; exact absurd z.2.2 (eq_f.1 k4)
                    have ea : (decide ((seenM a.t wide).hi = 0) && aloneQ (seenM a.t wide).lo) = true := by unfold aloneQ; rw [Bool.and_eq_true, decide_eq_true_eq, decide_eq_true_eq]; exact ⟨eq_t.1 k10, ne_t.1 k11, eq_t.1 k12⟩
                    have emb : tMeetIs b.t ⟨(seenM a.t wide).lo, inv64 (seenM a.t wide).lo⟩ = true := k13
                    simp only [ec, eb, ea, emb, Bool.not_true, Bool.not_false, Bool.and_false, Bool.false_and, Bool.and_true, Bool.true_and, Bool.and_self] at e
                    simp only [Tr.all]; rw [e]; try rfl
                  · have e := set_eq (a := a) (b := b) (wide := wide) ia.t ib.t
                    have ec : commonIs (seenM a.t wide) (seenM b.t wide) = true := by unfold commonIs; rw [decide_eq_true_eq]; exact eq_f.1 k1
                    have eb : (decide ((seenM b.t wide).hi = 0) && aloneQ (seenM b.t wide).lo) = false := by rw [Bool.eq_false_iff]; intro z; unfold aloneQ at z; rw [Bool.and_eq_true, decide_eq_true_eq, decide_eq_true_eq] at z; exact absurd z.2.2 (eq_f.1 k4)
                    have ea : (decide ((seenM a.t wide).hi = 0) && aloneQ (seenM a.t wide).lo) = true := by unfold aloneQ; rw [Bool.and_eq_true, decide_eq_true_eq, decide_eq_true_eq]; exact ⟨eq_t.1 k10, ne_t.1 k11, eq_t.1 k12⟩
                    have emb : tMeetIs b.t ⟨(seenM a.t wide).lo, inv64 (seenM a.t wide).lo⟩ = false := k13
                    simp only [ec, eb, ea, emb, Bool.not_true, Bool.not_false, Bool.and_false, Bool.false_and, Bool.and_true, Bool.true_and, Bool.and_self] at e
                    simp only [Tr.all]; rw [e]; try rfl
                · have e := set_eq (a := a) (b := b) (wide := wide) ia.t ib.t
                  have ec : commonIs (seenM a.t wide) (seenM b.t wide) = true := by unfold commonIs; rw [decide_eq_true_eq]; exact eq_f.1 k1
                  have eb : (decide ((seenM b.t wide).hi = 0) && aloneQ (seenM b.t wide).lo) = false := by rw [Bool.eq_false_iff]; intro z; unfold aloneQ at z; rw [Bool.and_eq_true, decide_eq_true_eq, decide_eq_true_eq] at z; exact absurd z.2.2 (eq_f.1 k4)
                  have ea : (decide ((seenM a.t wide).hi = 0) && aloneQ (seenM a.t wide).lo) = false := by rw [Bool.eq_false_iff]; intro z; unfold aloneQ at z; rw [Bool.and_eq_true, decide_eq_true_eq, decide_eq_true_eq] at z; exact absurd z.2.2 (eq_f.1 k12)
                  simp only [ec, eb, ea, Bool.not_true, Bool.not_false, Bool.and_false, Bool.false_and, Bool.and_true, Bool.true_and, Bool.and_self] at e
                  simp only [Tr.all]; rw [e]; try rfl
              · have e := set_eq (a := a) (b := b) (wide := wide) ia.t ib.t
                have ec : commonIs (seenM a.t wide) (seenM b.t wide) = true := by unfold commonIs; rw [decide_eq_true_eq]; exact eq_f.1 k1
                have eb : (decide ((seenM b.t wide).hi = 0) && aloneQ (seenM b.t wide).lo) = false := by rw [Bool.eq_false_iff]; intro z; unfold aloneQ at z; rw [Bool.and_eq_true, decide_eq_true_eq, decide_eq_true_eq] at z; exact absurd z.2.2 (eq_f.1 k4)
                have ea : (decide ((seenM a.t wide).hi = 0) && aloneQ (seenM a.t wide).lo) = false := by rw [Bool.eq_false_iff]; intro z; unfold aloneQ at z; rw [Bool.and_eq_true, decide_eq_true_eq, decide_eq_true_eq] at z; exact absurd (ne_f.1 k11) z.2.1
                simp only [ec, eb, ea, Bool.not_true, Bool.not_false, Bool.and_false, Bool.false_and, Bool.and_true, Bool.true_and, Bool.and_self] at e
                simp only [Tr.all]; rw [e]; try rfl
            · have e := set_eq (a := a) (b := b) (wide := wide) ia.t ib.t
              have ec : commonIs (seenM a.t wide) (seenM b.t wide) = true := by unfold commonIs; rw [decide_eq_true_eq]; exact eq_f.1 k1
              have eb : (decide ((seenM b.t wide).hi = 0) && aloneQ (seenM b.t wide).lo) = false := by rw [Bool.eq_false_iff]; intro z; unfold aloneQ at z; rw [Bool.and_eq_true, decide_eq_true_eq, decide_eq_true_eq] at z; exact absurd z.2.2 (eq_f.1 k4)
              have ea : (decide ((seenM a.t wide).hi = 0) && aloneQ (seenM a.t wide).lo) = false := by rw [Bool.eq_false_iff]; intro z; unfold aloneQ at z; rw [Bool.and_eq_true, decide_eq_true_eq, decide_eq_true_eq] at z; exact absurd z.1 (eq_f.1 k10)
              simp only [ec, eb, ea, Bool.not_true, Bool.not_false, Bool.and_false, Bool.false_and, Bool.and_true, Bool.true_and, Bool.and_self] at e
              simp only [Tr.all]; rw [e]; try rfl
        · refine br2 (fun k14 => ?_) (fun k14 => ?_)
          · refine br2 (fun k15 => ?_) (fun k15 => ?_)
            · refine br2 (fun k16 => ?_) (fun k16 => ?_)
              · refine askB (ib.t.1.1) ?_
                refine askB (ib.t.1.2) ?_
                refine askB ((seen_tm ia.t wide).1.1) ?_
                refine askB (inv_u (seen_tm ia.t wide).1.1) ?_
                refine askB ((tMay_iff ib.t.1).2 ib.t) ?_
                refine askB ((tMay_iff (bit_tm (seen_tm ia.t wide).1.1).1).2 (bit_tm (seen_tm ia.t wide).1.1)) ?_
                refine brn2 (fun k17 => ?_) (fun k17 => ?_)
                · have e := set_eq (a := a) (b := b) (wide := wide) ia.t ib.t
                  have ec : commonIs (seenM a.t wide) (seenM b.t wide) = true := by unfold commonIs; rw [decide_eq_true_eq]; exact eq_f.1 k1
                  have eb : (decide ((seenM b.t wide).hi = 0) && aloneQ (seenM b.t wide).lo) = false := by rw [Bool.eq_false_iff]; intro z; unfold aloneQ at z; rw [Bool.and_eq_true, decide_eq_true_eq, decide_eq_true_eq] at z; exact absurd (ne_f.1 k3) z.2.1
                  have ea : (decide ((seenM a.t wide).hi = 0) && aloneQ (seenM a.t wide).lo) = true := by unfold aloneQ; rw [Bool.and_eq_true, decide_eq_true_eq, decide_eq_true_eq]; exact ⟨eq_t.1 k14, ne_t.1 k15, eq_t.1 k16⟩
                  have emb : tMeetIs b.t ⟨(seenM a.t wide).lo, inv64 (seenM a.t wide).lo⟩ = true := k17
                  simp only [ec, eb, ea, emb, Bool.not_true, Bool.not_false, Bool.and_false, Bool.false_and, Bool.and_true, Bool.true_and, Bool.and_self] at e
                  simp only [Tr.all]; rw [e]; try rfl
                · have e := set_eq (a := a) (b := b) (wide := wide) ia.t ib.t
                  have ec : commonIs (seenM a.t wide) (seenM b.t wide) = true := by unfold commonIs; rw [decide_eq_true_eq]; exact eq_f.1 k1
                  have eb : (decide ((seenM b.t wide).hi = 0) && aloneQ (seenM b.t wide).lo) = false := by rw [Bool.eq_false_iff]; intro z; unfold aloneQ at z; rw [Bool.and_eq_true, decide_eq_true_eq, decide_eq_true_eq] at z; exact absurd (ne_f.1 k3) z.2.1
                  have ea : (decide ((seenM a.t wide).hi = 0) && aloneQ (seenM a.t wide).lo) = true := by unfold aloneQ; rw [Bool.and_eq_true, decide_eq_true_eq, decide_eq_true_eq]; exact ⟨eq_t.1 k14, ne_t.1 k15, eq_t.1 k16⟩
                  have emb : tMeetIs b.t ⟨(seenM a.t wide).lo, inv64 (seenM a.t wide).lo⟩ = false := k17
                  simp only [ec, eb, ea, emb, Bool.not_true, Bool.not_false, Bool.and_false, Bool.false_and, Bool.and_true, Bool.true_and, Bool.and_self] at e
                  simp only [Tr.all]; rw [e]; try rfl
              · have e := set_eq (a := a) (b := b) (wide := wide) ia.t ib.t
                have ec : commonIs (seenM a.t wide) (seenM b.t wide) = true := by unfold commonIs; rw [decide_eq_true_eq]; exact eq_f.1 k1
                have eb : (decide ((seenM b.t wide).hi = 0) && aloneQ (seenM b.t wide).lo) = false := by rw [Bool.eq_false_iff]; intro z; unfold aloneQ at z; rw [Bool.and_eq_true, decide_eq_true_eq, decide_eq_true_eq] at z; exact absurd (ne_f.1 k3) z.2.1
                have ea : (decide ((seenM a.t wide).hi = 0) && aloneQ (seenM a.t wide).lo) = false := by rw [Bool.eq_false_iff]; intro z; unfold aloneQ at z; rw [Bool.and_eq_true, decide_eq_true_eq, decide_eq_true_eq] at z; exact absurd z.2.2 (eq_f.1 k16)
                simp only [ec, eb, ea, Bool.not_true, Bool.not_false, Bool.and_false, Bool.false_and, Bool.and_true, Bool.true_and, Bool.and_self] at e
                simp only [Tr.all]; rw [e]; try rfl
            · have e := set_eq (a := a) (b := b) (wide := wide) ia.t ib.t
              have ec : commonIs (seenM a.t wide) (seenM b.t wide) = true := by unfold commonIs; rw [decide_eq_true_eq]; exact eq_f.1 k1
              have eb : (decide ((seenM b.t wide).hi = 0) && aloneQ (seenM b.t wide).lo) = false := by rw [Bool.eq_false_iff]; intro z; unfold aloneQ at z; rw [Bool.and_eq_true, decide_eq_true_eq, decide_eq_true_eq] at z; exact absurd (ne_f.1 k3) z.2.1
              have ea : (decide ((seenM a.t wide).hi = 0) && aloneQ (seenM a.t wide).lo) = false := by rw [Bool.eq_false_iff]; intro z; unfold aloneQ at z; rw [Bool.and_eq_true, decide_eq_true_eq, decide_eq_true_eq] at z; exact absurd (ne_f.1 k15) z.2.1
              simp only [ec, eb, ea, Bool.not_true, Bool.not_false, Bool.and_false, Bool.false_and, Bool.and_true, Bool.true_and, Bool.and_self] at e
              simp only [Tr.all]; rw [e]; try rfl
          · have e := set_eq (a := a) (b := b) (wide := wide) ia.t ib.t
            have ec : commonIs (seenM a.t wide) (seenM b.t wide) = true := by unfold commonIs; rw [decide_eq_true_eq]; exact eq_f.1 k1
            have eb : (decide ((seenM b.t wide).hi = 0) && aloneQ (seenM b.t wide).lo) = false := by rw [Bool.eq_false_iff]; intro z; unfold aloneQ at z; rw [Bool.and_eq_true, decide_eq_true_eq, decide_eq_true_eq] at z; exact absurd (ne_f.1 k3) z.2.1
            have ea : (decide ((seenM a.t wide).hi = 0) && aloneQ (seenM a.t wide).lo) = false := by rw [Bool.eq_false_iff]; intro z; unfold aloneQ at z; rw [Bool.and_eq_true, decide_eq_true_eq, decide_eq_true_eq] at z; exact absurd z.1 (eq_f.1 k14)
            simp only [ec, eb, ea, Bool.not_true, Bool.not_false, Bool.and_false, Bool.false_and, Bool.and_true, Bool.true_and, Bool.and_self] at e
            simp only [Tr.all]; rw [e]; try rfl
      · refine br2 (fun k18 => ?_) (fun k18 => ?_)
        · refine br2 (fun k19 => ?_) (fun k19 => ?_)
          · refine br2 (fun k20 => ?_) (fun k20 => ?_)
            · refine askB (ib.t.1.1) ?_
              refine askB (ib.t.1.2) ?_
              refine askB ((seen_tm ia.t wide).1.1) ?_
              refine askB (inv_u (seen_tm ia.t wide).1.1) ?_
              refine askB ((tMay_iff ib.t.1).2 ib.t) ?_
              refine askB ((tMay_iff (bit_tm (seen_tm ia.t wide).1.1).1).2 (bit_tm (seen_tm ia.t wide).1.1)) ?_
              refine brn2 (fun k21 => ?_) (fun k21 => ?_)
              · have e := set_eq (a := a) (b := b) (wide := wide) ia.t ib.t
                have ec : commonIs (seenM a.t wide) (seenM b.t wide) = true := by unfold commonIs; rw [decide_eq_true_eq]; exact eq_f.1 k1
                have eb : (decide ((seenM b.t wide).hi = 0) && aloneQ (seenM b.t wide).lo) = false := by rw [Bool.eq_false_iff]; intro z; unfold aloneQ at z; rw [Bool.and_eq_true, decide_eq_true_eq, decide_eq_true_eq] at z; exact absurd z.1 (eq_f.1 k2)
                have ea : (decide ((seenM a.t wide).hi = 0) && aloneQ (seenM a.t wide).lo) = true := by unfold aloneQ; rw [Bool.and_eq_true, decide_eq_true_eq, decide_eq_true_eq]; exact ⟨eq_t.1 k18, ne_t.1 k19, eq_t.1 k20⟩
                have emb : tMeetIs b.t ⟨(seenM a.t wide).lo, inv64 (seenM a.t wide).lo⟩ = true := k21
                simp only [ec, eb, ea, emb, Bool.not_true, Bool.not_false, Bool.and_false, Bool.false_and, Bool.and_true, Bool.true_and, Bool.and_self] at e
                simp only [Tr.all]; rw [e]; try rfl
              · have e := set_eq (a := a) (b := b) (wide := wide) ia.t ib.t
                have ec : commonIs (seenM a.t wide) (seenM b.t wide) = true := by unfold commonIs; rw [decide_eq_true_eq]; exact eq_f.1 k1
                have eb : (decide ((seenM b.t wide).hi = 0) && aloneQ (seenM b.t wide).lo) = false := by rw [Bool.eq_false_iff]; intro z; unfold aloneQ at z; rw [Bool.and_eq_true, decide_eq_true_eq, decide_eq_true_eq] at z; exact absurd z.1 (eq_f.1 k2)
                have ea : (decide ((seenM a.t wide).hi = 0) && aloneQ (seenM a.t wide).lo) = true := by unfold aloneQ; rw [Bool.and_eq_true, decide_eq_true_eq, decide_eq_true_eq]; exact ⟨eq_t.1 k18, ne_t.1 k19, eq_t.1 k20⟩
                have emb : tMeetIs b.t ⟨(seenM a.t wide).lo, inv64 (seenM a.t wide).lo⟩ = false := k21
                simp only [ec, eb, ea, emb, Bool.not_true, Bool.not_false, Bool.and_false, Bool.false_and, Bool.and_true, Bool.true_and, Bool.and_self] at e
                simp only [Tr.all]; rw [e]; try rfl
            · have e := set_eq (a := a) (b := b) (wide := wide) ia.t ib.t
              have ec : commonIs (seenM a.t wide) (seenM b.t wide) = true := by unfold commonIs; rw [decide_eq_true_eq]; exact eq_f.1 k1
              have eb : (decide ((seenM b.t wide).hi = 0) && aloneQ (seenM b.t wide).lo) = false := by rw [Bool.eq_false_iff]; intro z; unfold aloneQ at z; rw [Bool.and_eq_true, decide_eq_true_eq, decide_eq_true_eq] at z; exact absurd z.1 (eq_f.1 k2)
              have ea : (decide ((seenM a.t wide).hi = 0) && aloneQ (seenM a.t wide).lo) = false := by rw [Bool.eq_false_iff]; intro z; unfold aloneQ at z; rw [Bool.and_eq_true, decide_eq_true_eq, decide_eq_true_eq] at z; exact absurd z.2.2 (eq_f.1 k20)
              simp only [ec, eb, ea, Bool.not_true, Bool.not_false, Bool.and_false, Bool.false_and, Bool.and_true, Bool.true_and, Bool.and_self] at e
              simp only [Tr.all]; rw [e]; try rfl
          · have e := set_eq (a := a) (b := b) (wide := wide) ia.t ib.t
            have ec : commonIs (seenM a.t wide) (seenM b.t wide) = true := by unfold commonIs; rw [decide_eq_true_eq]; exact eq_f.1 k1
            have eb : (decide ((seenM b.t wide).hi = 0) && aloneQ (seenM b.t wide).lo) = false := by rw [Bool.eq_false_iff]; intro z; unfold aloneQ at z; rw [Bool.and_eq_true, decide_eq_true_eq, decide_eq_true_eq] at z; exact absurd z.1 (eq_f.1 k2)
            have ea : (decide ((seenM a.t wide).hi = 0) && aloneQ (seenM a.t wide).lo) = false := by rw [Bool.eq_false_iff]; intro z; unfold aloneQ at z; rw [Bool.and_eq_true, decide_eq_true_eq, decide_eq_true_eq] at z; exact absurd (ne_f.1 k19) z.2.1
            simp only [ec, eb, ea, Bool.not_true, Bool.not_false, Bool.and_false, Bool.false_and, Bool.and_true, Bool.true_and, Bool.and_self] at e
            simp only [Tr.all]; rw [e]; try rfl
        · have e := set_eq (a := a) (b := b) (wide := wide) ia.t ib.t
          have ec : commonIs (seenM a.t wide) (seenM b.t wide) = true := by unfold commonIs; rw [decide_eq_true_eq]; exact eq_f.1 k1
          have eb : (decide ((seenM b.t wide).hi = 0) && aloneQ (seenM b.t wide).lo) = false := by rw [Bool.eq_false_iff]; intro z; unfold aloneQ at z; rw [Bool.and_eq_true, decide_eq_true_eq, decide_eq_true_eq] at z; exact absurd z.1 (eq_f.1 k2)
          have ea : (decide ((seenM a.t wide).hi = 0) && aloneQ (seenM a.t wide).lo) = false := by rw [Bool.eq_false_iff]; intro z; unfold aloneQ at z; rw [Bool.and_eq_true, decide_eq_true_eq, decide_eq_true_eq] at z; exact absurd z.1 (eq_f.1 k18)
          simp only [ec, eb, ea, Bool.not_true, Bool.not_false, Bool.and_false, Bool.false_and, Bool.and_true, Bool.true_and, Bool.and_self] at e
          simp only [Tr.all]; rw [e]; try rfl
def s_r6set : Sum := bySum 125 [.s none, .a [some .u64, some .u64, some .u64, some .u64, some .i64, some .i64, some .u64, some .u64, some .i64, some .i64], .a [some .u64, some .u64, some .u64, some .u64, some .i64, some .i64, some .u64, some .u64, some .i64, some .i64]] fun
  | [a0, a1, a2, a3, a4, a5, a6, a7, a8, a9, a10, a11, a12, a13, a14, a15, a16, a17, a18, a19], [o0] => some ([invB (Bd.mk (P2.mk a0 a1) (P2.mk a2 a3) (P2.mk a4 a5) (P2.mk a6 a7) (P2.mk a8 a9)), invB (Bd.mk (P2.mk a10 a11) (P2.mk a12 a13) (P2.mk a14 a15) (P2.mk a16 a17) (P2.mk a18 a19))], .u (.agg [.si .u64 (fixT (commonM o0 (Bd.mk (P2.mk a0 a1) (P2.mk a2 a3) (P2.mk a4 a5) (P2.mk a6 a7) (P2.mk a8 a9)) (Bd.mk (P2.mk a10 a11) (P2.mk a12 a13) (P2.mk a14 a15) (P2.mk a16 a17) (P2.mk a18 a19)))).1.1.1, .si .u64 (fixT (commonM o0 (Bd.mk (P2.mk a0 a1) (P2.mk a2 a3) (P2.mk a4 a5) (P2.mk a6 a7) (P2.mk a8 a9)) (Bd.mk (P2.mk a10 a11) (P2.mk a12 a13) (P2.mk a14 a15) (P2.mk a16 a17) (P2.mk a18 a19)))).1.1.2, .si .u64 (fixT (commonM o0 (Bd.mk (P2.mk a0 a1) (P2.mk a2 a3) (P2.mk a4 a5) (P2.mk a6 a7) (P2.mk a8 a9)) (Bd.mk (P2.mk a10 a11) (P2.mk a12 a13) (P2.mk a14 a15) (P2.mk a16 a17) (P2.mk a18 a19)))).1.2.1, .si .u64 (fixT (commonM o0 (Bd.mk (P2.mk a0 a1) (P2.mk a2 a3) (P2.mk a4 a5) (P2.mk a6 a7) (P2.mk a8 a9)) (Bd.mk (P2.mk a10 a11) (P2.mk a12 a13) (P2.mk a14 a15) (P2.mk a16 a17) (P2.mk a18 a19)))).1.2.2, .si .i64 (fixT (commonM o0 (Bd.mk (P2.mk a0 a1) (P2.mk a2 a3) (P2.mk a4 a5) (P2.mk a6 a7) (P2.mk a8 a9)) (Bd.mk (P2.mk a10 a11) (P2.mk a12 a13) (P2.mk a14 a15) (P2.mk a16 a17) (P2.mk a18 a19)))).1.3.1, .si .i64 (fixT (commonM o0 (Bd.mk (P2.mk a0 a1) (P2.mk a2 a3) (P2.mk a4 a5) (P2.mk a6 a7) (P2.mk a8 a9)) (Bd.mk (P2.mk a10 a11) (P2.mk a12 a13) (P2.mk a14 a15) (P2.mk a16 a17) (P2.mk a18 a19)))).1.3.2, .si .u64 (fixT (commonM o0 (Bd.mk (P2.mk a0 a1) (P2.mk a2 a3) (P2.mk a4 a5) (P2.mk a6 a7) (P2.mk a8 a9)) (Bd.mk (P2.mk a10 a11) (P2.mk a12 a13) (P2.mk a14 a15) (P2.mk a16 a17) (P2.mk a18 a19)))).1.4.1, .si .u64 (fixT (commonM o0 (Bd.mk (P2.mk a0 a1) (P2.mk a2 a3) (P2.mk a4 a5) (P2.mk a6 a7) (P2.mk a8 a9)) (Bd.mk (P2.mk a10 a11) (P2.mk a12 a13) (P2.mk a14 a15) (P2.mk a16 a17) (P2.mk a18 a19)))).1.4.2, .si .i64 (fixT (commonM o0 (Bd.mk (P2.mk a0 a1) (P2.mk a2 a3) (P2.mk a4 a5) (P2.mk a6 a7) (P2.mk a8 a9)) (Bd.mk (P2.mk a10 a11) (P2.mk a12 a13) (P2.mk a14 a15) (P2.mk a16 a17) (P2.mk a18 a19)))).1.5.1, .si .i64 (fixT (commonM o0 (Bd.mk (P2.mk a0 a1) (P2.mk a2 a3) (P2.mk a4 a5) (P2.mk a6 a7) (P2.mk a8 a9)) (Bd.mk (P2.mk a10 a11) (P2.mk a12 a13) (P2.mk a14 a15) (P2.mk a16 a17) (P2.mk a18 a19)))).1.5.2, .si .u64 (fixT (commonM o0 (Bd.mk (P2.mk a0 a1) (P2.mk a2 a3) (P2.mk a4 a5) (P2.mk a6 a7) (P2.mk a8 a9)) (Bd.mk (P2.mk a10 a11) (P2.mk a12 a13) (P2.mk a14 a15) (P2.mk a16 a17) (P2.mk a18 a19)))).2.1.1, .si .u64 (fixT (commonM o0 (Bd.mk (P2.mk a0 a1) (P2.mk a2 a3) (P2.mk a4 a5) (P2.mk a6 a7) (P2.mk a8 a9)) (Bd.mk (P2.mk a10 a11) (P2.mk a12 a13) (P2.mk a14 a15) (P2.mk a16 a17) (P2.mk a18 a19)))).2.1.2, .si .u64 (fixT (commonM o0 (Bd.mk (P2.mk a0 a1) (P2.mk a2 a3) (P2.mk a4 a5) (P2.mk a6 a7) (P2.mk a8 a9)) (Bd.mk (P2.mk a10 a11) (P2.mk a12 a13) (P2.mk a14 a15) (P2.mk a16 a17) (P2.mk a18 a19)))).2.2.1, .si .u64 (fixT (commonM o0 (Bd.mk (P2.mk a0 a1) (P2.mk a2 a3) (P2.mk a4 a5) (P2.mk a6 a7) (P2.mk a8 a9)) (Bd.mk (P2.mk a10 a11) (P2.mk a12 a13) (P2.mk a14 a15) (P2.mk a16 a17) (P2.mk a18 a19)))).2.2.2, .si .i64 (fixT (commonM o0 (Bd.mk (P2.mk a0 a1) (P2.mk a2 a3) (P2.mk a4 a5) (P2.mk a6 a7) (P2.mk a8 a9)) (Bd.mk (P2.mk a10 a11) (P2.mk a12 a13) (P2.mk a14 a15) (P2.mk a16 a17) (P2.mk a18 a19)))).2.3.1, .si .i64 (fixT (commonM o0 (Bd.mk (P2.mk a0 a1) (P2.mk a2 a3) (P2.mk a4 a5) (P2.mk a6 a7) (P2.mk a8 a9)) (Bd.mk (P2.mk a10 a11) (P2.mk a12 a13) (P2.mk a14 a15) (P2.mk a16 a17) (P2.mk a18 a19)))).2.3.2, .si .u64 (fixT (commonM o0 (Bd.mk (P2.mk a0 a1) (P2.mk a2 a3) (P2.mk a4 a5) (P2.mk a6 a7) (P2.mk a8 a9)) (Bd.mk (P2.mk a10 a11) (P2.mk a12 a13) (P2.mk a14 a15) (P2.mk a16 a17) (P2.mk a18 a19)))).2.4.1, .si .u64 (fixT (commonM o0 (Bd.mk (P2.mk a0 a1) (P2.mk a2 a3) (P2.mk a4 a5) (P2.mk a6 a7) (P2.mk a8 a9)) (Bd.mk (P2.mk a10 a11) (P2.mk a12 a13) (P2.mk a14 a15) (P2.mk a16 a17) (P2.mk a18 a19)))).2.4.2, .si .i64 (fixT (commonM o0 (Bd.mk (P2.mk a0 a1) (P2.mk a2 a3) (P2.mk a4 a5) (P2.mk a6 a7) (P2.mk a8 a9)) (Bd.mk (P2.mk a10 a11) (P2.mk a12 a13) (P2.mk a14 a15) (P2.mk a16 a17) (P2.mk a18 a19)))).2.5.1, .si .i64 (fixT (commonM o0 (Bd.mk (P2.mk a0 a1) (P2.mk a2 a3) (P2.mk a4 a5) (P2.mk a6 a7) (P2.mk a8 a9)) (Bd.mk (P2.mk a10 a11) (P2.mk a12 a13) (P2.mk a14 a15) (P2.mk a16 a17) (P2.mk a18 a19)))).2.5.2, .sb (fixT (commonM o0 (Bd.mk (P2.mk a0 a1) (P2.mk a2 a3) (P2.mk a4 a5) (P2.mk a6 a7) (P2.mk a8 a9)) (Bd.mk (P2.mk a10 a11) (P2.mk a12 a13) (P2.mk a14 a15) (P2.mk a16 a17) (P2.mk a18 a19)))).3]))
  | _, _ => none
theorem s_r6set_ok : SumOK Tryz.prog s_r6set := by
  refine bySum_ok ⟨_, Tryz.func125, by kernel_rfl⟩ ?_
  intro ns os bs r hm hb ρ w
  split at hm
  · rename_i a0 a1 a2 a3 a4 a5 a6 a7 a8 a9 a10 a11 a12 a13 a14 a15 a16 a17 a18 a19 o0
    cases hm
    exact t_r6set o0 (Bd.mk (P2.mk a0 a1) (P2.mk a2 a3) (P2.mk a4 a5) (P2.mk a6 a7) (P2.mk a8 a9)) (Bd.mk (P2.mk a10 a11) (P2.mk a12 a13) (P2.mk a14 a15) (P2.mk a16 a17) (P2.mk a18 a19)) (hb _ (by simp)) (hb _ (by simp)) ρ w
  · cases hm
theorem t_r6clear (wide : Bool) (a : Bd) (b : Bd) (hb0 : invB a = true) (hb1 : invB b = true) (ρ : Nat → Nat) (w : World) : Calls Tryz.prog 43 (enV [.s none, .a [some .u64, some .u64, some .u64, some .u64, some .i64, some .i64, some .u64, some .u64, some .i64, some .i64], .a [some .u64, some .u64, some .u64, some .u64, some .i64, some .i64, some .u64, some .u64, some .i64, some .i64]] ([a.1.1, a.1.2, a.2.1, a.2.2, a.3.1, a.3.2, a.4.1, a.4.2, a.5.1, a.5.2, b.1.1, b.1.2, b.2.1, b.2.2, b.3.1, b.3.2, b.4.1, b.4.2, b.5.1, b.5.2], [wide])).toArray w fun e w' => e = .returned (V.den ρ (.u (.agg [.si .u64 (fixT (apartM wide a b)).1.1.1, .si .u64 (fixT (apartM wide a b)).1.1.2, .si .u64 (fixT (apartM wide a b)).1.2.1, .si .u64 (fixT (apartM wide a b)).1.2.2, .si .i64 (fixT (apartM wide a b)).1.3.1, .si .i64 (fixT (apartM wide a b)).1.3.2, .si .u64 (fixT (apartM wide a b)).1.4.1, .si .u64 (fixT (apartM wide a b)).1.4.2, .si .i64 (fixT (apartM wide a b)).1.5.1, .si .i64 (fixT (apartM wide a b)).1.5.2, .si .u64 (fixT (apartM wide a b)).2.1.1, .si .u64 (fixT (apartM wide a b)).2.1.2, .si .u64 (fixT (apartM wide a b)).2.2.1, .si .u64 (fixT (apartM wide a b)).2.2.2, .si .i64 (fixT (apartM wide a b)).2.3.1, .si .i64 (fixT (apartM wide a b)).2.3.2, .si .u64 (fixT (apartM wide a b)).2.4.1, .si .u64 (fixT (apartM wide a b)).2.4.2, .si .i64 (fixT (apartM wide a b)).2.5.1, .si .i64 (fixT (apartM wide a b)).2.5.2, .sb (fixT (apartM wide a b)).3]))) ∧ Below w.heap.size w w' := by
  refine pure_to nameOK (okc s_r6half_ok (okc s_rMeetT_ok okn)) (dOK (okc s_r6half_ok (okc s_rMeetT_ok okn))) 300 [.u (.c (.sb wide)), .u (.agg (cB a)), .u (.agg (cB b))] (T := (.br (isU a.1.1) (.br (isU a.1.2) (.br (tMay a.1) (.br (isU b.1.1) (.br (isU b.1.2) (.br (tMay b.1) (.br (iNe (iBit .and .u64 (seenM a.1 wide).1 (seenM b.1 wide).1) 0) (.leaf (.val (.u (.agg [(.li .u64 0), (.li .u64 0), (.li .u64 1), (.li .u64 0), (.li .i64 1), (.li .i64 0), (.li .u64 1), (.li .u64 0), (.li .i64 1), (.li .i64 0), (.li .u64 0), (.li .u64 0), (.li .u64 1), (.li .u64 0), (.li .i64 1), (.li .i64 0), (.li .u64 1), (.li .u64 0), (.li .i64 1), (.li .i64 0), (.lb false)])))) (.br (isU a.1.1) (.br (isU a.1.2) (.br (isU 0) (.br (isU (iBit .xor .u64 18446744073709551615 (seenM b.1 wide).1)) (.br (tMay a.1) (.br (tMay (.mk 0 (iBit .xor .u64 18446744073709551615 (seenM b.1 wide).1))) (.br (isU b.1.1) (.br (isU b.1.2) (.br (isU 0) (.br (isU (iBit .xor .u64 18446744073709551615 (seenM a.1 wide).1)) (.br (tMay b.1) (.br (tMay (.mk 0 (iBit .xor .u64 18446744073709551615 (seenM a.1 wide).1))) (.br (bNot (tMeetIs a.1 (.mk 0 (iBit .xor .u64 18446744073709551615 (seenM b.1 wide).1)))) (.leaf (.val (.u (.agg [(.li .u64 0), (.li .u64 0), (.li .u64 1), (.li .u64 0), (.li .i64 1), (.li .i64 0), (.li .u64 1), (.li .u64 0), (.li .i64 1), (.li .i64 0), (.li .u64 0), (.li .u64 0), (.li .u64 1), (.li .u64 0), (.li .i64 1), (.li .i64 0), (.li .u64 1), (.li .u64 0), (.li .i64 1), (.li .i64 0), (.lb false)])))) (.br (bNot (tMeetIs b.1 (.mk 0 (iBit .xor .u64 18446744073709551615 (seenM a.1 wide).1)))) (.leaf (.val (.u (.agg [(.li .u64 0), (.li .u64 0), (.li .u64 1), (.li .u64 0), (.li .i64 1), (.li .i64 0), (.li .u64 1), (.li .u64 0), (.li .i64 1), (.li .i64 0), (.li .u64 0), (.li .u64 0), (.li .u64 1), (.li .u64 0), (.li .i64 1), (.li .i64 0), (.li .u64 1), (.li .u64 0), (.li .i64 1), (.li .i64 0), (.lb false)])))) (.leaf (.val (.u (.agg [(.si .u64 (tMeet a.1 (.mk 0 (iBit .xor .u64 18446744073709551615 (seenM b.1 wide).1))).1), (.si .u64 (tMeet a.1 (.mk 0 (iBit .xor .u64 18446744073709551615 (seenM b.1 wide).1))).2), (.si .u64 a.2.1), (.si .u64 a.2.2), (.si .i64 a.3.1), (.si .i64 a.3.2), (.si .u64 a.4.1), (.si .u64 a.4.2), (.si .i64 a.5.1), (.si .i64 a.5.2), (.si .u64 (tMeet b.1 (.mk 0 (iBit .xor .u64 18446744073709551615 (seenM a.1 wide).1))).1), (.si .u64 (tMeet b.1 (.mk 0 (iBit .xor .u64 18446744073709551615 (seenM a.1 wide).1))).2), (.si .u64 b.2.1), (.si .u64 b.2.2), (.si .i64 b.3.1), (.si .i64 b.3.2), (.si .u64 b.4.1), (.si .u64 b.4.2), (.si .i64 b.5.1), (.si .i64 b.5.2), (.lb true)])))))) (.no 98)) (.no 98)) (.no 98)) (.no 98)) (.no 98)) (.no 98)) (.no 98)) (.no 98)) (.no 98)) (.no 98)) (.no 98)) (.no 98))) (.no 98)) (.no 98)) (.no 98)) (.no 98)) (.no 98)) (.no 98))) (by kernel_rfl) ρ rfl ?_ w
  · have ia : Inv5 a := invB_iff.1 hb0
    have ib : Inv5 b := invB_iff.1 hb1
    refine askB (ia.t.1.1) ?_
    refine askB (ia.t.1.2) ?_
    refine askB ((tMay_iff ia.t.1).2 ia.t) ?_
    refine askB (ib.t.1.1) ?_
    refine askB (ib.t.1.2) ?_
    refine askB ((tMay_iff ib.t.1).2 ib.t) ?_
    refine br2 (fun k1 => ?_) (fun k1 => ?_)
    · have e := clear_eq (a := a) (b := b) (wide := wide) ia.t ib.t
      have ec : apartIs (seenM a.t wide) (seenM b.t wide) = false := by unfold apartIs; rw [decide_eq_false_iff_not]; exact ne_t.1 k1
      simp only [ec, Bool.not_true, Bool.not_false, Bool.and_false, Bool.false_and, Bool.and_true, Bool.true_and, Bool.and_self] at e
      simp only [Tr.all]; rw [e]; try rfl
    · refine askB (ia.t.1.1) ?_
      refine askB (ia.t.1.2) ?_
      refine askB (by decide) ?_
      refine askB (inv_u (seen_tm ib.t wide).1.1) ?_
      refine askB ((tMay_iff ia.t.1).2 ia.t) ?_
      refine askB ((tMay_iff (mask_tm (seen_tm ib.t wide).1.1).1).2 (mask_tm (seen_tm ib.t wide).1.1)) ?_
      refine askB (ib.t.1.1) ?_
      refine askB (ib.t.1.2) ?_
      refine askB (by decide) ?_
      refine askB (inv_u (seen_tm ia.t wide).1.1) ?_
      refine askB ((tMay_iff ib.t.1).2 ib.t) ?_
      refine askB ((tMay_iff (mask_tm (seen_tm ia.t wide).1.1).1).2 (mask_tm (seen_tm ia.t wide).1.1)) ?_
      refine brn2 (fun k2 => ?_) (fun k2 => ?_)
      · refine brn2 (fun k3 => ?_) (fun k3 => ?_)
        · have e := clear_eq (a := a) (b := b) (wide := wide) ia.t ib.t
          have ec : apartIs (seenM a.t wide) (seenM b.t wide) = true := by unfold apartIs; rw [decide_eq_true_eq]; exact ne_f.1 k1
          have ema : tMeetIs a.t ⟨0, inv64 (seenM b.t wide).lo⟩ = true := k2
          have emb : tMeetIs b.t ⟨0, inv64 (seenM a.t wide).lo⟩ = true := k3
          simp only [ec, ema, emb, Bool.not_true, Bool.not_false, Bool.and_false, Bool.false_and, Bool.and_true, Bool.true_and, Bool.and_self] at e
          simp only [Tr.all]; rw [e]; try rfl
        · have e := clear_eq (a := a) (b := b) (wide := wide) ia.t ib.t
          have ec : apartIs (seenM a.t wide) (seenM b.t wide) = true := by unfold apartIs; rw [decide_eq_true_eq]; exact ne_f.1 k1
          have ema : tMeetIs a.t ⟨0, inv64 (seenM b.t wide).lo⟩ = true := k2
          have emb : tMeetIs b.t ⟨0, inv64 (seenM a.t wide).lo⟩ = false := k3
          simp only [ec, ema, emb, Bool.not_true, Bool.not_false, Bool.and_false, Bool.false_and, Bool.and_true, Bool.true_and, Bool.and_self] at e
          simp only [Tr.all]; rw [e]; try rfl
      · have e := clear_eq (a := a) (b := b) (wide := wide) ia.t ib.t
        have ec : apartIs (seenM a.t wide) (seenM b.t wide) = true := by unfold apartIs; rw [decide_eq_true_eq]; exact ne_f.1 k1
        have ema : tMeetIs a.t ⟨0, inv64 (seenM b.t wide).lo⟩ = false := k2
        simp only [ec, ema, Bool.not_true, Bool.not_false, Bool.and_false, Bool.false_and, Bool.and_true, Bool.true_and, Bool.and_self] at e
        simp only [Tr.all]; rw [e]; try rfl
def s_r6clear : Sum := bySum 43 [.s none, .a [some .u64, some .u64, some .u64, some .u64, some .i64, some .i64, some .u64, some .u64, some .i64, some .i64], .a [some .u64, some .u64, some .u64, some .u64, some .i64, some .i64, some .u64, some .u64, some .i64, some .i64]] fun
  | [a0, a1, a2, a3, a4, a5, a6, a7, a8, a9, a10, a11, a12, a13, a14, a15, a16, a17, a18, a19], [o0] => some ([invB (Bd.mk (P2.mk a0 a1) (P2.mk a2 a3) (P2.mk a4 a5) (P2.mk a6 a7) (P2.mk a8 a9)), invB (Bd.mk (P2.mk a10 a11) (P2.mk a12 a13) (P2.mk a14 a15) (P2.mk a16 a17) (P2.mk a18 a19))], .u (.agg [.si .u64 (fixT (apartM o0 (Bd.mk (P2.mk a0 a1) (P2.mk a2 a3) (P2.mk a4 a5) (P2.mk a6 a7) (P2.mk a8 a9)) (Bd.mk (P2.mk a10 a11) (P2.mk a12 a13) (P2.mk a14 a15) (P2.mk a16 a17) (P2.mk a18 a19)))).1.1.1, .si .u64 (fixT (apartM o0 (Bd.mk (P2.mk a0 a1) (P2.mk a2 a3) (P2.mk a4 a5) (P2.mk a6 a7) (P2.mk a8 a9)) (Bd.mk (P2.mk a10 a11) (P2.mk a12 a13) (P2.mk a14 a15) (P2.mk a16 a17) (P2.mk a18 a19)))).1.1.2, .si .u64 (fixT (apartM o0 (Bd.mk (P2.mk a0 a1) (P2.mk a2 a3) (P2.mk a4 a5) (P2.mk a6 a7) (P2.mk a8 a9)) (Bd.mk (P2.mk a10 a11) (P2.mk a12 a13) (P2.mk a14 a15) (P2.mk a16 a17) (P2.mk a18 a19)))).1.2.1, .si .u64 (fixT (apartM o0 (Bd.mk (P2.mk a0 a1) (P2.mk a2 a3) (P2.mk a4 a5) (P2.mk a6 a7) (P2.mk a8 a9)) (Bd.mk (P2.mk a10 a11) (P2.mk a12 a13) (P2.mk a14 a15) (P2.mk a16 a17) (P2.mk a18 a19)))).1.2.2, .si .i64 (fixT (apartM o0 (Bd.mk (P2.mk a0 a1) (P2.mk a2 a3) (P2.mk a4 a5) (P2.mk a6 a7) (P2.mk a8 a9)) (Bd.mk (P2.mk a10 a11) (P2.mk a12 a13) (P2.mk a14 a15) (P2.mk a16 a17) (P2.mk a18 a19)))).1.3.1, .si .i64 (fixT (apartM o0 (Bd.mk (P2.mk a0 a1) (P2.mk a2 a3) (P2.mk a4 a5) (P2.mk a6 a7) (P2.mk a8 a9)) (Bd.mk (P2.mk a10 a11) (P2.mk a12 a13) (P2.mk a14 a15) (P2.mk a16 a17) (P2.mk a18 a19)))).1.3.2, .si .u64 (fixT (apartM o0 (Bd.mk (P2.mk a0 a1) (P2.mk a2 a3) (P2.mk a4 a5) (P2.mk a6 a7) (P2.mk a8 a9)) (Bd.mk (P2.mk a10 a11) (P2.mk a12 a13) (P2.mk a14 a15) (P2.mk a16 a17) (P2.mk a18 a19)))).1.4.1, .si .u64 (fixT (apartM o0 (Bd.mk (P2.mk a0 a1) (P2.mk a2 a3) (P2.mk a4 a5) (P2.mk a6 a7) (P2.mk a8 a9)) (Bd.mk (P2.mk a10 a11) (P2.mk a12 a13) (P2.mk a14 a15) (P2.mk a16 a17) (P2.mk a18 a19)))).1.4.2, .si .i64 (fixT (apartM o0 (Bd.mk (P2.mk a0 a1) (P2.mk a2 a3) (P2.mk a4 a5) (P2.mk a6 a7) (P2.mk a8 a9)) (Bd.mk (P2.mk a10 a11) (P2.mk a12 a13) (P2.mk a14 a15) (P2.mk a16 a17) (P2.mk a18 a19)))).1.5.1, .si .i64 (fixT (apartM o0 (Bd.mk (P2.mk a0 a1) (P2.mk a2 a3) (P2.mk a4 a5) (P2.mk a6 a7) (P2.mk a8 a9)) (Bd.mk (P2.mk a10 a11) (P2.mk a12 a13) (P2.mk a14 a15) (P2.mk a16 a17) (P2.mk a18 a19)))).1.5.2, .si .u64 (fixT (apartM o0 (Bd.mk (P2.mk a0 a1) (P2.mk a2 a3) (P2.mk a4 a5) (P2.mk a6 a7) (P2.mk a8 a9)) (Bd.mk (P2.mk a10 a11) (P2.mk a12 a13) (P2.mk a14 a15) (P2.mk a16 a17) (P2.mk a18 a19)))).2.1.1, .si .u64 (fixT (apartM o0 (Bd.mk (P2.mk a0 a1) (P2.mk a2 a3) (P2.mk a4 a5) (P2.mk a6 a7) (P2.mk a8 a9)) (Bd.mk (P2.mk a10 a11) (P2.mk a12 a13) (P2.mk a14 a15) (P2.mk a16 a17) (P2.mk a18 a19)))).2.1.2, .si .u64 (fixT (apartM o0 (Bd.mk (P2.mk a0 a1) (P2.mk a2 a3) (P2.mk a4 a5) (P2.mk a6 a7) (P2.mk a8 a9)) (Bd.mk (P2.mk a10 a11) (P2.mk a12 a13) (P2.mk a14 a15) (P2.mk a16 a17) (P2.mk a18 a19)))).2.2.1, .si .u64 (fixT (apartM o0 (Bd.mk (P2.mk a0 a1) (P2.mk a2 a3) (P2.mk a4 a5) (P2.mk a6 a7) (P2.mk a8 a9)) (Bd.mk (P2.mk a10 a11) (P2.mk a12 a13) (P2.mk a14 a15) (P2.mk a16 a17) (P2.mk a18 a19)))).2.2.2, .si .i64 (fixT (apartM o0 (Bd.mk (P2.mk a0 a1) (P2.mk a2 a3) (P2.mk a4 a5) (P2.mk a6 a7) (P2.mk a8 a9)) (Bd.mk (P2.mk a10 a11) (P2.mk a12 a13) (P2.mk a14 a15) (P2.mk a16 a17) (P2.mk a18 a19)))).2.3.1, .si .i64 (fixT (apartM o0 (Bd.mk (P2.mk a0 a1) (P2.mk a2 a3) (P2.mk a4 a5) (P2.mk a6 a7) (P2.mk a8 a9)) (Bd.mk (P2.mk a10 a11) (P2.mk a12 a13) (P2.mk a14 a15) (P2.mk a16 a17) (P2.mk a18 a19)))).2.3.2, .si .u64 (fixT (apartM o0 (Bd.mk (P2.mk a0 a1) (P2.mk a2 a3) (P2.mk a4 a5) (P2.mk a6 a7) (P2.mk a8 a9)) (Bd.mk (P2.mk a10 a11) (P2.mk a12 a13) (P2.mk a14 a15) (P2.mk a16 a17) (P2.mk a18 a19)))).2.4.1, .si .u64 (fixT (apartM o0 (Bd.mk (P2.mk a0 a1) (P2.mk a2 a3) (P2.mk a4 a5) (P2.mk a6 a7) (P2.mk a8 a9)) (Bd.mk (P2.mk a10 a11) (P2.mk a12 a13) (P2.mk a14 a15) (P2.mk a16 a17) (P2.mk a18 a19)))).2.4.2, .si .i64 (fixT (apartM o0 (Bd.mk (P2.mk a0 a1) (P2.mk a2 a3) (P2.mk a4 a5) (P2.mk a6 a7) (P2.mk a8 a9)) (Bd.mk (P2.mk a10 a11) (P2.mk a12 a13) (P2.mk a14 a15) (P2.mk a16 a17) (P2.mk a18 a19)))).2.5.1, .si .i64 (fixT (apartM o0 (Bd.mk (P2.mk a0 a1) (P2.mk a2 a3) (P2.mk a4 a5) (P2.mk a6 a7) (P2.mk a8 a9)) (Bd.mk (P2.mk a10 a11) (P2.mk a12 a13) (P2.mk a14 a15) (P2.mk a16 a17) (P2.mk a18 a19)))).2.5.2, .sb (fixT (apartM o0 (Bd.mk (P2.mk a0 a1) (P2.mk a2 a3) (P2.mk a4 a5) (P2.mk a6 a7) (P2.mk a8 a9)) (Bd.mk (P2.mk a10 a11) (P2.mk a12 a13) (P2.mk a14 a15) (P2.mk a16 a17) (P2.mk a18 a19)))).3]))
  | _, _ => none
theorem s_r6clear_ok : SumOK Tryz.prog s_r6clear := by
  refine bySum_ok ⟨_, Tryz.func43, by kernel_rfl⟩ ?_
  intro ns os bs r hm hb ρ w
  split at hm
  · rename_i a0 a1 a2 a3 a4 a5 a6 a7 a8 a9 a10 a11 a12 a13 a14 a15 a16 a17 a18 a19 o0
    cases hm
    exact t_r6clear o0 (Bd.mk (P2.mk a0 a1) (P2.mk a2 a3) (P2.mk a4 a5) (P2.mk a6 a7) (P2.mk a8 a9)) (Bd.mk (P2.mk a10 a11) (P2.mk a12 a13) (P2.mk a14 a15) (P2.mk a16 a17) (P2.mk a18 a19)) (hb _ (by simp)) (hb _ (by simp)) ρ w
  · cases hm
theorem oks_L06G_3 : ∀ q ∈ [s_r6eq, s_r6not, s_r6aboveH, s_r6overH, s_r6set], SumOK Tryz.prog q := (okc s_r6eq_ok (okc s_r6not_ok (okc s_r6aboveH_ok (okc s_r6overH_ok (okc s_r6set_ok okn)))))
theorem t_r6holds0 (wide : Bool) (a : Bd) (b : Bd) (hb0 : invB a = true) (hb1 : invB b = true) (ρ : Nat → Nat) (w : World) : Calls Tryz.prog 42 (enV [.s (some .u8), .s none, .a [some .u64, some .u64, some .u64, some .u64, some .i64, some .i64, some .u64, some .u64, some .i64, some .i64], .a [some .u64, some .u64, some .u64, some .u64, some .i64, some .i64, some .u64, some .u64, some .i64, some .i64]] ([0, a.1.1, a.1.2, a.2.1, a.2.2, a.3.1, a.3.2, a.4.1, a.4.2, a.5.1, a.5.2, b.1.1, b.1.2, b.2.1, b.2.2, b.3.1, b.3.2, b.4.1, b.4.2, b.5.1, b.5.2], [wide])).toArray w fun e w' => e = .returned (V.den ρ (.u (.agg [.si .u64 (fixT (holds 0 wide a b)).1.1.1, .si .u64 (fixT (holds 0 wide a b)).1.1.2, .si .u64 (fixT (holds 0 wide a b)).1.2.1, .si .u64 (fixT (holds 0 wide a b)).1.2.2, .si .i64 (fixT (holds 0 wide a b)).1.3.1, .si .i64 (fixT (holds 0 wide a b)).1.3.2, .si .u64 (fixT (holds 0 wide a b)).1.4.1, .si .u64 (fixT (holds 0 wide a b)).1.4.2, .si .i64 (fixT (holds 0 wide a b)).1.5.1, .si .i64 (fixT (holds 0 wide a b)).1.5.2, .si .u64 (fixT (holds 0 wide a b)).2.1.1, .si .u64 (fixT (holds 0 wide a b)).2.1.2, .si .u64 (fixT (holds 0 wide a b)).2.2.1, .si .u64 (fixT (holds 0 wide a b)).2.2.2, .si .i64 (fixT (holds 0 wide a b)).2.3.1, .si .i64 (fixT (holds 0 wide a b)).2.3.2, .si .u64 (fixT (holds 0 wide a b)).2.4.1, .si .u64 (fixT (holds 0 wide a b)).2.4.2, .si .i64 (fixT (holds 0 wide a b)).2.5.1, .si .i64 (fixT (holds 0 wide a b)).2.5.2, .sb (fixT (holds 0 wide a b)).3]))) ∧ Below w.heap.size w w' := by
  refine pure_to nameOK oks_L06G_3 (dOK oks_L06G_3) 300 [.u (.c (.li .u8 0)), .u (.c (.sb wide)), .u (.agg (cB a)), .u (.agg (cB b))] (T := (.leaf (.val (.u (.agg [(.si .u64 a.1.1), (.si .u64 a.1.2), (.si .u64 a.2.1), (.si .u64 a.2.2), (.si .i64 a.3.1), (.si .i64 a.3.2), (.si .u64 a.4.1), (.si .u64 a.4.2), (.si .i64 a.5.1), (.si .i64 a.5.2), (.si .u64 b.1.1), (.si .u64 b.1.2), (.si .u64 b.2.1), (.si .u64 b.2.2), (.si .i64 b.3.1), (.si .i64 b.3.2), (.si .u64 b.4.1), (.si .u64 b.4.2), (.si .i64 b.5.1), (.si .i64 b.5.2), (.lb true)]))))) (by kernel_rfl) ρ rfl ?_ w
  · have ia : Inv5 a := invB_iff.1 hb0
    have ib : Inv5 b := invB_iff.1 hb1
    simp only [Tr.all]; rfl
theorem t_r6holds1 (wide : Bool) (a : Bd) (b : Bd) (hb0 : invB a = true) (hb1 : invB b = true) (ρ : Nat → Nat) (w : World) : Calls Tryz.prog 42 (enV [.s (some .u8), .s none, .a [some .u64, some .u64, some .u64, some .u64, some .i64, some .i64, some .u64, some .u64, some .i64, some .i64], .a [some .u64, some .u64, some .u64, some .u64, some .i64, some .i64, some .u64, some .u64, some .i64, some .i64]] ([1, a.1.1, a.1.2, a.2.1, a.2.2, a.3.1, a.3.2, a.4.1, a.4.2, a.5.1, a.5.2, b.1.1, b.1.2, b.2.1, b.2.2, b.3.1, b.3.2, b.4.1, b.4.2, b.5.1, b.5.2], [wide])).toArray w fun e w' => e = .returned (V.den ρ (.u (.agg [.si .u64 (fixT (holds 1 wide a b)).1.1.1, .si .u64 (fixT (holds 1 wide a b)).1.1.2, .si .u64 (fixT (holds 1 wide a b)).1.2.1, .si .u64 (fixT (holds 1 wide a b)).1.2.2, .si .i64 (fixT (holds 1 wide a b)).1.3.1, .si .i64 (fixT (holds 1 wide a b)).1.3.2, .si .u64 (fixT (holds 1 wide a b)).1.4.1, .si .u64 (fixT (holds 1 wide a b)).1.4.2, .si .i64 (fixT (holds 1 wide a b)).1.5.1, .si .i64 (fixT (holds 1 wide a b)).1.5.2, .si .u64 (fixT (holds 1 wide a b)).2.1.1, .si .u64 (fixT (holds 1 wide a b)).2.1.2, .si .u64 (fixT (holds 1 wide a b)).2.2.1, .si .u64 (fixT (holds 1 wide a b)).2.2.2, .si .i64 (fixT (holds 1 wide a b)).2.3.1, .si .i64 (fixT (holds 1 wide a b)).2.3.2, .si .u64 (fixT (holds 1 wide a b)).2.4.1, .si .u64 (fixT (holds 1 wide a b)).2.4.2, .si .i64 (fixT (holds 1 wide a b)).2.5.1, .si .i64 (fixT (holds 1 wide a b)).2.5.2, .sb (fixT (holds 1 wide a b)).3]))) ∧ Below w.heap.size w w' := by
  refine pure_to nameOK oks_L06G_3 (dOK oks_L06G_3) 300 [.u (.c (.li .u8 1)), .u (.c (.sb wide)), .u (.agg (cB a)), .u (.agg (cB b))] (T := (.br (invB a) (.br (invB b) (.leaf (.val (.u (.agg [(.si .u64 (fixT (equalM wide a b)).1.1.1), (.si .u64 (fixT (equalM wide a b)).1.1.2), (.si .u64 (fixT (equalM wide a b)).1.2.1), (.si .u64 (fixT (equalM wide a b)).1.2.2), (.si .i64 (fixT (equalM wide a b)).1.3.1), (.si .i64 (fixT (equalM wide a b)).1.3.2), (.si .u64 (fixT (equalM wide a b)).1.4.1), (.si .u64 (fixT (equalM wide a b)).1.4.2), (.si .i64 (fixT (equalM wide a b)).1.5.1), (.si .i64 (fixT (equalM wide a b)).1.5.2), (.si .u64 (fixT (equalM wide a b)).2.1.1), (.si .u64 (fixT (equalM wide a b)).2.1.2), (.si .u64 (fixT (equalM wide a b)).2.2.1), (.si .u64 (fixT (equalM wide a b)).2.2.2), (.si .i64 (fixT (equalM wide a b)).2.3.1), (.si .i64 (fixT (equalM wide a b)).2.3.2), (.si .u64 (fixT (equalM wide a b)).2.4.1), (.si .u64 (fixT (equalM wide a b)).2.4.2), (.si .i64 (fixT (equalM wide a b)).2.5.1), (.si .i64 (fixT (equalM wide a b)).2.5.2), (.sb (fixT (equalM wide a b)).3)])))) (.no 98)) (.no 98))) (by kernel_rfl) ρ rfl ?_ w
  · have ia : Inv5 a := invB_iff.1 hb0
    have ib : Inv5 b := invB_iff.1 hb1
    refine askB (invB_iff.2 ia) ?_
    refine askB (invB_iff.2 ib) ?_
    simp only [Tr.all]; rfl
theorem t_r6holds2 (wide : Bool) (a : Bd) (b : Bd) (hb0 : invB a = true) (hb1 : invB b = true) (ρ : Nat → Nat) (w : World) : Calls Tryz.prog 42 (enV [.s (some .u8), .s none, .a [some .u64, some .u64, some .u64, some .u64, some .i64, some .i64, some .u64, some .u64, some .i64, some .i64], .a [some .u64, some .u64, some .u64, some .u64, some .i64, some .i64, some .u64, some .u64, some .i64, some .i64]] ([2, a.1.1, a.1.2, a.2.1, a.2.2, a.3.1, a.3.2, a.4.1, a.4.2, a.5.1, a.5.2, b.1.1, b.1.2, b.2.1, b.2.2, b.3.1, b.3.2, b.4.1, b.4.2, b.5.1, b.5.2], [wide])).toArray w fun e w' => e = .returned (V.den ρ (.u (.agg [.si .u64 (fixT (holds 2 wide a b)).1.1.1, .si .u64 (fixT (holds 2 wide a b)).1.1.2, .si .u64 (fixT (holds 2 wide a b)).1.2.1, .si .u64 (fixT (holds 2 wide a b)).1.2.2, .si .i64 (fixT (holds 2 wide a b)).1.3.1, .si .i64 (fixT (holds 2 wide a b)).1.3.2, .si .u64 (fixT (holds 2 wide a b)).1.4.1, .si .u64 (fixT (holds 2 wide a b)).1.4.2, .si .i64 (fixT (holds 2 wide a b)).1.5.1, .si .i64 (fixT (holds 2 wide a b)).1.5.2, .si .u64 (fixT (holds 2 wide a b)).2.1.1, .si .u64 (fixT (holds 2 wide a b)).2.1.2, .si .u64 (fixT (holds 2 wide a b)).2.2.1, .si .u64 (fixT (holds 2 wide a b)).2.2.2, .si .i64 (fixT (holds 2 wide a b)).2.3.1, .si .i64 (fixT (holds 2 wide a b)).2.3.2, .si .u64 (fixT (holds 2 wide a b)).2.4.1, .si .u64 (fixT (holds 2 wide a b)).2.4.2, .si .i64 (fixT (holds 2 wide a b)).2.5.1, .si .i64 (fixT (holds 2 wide a b)).2.5.2, .sb (fixT (holds 2 wide a b)).3]))) ∧ Below w.heap.size w w' := by
  refine pure_to nameOK oks_L06G_3 (dOK oks_L06G_3) 300 [.u (.c (.li .u8 2)), .u (.c (.sb wide)), .u (.agg (cB a)), .u (.agg (cB b))] (T := (.br (is01 1) (.br (invB a) (.br (invB b) (.leaf (.val (.u (.agg [(.si .u64 (fixT (aboveM wide 1 a b)).1.1.1), (.si .u64 (fixT (aboveM wide 1 a b)).1.1.2), (.si .u64 (fixT (aboveM wide 1 a b)).1.2.1), (.si .u64 (fixT (aboveM wide 1 a b)).1.2.2), (.si .i64 (fixT (aboveM wide 1 a b)).1.3.1), (.si .i64 (fixT (aboveM wide 1 a b)).1.3.2), (.si .u64 (fixT (aboveM wide 1 a b)).1.4.1), (.si .u64 (fixT (aboveM wide 1 a b)).1.4.2), (.si .i64 (fixT (aboveM wide 1 a b)).1.5.1), (.si .i64 (fixT (aboveM wide 1 a b)).1.5.2), (.si .u64 (fixT (aboveM wide 1 a b)).2.1.1), (.si .u64 (fixT (aboveM wide 1 a b)).2.1.2), (.si .u64 (fixT (aboveM wide 1 a b)).2.2.1), (.si .u64 (fixT (aboveM wide 1 a b)).2.2.2), (.si .i64 (fixT (aboveM wide 1 a b)).2.3.1), (.si .i64 (fixT (aboveM wide 1 a b)).2.3.2), (.si .u64 (fixT (aboveM wide 1 a b)).2.4.1), (.si .u64 (fixT (aboveM wide 1 a b)).2.4.2), (.si .i64 (fixT (aboveM wide 1 a b)).2.5.1), (.si .i64 (fixT (aboveM wide 1 a b)).2.5.2), (.sb (fixT (aboveM wide 1 a b)).3)])))) (.no 98)) (.no 98)) (.no 98))) (by kernel_rfl) ρ rfl ?_ w
  · have ia : Inv5 a := invB_iff.1 hb0
    have ib : Inv5 b := invB_iff.1 hb1
    refine askB (by decide) ?_
    refine askB (invB_iff.2 ia) ?_
    refine askB (invB_iff.2 ib) ?_
    simp only [Tr.all]; rfl
theorem t_r6holds3 (wide : Bool) (a : Bd) (b : Bd) (hb0 : invB a = true) (hb1 : invB b = true) (ρ : Nat → Nat) (w : World) : Calls Tryz.prog 42 (enV [.s (some .u8), .s none, .a [some .u64, some .u64, some .u64, some .u64, some .i64, some .i64, some .u64, some .u64, some .i64, some .i64], .a [some .u64, some .u64, some .u64, some .u64, some .i64, some .i64, some .u64, some .u64, some .i64, some .i64]] ([3, a.1.1, a.1.2, a.2.1, a.2.2, a.3.1, a.3.2, a.4.1, a.4.2, a.5.1, a.5.2, b.1.1, b.1.2, b.2.1, b.2.2, b.3.1, b.3.2, b.4.1, b.4.2, b.5.1, b.5.2], [wide])).toArray w fun e w' => e = .returned (V.den ρ (.u (.agg [.si .u64 (fixT (holds 3 wide a b)).1.1.1, .si .u64 (fixT (holds 3 wide a b)).1.1.2, .si .u64 (fixT (holds 3 wide a b)).1.2.1, .si .u64 (fixT (holds 3 wide a b)).1.2.2, .si .i64 (fixT (holds 3 wide a b)).1.3.1, .si .i64 (fixT (holds 3 wide a b)).1.3.2, .si .u64 (fixT (holds 3 wide a b)).1.4.1, .si .u64 (fixT (holds 3 wide a b)).1.4.2, .si .i64 (fixT (holds 3 wide a b)).1.5.1, .si .i64 (fixT (holds 3 wide a b)).1.5.2, .si .u64 (fixT (holds 3 wide a b)).2.1.1, .si .u64 (fixT (holds 3 wide a b)).2.1.2, .si .u64 (fixT (holds 3 wide a b)).2.2.1, .si .u64 (fixT (holds 3 wide a b)).2.2.2, .si .i64 (fixT (holds 3 wide a b)).2.3.1, .si .i64 (fixT (holds 3 wide a b)).2.3.2, .si .u64 (fixT (holds 3 wide a b)).2.4.1, .si .u64 (fixT (holds 3 wide a b)).2.4.2, .si .i64 (fixT (holds 3 wide a b)).2.5.1, .si .i64 (fixT (holds 3 wide a b)).2.5.2, .sb (fixT (holds 3 wide a b)).3]))) ∧ Below w.heap.size w w' := by
  refine pure_to nameOK oks_L06G_3 (dOK oks_L06G_3) 300 [.u (.c (.li .u8 3)), .u (.c (.sb wide)), .u (.agg (cB a)), .u (.agg (cB b))] (T := (.br (is01 0) (.br (invB a) (.br (invB b) (.leaf (.val (.u (.agg [(.si .u64 (fixT (aboveM wide 0 a b)).1.1.1), (.si .u64 (fixT (aboveM wide 0 a b)).1.1.2), (.si .u64 (fixT (aboveM wide 0 a b)).1.2.1), (.si .u64 (fixT (aboveM wide 0 a b)).1.2.2), (.si .i64 (fixT (aboveM wide 0 a b)).1.3.1), (.si .i64 (fixT (aboveM wide 0 a b)).1.3.2), (.si .u64 (fixT (aboveM wide 0 a b)).1.4.1), (.si .u64 (fixT (aboveM wide 0 a b)).1.4.2), (.si .i64 (fixT (aboveM wide 0 a b)).1.5.1), (.si .i64 (fixT (aboveM wide 0 a b)).1.5.2), (.si .u64 (fixT (aboveM wide 0 a b)).2.1.1), (.si .u64 (fixT (aboveM wide 0 a b)).2.1.2), (.si .u64 (fixT (aboveM wide 0 a b)).2.2.1), (.si .u64 (fixT (aboveM wide 0 a b)).2.2.2), (.si .i64 (fixT (aboveM wide 0 a b)).2.3.1), (.si .i64 (fixT (aboveM wide 0 a b)).2.3.2), (.si .u64 (fixT (aboveM wide 0 a b)).2.4.1), (.si .u64 (fixT (aboveM wide 0 a b)).2.4.2), (.si .i64 (fixT (aboveM wide 0 a b)).2.5.1), (.si .i64 (fixT (aboveM wide 0 a b)).2.5.2), (.sb (fixT (aboveM wide 0 a b)).3)])))) (.no 98)) (.no 98)) (.no 98))) (by kernel_rfl) ρ rfl ?_ w
  · have ia : Inv5 a := invB_iff.1 hb0
    have ib : Inv5 b := invB_iff.1 hb1
    refine askB (by decide) ?_
    refine askB (invB_iff.2 ia) ?_
    refine askB (invB_iff.2 ib) ?_
    simp only [Tr.all]; rfl
theorem t_r6holds4 (wide : Bool) (a : Bd) (b : Bd) (hb0 : invB a = true) (hb1 : invB b = true) (ρ : Nat → Nat) (w : World) : Calls Tryz.prog 42 (enV [.s (some .u8), .s none, .a [some .u64, some .u64, some .u64, some .u64, some .i64, some .i64, some .u64, some .u64, some .i64, some .i64], .a [some .u64, some .u64, some .u64, some .u64, some .i64, some .i64, some .u64, some .u64, some .i64, some .i64]] ([4, a.1.1, a.1.2, a.2.1, a.2.2, a.3.1, a.3.2, a.4.1, a.4.2, a.5.1, a.5.2, b.1.1, b.1.2, b.2.1, b.2.2, b.3.1, b.3.2, b.4.1, b.4.2, b.5.1, b.5.2], [wide])).toArray w fun e w' => e = .returned (V.den ρ (.u (.agg [.si .u64 (fixT (holds 4 wide a b)).1.1.1, .si .u64 (fixT (holds 4 wide a b)).1.1.2, .si .u64 (fixT (holds 4 wide a b)).1.2.1, .si .u64 (fixT (holds 4 wide a b)).1.2.2, .si .i64 (fixT (holds 4 wide a b)).1.3.1, .si .i64 (fixT (holds 4 wide a b)).1.3.2, .si .u64 (fixT (holds 4 wide a b)).1.4.1, .si .u64 (fixT (holds 4 wide a b)).1.4.2, .si .i64 (fixT (holds 4 wide a b)).1.5.1, .si .i64 (fixT (holds 4 wide a b)).1.5.2, .si .u64 (fixT (holds 4 wide a b)).2.1.1, .si .u64 (fixT (holds 4 wide a b)).2.1.2, .si .u64 (fixT (holds 4 wide a b)).2.2.1, .si .u64 (fixT (holds 4 wide a b)).2.2.2, .si .i64 (fixT (holds 4 wide a b)).2.3.1, .si .i64 (fixT (holds 4 wide a b)).2.3.2, .si .u64 (fixT (holds 4 wide a b)).2.4.1, .si .u64 (fixT (holds 4 wide a b)).2.4.2, .si .i64 (fixT (holds 4 wide a b)).2.5.1, .si .i64 (fixT (holds 4 wide a b)).2.5.2, .sb (fixT (holds 4 wide a b)).3]))) ∧ Below w.heap.size w w' := by
  refine pure_to nameOK oks_L06G_3 (dOK oks_L06G_3) 300 [.u (.c (.li .u8 4)), .u (.c (.sb wide)), .u (.agg (cB a)), .u (.agg (cB b))] (T := (.br (invB a) (.br (invB b) (.leaf (.val (.u (.agg [(.si .u64 (fixT (commonM wide a b)).1.1.1), (.si .u64 (fixT (commonM wide a b)).1.1.2), (.si .u64 (fixT (commonM wide a b)).1.2.1), (.si .u64 (fixT (commonM wide a b)).1.2.2), (.si .i64 (fixT (commonM wide a b)).1.3.1), (.si .i64 (fixT (commonM wide a b)).1.3.2), (.si .u64 (fixT (commonM wide a b)).1.4.1), (.si .u64 (fixT (commonM wide a b)).1.4.2), (.si .i64 (fixT (commonM wide a b)).1.5.1), (.si .i64 (fixT (commonM wide a b)).1.5.2), (.si .u64 (fixT (commonM wide a b)).2.1.1), (.si .u64 (fixT (commonM wide a b)).2.1.2), (.si .u64 (fixT (commonM wide a b)).2.2.1), (.si .u64 (fixT (commonM wide a b)).2.2.2), (.si .i64 (fixT (commonM wide a b)).2.3.1), (.si .i64 (fixT (commonM wide a b)).2.3.2), (.si .u64 (fixT (commonM wide a b)).2.4.1), (.si .u64 (fixT (commonM wide a b)).2.4.2), (.si .i64 (fixT (commonM wide a b)).2.5.1), (.si .i64 (fixT (commonM wide a b)).2.5.2), (.sb (fixT (commonM wide a b)).3)])))) (.no 98)) (.no 98))) (by kernel_rfl) ρ rfl ?_ w
  · have ia : Inv5 a := invB_iff.1 hb0
    have ib : Inv5 b := invB_iff.1 hb1
    refine askB (invB_iff.2 ia) ?_
    refine askB (invB_iff.2 ib) ?_
    simp only [Tr.all]; rfl
theorem t_r6holds5 (wide : Bool) (a : Bd) (b : Bd) (hb0 : invB a = true) (hb1 : invB b = true) (ρ : Nat → Nat) (w : World) : Calls Tryz.prog 42 (enV [.s (some .u8), .s none, .a [some .u64, some .u64, some .u64, some .u64, some .i64, some .i64, some .u64, some .u64, some .i64, some .i64], .a [some .u64, some .u64, some .u64, some .u64, some .i64, some .i64, some .u64, some .u64, some .i64, some .i64]] ([5, a.1.1, a.1.2, a.2.1, a.2.2, a.3.1, a.3.2, a.4.1, a.4.2, a.5.1, a.5.2, b.1.1, b.1.2, b.2.1, b.2.2, b.3.1, b.3.2, b.4.1, b.4.2, b.5.1, b.5.2], [wide])).toArray w fun e w' => e = .returned (V.den ρ (.u (.agg [.si .u64 (fixT (holds 5 wide a b)).1.1.1, .si .u64 (fixT (holds 5 wide a b)).1.1.2, .si .u64 (fixT (holds 5 wide a b)).1.2.1, .si .u64 (fixT (holds 5 wide a b)).1.2.2, .si .i64 (fixT (holds 5 wide a b)).1.3.1, .si .i64 (fixT (holds 5 wide a b)).1.3.2, .si .u64 (fixT (holds 5 wide a b)).1.4.1, .si .u64 (fixT (holds 5 wide a b)).1.4.2, .si .i64 (fixT (holds 5 wide a b)).1.5.1, .si .i64 (fixT (holds 5 wide a b)).1.5.2, .si .u64 (fixT (holds 5 wide a b)).2.1.1, .si .u64 (fixT (holds 5 wide a b)).2.1.2, .si .u64 (fixT (holds 5 wide a b)).2.2.1, .si .u64 (fixT (holds 5 wide a b)).2.2.2, .si .i64 (fixT (holds 5 wide a b)).2.3.1, .si .i64 (fixT (holds 5 wide a b)).2.3.2, .si .u64 (fixT (holds 5 wide a b)).2.4.1, .si .u64 (fixT (holds 5 wide a b)).2.4.2, .si .i64 (fixT (holds 5 wide a b)).2.5.1, .si .i64 (fixT (holds 5 wide a b)).2.5.2, .sb (fixT (holds 5 wide a b)).3]))) ∧ Below w.heap.size w w' := by
  refine pure_to nameOK oks_L06G_3 (dOK oks_L06G_3) 300 [.u (.c (.li .u8 5)), .u (.c (.sb wide)), .u (.agg (cB a)), .u (.agg (cB b))] (T := (.br (invB a) (.br (invB b) (.br (invB b) (.br (invB a) (.leaf (.val (.u (.agg [(.si .u64 (unlikeM wide a b).1.1), (.si .u64 (unlikeM wide a b).1.2), (.si .u64 (unlikeM wide a b).2.1), (.si .u64 (unlikeM wide a b).2.2), (.si .i64 (unlikeM wide a b).3.1), (.si .i64 (unlikeM wide a b).3.2), (.si .u64 (unlikeM wide a b).4.1), (.si .u64 (unlikeM wide a b).4.2), (.si .i64 (unlikeM wide a b).5.1), (.si .i64 (unlikeM wide a b).5.2), (.si .u64 (unlikeM wide b a).1.1), (.si .u64 (unlikeM wide b a).1.2), (.si .u64 (unlikeM wide b a).2.1), (.si .u64 (unlikeM wide b a).2.2), (.si .i64 (unlikeM wide b a).3.1), (.si .i64 (unlikeM wide b a).3.2), (.si .u64 (unlikeM wide b a).4.1), (.si .u64 (unlikeM wide b a).4.2), (.si .i64 (unlikeM wide b a).5.1), (.si .i64 (unlikeM wide b a).5.2), (.lb true)])))) (.no 98)) (.no 98)) (.no 98)) (.no 98))) (by kernel_rfl) ρ rfl ?_ w
  · have ia : Inv5 a := invB_iff.1 hb0
    have ib : Inv5 b := invB_iff.1 hb1
    refine askB (invB_iff.2 ia) ?_
    refine askB (invB_iff.2 ib) ?_
    refine askB (invB_iff.2 ib) ?_
    refine askB (invB_iff.2 ia) ?_
    simp only [Tr.all]; rfl
theorem t_r6holds6 (wide : Bool) (a : Bd) (b : Bd) (hb0 : invB a = true) (hb1 : invB b = true) (ρ : Nat → Nat) (w : World) : Calls Tryz.prog 42 (enV [.s (some .u8), .s none, .a [some .u64, some .u64, some .u64, some .u64, some .i64, some .i64, some .u64, some .u64, some .i64, some .i64], .a [some .u64, some .u64, some .u64, some .u64, some .i64, some .i64, some .u64, some .u64, some .i64, some .i64]] ([6, a.1.1, a.1.2, a.2.1, a.2.2, a.3.1, a.3.2, a.4.1, a.4.2, a.5.1, a.5.2, b.1.1, b.1.2, b.2.1, b.2.2, b.3.1, b.3.2, b.4.1, b.4.2, b.5.1, b.5.2], [wide])).toArray w fun e w' => e = .returned (V.den ρ (.u (.agg [.si .u64 (fixT (holds 6 wide a b)).1.1.1, .si .u64 (fixT (holds 6 wide a b)).1.1.2, .si .u64 (fixT (holds 6 wide a b)).1.2.1, .si .u64 (fixT (holds 6 wide a b)).1.2.2, .si .i64 (fixT (holds 6 wide a b)).1.3.1, .si .i64 (fixT (holds 6 wide a b)).1.3.2, .si .u64 (fixT (holds 6 wide a b)).1.4.1, .si .u64 (fixT (holds 6 wide a b)).1.4.2, .si .i64 (fixT (holds 6 wide a b)).1.5.1, .si .i64 (fixT (holds 6 wide a b)).1.5.2, .si .u64 (fixT (holds 6 wide a b)).2.1.1, .si .u64 (fixT (holds 6 wide a b)).2.1.2, .si .u64 (fixT (holds 6 wide a b)).2.2.1, .si .u64 (fixT (holds 6 wide a b)).2.2.2, .si .i64 (fixT (holds 6 wide a b)).2.3.1, .si .i64 (fixT (holds 6 wide a b)).2.3.2, .si .u64 (fixT (holds 6 wide a b)).2.4.1, .si .u64 (fixT (holds 6 wide a b)).2.4.2, .si .i64 (fixT (holds 6 wide a b)).2.5.1, .si .i64 (fixT (holds 6 wide a b)).2.5.2, .sb (fixT (holds 6 wide a b)).3]))) ∧ Below w.heap.size w w' := by
  refine pure_to nameOK oks_L06G_3 (dOK oks_L06G_3) 300 [.u (.c (.li .u8 6)), .u (.c (.sb wide)), .u (.agg (cB a)), .u (.agg (cB b))] (T := (.br (is01 1) (.br (invB a) (.br (invB b) (.leaf (.val (.u (.agg [(.si .u64 (fixT (overM wide 1 a b)).1.1.1), (.si .u64 (fixT (overM wide 1 a b)).1.1.2), (.si .u64 (fixT (overM wide 1 a b)).1.2.1), (.si .u64 (fixT (overM wide 1 a b)).1.2.2), (.si .i64 (fixT (overM wide 1 a b)).1.3.1), (.si .i64 (fixT (overM wide 1 a b)).1.3.2), (.si .u64 (fixT (overM wide 1 a b)).1.4.1), (.si .u64 (fixT (overM wide 1 a b)).1.4.2), (.si .i64 (fixT (overM wide 1 a b)).1.5.1), (.si .i64 (fixT (overM wide 1 a b)).1.5.2), (.si .u64 (fixT (overM wide 1 a b)).2.1.1), (.si .u64 (fixT (overM wide 1 a b)).2.1.2), (.si .u64 (fixT (overM wide 1 a b)).2.2.1), (.si .u64 (fixT (overM wide 1 a b)).2.2.2), (.si .i64 (fixT (overM wide 1 a b)).2.3.1), (.si .i64 (fixT (overM wide 1 a b)).2.3.2), (.si .u64 (fixT (overM wide 1 a b)).2.4.1), (.si .u64 (fixT (overM wide 1 a b)).2.4.2), (.si .i64 (fixT (overM wide 1 a b)).2.5.1), (.si .i64 (fixT (overM wide 1 a b)).2.5.2), (.sb (fixT (overM wide 1 a b)).3)])))) (.no 98)) (.no 98)) (.no 98))) (by kernel_rfl) ρ rfl ?_ w
  · have ia : Inv5 a := invB_iff.1 hb0
    have ib : Inv5 b := invB_iff.1 hb1
    refine askB (by decide) ?_
    refine askB (invB_iff.2 ia) ?_
    refine askB (invB_iff.2 ib) ?_
    simp only [Tr.all]; rfl
theorem t_r6holds7 (wide : Bool) (a : Bd) (b : Bd) (hb0 : invB a = true) (hb1 : invB b = true) (ρ : Nat → Nat) (w : World) : Calls Tryz.prog 42 (enV [.s (some .u8), .s none, .a [some .u64, some .u64, some .u64, some .u64, some .i64, some .i64, some .u64, some .u64, some .i64, some .i64], .a [some .u64, some .u64, some .u64, some .u64, some .i64, some .i64, some .u64, some .u64, some .i64, some .i64]] ([7, a.1.1, a.1.2, a.2.1, a.2.2, a.3.1, a.3.2, a.4.1, a.4.2, a.5.1, a.5.2, b.1.1, b.1.2, b.2.1, b.2.2, b.3.1, b.3.2, b.4.1, b.4.2, b.5.1, b.5.2], [wide])).toArray w fun e w' => e = .returned (V.den ρ (.u (.agg [.si .u64 (fixT (holds 7 wide a b)).1.1.1, .si .u64 (fixT (holds 7 wide a b)).1.1.2, .si .u64 (fixT (holds 7 wide a b)).1.2.1, .si .u64 (fixT (holds 7 wide a b)).1.2.2, .si .i64 (fixT (holds 7 wide a b)).1.3.1, .si .i64 (fixT (holds 7 wide a b)).1.3.2, .si .u64 (fixT (holds 7 wide a b)).1.4.1, .si .u64 (fixT (holds 7 wide a b)).1.4.2, .si .i64 (fixT (holds 7 wide a b)).1.5.1, .si .i64 (fixT (holds 7 wide a b)).1.5.2, .si .u64 (fixT (holds 7 wide a b)).2.1.1, .si .u64 (fixT (holds 7 wide a b)).2.1.2, .si .u64 (fixT (holds 7 wide a b)).2.2.1, .si .u64 (fixT (holds 7 wide a b)).2.2.2, .si .i64 (fixT (holds 7 wide a b)).2.3.1, .si .i64 (fixT (holds 7 wide a b)).2.3.2, .si .u64 (fixT (holds 7 wide a b)).2.4.1, .si .u64 (fixT (holds 7 wide a b)).2.4.2, .si .i64 (fixT (holds 7 wide a b)).2.5.1, .si .i64 (fixT (holds 7 wide a b)).2.5.2, .sb (fixT (holds 7 wide a b)).3]))) ∧ Below w.heap.size w w' := by
  refine pure_to nameOK oks_L06G_3 (dOK oks_L06G_3) 300 [.u (.c (.li .u8 7)), .u (.c (.sb wide)), .u (.agg (cB a)), .u (.agg (cB b))] (T := (.br (is01 0) (.br (invB a) (.br (invB b) (.leaf (.val (.u (.agg [(.si .u64 (fixT (overM wide 0 a b)).1.1.1), (.si .u64 (fixT (overM wide 0 a b)).1.1.2), (.si .u64 (fixT (overM wide 0 a b)).1.2.1), (.si .u64 (fixT (overM wide 0 a b)).1.2.2), (.si .i64 (fixT (overM wide 0 a b)).1.3.1), (.si .i64 (fixT (overM wide 0 a b)).1.3.2), (.si .u64 (fixT (overM wide 0 a b)).1.4.1), (.si .u64 (fixT (overM wide 0 a b)).1.4.2), (.si .i64 (fixT (overM wide 0 a b)).1.5.1), (.si .i64 (fixT (overM wide 0 a b)).1.5.2), (.si .u64 (fixT (overM wide 0 a b)).2.1.1), (.si .u64 (fixT (overM wide 0 a b)).2.1.2), (.si .u64 (fixT (overM wide 0 a b)).2.2.1), (.si .u64 (fixT (overM wide 0 a b)).2.2.2), (.si .i64 (fixT (overM wide 0 a b)).2.3.1), (.si .i64 (fixT (overM wide 0 a b)).2.3.2), (.si .u64 (fixT (overM wide 0 a b)).2.4.1), (.si .u64 (fixT (overM wide 0 a b)).2.4.2), (.si .i64 (fixT (overM wide 0 a b)).2.5.1), (.si .i64 (fixT (overM wide 0 a b)).2.5.2), (.sb (fixT (overM wide 0 a b)).3)])))) (.no 98)) (.no 98)) (.no 98))) (by kernel_rfl) ρ rfl ?_ w
  · have ia : Inv5 a := invB_iff.1 hb0
    have ib : Inv5 b := invB_iff.1 hb1
    refine askB (by decide) ?_
    refine askB (invB_iff.2 ia) ?_
    refine askB (invB_iff.2 ib) ?_
    simp only [Tr.all]; rfl
theorem t_r6holds10 (wide : Bool) (a : Bd) (b : Bd) (hb0 : invB a = true) (hb1 : invB b = true) (ρ : Nat → Nat) (w : World) : Calls Tryz.prog 42 (enV [.s (some .u8), .s none, .a [some .u64, some .u64, some .u64, some .u64, some .i64, some .i64, some .u64, some .u64, some .i64, some .i64], .a [some .u64, some .u64, some .u64, some .u64, some .i64, some .i64, some .u64, some .u64, some .i64, some .i64]] ([10, a.1.1, a.1.2, a.2.1, a.2.2, a.3.1, a.3.2, a.4.1, a.4.2, a.5.1, a.5.2, b.1.1, b.1.2, b.2.1, b.2.2, b.3.1, b.3.2, b.4.1, b.4.2, b.5.1, b.5.2], [wide])).toArray w fun e w' => e = .returned (V.den ρ (.u (.agg [.si .u64 (fixT (holds 10 wide a b)).1.1.1, .si .u64 (fixT (holds 10 wide a b)).1.1.2, .si .u64 (fixT (holds 10 wide a b)).1.2.1, .si .u64 (fixT (holds 10 wide a b)).1.2.2, .si .i64 (fixT (holds 10 wide a b)).1.3.1, .si .i64 (fixT (holds 10 wide a b)).1.3.2, .si .u64 (fixT (holds 10 wide a b)).1.4.1, .si .u64 (fixT (holds 10 wide a b)).1.4.2, .si .i64 (fixT (holds 10 wide a b)).1.5.1, .si .i64 (fixT (holds 10 wide a b)).1.5.2, .si .u64 (fixT (holds 10 wide a b)).2.1.1, .si .u64 (fixT (holds 10 wide a b)).2.1.2, .si .u64 (fixT (holds 10 wide a b)).2.2.1, .si .u64 (fixT (holds 10 wide a b)).2.2.2, .si .i64 (fixT (holds 10 wide a b)).2.3.1, .si .i64 (fixT (holds 10 wide a b)).2.3.2, .si .u64 (fixT (holds 10 wide a b)).2.4.1, .si .u64 (fixT (holds 10 wide a b)).2.4.2, .si .i64 (fixT (holds 10 wide a b)).2.5.1, .si .i64 (fixT (holds 10 wide a b)).2.5.2, .sb (fixT (holds 10 wide a b)).3]))) ∧ Below w.heap.size w w' := by
  refine pure_to nameOK oks_L06G_3 (dOK oks_L06G_3) 300 [.u (.c (.li .u8 10)), .u (.c (.sb wide)), .u (.agg (cB a)), .u (.agg (cB b))] (T := (.br (is01 1) (.br (invB b) (.br (invB a) (.leaf (.val (.u (.agg [(.si .u64 (fixT (aboveM wide 1 b a)).2.1.1), (.si .u64 (fixT (aboveM wide 1 b a)).2.1.2), (.si .u64 (fixT (aboveM wide 1 b a)).2.2.1), (.si .u64 (fixT (aboveM wide 1 b a)).2.2.2), (.si .i64 (fixT (aboveM wide 1 b a)).2.3.1), (.si .i64 (fixT (aboveM wide 1 b a)).2.3.2), (.si .u64 (fixT (aboveM wide 1 b a)).2.4.1), (.si .u64 (fixT (aboveM wide 1 b a)).2.4.2), (.si .i64 (fixT (aboveM wide 1 b a)).2.5.1), (.si .i64 (fixT (aboveM wide 1 b a)).2.5.2), (.si .u64 (fixT (aboveM wide 1 b a)).1.1.1), (.si .u64 (fixT (aboveM wide 1 b a)).1.1.2), (.si .u64 (fixT (aboveM wide 1 b a)).1.2.1), (.si .u64 (fixT (aboveM wide 1 b a)).1.2.2), (.si .i64 (fixT (aboveM wide 1 b a)).1.3.1), (.si .i64 (fixT (aboveM wide 1 b a)).1.3.2), (.si .u64 (fixT (aboveM wide 1 b a)).1.4.1), (.si .u64 (fixT (aboveM wide 1 b a)).1.4.2), (.si .i64 (fixT (aboveM wide 1 b a)).1.5.1), (.si .i64 (fixT (aboveM wide 1 b a)).1.5.2), (.sb (fixT (aboveM wide 1 b a)).3)])))) (.no 98)) (.no 98)) (.no 98))) (by kernel_rfl) ρ rfl ?_ w
  · have ia : Inv5 a := invB_iff.1 hb0
    have ib : Inv5 b := invB_iff.1 hb1
    refine askB (by decide) ?_
    refine askB (invB_iff.2 ib) ?_
    refine askB (invB_iff.2 ia) ?_
    have e : fixT (holds 10 wide a b) = turnT (fixT (aboveM wide 1 b a)) := fix_turn _
    simp only [Tr.all]; rw [e]; try rfl
theorem t_r6holds11 (wide : Bool) (a : Bd) (b : Bd) (hb0 : invB a = true) (hb1 : invB b = true) (ρ : Nat → Nat) (w : World) : Calls Tryz.prog 42 (enV [.s (some .u8), .s none, .a [some .u64, some .u64, some .u64, some .u64, some .i64, some .i64, some .u64, some .u64, some .i64, some .i64], .a [some .u64, some .u64, some .u64, some .u64, some .i64, some .i64, some .u64, some .u64, some .i64, some .i64]] ([11, a.1.1, a.1.2, a.2.1, a.2.2, a.3.1, a.3.2, a.4.1, a.4.2, a.5.1, a.5.2, b.1.1, b.1.2, b.2.1, b.2.2, b.3.1, b.3.2, b.4.1, b.4.2, b.5.1, b.5.2], [wide])).toArray w fun e w' => e = .returned (V.den ρ (.u (.agg [.si .u64 (fixT (holds 11 wide a b)).1.1.1, .si .u64 (fixT (holds 11 wide a b)).1.1.2, .si .u64 (fixT (holds 11 wide a b)).1.2.1, .si .u64 (fixT (holds 11 wide a b)).1.2.2, .si .i64 (fixT (holds 11 wide a b)).1.3.1, .si .i64 (fixT (holds 11 wide a b)).1.3.2, .si .u64 (fixT (holds 11 wide a b)).1.4.1, .si .u64 (fixT (holds 11 wide a b)).1.4.2, .si .i64 (fixT (holds 11 wide a b)).1.5.1, .si .i64 (fixT (holds 11 wide a b)).1.5.2, .si .u64 (fixT (holds 11 wide a b)).2.1.1, .si .u64 (fixT (holds 11 wide a b)).2.1.2, .si .u64 (fixT (holds 11 wide a b)).2.2.1, .si .u64 (fixT (holds 11 wide a b)).2.2.2, .si .i64 (fixT (holds 11 wide a b)).2.3.1, .si .i64 (fixT (holds 11 wide a b)).2.3.2, .si .u64 (fixT (holds 11 wide a b)).2.4.1, .si .u64 (fixT (holds 11 wide a b)).2.4.2, .si .i64 (fixT (holds 11 wide a b)).2.5.1, .si .i64 (fixT (holds 11 wide a b)).2.5.2, .sb (fixT (holds 11 wide a b)).3]))) ∧ Below w.heap.size w w' := by
  refine pure_to nameOK oks_L06G_3 (dOK oks_L06G_3) 300 [.u (.c (.li .u8 11)), .u (.c (.sb wide)), .u (.agg (cB a)), .u (.agg (cB b))] (T := (.br (is01 0) (.br (invB b) (.br (invB a) (.leaf (.val (.u (.agg [(.si .u64 (fixT (aboveM wide 0 b a)).2.1.1), (.si .u64 (fixT (aboveM wide 0 b a)).2.1.2), (.si .u64 (fixT (aboveM wide 0 b a)).2.2.1), (.si .u64 (fixT (aboveM wide 0 b a)).2.2.2), (.si .i64 (fixT (aboveM wide 0 b a)).2.3.1), (.si .i64 (fixT (aboveM wide 0 b a)).2.3.2), (.si .u64 (fixT (aboveM wide 0 b a)).2.4.1), (.si .u64 (fixT (aboveM wide 0 b a)).2.4.2), (.si .i64 (fixT (aboveM wide 0 b a)).2.5.1), (.si .i64 (fixT (aboveM wide 0 b a)).2.5.2), (.si .u64 (fixT (aboveM wide 0 b a)).1.1.1), (.si .u64 (fixT (aboveM wide 0 b a)).1.1.2), (.si .u64 (fixT (aboveM wide 0 b a)).1.2.1), (.si .u64 (fixT (aboveM wide 0 b a)).1.2.2), (.si .i64 (fixT (aboveM wide 0 b a)).1.3.1), (.si .i64 (fixT (aboveM wide 0 b a)).1.3.2), (.si .u64 (fixT (aboveM wide 0 b a)).1.4.1), (.si .u64 (fixT (aboveM wide 0 b a)).1.4.2), (.si .i64 (fixT (aboveM wide 0 b a)).1.5.1), (.si .i64 (fixT (aboveM wide 0 b a)).1.5.2), (.sb (fixT (aboveM wide 0 b a)).3)])))) (.no 98)) (.no 98)) (.no 98))) (by kernel_rfl) ρ rfl ?_ w
  · have ia : Inv5 a := invB_iff.1 hb0
    have ib : Inv5 b := invB_iff.1 hb1
    refine askB (by decide) ?_
    refine askB (invB_iff.2 ib) ?_
    refine askB (invB_iff.2 ia) ?_
    have e : fixT (holds 11 wide a b) = turnT (fixT (aboveM wide 0 b a)) := fix_turn _
    simp only [Tr.all]; rw [e]; try rfl
theorem t_r6holds12 (wide : Bool) (a : Bd) (b : Bd) (hb0 : invB a = true) (hb1 : invB b = true) (ρ : Nat → Nat) (w : World) : Calls Tryz.prog 42 (enV [.s (some .u8), .s none, .a [some .u64, some .u64, some .u64, some .u64, some .i64, some .i64, some .u64, some .u64, some .i64, some .i64], .a [some .u64, some .u64, some .u64, some .u64, some .i64, some .i64, some .u64, some .u64, some .i64, some .i64]] ([12, a.1.1, a.1.2, a.2.1, a.2.2, a.3.1, a.3.2, a.4.1, a.4.2, a.5.1, a.5.2, b.1.1, b.1.2, b.2.1, b.2.2, b.3.1, b.3.2, b.4.1, b.4.2, b.5.1, b.5.2], [wide])).toArray w fun e w' => e = .returned (V.den ρ (.u (.agg [.si .u64 (fixT (holds 12 wide a b)).1.1.1, .si .u64 (fixT (holds 12 wide a b)).1.1.2, .si .u64 (fixT (holds 12 wide a b)).1.2.1, .si .u64 (fixT (holds 12 wide a b)).1.2.2, .si .i64 (fixT (holds 12 wide a b)).1.3.1, .si .i64 (fixT (holds 12 wide a b)).1.3.2, .si .u64 (fixT (holds 12 wide a b)).1.4.1, .si .u64 (fixT (holds 12 wide a b)).1.4.2, .si .i64 (fixT (holds 12 wide a b)).1.5.1, .si .i64 (fixT (holds 12 wide a b)).1.5.2, .si .u64 (fixT (holds 12 wide a b)).2.1.1, .si .u64 (fixT (holds 12 wide a b)).2.1.2, .si .u64 (fixT (holds 12 wide a b)).2.2.1, .si .u64 (fixT (holds 12 wide a b)).2.2.2, .si .i64 (fixT (holds 12 wide a b)).2.3.1, .si .i64 (fixT (holds 12 wide a b)).2.3.2, .si .u64 (fixT (holds 12 wide a b)).2.4.1, .si .u64 (fixT (holds 12 wide a b)).2.4.2, .si .i64 (fixT (holds 12 wide a b)).2.5.1, .si .i64 (fixT (holds 12 wide a b)).2.5.2, .sb (fixT (holds 12 wide a b)).3]))) ∧ Below w.heap.size w w' := by
  refine pure_to nameOK oks_L06G_3 (dOK oks_L06G_3) 300 [.u (.c (.li .u8 12)), .u (.c (.sb wide)), .u (.agg (cB a)), .u (.agg (cB b))] (T := (.br (is01 1) (.br (invB b) (.br (invB a) (.leaf (.val (.u (.agg [(.si .u64 (fixT (overM wide 1 b a)).2.1.1), (.si .u64 (fixT (overM wide 1 b a)).2.1.2), (.si .u64 (fixT (overM wide 1 b a)).2.2.1), (.si .u64 (fixT (overM wide 1 b a)).2.2.2), (.si .i64 (fixT (overM wide 1 b a)).2.3.1), (.si .i64 (fixT (overM wide 1 b a)).2.3.2), (.si .u64 (fixT (overM wide 1 b a)).2.4.1), (.si .u64 (fixT (overM wide 1 b a)).2.4.2), (.si .i64 (fixT (overM wide 1 b a)).2.5.1), (.si .i64 (fixT (overM wide 1 b a)).2.5.2), (.si .u64 (fixT (overM wide 1 b a)).1.1.1), (.si .u64 (fixT (overM wide 1 b a)).1.1.2), (.si .u64 (fixT (overM wide 1 b a)).1.2.1), (.si .u64 (fixT (overM wide 1 b a)).1.2.2), (.si .i64 (fixT (overM wide 1 b a)).1.3.1), (.si .i64 (fixT (overM wide 1 b a)).1.3.2), (.si .u64 (fixT (overM wide 1 b a)).1.4.1), (.si .u64 (fixT (overM wide 1 b a)).1.4.2), (.si .i64 (fixT (overM wide 1 b a)).1.5.1), (.si .i64 (fixT (overM wide 1 b a)).1.5.2), (.sb (fixT (overM wide 1 b a)).3)])))) (.no 98)) (.no 98)) (.no 98))) (by kernel_rfl) ρ rfl ?_ w
  · have ia : Inv5 a := invB_iff.1 hb0
    have ib : Inv5 b := invB_iff.1 hb1
    refine askB (by decide) ?_
    refine askB (invB_iff.2 ib) ?_
    refine askB (invB_iff.2 ia) ?_
    have e : fixT (holds 12 wide a b) = turnT (fixT (overM wide 1 b a)) := fix_turn _
    simp only [Tr.all]; rw [e]; try rfl
theorem t_r6holds13 (wide : Bool) (a : Bd) (b : Bd) (hb0 : invB a = true) (hb1 : invB b = true) (ρ : Nat → Nat) (w : World) : Calls Tryz.prog 42 (enV [.s (some .u8), .s none, .a [some .u64, some .u64, some .u64, some .u64, some .i64, some .i64, some .u64, some .u64, some .i64, some .i64], .a [some .u64, some .u64, some .u64, some .u64, some .i64, some .i64, some .u64, some .u64, some .i64, some .i64]] ([13, a.1.1, a.1.2, a.2.1, a.2.2, a.3.1, a.3.2, a.4.1, a.4.2, a.5.1, a.5.2, b.1.1, b.1.2, b.2.1, b.2.2, b.3.1, b.3.2, b.4.1, b.4.2, b.5.1, b.5.2], [wide])).toArray w fun e w' => e = .returned (V.den ρ (.u (.agg [.si .u64 (fixT (holds 13 wide a b)).1.1.1, .si .u64 (fixT (holds 13 wide a b)).1.1.2, .si .u64 (fixT (holds 13 wide a b)).1.2.1, .si .u64 (fixT (holds 13 wide a b)).1.2.2, .si .i64 (fixT (holds 13 wide a b)).1.3.1, .si .i64 (fixT (holds 13 wide a b)).1.3.2, .si .u64 (fixT (holds 13 wide a b)).1.4.1, .si .u64 (fixT (holds 13 wide a b)).1.4.2, .si .i64 (fixT (holds 13 wide a b)).1.5.1, .si .i64 (fixT (holds 13 wide a b)).1.5.2, .si .u64 (fixT (holds 13 wide a b)).2.1.1, .si .u64 (fixT (holds 13 wide a b)).2.1.2, .si .u64 (fixT (holds 13 wide a b)).2.2.1, .si .u64 (fixT (holds 13 wide a b)).2.2.2, .si .i64 (fixT (holds 13 wide a b)).2.3.1, .si .i64 (fixT (holds 13 wide a b)).2.3.2, .si .u64 (fixT (holds 13 wide a b)).2.4.1, .si .u64 (fixT (holds 13 wide a b)).2.4.2, .si .i64 (fixT (holds 13 wide a b)).2.5.1, .si .i64 (fixT (holds 13 wide a b)).2.5.2, .sb (fixT (holds 13 wide a b)).3]))) ∧ Below w.heap.size w w' := by
  refine pure_to nameOK oks_L06G_3 (dOK oks_L06G_3) 300 [.u (.c (.li .u8 13)), .u (.c (.sb wide)), .u (.agg (cB a)), .u (.agg (cB b))] (T := (.br (is01 0) (.br (invB b) (.br (invB a) (.leaf (.val (.u (.agg [(.si .u64 (fixT (overM wide 0 b a)).2.1.1), (.si .u64 (fixT (overM wide 0 b a)).2.1.2), (.si .u64 (fixT (overM wide 0 b a)).2.2.1), (.si .u64 (fixT (overM wide 0 b a)).2.2.2), (.si .i64 (fixT (overM wide 0 b a)).2.3.1), (.si .i64 (fixT (overM wide 0 b a)).2.3.2), (.si .u64 (fixT (overM wide 0 b a)).2.4.1), (.si .u64 (fixT (overM wide 0 b a)).2.4.2), (.si .i64 (fixT (overM wide 0 b a)).2.5.1), (.si .i64 (fixT (overM wide 0 b a)).2.5.2), (.si .u64 (fixT (overM wide 0 b a)).1.1.1), (.si .u64 (fixT (overM wide 0 b a)).1.1.2), (.si .u64 (fixT (overM wide 0 b a)).1.2.1), (.si .u64 (fixT (overM wide 0 b a)).1.2.2), (.si .i64 (fixT (overM wide 0 b a)).1.3.1), (.si .i64 (fixT (overM wide 0 b a)).1.3.2), (.si .u64 (fixT (overM wide 0 b a)).1.4.1), (.si .u64 (fixT (overM wide 0 b a)).1.4.2), (.si .i64 (fixT (overM wide 0 b a)).1.5.1), (.si .i64 (fixT (overM wide 0 b a)).1.5.2), (.sb (fixT (overM wide 0 b a)).3)])))) (.no 98)) (.no 98)) (.no 98))) (by kernel_rfl) ρ rfl ?_ w
  · have ia : Inv5 a := invB_iff.1 hb0
    have ib : Inv5 b := invB_iff.1 hb1
    refine askB (by decide) ?_
    refine askB (invB_iff.2 ib) ?_
    refine askB (invB_iff.2 ia) ?_
    have e : fixT (holds 13 wide a b) = turnT (fixT (overM wide 0 b a)) := fix_turn _
    simp only [Tr.all]; rw [e]; try rfl
theorem t_r6holds (c : Int) (wide : Bool) (a : Bd) (b : Bd) (hb0 : isCode c = true) (hb1 : invB a = true) (hb2 : invB b = true) (ρ : Nat → Nat) (w : World) : Calls Tryz.prog 42 (enV [.s (some .u8), .s none, .a [some .u64, some .u64, some .u64, some .u64, some .i64, some .i64, some .u64, some .u64, some .i64, some .i64], .a [some .u64, some .u64, some .u64, some .u64, some .i64, some .i64, some .u64, some .u64, some .i64, some .i64]] ([c, a.1.1, a.1.2, a.2.1, a.2.2, a.3.1, a.3.2, a.4.1, a.4.2, a.5.1, a.5.2, b.1.1, b.1.2, b.2.1, b.2.2, b.3.1, b.3.2, b.4.1, b.4.2, b.5.1, b.5.2], [wide])).toArray w fun e w' => e = .returned (V.den ρ (.u (.agg [.si .u64 (fixT (holds c wide a b)).1.1.1, .si .u64 (fixT (holds c wide a b)).1.1.2, .si .u64 (fixT (holds c wide a b)).1.2.1, .si .u64 (fixT (holds c wide a b)).1.2.2, .si .i64 (fixT (holds c wide a b)).1.3.1, .si .i64 (fixT (holds c wide a b)).1.3.2, .si .u64 (fixT (holds c wide a b)).1.4.1, .si .u64 (fixT (holds c wide a b)).1.4.2, .si .i64 (fixT (holds c wide a b)).1.5.1, .si .i64 (fixT (holds c wide a b)).1.5.2, .si .u64 (fixT (holds c wide a b)).2.1.1, .si .u64 (fixT (holds c wide a b)).2.1.2, .si .u64 (fixT (holds c wide a b)).2.2.1, .si .u64 (fixT (holds c wide a b)).2.2.2, .si .i64 (fixT (holds c wide a b)).2.3.1, .si .i64 (fixT (holds c wide a b)).2.3.2, .si .u64 (fixT (holds c wide a b)).2.4.1, .si .u64 (fixT (holds c wide a b)).2.4.2, .si .i64 (fixT (holds c wide a b)).2.5.1, .si .i64 (fixT (holds c wide a b)).2.5.2, .sb (fixT (holds c wide a b)).3]))) ∧ Below w.heap.size w w' := by
  rcases code_cases hb0 with rfl | rfl | rfl | rfl | rfl | rfl | rfl | rfl | rfl | rfl | rfl | rfl
  · exact t_r6holds0 wide a b hb1 hb2 ρ w
  · exact t_r6holds1 wide a b hb1 hb2 ρ w
  · exact t_r6holds2 wide a b hb1 hb2 ρ w
  · exact t_r6holds3 wide a b hb1 hb2 ρ w
  · exact t_r6holds4 wide a b hb1 hb2 ρ w
  · exact t_r6holds5 wide a b hb1 hb2 ρ w
  · exact t_r6holds6 wide a b hb1 hb2 ρ w
  · exact t_r6holds7 wide a b hb1 hb2 ρ w
  · exact t_r6holds10 wide a b hb1 hb2 ρ w
  · exact t_r6holds11 wide a b hb1 hb2 ρ w
  · exact t_r6holds12 wide a b hb1 hb2 ρ w
  · exact t_r6holds13 wide a b hb1 hb2 ρ w
def s_r6holds : Sum := bySum 42 [.s (some .u8), .s none, .a [some .u64, some .u64, some .u64, some .u64, some .i64, some .i64, some .u64, some .u64, some .i64, some .i64], .a [some .u64, some .u64, some .u64, some .u64, some .i64, some .i64, some .u64, some .u64, some .i64, some .i64]] fun
  | [a0, a1, a2, a3, a4, a5, a6, a7, a8, a9, a10, a11, a12, a13, a14, a15, a16, a17, a18, a19, a20], [o0] => some ([isCode a0, invB (Bd.mk (P2.mk a1 a2) (P2.mk a3 a4) (P2.mk a5 a6) (P2.mk a7 a8) (P2.mk a9 a10)), invB (Bd.mk (P2.mk a11 a12) (P2.mk a13 a14) (P2.mk a15 a16) (P2.mk a17 a18) (P2.mk a19 a20))], .u (.agg [.si .u64 (fixT (holds a0 o0 (Bd.mk (P2.mk a1 a2) (P2.mk a3 a4) (P2.mk a5 a6) (P2.mk a7 a8) (P2.mk a9 a10)) (Bd.mk (P2.mk a11 a12) (P2.mk a13 a14) (P2.mk a15 a16) (P2.mk a17 a18) (P2.mk a19 a20)))).1.1.1, .si .u64 (fixT (holds a0 o0 (Bd.mk (P2.mk a1 a2) (P2.mk a3 a4) (P2.mk a5 a6) (P2.mk a7 a8) (P2.mk a9 a10)) (Bd.mk (P2.mk a11 a12) (P2.mk a13 a14) (P2.mk a15 a16) (P2.mk a17 a18) (P2.mk a19 a20)))).1.1.2, .si .u64 (fixT (holds a0 o0 (Bd.mk (P2.mk a1 a2) (P2.mk a3 a4) (P2.mk a5 a6) (P2.mk a7 a8) (P2.mk a9 a10)) (Bd.mk (P2.mk a11 a12) (P2.mk a13 a14) (P2.mk a15 a16) (P2.mk a17 a18) (P2.mk a19 a20)))).1.2.1, .si .u64 (fixT (holds a0 o0 (Bd.mk (P2.mk a1 a2) (P2.mk a3 a4) (P2.mk a5 a6) (P2.mk a7 a8) (P2.mk a9 a10)) (Bd.mk (P2.mk a11 a12) (P2.mk a13 a14) (P2.mk a15 a16) (P2.mk a17 a18) (P2.mk a19 a20)))).1.2.2, .si .i64 (fixT (holds a0 o0 (Bd.mk (P2.mk a1 a2) (P2.mk a3 a4) (P2.mk a5 a6) (P2.mk a7 a8) (P2.mk a9 a10)) (Bd.mk (P2.mk a11 a12) (P2.mk a13 a14) (P2.mk a15 a16) (P2.mk a17 a18) (P2.mk a19 a20)))).1.3.1, .si .i64 (fixT (holds a0 o0 (Bd.mk (P2.mk a1 a2) (P2.mk a3 a4) (P2.mk a5 a6) (P2.mk a7 a8) (P2.mk a9 a10)) (Bd.mk (P2.mk a11 a12) (P2.mk a13 a14) (P2.mk a15 a16) (P2.mk a17 a18) (P2.mk a19 a20)))).1.3.2, .si .u64 (fixT (holds a0 o0 (Bd.mk (P2.mk a1 a2) (P2.mk a3 a4) (P2.mk a5 a6) (P2.mk a7 a8) (P2.mk a9 a10)) (Bd.mk (P2.mk a11 a12) (P2.mk a13 a14) (P2.mk a15 a16) (P2.mk a17 a18) (P2.mk a19 a20)))).1.4.1, .si .u64 (fixT (holds a0 o0 (Bd.mk (P2.mk a1 a2) (P2.mk a3 a4) (P2.mk a5 a6) (P2.mk a7 a8) (P2.mk a9 a10)) (Bd.mk (P2.mk a11 a12) (P2.mk a13 a14) (P2.mk a15 a16) (P2.mk a17 a18) (P2.mk a19 a20)))).1.4.2, .si .i64 (fixT (holds a0 o0 (Bd.mk (P2.mk a1 a2) (P2.mk a3 a4) (P2.mk a5 a6) (P2.mk a7 a8) (P2.mk a9 a10)) (Bd.mk (P2.mk a11 a12) (P2.mk a13 a14) (P2.mk a15 a16) (P2.mk a17 a18) (P2.mk a19 a20)))).1.5.1, .si .i64 (fixT (holds a0 o0 (Bd.mk (P2.mk a1 a2) (P2.mk a3 a4) (P2.mk a5 a6) (P2.mk a7 a8) (P2.mk a9 a10)) (Bd.mk (P2.mk a11 a12) (P2.mk a13 a14) (P2.mk a15 a16) (P2.mk a17 a18) (P2.mk a19 a20)))).1.5.2, .si .u64 (fixT (holds a0 o0 (Bd.mk (P2.mk a1 a2) (P2.mk a3 a4) (P2.mk a5 a6) (P2.mk a7 a8) (P2.mk a9 a10)) (Bd.mk (P2.mk a11 a12) (P2.mk a13 a14) (P2.mk a15 a16) (P2.mk a17 a18) (P2.mk a19 a20)))).2.1.1, .si .u64 (fixT (holds a0 o0 (Bd.mk (P2.mk a1 a2) (P2.mk a3 a4) (P2.mk a5 a6) (P2.mk a7 a8) (P2.mk a9 a10)) (Bd.mk (P2.mk a11 a12) (P2.mk a13 a14) (P2.mk a15 a16) (P2.mk a17 a18) (P2.mk a19 a20)))).2.1.2, .si .u64 (fixT (holds a0 o0 (Bd.mk (P2.mk a1 a2) (P2.mk a3 a4) (P2.mk a5 a6) (P2.mk a7 a8) (P2.mk a9 a10)) (Bd.mk (P2.mk a11 a12) (P2.mk a13 a14) (P2.mk a15 a16) (P2.mk a17 a18) (P2.mk a19 a20)))).2.2.1, .si .u64 (fixT (holds a0 o0 (Bd.mk (P2.mk a1 a2) (P2.mk a3 a4) (P2.mk a5 a6) (P2.mk a7 a8) (P2.mk a9 a10)) (Bd.mk (P2.mk a11 a12) (P2.mk a13 a14) (P2.mk a15 a16) (P2.mk a17 a18) (P2.mk a19 a20)))).2.2.2, .si .i64 (fixT (holds a0 o0 (Bd.mk (P2.mk a1 a2) (P2.mk a3 a4) (P2.mk a5 a6) (P2.mk a7 a8) (P2.mk a9 a10)) (Bd.mk (P2.mk a11 a12) (P2.mk a13 a14) (P2.mk a15 a16) (P2.mk a17 a18) (P2.mk a19 a20)))).2.3.1, .si .i64 (fixT (holds a0 o0 (Bd.mk (P2.mk a1 a2) (P2.mk a3 a4) (P2.mk a5 a6) (P2.mk a7 a8) (P2.mk a9 a10)) (Bd.mk (P2.mk a11 a12) (P2.mk a13 a14) (P2.mk a15 a16) (P2.mk a17 a18) (P2.mk a19 a20)))).2.3.2, .si .u64 (fixT (holds a0 o0 (Bd.mk (P2.mk a1 a2) (P2.mk a3 a4) (P2.mk a5 a6) (P2.mk a7 a8) (P2.mk a9 a10)) (Bd.mk (P2.mk a11 a12) (P2.mk a13 a14) (P2.mk a15 a16) (P2.mk a17 a18) (P2.mk a19 a20)))).2.4.1, .si .u64 (fixT (holds a0 o0 (Bd.mk (P2.mk a1 a2) (P2.mk a3 a4) (P2.mk a5 a6) (P2.mk a7 a8) (P2.mk a9 a10)) (Bd.mk (P2.mk a11 a12) (P2.mk a13 a14) (P2.mk a15 a16) (P2.mk a17 a18) (P2.mk a19 a20)))).2.4.2, .si .i64 (fixT (holds a0 o0 (Bd.mk (P2.mk a1 a2) (P2.mk a3 a4) (P2.mk a5 a6) (P2.mk a7 a8) (P2.mk a9 a10)) (Bd.mk (P2.mk a11 a12) (P2.mk a13 a14) (P2.mk a15 a16) (P2.mk a17 a18) (P2.mk a19 a20)))).2.5.1, .si .i64 (fixT (holds a0 o0 (Bd.mk (P2.mk a1 a2) (P2.mk a3 a4) (P2.mk a5 a6) (P2.mk a7 a8) (P2.mk a9 a10)) (Bd.mk (P2.mk a11 a12) (P2.mk a13 a14) (P2.mk a15 a16) (P2.mk a17 a18) (P2.mk a19 a20)))).2.5.2, .sb (fixT (holds a0 o0 (Bd.mk (P2.mk a1 a2) (P2.mk a3 a4) (P2.mk a5 a6) (P2.mk a7 a8) (P2.mk a9 a10)) (Bd.mk (P2.mk a11 a12) (P2.mk a13 a14) (P2.mk a15 a16) (P2.mk a17 a18) (P2.mk a19 a20)))).3]))
  | _, _ => none
theorem s_r6holds_ok : SumOK Tryz.prog s_r6holds := by
  refine bySum_ok ⟨_, Tryz.func42, by kernel_rfl⟩ ?_
  intro ns os bs r hm hb ρ w
  split at hm
  · rename_i a0 a1 a2 a3 a4 a5 a6 a7 a8 a9 a10 a11 a12 a13 a14 a15 a16 a17 a18 a19 a20 o0
    cases hm
    exact t_r6holds a0 o0 (Bd.mk (P2.mk a1 a2) (P2.mk a3 a4) (P2.mk a5 a6) (P2.mk a7 a8) (P2.mk a9 a10)) (Bd.mk (P2.mk a11 a12) (P2.mk a13 a14) (P2.mk a15 a16) (P2.mk a17 a18) (P2.mk a19 a20)) (hb _ (by simp)) (hb _ (by simp)) (hb _ (by simp)) ρ w
  · cases hm
theorem t_r6Other (c : Int) (ρ : Nat → Nat) (w : World) : Calls Tryz.prog 44 (enV [.s (some .u8)] ([c], [])).toArray w fun e w' => e = .returned (V.den ρ (.u (.c (.si .u8 (otherR c))))) ∧ Below w.heap.size w w' := by
  refine pure_to nameOK okn (dOK okn) 300 [.u (.c (.si .u8 c))] (T := (.br (iEq 1 c) (.leaf (.val (.u (.c (.li .u8 5))))) (.br (iEq 5 c) (.leaf (.val (.u (.c (.li .u8 1))))) (.br (iEq 2 c) (.leaf (.val (.u (.c (.li .u8 11))))) (.br (iEq 11 c) (.leaf (.val (.u (.c (.li .u8 2))))) (.br (iEq 3 c) (.leaf (.val (.u (.c (.li .u8 10))))) (.br (iEq 10 c) (.leaf (.val (.u (.c (.li .u8 3))))) (.br (iEq 6 c) (.leaf (.val (.u (.c (.li .u8 13))))) (.br (iEq 13 c) (.leaf (.val (.u (.c (.li .u8 6))))) (.br (iEq 7 c) (.leaf (.val (.u (.c (.li .u8 12))))) (.br (iEq 12 c) (.leaf (.val (.u (.c (.li .u8 7))))) (.leaf (.val (.u (.c (.si .u8 c)))))))))))))))) (by kernel_rfl) ρ rfl ?_ w
  · have sw : ∀ k : Int, iEq k c = iEq c k := fun k => by rw [Bool.eq_iff_iff, eq_t, eq_t]; exact eq_comm
    simp only [sw]
    refine br2 (fun k1 => ?_) (fun k1 => ?_)
    · replace k1 := eq_t.1 k1
      rw [k1]; simp only [Tr.all]; rfl
    · replace k1 := eq_f.1 k1
      refine br2 (fun k2 => ?_) (fun k2 => ?_)
      · replace k2 := eq_t.1 k2
        rw [k2]; simp only [Tr.all]; rfl
      · replace k2 := eq_f.1 k2
        refine br2 (fun k3 => ?_) (fun k3 => ?_)
        · replace k3 := eq_t.1 k3
          rw [k3]; simp only [Tr.all]; rfl
        · replace k3 := eq_f.1 k3
          refine br2 (fun k4 => ?_) (fun k4 => ?_)
          · replace k4 := eq_t.1 k4
            rw [k4]; simp only [Tr.all]; rfl
          · replace k4 := eq_f.1 k4
            refine br2 (fun k5 => ?_) (fun k5 => ?_)
            · replace k5 := eq_t.1 k5
              rw [k5]; simp only [Tr.all]; rfl
            · replace k5 := eq_f.1 k5
              refine br2 (fun k6 => ?_) (fun k6 => ?_)
              · replace k6 := eq_t.1 k6
                rw [k6]; simp only [Tr.all]; rfl
              · replace k6 := eq_f.1 k6
                refine br2 (fun k7 => ?_) (fun k7 => ?_)
                · replace k7 := eq_t.1 k7
                  rw [k7]; simp only [Tr.all]; rfl
                · replace k7 := eq_f.1 k7
                  refine br2 (fun k8 => ?_) (fun k8 => ?_)
                  · replace k8 := eq_t.1 k8
                    rw [k8]; simp only [Tr.all]; rfl
                  · replace k8 := eq_f.1 k8
                    refine br2 (fun k9 => ?_) (fun k9 => ?_)
                    · replace k9 := eq_t.1 k9
                      rw [k9]; simp only [Tr.all]; rfl
                    · replace k9 := eq_f.1 k9
                      refine br2 (fun k10 => ?_) (fun k10 => ?_)
                      · replace k10 := eq_t.1 k10
                        rw [k10]; simp only [Tr.all]; rfl
                      · replace k10 := eq_f.1 k10
                        have e : otherR c = c := by simp only [otherR, other, k6, k5, k4, k3, k10, k9, k8, k7, k1, k2, if_false]
                        simp only [Tr.all]; rw [e]; try rfl
def s_r6Other : Sum := bySum 44 [.s (some .u8)] fun
  | [a0], [] => some ([], .u (.c (.si .u8 (otherR a0))))
  | _, _ => none
theorem s_r6Other_ok : SumOK Tryz.prog s_r6Other := by
  refine bySum_ok ⟨_, Tryz.func44, by kernel_rfl⟩ ?_
  intro ns os bs r hm hb ρ w
  split at hm
  · rename_i a0
    cases hm
    exact t_r6Other a0 ρ w
  · cases hm
theorem oks_L06G_4 : ∀ q ∈ [s_rBNone, s_r6holds, s_r6clear, s_r6Other, s_rsync], SumOK Tryz.prog q := (okc s_rBNone_ok (okc s_r6holds_ok (okc s_r6clear_ok (okc s_r6Other_ok (okc s_rsync_ok okn)))))
theorem t_r6Refine (c : Int) (wide : Bool) (so : Bool) (a : Bd) (b : Bd) (hb0 : isCode c = true) (hb1 : invB a = true) (hb2 : invB b = true) (ρ : Nat → Nat) (w : World) : Calls Tryz.prog 16 (enV [.s (some .u8), .s none, .s none, .a [some .u64, some .u64, some .u64, some .u64, some .i64, some .i64, some .u64, some .u64, some .i64, some .i64], .a [some .u64, some .u64, some .u64, some .u64, some .i64, some .i64, some .u64, some .u64, some .i64, some .i64]] ([c, a.1.1, a.1.2, a.2.1, a.2.2, a.3.1, a.3.2, a.4.1, a.4.2, a.5.1, a.5.2, b.1.1, b.1.2, b.2.1, b.2.2, b.3.1, b.3.2, b.4.1, b.4.2, b.5.1, b.5.2], [wide, so])).toArray w fun e w' => e = .returned (V.den ρ (.tup [.agg (cB (refA c wide so a b)), .agg (cB (refB c wide so a b)), .c (.sb (refIs c wide so a b))])) ∧ Below w.heap.size w w' := by
  refine pure_to nameOK oks_L06G_4 (dOK oks_L06G_4) 300 [.u (.c (.si .u8 c)), .u (.c (.sb wide)), .u (.c (.sb so)), .u (.agg (cB a)), .u (.agg (cB b))] (T := (.br (bNot (bNone a)) (.br (bNot (bNone b)) (.br so (.br (isCode c) (.br (invB a) (.br (invB b) (.br (fixT (holds c wide a b)).3 (a10 (fixT (holds c wide a b)).1 (a10 (fixT (holds c wide a b)).2 (.br (bNot (fixT (holds c wide a b)).3) (.leaf (.val (.tup [(.agg cN), (.agg cN), (.c (.lb false))]))) (.br (bNone (sync (fixT (holds c wide a b)).1)) (.leaf (.val (.tup [(.agg cN), (.agg cN), (.c (.lb false))]))) (.br (bNone (sync (fixT (holds c wide a b)).2)) (.leaf (.val (.tup [(.agg cN), (.agg cN), (.c (.lb false))]))) (.leaf (.val (.tup [(.agg (cB (sync (fixT (holds c wide a b)).1))), (.agg (cB (sync (fixT (holds c wide a b)).2))), (.c (.sb (fixT (holds c wide a b)).3))])))))))) (.br (bNot (fixT (holds c wide a b)).3) (.leaf (.val (.tup [(.agg cN), (.agg cN), (.c (.lb false))]))) (.br (bNone (fixT (holds c wide a b)).1) (.leaf (.val (.tup [(.agg cN), (.agg cN), (.c (.lb false))]))) (.br (bNone (fixT (holds c wide a b)).2) (.leaf (.val (.tup [(.agg cN), (.agg cN), (.c (.lb false))]))) (.leaf (.val (.tup [(.agg (cB (fixT (holds c wide a b)).1)), (.agg (cB (fixT (holds c wide a b)).2)), (.c (.sb (fixT (holds c wide a b)).3))]))))))) (.no 98)) (.no 98)) (.no 98)) (.br (iEq c 4) (.br (invB a) (.br (invB b) (.br (fixT (apartM wide a b)).3 (a10 (fixT (apartM wide a b)).1 (a10 (fixT (apartM wide a b)).2 (.br (bNot (fixT (apartM wide a b)).3) (.leaf (.val (.tup [(.agg cN), (.agg cN), (.c (.lb false))]))) (.br (bNone (sync (fixT (apartM wide a b)).1)) (.leaf (.val (.tup [(.agg cN), (.agg cN), (.c (.lb false))]))) (.br (bNone (sync (fixT (apartM wide a b)).2)) (.leaf (.val (.tup [(.agg cN), (.agg cN), (.c (.lb false))]))) (.leaf (.val (.tup [(.agg (cB (sync (fixT (apartM wide a b)).1))), (.agg (cB (sync (fixT (apartM wide a b)).2))), (.c (.sb (fixT (apartM wide a b)).3))])))))))) (.br (bNot (fixT (apartM wide a b)).3) (.leaf (.val (.tup [(.agg cN), (.agg cN), (.c (.lb false))]))) (.br (bNone (fixT (apartM wide a b)).1) (.leaf (.val (.tup [(.agg cN), (.agg cN), (.c (.lb false))]))) (.br (bNone (fixT (apartM wide a b)).2) (.leaf (.val (.tup [(.agg cN), (.agg cN), (.c (.lb false))]))) (.leaf (.val (.tup [(.agg (cB (fixT (apartM wide a b)).1)), (.agg (cB (fixT (apartM wide a b)).2)), (.c (.sb (fixT (apartM wide a b)).3))]))))))) (.no 98)) (.no 98)) (.br (iNe c 0) (.br (isCode (otherR c)) (.br (invB a) (.br (invB b) (.br (fixT (holds (otherR c) wide a b)).3 (a10 (fixT (holds (otherR c) wide a b)).1 (a10 (fixT (holds (otherR c) wide a b)).2 (.br (bNot (fixT (holds (otherR c) wide a b)).3) (.leaf (.val (.tup [(.agg cN), (.agg cN), (.c (.lb false))]))) (.br (bNone (sync (fixT (holds (otherR c) wide a b)).1)) (.leaf (.val (.tup [(.agg cN), (.agg cN), (.c (.lb false))]))) (.br (bNone (sync (fixT (holds (otherR c) wide a b)).2)) (.leaf (.val (.tup [(.agg cN), (.agg cN), (.c (.lb false))]))) (.leaf (.val (.tup [(.agg (cB (sync (fixT (holds (otherR c) wide a b)).1))), (.agg (cB (sync (fixT (holds (otherR c) wide a b)).2))), (.c (.sb (fixT (holds (otherR c) wide a b)).3))])))))))) (.br (bNot (fixT (holds (otherR c) wide a b)).3) (.leaf (.val (.tup [(.agg cN), (.agg cN), (.c (.lb false))]))) (.br (bNone (fixT (holds (otherR c) wide a b)).1) (.leaf (.val (.tup [(.agg cN), (.agg cN), (.c (.lb false))]))) (.br (bNone (fixT (holds (otherR c) wide a b)).2) (.leaf (.val (.tup [(.agg cN), (.agg cN), (.c (.lb false))]))) (.leaf (.val (.tup [(.agg (cB (fixT (holds (otherR c) wide a b)).1)), (.agg (cB (fixT (holds (otherR c) wide a b)).2)), (.c (.sb (fixT (holds (otherR c) wide a b)).3))]))))))) (.no 98)) (.no 98)) (.no 98)) (.leaf (.val (.tup [(.agg cN), (.agg cN), (.c (.lb false))])))))) (.leaf (.val (.tup [(.agg cN), (.agg cN), (.c (.lb false))])))) (.leaf (.val (.tup [(.agg cN), (.agg cN), (.c (.lb false))]))))) (by kernel_rfl) ρ rfl ?_ w
  · have ia : Inv5 a := invB_iff.1 hb1
    have ib : Inv5 b := invB_iff.1 hb2
    obtain ⟨rA, rB, rI⟩ := ref_end (wide := wide) (so := so) (a := a) (b := b) hb0
    refine brn2 (fun k1 => ?_) (fun k1 => ?_)
    · have es : sideM c wide so a b = twoZ := by unfold sideM; rw [k1]; rfl
      have el : left (sideM c wide so a b) = false := by rw [es]; rfl
      have e1 : refA c wide so a b = nothing := by rw [rA]; unfold endA; rw [el]
      have e2 : refB c wide so a b = nothing := by rw [rB]; unfold endB; rw [el]
      have e3 : refIs c wide so a b = false := by rw [rI, el]
      simp only [Tr.all]; rw [e1, e2, e3]; try rfl
    · refine brn2 (fun k2 => ?_) (fun k2 => ?_)
      · have es : sideM c wide so a b = twoZ := by unfold sideM; rw [k1, k2]; rfl
        have el : left (sideM c wide so a b) = false := by rw [es]; rfl
        have e1 : refA c wide so a b = nothing := by rw [rA]; unfold endA; rw [el]
        have e2 : refB c wide so a b = nothing := by rw [rB]; unfold endB; rw [el]
        have e3 : refIs c wide so a b = false := by rw [rI, el]
        simp only [Tr.all]; rw [e1, e2, e3]; try rfl
      · refine br2 (fun k3 => ?_) (fun k3 => ?_)
        · refine askB (hb0) ?_
          refine askB (by assumption) ?_
          refine askB (by assumption) ?_
          refine br2 (fun k4 => ?_) (fun k4 => ?_)
          · refine askB (raw_t1 (fix_raw (holds_raw ia.raw ib.raw _ _)).1) ?_
            refine askB (raw_t2 (fix_raw (holds_raw ia.raw ib.raw _ _)).1) ?_
            refine askB (raw_u1 (fix_raw (holds_raw ia.raw ib.raw _ _)).1) ?_
            refine askB (raw_u2 (fix_raw (holds_raw ia.raw ib.raw _ _)).1) ?_
            refine askB (raw_s1 (fix_raw (holds_raw ia.raw ib.raw _ _)).1) ?_
            refine askB (raw_s2 (fix_raw (holds_raw ia.raw ib.raw _ _)).1) ?_
            refine askB (raw_w1 (fix_raw (holds_raw ia.raw ib.raw _ _)).1) ?_
            refine askB (raw_w2 (fix_raw (holds_raw ia.raw ib.raw _ _)).1) ?_
            refine askB (raw_v1 (fix_raw (holds_raw ia.raw ib.raw _ _)).1) ?_
            refine askB (raw_v2 (fix_raw (holds_raw ia.raw ib.raw _ _)).1) ?_
            refine askB (raw_t1 (fix_raw (holds_raw ia.raw ib.raw _ _)).2) ?_
            refine askB (raw_t2 (fix_raw (holds_raw ia.raw ib.raw _ _)).2) ?_
            refine askB (raw_u1 (fix_raw (holds_raw ia.raw ib.raw _ _)).2) ?_
            refine askB (raw_u2 (fix_raw (holds_raw ia.raw ib.raw _ _)).2) ?_
            refine askB (raw_s1 (fix_raw (holds_raw ia.raw ib.raw _ _)).2) ?_
            refine askB (raw_s2 (fix_raw (holds_raw ia.raw ib.raw _ _)).2) ?_
            refine askB (raw_w1 (fix_raw (holds_raw ia.raw ib.raw _ _)).2) ?_
            refine askB (raw_w2 (fix_raw (holds_raw ia.raw ib.raw _ _)).2) ?_
            refine askB (raw_v1 (fix_raw (holds_raw ia.raw ib.raw _ _)).2) ?_
            refine askB (raw_v2 (fix_raw (holds_raw ia.raw ib.raw _ _)).2) ?_
            refine brnT (k4) ?_
            refine br2 (fun k5 => ?_) (fun k5 => ?_)
            · have es : sideM c wide so a b = holds c wide a b := by unfold sideM; rw [k1, k2, k3]; rfl
              have el : left (fixT (holds c wide a b)) = false := by unfold left; simp only [(k4 : (fixT (holds c wide a b)).3 = true), (k5 : (bNone (sync (fixT (holds c wide a b)).1)) = true), Bool.not_true, Bool.not_false, Bool.and_false, Bool.false_and, Bool.and_true, Bool.true_and, Bool.and_self]
              have e1 : refA c wide so a b = nothing := by rw [rA, es, ← endA_fix]; unfold endA; rw [el]
              have e2 : refB c wide so a b = nothing := by rw [rB, es, ← endB_fix]; unfold endB; rw [el]
              have e3 : refIs c wide so a b = false := by rw [rI, es, ← left_fix, el]
              simp only [Tr.all]; rw [e1, e2, e3]; try rfl
            · refine br2 (fun k6 => ?_) (fun k6 => ?_)
              · have es : sideM c wide so a b = holds c wide a b := by unfold sideM; rw [k1, k2, k3]; rfl
                have el : left (fixT (holds c wide a b)) = false := by unfold left; simp only [(k4 : (fixT (holds c wide a b)).3 = true), (k5 : (bNone (sync (fixT (holds c wide a b)).1)) = false), (k6 : (bNone (sync (fixT (holds c wide a b)).2)) = true), Bool.not_true, Bool.not_false, Bool.and_false, Bool.false_and, Bool.and_true, Bool.true_and, Bool.and_self]
                have e1 : refA c wide so a b = nothing := by rw [rA, es, ← endA_fix]; unfold endA; rw [el]
                have e2 : refB c wide so a b = nothing := by rw [rB, es, ← endB_fix]; unfold endB; rw [el]
                have e3 : refIs c wide so a b = false := by rw [rI, es, ← left_fix, el]
                simp only [Tr.all]; rw [e1, e2, e3]; try rfl
              · have es : sideM c wide so a b = holds c wide a b := by unfold sideM; rw [k1, k2, k3]; rfl
                have el : left (fixT (holds c wide a b)) = true := by unfold left; simp only [(k4 : (fixT (holds c wide a b)).3 = true), (k5 : (bNone (sync (fixT (holds c wide a b)).1)) = false), (k6 : (bNone (sync (fixT (holds c wide a b)).2)) = false), Bool.not_true, Bool.not_false, Bool.and_false, Bool.false_and, Bool.and_true, Bool.true_and, Bool.and_self]
                have e1 : refA c wide so a b = sync (fixT (holds c wide a b)).a := by rw [rA, es, ← endA_fix]; unfold endA; rw [el]
                have e2 : refB c wide so a b = sync (fixT (holds c wide a b)).b := by rw [rB, es, ← endB_fix]; unfold endB; rw [el]
                have e3 : refIs c wide so a b = true := by rw [rI, es, ← left_fix, el]
                have e4 : (fixT (holds c wide a b)).3 = true := k4
                simp only [Tr.all]; rw [e1, e2, e3, e4]; try rfl
          · refine brnF (k4) ?_
            have es : sideM c wide so a b = holds c wide a b := by unfold sideM; rw [k1, k2, k3]; rfl
            have el : left (fixT (holds c wide a b)) = false := by unfold left; simp only [(k4 : (fixT (holds c wide a b)).3 = false), Bool.not_true, Bool.not_false, Bool.and_false, Bool.false_and, Bool.and_true, Bool.true_and, Bool.and_self]
            have e1 : refA c wide so a b = nothing := by rw [rA, es, ← endA_fix]; unfold endA; rw [el]
            have e2 : refB c wide so a b = nothing := by rw [rB, es, ← endB_fix]; unfold endB; rw [el]
            have e3 : refIs c wide so a b = false := by rw [rI, es, ← left_fix, el]
            simp only [Tr.all]; rw [e1, e2, e3]; try rfl
        · refine br2 (fun k7 => ?_) (fun k7 => ?_)
          · refine askB (by assumption) ?_
            refine askB (by assumption) ?_
            refine br2 (fun k8 => ?_) (fun k8 => ?_)
            · refine askB (raw_t1 (fix_raw (apart_raw ia.raw ib.raw _)).1) ?_
              refine askB (raw_t2 (fix_raw (apart_raw ia.raw ib.raw _)).1) ?_
              refine askB (raw_u1 (fix_raw (apart_raw ia.raw ib.raw _)).1) ?_
              refine askB (raw_u2 (fix_raw (apart_raw ia.raw ib.raw _)).1) ?_
              refine askB (raw_s1 (fix_raw (apart_raw ia.raw ib.raw _)).1) ?_
              refine askB (raw_s2 (fix_raw (apart_raw ia.raw ib.raw _)).1) ?_
              refine askB (raw_w1 (fix_raw (apart_raw ia.raw ib.raw _)).1) ?_
              refine askB (raw_w2 (fix_raw (apart_raw ia.raw ib.raw _)).1) ?_
              refine askB (raw_v1 (fix_raw (apart_raw ia.raw ib.raw _)).1) ?_
              refine askB (raw_v2 (fix_raw (apart_raw ia.raw ib.raw _)).1) ?_
              refine askB (raw_t1 (fix_raw (apart_raw ia.raw ib.raw _)).2) ?_
              refine askB (raw_t2 (fix_raw (apart_raw ia.raw ib.raw _)).2) ?_
              refine askB (raw_u1 (fix_raw (apart_raw ia.raw ib.raw _)).2) ?_
              refine askB (raw_u2 (fix_raw (apart_raw ia.raw ib.raw _)).2) ?_
              refine askB (raw_s1 (fix_raw (apart_raw ia.raw ib.raw _)).2) ?_
              refine askB (raw_s2 (fix_raw (apart_raw ia.raw ib.raw _)).2) ?_
              refine askB (raw_w1 (fix_raw (apart_raw ia.raw ib.raw _)).2) ?_
              refine askB (raw_w2 (fix_raw (apart_raw ia.raw ib.raw _)).2) ?_
              refine askB (raw_v1 (fix_raw (apart_raw ia.raw ib.raw _)).2) ?_
              refine askB (raw_v2 (fix_raw (apart_raw ia.raw ib.raw _)).2) ?_
              refine brnT (k8) ?_
              refine br2 (fun k9 => ?_) (fun k9 => ?_)
              · have es : sideM c wide so a b = apartM wide a b := by unfold sideM; rw [k1, k2, k3, eq_t.1 k7]; rfl
                have el : left (fixT (apartM wide a b)) = false := by unfold left; simp only [(k8 : (fixT (apartM wide a b)).3 = true), (k9 : (bNone (sync (fixT (apartM wide a b)).1)) = true), Bool.not_true, Bool.not_false, Bool.and_false, Bool.false_and, Bool.and_true, Bool.true_and, Bool.and_self]
                have e1 : refA c wide so a b = nothing := by rw [rA, es, ← endA_fix]; unfold endA; rw [el]
                have e2 : refB c wide so a b = nothing := by rw [rB, es, ← endB_fix]; unfold endB; rw [el]
                have e3 : refIs c wide so a b = false := by rw [rI, es, ← left_fix, el]
                simp only [Tr.all]; rw [e1, e2, e3]; try rfl
              · refine br2 (fun k10 => ?_) (fun k10 => ?_)
                · have es : sideM c wide so a b = apartM wide a b := by unfold sideM; rw [k1, k2, k3, eq_t.1 k7]; rfl
                  have el : left (fixT (apartM wide a b)) = false := by unfold left; simp only [(k8 : (fixT (apartM wide a b)).3 = true), (k9 : (bNone (sync (fixT (apartM wide a b)).1)) = false), (k10 : (bNone (sync (fixT (apartM wide a b)).2)) = true), Bool.not_true, Bool.not_false, Bool.and_false, Bool.false_and, Bool.and_true, Bool.true_and, Bool.and_self]
                  have e1 : refA c wide so a b = nothing := by rw [rA, es, ← endA_fix]; unfold endA; rw [el]
                  have e2 : refB c wide so a b = nothing := by rw [rB, es, ← endB_fix]; unfold endB; rw [el]
                  have e3 : refIs c wide so a b = false := by rw [rI, es, ← left_fix, el]
                  simp only [Tr.all]; rw [e1, e2, e3]; try rfl
                · have es : sideM c wide so a b = apartM wide a b := by unfold sideM; rw [k1, k2, k3, eq_t.1 k7]; rfl
                  have el : left (fixT (apartM wide a b)) = true := by unfold left; simp only [(k8 : (fixT (apartM wide a b)).3 = true), (k9 : (bNone (sync (fixT (apartM wide a b)).1)) = false), (k10 : (bNone (sync (fixT (apartM wide a b)).2)) = false), Bool.not_true, Bool.not_false, Bool.and_false, Bool.false_and, Bool.and_true, Bool.true_and, Bool.and_self]
                  have e1 : refA c wide so a b = sync (fixT (apartM wide a b)).a := by rw [rA, es, ← endA_fix]; unfold endA; rw [el]
                  have e2 : refB c wide so a b = sync (fixT (apartM wide a b)).b := by rw [rB, es, ← endB_fix]; unfold endB; rw [el]
                  have e3 : refIs c wide so a b = true := by rw [rI, es, ← left_fix, el]
                  have e4 : (fixT (apartM wide a b)).3 = true := k8
                  simp only [Tr.all]; rw [e1, e2, e3, e4]; try rfl
            · refine brnF (k8) ?_
              have es : sideM c wide so a b = apartM wide a b := by unfold sideM; rw [k1, k2, k3, eq_t.1 k7]; rfl
              have el : left (fixT (apartM wide a b)) = false := by unfold left; simp only [(k8 : (fixT (apartM wide a b)).3 = false), Bool.not_true, Bool.not_false, Bool.and_false, Bool.false_and, Bool.and_true, Bool.true_and, Bool.and_self]
              have e1 : refA c wide so a b = nothing := by rw [rA, es, ← endA_fix]; unfold endA; rw [el]
              have e2 : refB c wide so a b = nothing := by rw [rB, es, ← endB_fix]; unfold endB; rw [el]
              have e3 : refIs c wide so a b = false := by rw [rI, es, ← left_fix, el]
              simp only [Tr.all]; rw [e1, e2, e3]; try rfl
          · refine br2 (fun k11 => ?_) (fun k11 => ?_)
            · refine askB (otherR_code hb0) ?_
              refine askB (by assumption) ?_
              refine askB (by assumption) ?_
              refine br2 (fun k12 => ?_) (fun k12 => ?_)
              · refine askB (raw_t1 (fix_raw (holds_raw ia.raw ib.raw _ _)).1) ?_
                refine askB (raw_t2 (fix_raw (holds_raw ia.raw ib.raw _ _)).1) ?_
                refine askB (raw_u1 (fix_raw (holds_raw ia.raw ib.raw _ _)).1) ?_
                refine askB (raw_u2 (fix_raw (holds_raw ia.raw ib.raw _ _)).1) ?_
                refine askB (raw_s1 (fix_raw (holds_raw ia.raw ib.raw _ _)).1) ?_
                refine askB (raw_s2 (fix_raw (holds_raw ia.raw ib.raw _ _)).1) ?_
                refine askB (raw_w1 (fix_raw (holds_raw ia.raw ib.raw _ _)).1) ?_
                refine askB (raw_w2 (fix_raw (holds_raw ia.raw ib.raw _ _)).1) ?_
                refine askB (raw_v1 (fix_raw (holds_raw ia.raw ib.raw _ _)).1) ?_
                refine askB (raw_v2 (fix_raw (holds_raw ia.raw ib.raw _ _)).1) ?_
                refine askB (raw_t1 (fix_raw (holds_raw ia.raw ib.raw _ _)).2) ?_
                refine askB (raw_t2 (fix_raw (holds_raw ia.raw ib.raw _ _)).2) ?_
                refine askB (raw_u1 (fix_raw (holds_raw ia.raw ib.raw _ _)).2) ?_
                refine askB (raw_u2 (fix_raw (holds_raw ia.raw ib.raw _ _)).2) ?_
                refine askB (raw_s1 (fix_raw (holds_raw ia.raw ib.raw _ _)).2) ?_
                refine askB (raw_s2 (fix_raw (holds_raw ia.raw ib.raw _ _)).2) ?_
                refine askB (raw_w1 (fix_raw (holds_raw ia.raw ib.raw _ _)).2) ?_
                refine askB (raw_w2 (fix_raw (holds_raw ia.raw ib.raw _ _)).2) ?_
                refine askB (raw_v1 (fix_raw (holds_raw ia.raw ib.raw _ _)).2) ?_
                refine askB (raw_v2 (fix_raw (holds_raw ia.raw ib.raw _ _)).2) ?_
                refine brnT (k12) ?_
                refine br2 (fun k13 => ?_) (fun k13 => ?_)
                · have es : sideM c wide so a b = holds (otherR c) wide a b := side_o k1 k2 k3 hb0 (eq_f.1 k7) (ne_t.1 k11)
                  have el : left (fixT (holds (otherR c) wide a b)) = false := by unfold left; simp only [(k12 : (fixT (holds (otherR c) wide a b)).3 = true), (k13 : (bNone (sync (fixT (holds (otherR c) wide a b)).1)) = true), Bool.not_true, Bool.not_false, Bool.and_false, Bool.false_and, Bool.and_true, Bool.true_and, Bool.and_self]
                  have e1 : refA c wide so a b = nothing := by rw [rA, es, ← endA_fix]; unfold endA; rw [el]
                  have e2 : refB c wide so a b = nothing := by rw [rB, es, ← endB_fix]; unfold endB; rw [el]
                  have e3 : refIs c wide so a b = false := by rw [rI, es, ← left_fix, el]
                  simp only [Tr.all]; rw [e1, e2, e3]; try rfl
                · refine br2 (fun k14 => ?_) (fun k14 => ?_)
                  · have es : sideM c wide so a b = holds (otherR c) wide a b := side_o k1 k2 k3 hb0 (eq_f.1 k7) (ne_t.1 k11)
                    have el : left (fixT (holds (otherR c) wide a b)) = false := by unfold left; simp only [(k12 : (fixT (holds (otherR c) wide a b)).3 = true), (k13 : (bNone (sync (fixT (holds (otherR c) wide a b)).1)) = false), (k14 : (bNone (sync (fixT (holds (otherR c) wide a b)).2)) = true), Bool.not_true, Bool.not_false, Bool.and_false, Bool.false_and, Bool.and_true, Bool.true_and, Bool.and_self]
                    have e1 : refA c wide so a b = nothing := by rw [rA, es, ← endA_fix]; unfold endA; rw [el]
                    have e2 : refB c wide so a b = nothing := by rw [rB, es, ← endB_fix]; unfold endB; rw [el]
                    have e3 : refIs c wide so a b = false := by rw [rI, es, ← left_fix, el]
                    simp only [Tr.all]; rw [e1, e2, e3]; try rfl
                  · have es : sideM c wide so a b = holds (otherR c) wide a b := side_o k1 k2 k3 hb0 (eq_f.1 k7) (ne_t.1 k11)
                    have el : left (fixT (holds (otherR c) wide a b)) = true := by unfold left; simp only [(k12 : (fixT (holds (otherR c) wide a b)).3 = true), (k13 : (bNone (sync (fixT (holds (otherR c) wide a b)).1)) = false), (k14 : (bNone (sync (fixT (holds (otherR c) wide a b)).2)) = false), Bool.not_true, Bool.not_false, Bool.and_false, Bool.false_and, Bool.and_true, Bool.true_and, Bool.and_self]
                    have e1 : refA c wide so a b = sync (fixT (holds (otherR c) wide a b)).a := by rw [rA, es, ← endA_fix]; unfold endA; rw [el]
                    have e2 : refB c wide so a b = sync (fixT (holds (otherR c) wide a b)).b := by rw [rB, es, ← endB_fix]; unfold endB; rw [el]
                    have e3 : refIs c wide so a b = true := by rw [rI, es, ← left_fix, el]
                    have e4 : (fixT (holds (otherR c) wide a b)).3 = true := k12
                    simp only [Tr.all]; rw [e1, e2, e3, e4]; try rfl
              · refine brnF (k12) ?_
                have es : sideM c wide so a b = holds (otherR c) wide a b := side_o k1 k2 k3 hb0 (eq_f.1 k7) (ne_t.1 k11)
                have el : left (fixT (holds (otherR c) wide a b)) = false := by unfold left; simp only [(k12 : (fixT (holds (otherR c) wide a b)).3 = false), Bool.not_true, Bool.not_false, Bool.and_false, Bool.false_and, Bool.and_true, Bool.true_and, Bool.and_self]
                have e1 : refA c wide so a b = nothing := by rw [rA, es, ← endA_fix]; unfold endA; rw [el]
                have e2 : refB c wide so a b = nothing := by rw [rB, es, ← endB_fix]; unfold endB; rw [el]
                have e3 : refIs c wide so a b = false := by rw [rI, es, ← left_fix, el]
                simp only [Tr.all]; rw [e1, e2, e3]; try rfl
            · have es : sideM c wide so a b = twoZ := by unfold sideM; rw [k1, k2, k3, ne_f.1 k11]; rfl
              have el : left (sideM c wide so a b) = false := by rw [es]; rfl
              have e1 : refA c wide so a b = nothing := by rw [rA]; unfold endA; rw [el]
              have e2 : refB c wide so a b = nothing := by rw [rB]; unfold endB; rw [el]
              have e3 : refIs c wide so a b = false := by rw [rI, el]
              simp only [Tr.all]; rw [e1, e2, e3]; try rfl
def s_r6Refine : Sum := bySum 16 [.s (some .u8), .s none, .s none, .a [some .u64, some .u64, some .u64, some .u64, some .i64, some .i64, some .u64, some .u64, some .i64, some .i64], .a [some .u64, some .u64, some .u64, some .u64, some .i64, some .i64, some .u64, some .u64, some .i64, some .i64]] fun
  | [a0, a1, a2, a3, a4, a5, a6, a7, a8, a9, a10, a11, a12, a13, a14, a15, a16, a17, a18, a19, a20], [o0, o1] => some ([isCode a0, invB (Bd.mk (P2.mk a1 a2) (P2.mk a3 a4) (P2.mk a5 a6) (P2.mk a7 a8) (P2.mk a9 a10)), invB (Bd.mk (P2.mk a11 a12) (P2.mk a13 a14) (P2.mk a15 a16) (P2.mk a17 a18) (P2.mk a19 a20))], .tup [.agg (cB (refA a0 o0 o1 (Bd.mk (P2.mk a1 a2) (P2.mk a3 a4) (P2.mk a5 a6) (P2.mk a7 a8) (P2.mk a9 a10)) (Bd.mk (P2.mk a11 a12) (P2.mk a13 a14) (P2.mk a15 a16) (P2.mk a17 a18) (P2.mk a19 a20)))), .agg (cB (refB a0 o0 o1 (Bd.mk (P2.mk a1 a2) (P2.mk a3 a4) (P2.mk a5 a6) (P2.mk a7 a8) (P2.mk a9 a10)) (Bd.mk (P2.mk a11 a12) (P2.mk a13 a14) (P2.mk a15 a16) (P2.mk a17 a18) (P2.mk a19 a20)))), .c (.sb (refIs a0 o0 o1 (Bd.mk (P2.mk a1 a2) (P2.mk a3 a4) (P2.mk a5 a6) (P2.mk a7 a8) (P2.mk a9 a10)) (Bd.mk (P2.mk a11 a12) (P2.mk a13 a14) (P2.mk a15 a16) (P2.mk a17 a18) (P2.mk a19 a20))))])
  | _, _ => none
theorem s_r6Refine_ok : SumOK Tryz.prog s_r6Refine := by
  refine bySum_ok ⟨_, Tryz.func16, by kernel_rfl⟩ ?_
  intro ns os bs r hm hb ρ w
  split at hm
  · rename_i a0 a1 a2 a3 a4 a5 a6 a7 a8 a9 a10 a11 a12 a13 a14 a15 a16 a17 a18 a19 a20 o0 o1
    cases hm
    exact t_r6Refine a0 o0 o1 (Bd.mk (P2.mk a1 a2) (P2.mk a3 a4) (P2.mk a5 a6) (P2.mk a7 a8) (P2.mk a9 a10)) (Bd.mk (P2.mk a11 a12) (P2.mk a13 a14) (P2.mk a15 a16) (P2.mk a17 a18) (P2.mk a19 a20)) (hb _ (by simp)) (hb _ (by simp)) (hb _ (by simp)) ρ w
  · cases hm
end Go.Proofs.YtafpbibpahjnhaaGreat.L06G
