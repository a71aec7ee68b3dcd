/- Layer 5: what is made of two bounds: what its functions are shown to do. Printed by a program of the session's own (genb.py). -/
import Derived.Test.YtafpbibpahjnhaaGreatProg
import Derived.Test.YtafpbibpahjnhaaGreatL05J
import Derived.Test.YtafpbibpahjnhaaGreatL05R
import Derived.Test.YtafpbibpahjnhaaGreatL04B
namespace Go.Proofs.YtafpbibpahjnhaaGreat.L05P
open Go Go.RowKit Go.Proofs.YtafpbibpahjnhaaGreat.Sx Go.Proofs.YtafpbibpahjnhaaGreat.L05 Go.Proofs.YtafpbibpahjnhaaGreat.L05J
set_option linter.unusedVariables false
set_option linter.unusedSimpArgs false
open Go.Proofs.YtafpbibpahjnhaaGreat.L04 (mAdd1 mAdd2 mSub1 mSub2 mMul1 mMul2 mDiv1 mDiv2 mMod1 mMod2 mPlus1 mPlus2 mMinus1 mMinus2 mShl1 mShl2 mShr1 mShr2 mSar1 mSar2)
theorem t_tAdd (p : P2) (q : P2) (ρ : Nat → Nat) (w : World) : Calls Tryz.prog 197 (enV [.a [some .u64, some .u64], .a [some .u64, some .u64]] ([p.1, p.2, q.1, q.2], [])).toArray w fun e w' => e = .returned (V.den ρ (.u (.agg [.si .u64 (tAdd p q).1, .si .u64 (tAdd p q).2]))) ∧ Below w.heap.size w w' := by
  refine pure_to nameOK okn (dOK okn) 300 [.u (.agg [.si .u64 p.1, .si .u64 p.2]), .u (.agg [.si .u64 q.1, .si .u64 q.2])] (T := (.leaf (.val (.u (.agg [(.si .u64 (iBit .andNot .u64 (iAdd .u64 p.1 q.1) (iBit .or .u64 (iBit .or .u64 (iBit .xor .u64 (iAdd .u64 (iAdd .u64 p.2 q.2) (iAdd .u64 p.1 q.1)) (iAdd .u64 p.1 q.1)) p.2) q.2))), (.si .u64 (iBit .or .u64 (iBit .or .u64 (iBit .xor .u64 (iAdd .u64 (iAdd .u64 p.2 q.2) (iAdd .u64 p.1 q.1)) (iAdd .u64 p.1 q.1)) p.2) q.2))]))))) (by kernel_rfl) ρ rfl ?_ w
  · simp only [Tr.all]; rfl
def s_tAdd : Sum := bySum 197 [.a [some .u64, some .u64], .a [some .u64, some .u64]] fun
  | [a0, a1, a2, a3], [] => some ([], .u (.agg [.si .u64 (tAdd (P2.mk a0 a1) (P2.mk a2 a3)).1, .si .u64 (tAdd (P2.mk a0 a1) (P2.mk a2 a3)).2]))
  | _, _ => none
theorem s_tAdd_ok : SumOK Tryz.prog s_tAdd := by
  refine bySum_ok ⟨_, Tryz.func197, by kernel_rfl⟩ ?_
  intro ns os bs r hm hb ρ w
  split at hm
  · rename_i a0 a1 a2 a3
    cases hm
    exact t_tAdd (P2.mk a0 a1) (P2.mk a2 a3) ρ w
  · cases hm
theorem t_tSub (p : P2) (q : P2) (ρ : Nat → Nat) (w : World) : Calls Tryz.prog 201 (enV [.a [some .u64, some .u64], .a [some .u64, some .u64]] ([p.1, p.2, q.1, q.2], [])).toArray w fun e w' => e = .returned (V.den ρ (.u (.agg [.si .u64 (tSub p q).1, .si .u64 (tSub p q).2]))) ∧ Below w.heap.size w w' := by
  refine pure_to nameOK okn (dOK okn) 300 [.u (.agg [.si .u64 p.1, .si .u64 p.2]), .u (.agg [.si .u64 q.1, .si .u64 q.2])] (T := (.leaf (.val (.u (.agg [(.si .u64 (iBit .andNot .u64 (iSub .u64 p.1 q.1) (iBit .or .u64 (iBit .or .u64 (iBit .xor .u64 (iAdd .u64 (iSub .u64 p.1 q.1) p.2) (iSub .u64 (iSub .u64 p.1 q.1) q.2)) p.2) q.2))), (.si .u64 (iBit .or .u64 (iBit .or .u64 (iBit .xor .u64 (iAdd .u64 (iSub .u64 p.1 q.1) p.2) (iSub .u64 (iSub .u64 p.1 q.1) q.2)) p.2) q.2))]))))) (by kernel_rfl) ρ rfl ?_ w
  · simp only [Tr.all]; rfl
def s_tSub : Sum := bySum 201 [.a [some .u64, some .u64], .a [some .u64, some .u64]] fun
  | [a0, a1, a2, a3], [] => some ([], .u (.agg [.si .u64 (tSub (P2.mk a0 a1) (P2.mk a2 a3)).1, .si .u64 (tSub (P2.mk a0 a1) (P2.mk a2 a3)).2]))
  | _, _ => none
theorem s_tSub_ok : SumOK Tryz.prog s_tSub := by
  refine bySum_ok ⟨_, Tryz.func201, by kernel_rfl⟩ ?_
  intro ns os bs r hm hb ρ w
  split at hm
  · rename_i a0 a1 a2 a3
    cases hm
    exact t_tSub (P2.mk a0 a1) (P2.mk a2 a3) ρ w
  · cases hm
theorem t_tOr (p : P2) (q : P2) (ρ : Nat → Nat) (w : World) : Calls Tryz.prog 140 (enV [.a [some .u64, some .u64], .a [some .u64, some .u64]] ([p.1, p.2, q.1, q.2], [])).toArray w fun e w' => e = .returned (V.den ρ (.u (.agg [.si .u64 (tOrM p q).1, .si .u64 (tOrM p q).2]))) ∧ Below w.heap.size w w' := by
  refine pure_to nameOK okn (dOK okn) 300 [.u (.agg [.si .u64 p.1, .si .u64 p.2]), .u (.agg [.si .u64 q.1, .si .u64 q.2])] (T := (.leaf (.val (.u (.agg [(.si .u64 (iBit .or .u64 p.1 q.1)), (.si .u64 (iBit .andNot .u64 (iBit .or .u64 p.2 q.2) (iBit .or .u64 p.1 q.1)))]))))) (by kernel_rfl) ρ rfl ?_ w
  · simp only [Tr.all]; rfl
def s_tOr : Sum := bySum 140 [.a [some .u64, some .u64], .a [some .u64, some .u64]] fun
  | [a0, a1, a2, a3], [] => some ([], .u (.agg [.si .u64 (tOrM (P2.mk a0 a1) (P2.mk a2 a3)).1, .si .u64 (tOrM (P2.mk a0 a1) (P2.mk a2 a3)).2]))
  | _, _ => none
theorem s_tOr_ok : SumOK Tryz.prog s_tOr := by
  refine bySum_ok ⟨_, Tryz.func140, by kernel_rfl⟩ ?_
  intro ns os bs r hm hb ρ w
  split at hm
  · rename_i a0 a1 a2 a3
    cases hm
    exact t_tOr (P2.mk a0 a1) (P2.mk a2 a3) ρ w
  · cases hm
theorem t_tXor (p : P2) (q : P2) (ρ : Nat → Nat) (w : World) : Calls Tryz.prog 142 (enV [.a [some .u64, some .u64], .a [some .u64, some .u64]] ([p.1, p.2, q.1, q.2], [])).toArray w fun e w' => e = .returned (V.den ρ (.u (.agg [.si .u64 (tXorM p q).1, .si .u64 (tXorM p q).2]))) ∧ Below w.heap.size w w' := by
  refine pure_to nameOK okn (dOK okn) 300 [.u (.agg [.si .u64 p.1, .si .u64 p.2]), .u (.agg [.si .u64 q.1, .si .u64 q.2])] (T := (.leaf (.val (.u (.agg [(.si .u64 (iBit .andNot .u64 (iBit .xor .u64 p.1 q.1) (iBit .or .u64 p.2 q.2))), (.si .u64 (iBit .or .u64 p.2 q.2))]))))) (by kernel_rfl) ρ rfl ?_ w
  · simp only [Tr.all]; rfl
def s_tXor : Sum := bySum 142 [.a [some .u64, some .u64], .a [some .u64, some .u64]] fun
  | [a0, a1, a2, a3], [] => some ([], .u (.agg [.si .u64 (tXorM (P2.mk a0 a1) (P2.mk a2 a3)).1, .si .u64 (tXorM (P2.mk a0 a1) (P2.mk a2 a3)).2]))
  | _, _ => none
theorem s_tXor_ok : SumOK Tryz.prog s_tXor := by
  refine bySum_ok ⟨_, Tryz.func142, by kernel_rfl⟩ ?_
  intro ns os bs r hm hb ρ w
  split at hm
  · rename_i a0 a1 a2 a3
    cases hm
    exact t_tXor (P2.mk a0 a1) (P2.mk a2 a3) ρ w
  · cases hm
theorem t_tShl (p : P2) (n : Int) (hb0 : isU n = true) (ρ : Nat → Nat) (w : World) : Calls Tryz.prog 145 (enV [.a [some .u64, some .u64], .s (some .u64)] ([p.1, p.2, n], [])).toArray w fun e w' => e = .returned (V.den ρ (.u (.agg [.si .u64 (tShl p n).1, .si .u64 (tShl p n).2]))) ∧ Below w.heap.size w w' := by
  refine pure_to nameOK okn (dOK okn) 300 [.u (.agg [.si .u64 p.1, .si .u64 p.2]), .u (.c (.si .u64 n))] (T := (.br (iNeg? n) (.no 11) (.br (iNeg? n) (.no 11) (.leaf (.val (.u (.agg [(.si .u64 (iShl .u64 p.1 n)), (.si .u64 (iShl .u64 p.2 n))]))))))) (by kernel_rfl) ρ rfl ?_ w
  · refine brF (neg_f.2 (isU_iff.1 hb0).1) ?_
    refine brF (neg_f.2 (isU_iff.1 hb0).1) ?_
    simp only [Tr.all]; rfl
def s_tShl : Sum := bySum 145 [.a [some .u64, some .u64], .s (some .u64)] fun
  | [a0, a1, a2], [] => some ([isU a2], .u (.agg [.si .u64 (tShl (P2.mk a0 a1) a2).1, .si .u64 (tShl (P2.mk a0 a1) a2).2]))
  | _, _ => none
theorem s_tShl_ok : SumOK Tryz.prog s_tShl := by
  refine bySum_ok ⟨_, Tryz.func145, by kernel_rfl⟩ ?_
  intro ns os bs r hm hb ρ w
  split at hm
  · rename_i a0 a1 a2
    cases hm
    exact t_tShl (P2.mk a0 a1) a2 (hb _ (by simp)) ρ w
  · cases hm
theorem t_tShr (p : P2) (n : Int) (hb0 : isU n = true) (ρ : Nat → Nat) (w : World) : Calls Tryz.prog 147 (enV [.a [some .u64, some .u64], .s (some .u64)] ([p.1, p.2, n], [])).toArray w fun e w' => e = .returned (V.den ρ (.u (.agg [.si .u64 (tShr p n).1, .si .u64 (tShr p n).2]))) ∧ Below w.heap.size w w' := by
  refine pure_to nameOK okn (dOK okn) 300 [.u (.agg [.si .u64 p.1, .si .u64 p.2]), .u (.c (.si .u64 n))] (T := (.br (iNeg? n) (.no 11) (.br (iNeg? n) (.no 11) (.leaf (.val (.u (.agg [(.si .u64 (iShr .u64 p.1 n)), (.si .u64 (iShr .u64 p.2 n))]))))))) (by kernel_rfl) ρ rfl ?_ w
  · refine brF (neg_f.2 (isU_iff.1 hb0).1) ?_
    refine brF (neg_f.2 (isU_iff.1 hb0).1) ?_
    simp only [Tr.all]; rfl
def s_tShr : Sum := bySum 147 [.a [some .u64, some .u64], .s (some .u64)] fun
  | [a0, a1, a2], [] => some ([isU a2], .u (.agg [.si .u64 (tShr (P2.mk a0 a1) a2).1, .si .u64 (tShr (P2.mk a0 a1) a2).2]))
  | _, _ => none
theorem s_tShr_ok : SumOK Tryz.prog s_tShr := by
  refine bySum_ok ⟨_, Tryz.func147, by kernel_rfl⟩ ?_
  intro ns os bs r hm hb ρ w
  split at hm
  · rename_i a0 a1 a2
    cases hm
    exact t_tShr (P2.mk a0 a1) a2 (hb _ (by simp)) ρ w
  · cases hm
theorem t_tSar (p : P2) (n : Int) (hb0 : isU n = true) (ρ : Nat → Nat) (w : World) : Calls Tryz.prog 149 (enV [.a [some .u64, some .u64], .s (some .u64)] ([p.1, p.2, n], [])).toArray w fun e w' => e = .returned (V.den ρ (.u (.agg [.si .u64 (tSar p n).1, .si .u64 (tSar p n).2]))) ∧ Below w.heap.size w w' := by
  refine pure_to nameOK okn (dOK okn) 300 [.u (.agg [.si .u64 p.1, .si .u64 p.2]), .u (.c (.si .u64 n))] (T := (.br (iNeg? n) (.no 11) (.br (iNeg? n) (.no 11) (.leaf (.val (.u (.agg [(.si .u64 (iConv .u64 (iShr .i64 (iConv .i64 p.1) n))), (.si .u64 (iConv .u64 (iShr .i64 (iConv .i64 p.2) n)))]))))))) (by kernel_rfl) ρ rfl ?_ w
  · refine brF (neg_f.2 (isU_iff.1 hb0).1) ?_
    refine brF (neg_f.2 (isU_iff.1 hb0).1) ?_
    simp only [Tr.all]; rfl
def s_tSar : Sum := bySum 149 [.a [some .u64, some .u64], .s (some .u64)] fun
  | [a0, a1, a2], [] => some ([isU a2], .u (.agg [.si .u64 (tSar (P2.mk a0 a1) a2).1, .si .u64 (tSar (P2.mk a0 a1) a2).2]))
  | _, _ => none
theorem s_tSar_ok : SumOK Tryz.prog s_tSar := by
  refine bySum_ok ⟨_, Tryz.func149, by kernel_rfl⟩ ?_
  intro ns os bs r hm hb ρ w
  split at hm
  · rename_i a0 a1 a2
    cases hm
    exact t_tSar (P2.mk a0 a1) a2 (hb _ (by simp)) ρ w
  · cases hm
theorem t_tLowN (p : P2) (n : Int) (hb0 : isU n = true) (ρ : Nat → Nat) (w : World) : Calls Tryz.prog 56 (enV [.a [some .u64, some .u64], .s (some .u64)] ([p.1, p.2, n], [])).toArray w fun e w' => e = .returned (V.den ρ (.u (.agg [.si .u64 (tLowN p n).1, .si .u64 (tLowN p n).2]))) ∧ Below w.heap.size w w' := by
  refine pure_to nameOK okn (dOK okn) 300 [.u (.agg [.si .u64 p.1, .si .u64 p.2]), .u (.c (.si .u64 n))] (T := (.br (iNeg? n) (.no 11) (.leaf (.val (.u (.agg [(.si .u64 (iBit .and .u64 p.1 (iSub .u64 (iShl .u64 1 n) 1))), (.si .u64 (iBit .and .u64 p.2 (iSub .u64 (iShl .u64 1 n) 1)))])))))) (by kernel_rfl) ρ rfl ?_ w
  · refine brF (neg_f.2 (isU_iff.1 hb0).1) ?_
    simp only [Tr.all]; rfl
def s_tLowN : Sum := bySum 56 [.a [some .u64, some .u64], .s (some .u64)] fun
  | [a0, a1, a2], [] => some ([isU a2], .u (.agg [.si .u64 (tLowN (P2.mk a0 a1) a2).1, .si .u64 (tLowN (P2.mk a0 a1) a2).2]))
  | _, _ => none
theorem s_tLowN_ok : SumOK Tryz.prog s_tLowN := by
  refine bySum_ok ⟨_, Tryz.func56, by kernel_rfl⟩ ?_
  intro ns os bs r hm hb ρ w
  split at hm
  · rename_i a0 a1 a2
    cases hm
    exact t_tLowN (P2.mk a0 a1) a2 (hb _ (by simp)) ρ w
  · cases hm
theorem t_fits (p : P2) (ρ : Nat → Nat) (w : World) : Calls Tryz.prog 132 (enV [.a [some .u64, some .u64]] ([p.1, p.2], [])).toArray w fun e w' => e = .returned (V.den ρ (.u (.agg [.si .u64 (fitsM p).1, .si .u64 (fitsM p).2]))) ∧ Below w.heap.size w w' := by
  refine pure_to nameOK okn (dOK okn) 300 [.u (.agg [.si .u64 p.1, .si .u64 p.2])] (T := (.br (iGt p.2 4294967295) (.leaf (.val (.u (.agg [(.li .u64 0), (.li .u64 4294967295)])))) (.br (iGt p.1 p.2) (.leaf (.val (.u (.agg [(.li .u64 0), (.li .u64 4294967295)])))) (.leaf (.val (.u (.agg [(.si .u64 p.1), (.si .u64 p.2)]))))))) (by kernel_rfl) ρ rfl ?_ w
  · refine br2 (fun k1 => ?_) (fun k1 => ?_)
    · have q0 := gt_t.1 k1
      have e : fitsM p = ⟨0, 4294967295⟩ := by unfold fitsM; rw [if_pos (by omega)]
      simp only [Tr.all]; rw [e]; try rfl
    · refine br2 (fun k2 => ?_) (fun k2 => ?_)
      · have q0 := gt_f.1 k1
        have q1 := gt_t.1 k2
        have e : fitsM p = ⟨0, 4294967295⟩ := by unfold fitsM; rw [if_pos (by omega)]
        simp only [Tr.all]; rw [e]; try rfl
      · have q0 := gt_f.1 k1
        have q1 := gt_f.1 k2
        have e : fitsM p = p := by unfold fitsM; rw [if_neg (by omega)]
        simp only [Tr.all]; rw [e]; try rfl
def s_fits : Sum := bySum 132 [.a [some .u64, some .u64]] fun
  | [a0, a1], [] => some ([], .u (.agg [.si .u64 (fitsM (P2.mk a0 a1)).1, .si .u64 (fitsM (P2.mk a0 a1)).2]))
  | _, _ => none
theorem s_fits_ok : SumOK Tryz.prog s_fits := by
  refine bySum_ok ⟨_, Tryz.func132, by kernel_rfl⟩ ?_
  intro ns os bs r hm hb ρ w
  split at hm
  · rename_i a0 a1
    cases hm
    exact t_fits (P2.mk a0 a1) ρ w
  · cases hm
theorem t_inner (p : P2) (ρ : Nat → Nat) (w : World) : Calls Tryz.prog 200 (enV [.a [some .i64, some .i64]] ([p.1, p.2], [])).toArray w fun e w' => e = .returned (V.den ρ (.u (.agg [.si .i64 (innerM p).1, .si .i64 (innerM p).2]))) ∧ Below w.heap.size w w' := by
  refine pure_to nameOK okn (dOK okn) 300 [.u (.agg [.si .i64 p.1, .si .i64 p.2])] (T := (.br (iLe (-2147483648) p.1) (.br (iLe p.1 2147483647) (.br (iLe (-2147483648) p.2) (.br (bNot (iLe p.2 2147483647)) (.leaf (.val (.u (.agg [(.li .i64 (-2147483648)), (.li .i64 2147483647)])))) (.leaf (.val (.u (.agg [(.si .i64 p.1), (.si .i64 p.2)]))))) (.leaf (.val (.u (.agg [(.li .i64 (-2147483648)), (.li .i64 2147483647)]))))) (.leaf (.val (.u (.agg [(.li .i64 (-2147483648)), (.li .i64 2147483647)]))))) (.leaf (.val (.u (.agg [(.li .i64 (-2147483648)), (.li .i64 2147483647)])))))) (by kernel_rfl) ρ rfl ?_ w
  · refine br2 (fun k1 => ?_) (fun k1 => ?_)
    · refine br2 (fun k2 => ?_) (fun k2 => ?_)
      · refine br2 (fun k3 => ?_) (fun k3 => ?_)
        · refine brn2 (fun k4 => ?_) (fun k4 => ?_)
          · have q0 := le_t.1 k1
            have q1 := le_t.1 k2
            have q2 := le_t.1 k3
            have q3 := le_t.1 k4
            have e : innerM p = p := by unfold innerM; rw [if_pos (by omega)]
            simp only [Tr.all]; rw [e]; try rfl
          · have q0 := le_t.1 k1
            have q1 := le_t.1 k2
            have q2 := le_t.1 k3
            have q3 := le_f.1 k4
            have e : innerM p = ⟨-2147483648, 2147483647⟩ := by unfold innerM; rw [if_neg (by omega)]
            simp only [Tr.all]; rw [e]; try rfl
        · have q0 := le_t.1 k1
          have q1 := le_t.1 k2
          have q2 := le_f.1 k3
          have e : innerM p = ⟨-2147483648, 2147483647⟩ := by unfold innerM; rw [if_neg (by omega)]
          simp only [Tr.all]; rw [e]; try rfl
      · have q0 := le_t.1 k1
        have q1 := le_f.1 k2
        have e : innerM p = ⟨-2147483648, 2147483647⟩ := by unfold innerM; rw [if_neg (by omega)]
        simp only [Tr.all]; rw [e]; try rfl
    · have q0 := le_f.1 k1
      have e : innerM p = ⟨-2147483648, 2147483647⟩ := by unfold innerM; rw [if_neg (by omega)]
      simp only [Tr.all]; rw [e]; try rfl
def s_inner : Sum := bySum 200 [.a [some .i64, some .i64]] fun
  | [a0, a1], [] => some ([], .u (.agg [.si .i64 (innerM (P2.mk a0 a1)).1, .si .i64 (innerM (P2.mk a0 a1)).2]))
  | _, _ => none
theorem s_inner_ok : SumOK Tryz.prog s_inner := by
  refine bySum_ok ⟨_, Tryz.func200, by kernel_rfl⟩ ?_
  intro ns os bs r hm hb ρ w
  split at hm
  · rename_i a0 a1
    cases hm
    exact t_inner (P2.mk a0 a1) ρ w
  · cases hm
theorem oks_L05P_0 : ∀ q ∈ [s_tAdd, L04.s_Add, L04.s_Plus, s_fits, s_inner], SumOK Tryz.prog q := (okc s_tAdd_ok (okc L04.s_Add_ok (okc L04.s_Plus_ok (okc s_fits_ok (okc s_inner_ok okn)))))
theorem t_addB (a : Bd) (b : Bd) (hb0 : isU a.1.1 = true) (hb1 : isU a.1.2 = true) (hb2 : isU a.2.1 = true) (hb3 : isU a.2.2 = true) (hb4 : isI a.3.1 = true) (hb5 : isI a.3.2 = true) (hb6 : isU a.4.1 = true) (hb7 : isU a.4.2 = true) (hb8 : isI a.5.1 = true) (hb9 : isI a.5.2 = true) (hb10 : isU b.1.1 = true) (hb11 : isU b.1.2 = true) (hb12 : isU b.2.1 = true) (hb13 : isU b.2.2 = true) (hb14 : isI b.3.1 = true) (hb15 : isI b.3.2 = true) (hb16 : isU b.4.1 = true) (hb17 : isU b.4.2 = true) (hb18 : isI b.5.1 = true) (hb19 : isI b.5.2 = true) (ρ : Nat → Nat) (w : World) : Calls Tryz.prog 127 (enV [.a [some .u64, some .u64, some .u64, some .u64, some .i64, some .i64, some .u64, some .u64, some .i64, some .i64], .a [some .u64, some .u64, some .u64, some .u64, some .i64, some .i64, some .u64, some .u64, some .i64, some .i64]] ([a.1.1, a.1.2, a.2.1, a.2.2, a.3.1, a.3.2, a.4.1, a.4.2, a.5.1, a.5.2, b.1.1, b.1.2, b.2.1, b.2.2, b.3.1, b.3.2, b.4.1, b.4.2, b.5.1, b.5.2], [])).toArray w fun e w' => e = .returned (V.den ρ (.u (.agg (cB (addB a b))))) ∧ Below w.heap.size w w' := by
  refine pure_to nameOK oks_L05P_0 (dOK oks_L05P_0) 300 [.u (.agg (cB a)), .u (.agg (cB b))] (T := (.br (isU a.2.1) (.br (isU a.2.2) (.br (isU b.2.1) (.br (isU b.2.2) (.br (isI a.3.1) (.br (isI a.3.2) (.br (isI b.3.1) (.br (isI b.3.2) (.leaf (.val (.u (.agg [(.si .u64 (tAdd a.1 b.1).1), (.si .u64 (tAdd a.1 b.1).2), (.si .u64 (mAdd1 a.2.1 a.2.2 b.2.1 b.2.2)), (.si .u64 (mAdd2 a.2.1 a.2.2 b.2.1 b.2.2)), (.si .i64 (mPlus1 a.3.1 a.3.2 b.3.1 b.3.2)), (.si .i64 (mPlus2 a.3.1 a.3.2 b.3.1 b.3.2)), (.si .u64 (fitsM (.mk (iAdd .u64 a.4.1 b.4.1) (iAdd .u64 a.4.2 b.4.2))).1), (.si .u64 (fitsM (.mk (iAdd .u64 a.4.1 b.4.1) (iAdd .u64 a.4.2 b.4.2))).2), (.si .i64 (innerM (.mk (iAdd .i64 a.5.1 b.5.1) (iAdd .i64 a.5.2 b.5.2))).1), (.si .i64 (innerM (.mk (iAdd .i64 a.5.1 b.5.1) (iAdd .i64 a.5.2 b.5.2))).2)])))) (.no 98)) (.no 98)) (.no 98)) (.no 98)) (.no 98)) (.no 98)) (.no 98)) (.no 98))) (by kernel_rfl) ρ rfl ?_ w
  · have ra : Raw5 a := raw_of hb0 hb1 hb2 hb3 hb4 hb5 hb6 hb7 hb8 hb9
    have rb : Raw5 b := raw_of hb10 hb11 hb12 hb13 hb14 hb15 hb16 hb17 hb18 hb19
    iterate 8 (refine askB (by first | with_reducible assumption | with_reducible exact raw_t1 (by assumption) | with_reducible exact raw_t2 (by assumption) | decide) ?_)
    simp only [Tr.all]; rfl
def s_addB : Sum := bySum 127 [.a [some .u64, some .u64, some .u64, some .u64, some .i64, some .i64, some .u64, some .u64, some .i64, some .i64], .a [some .u64, some .u64, some .u64, some .u64, some .i64, some .i64, some .u64, some .u64, some .i64, some .i64]] fun
  | [a0, a1, a2, a3, a4, a5, a6, a7, a8, a9, a10, a11, a12, a13, a14, a15, a16, a17, a18, a19], [] => some ([isU (Bd.mk (P2.mk a0 a1) (P2.mk a2 a3) (P2.mk a4 a5) (P2.mk a6 a7) (P2.mk a8 a9)).1.1, isU (Bd.mk (P2.mk a0 a1) (P2.mk a2 a3) (P2.mk a4 a5) (P2.mk a6 a7) (P2.mk a8 a9)).1.2, isU (Bd.mk (P2.mk a0 a1) (P2.mk a2 a3) (P2.mk a4 a5) (P2.mk a6 a7) (P2.mk a8 a9)).2.1, isU (Bd.mk (P2.mk a0 a1) (P2.mk a2 a3) (P2.mk a4 a5) (P2.mk a6 a7) (P2.mk a8 a9)).2.2, isI (Bd.mk (P2.mk a0 a1) (P2.mk a2 a3) (P2.mk a4 a5) (P2.mk a6 a7) (P2.mk a8 a9)).3.1, isI (Bd.mk (P2.mk a0 a1) (P2.mk a2 a3) (P2.mk a4 a5) (P2.mk a6 a7) (P2.mk a8 a9)).3.2, isU (Bd.mk (P2.mk a0 a1) (P2.mk a2 a3) (P2.mk a4 a5) (P2.mk a6 a7) (P2.mk a8 a9)).4.1, isU (Bd.mk (P2.mk a0 a1) (P2.mk a2 a3) (P2.mk a4 a5) (P2.mk a6 a7) (P2.mk a8 a9)).4.2, isI (Bd.mk (P2.mk a0 a1) (P2.mk a2 a3) (P2.mk a4 a5) (P2.mk a6 a7) (P2.mk a8 a9)).5.1, isI (Bd.mk (P2.mk a0 a1) (P2.mk a2 a3) (P2.mk a4 a5) (P2.mk a6 a7) (P2.mk a8 a9)).5.2, isU (Bd.mk (P2.mk a10 a11) (P2.mk a12 a13) (P2.mk a14 a15) (P2.mk a16 a17) (P2.mk a18 a19)).1.1, isU (Bd.mk (P2.mk a10 a11) (P2.mk a12 a13) (P2.mk a14 a15) (P2.mk a16 a17) (P2.mk a18 a19)).1.2, isU (Bd.mk (P2.mk a10 a11) (P2.mk a12 a13) (P2.mk a14 a15) (P2.mk a16 a17) (P2.mk a18 a19)).2.1, isU (Bd.mk (P2.mk a10 a11) (P2.mk a12 a13) (P2.mk a14 a15) (P2.mk a16 a17) (P2.mk a18 a19)).2.2, isI (Bd.mk (P2.mk a10 a11) (P2.mk a12 a13) (P2.mk a14 a15) (P2.mk a16 a17) (P2.mk a18 a19)).3.1, isI (Bd.mk (P2.mk a10 a11) (P2.mk a12 a13) (P2.mk a14 a15) (P2.mk a16 a17) (P2.mk a18 a19)).3.2, isU (Bd.mk (P2.mk a10 a11) (P2.mk a12 a13) (P2.mk a14 a15) (P2.mk a16 a17) (P2.mk a18 a19)).4.1, isU (Bd.mk (P2.mk a10 a11) (P2.mk a12 a13) (P2.mk a14 a15) (P2.mk a16 a17) (P2.mk a18 a19)).4.2, isI (Bd.mk (P2.mk a10 a11) (P2.mk a12 a13) (P2.mk a14 a15) (P2.mk a16 a17) (P2.mk a18 a19)).5.1, isI (Bd.mk (P2.mk a10 a11) (P2.mk a12 a13) (P2.mk a14 a15) (P2.mk a16 a17) (P2.mk a18 a19)).5.2], .u (.agg (cB (addB (Bd.mk (P2.mk a0 a1) (P2.mk a2 a3) (P2.mk a4 a5) (P2.mk a6 a7) (P2.mk a8 a9)) (Bd.mk (P2.mk a10 a11) (P2.mk a12 a13) (P2.mk a14 a15) (P2.mk a16 a17) (P2.mk a18 a19))))))
  | _, _ => none
theorem s_addB_ok : SumOK Tryz.prog s_addB := by
  refine bySum_ok ⟨_, Tryz.func127, by kernel_rfl⟩ ?_
  intro ns os bs r hm hb ρ w
  split at hm
  · rename_i a0 a1 a2 a3 a4 a5 a6 a7 a8 a9 a10 a11 a12 a13 a14 a15 a16 a17 a18 a19
    cases hm
    exact t_addB (Bd.mk (P2.mk a0 a1) (P2.mk a2 a3) (P2.mk a4 a5) (P2.mk a6 a7) (P2.mk a8 a9)) (Bd.mk (P2.mk a10 a11) (P2.mk a12 a13) (P2.mk a14 a15) (P2.mk a16 a17) (P2.mk a18 a19)) (hb _ (by simp)) (hb _ (by simp)) (hb _ (by simp)) (hb _ (by simp)) (hb _ (by simp)) (hb _ (by simp)) (hb _ (by simp)) (hb _ (by simp)) (hb _ (by simp)) (hb _ (by simp)) (hb _ (by simp)) (hb _ (by simp)) (hb _ (by simp)) (hb _ (by simp)) (hb _ (by simp)) (hb _ (by simp)) (hb _ (by simp)) (hb _ (by simp)) (hb _ (by simp)) (hb _ (by simp)) ρ w
  · cases hm
theorem oks_L05P_1 : ∀ q ∈ [s_tSub, L04.s_Sub, L04.s_Minus, s_fits, s_inner], SumOK Tryz.prog q := (okc s_tSub_ok (okc L04.s_Sub_ok (okc L04.s_Minus_ok (okc s_fits_ok (okc s_inner_ok okn)))))
theorem t_subB (a : Bd) (b : Bd) (hb0 : isU a.1.1 = true) (hb1 : isU a.1.2 = true) (hb2 : isU a.2.1 = true) (hb3 : isU a.2.2 = true) (hb4 : isI a.3.1 = true) (hb5 : isI a.3.2 = true) (hb6 : isU a.4.1 = true) (hb7 : isU a.4.2 = true) (hb8 : isI a.5.1 = true) (hb9 : isI a.5.2 = true) (hb10 : isU b.1.1 = true) (hb11 : isU b.1.2 = true) (hb12 : isU b.2.1 = true) (hb13 : isU b.2.2 = true) (hb14 : isI b.3.1 = true) (hb15 : isI b.3.2 = true) (hb16 : isU b.4.1 = true) (hb17 : isU b.4.2 = true) (hb18 : isI b.5.1 = true) (hb19 : isI b.5.2 = true) (ρ : Nat → Nat) (w : World) : Calls Tryz.prog 128 (enV [.a [some .u64, some .u64, some .u64, some .u64, some .i64, some .i64, some .u64, some .u64, some .i64, some .i64], .a [some .u64, some .u64, some .u64, some .u64, some .i64, some .i64, some .u64, some .u64, some .i64, some .i64]] ([a.1.1, a.1.2, a.2.1, a.2.2, a.3.1, a.3.2, a.4.1, a.4.2, a.5.1, a.5.2, b.1.1, b.1.2, b.2.1, b.2.2, b.3.1, b.3.2, b.4.1, b.4.2, b.5.1, b.5.2], [])).toArray w fun e w' => e = .returned (V.den ρ (.u (.agg (cB (subB a b))))) ∧ Below w.heap.size w w' := by
  refine pure_to nameOK oks_L05P_1 (dOK oks_L05P_1) 300 [.u (.agg (cB a)), .u (.agg (cB b))] (T := (.br (isU a.2.1) (.br (isU a.2.2) (.br (isU b.2.1) (.br (isU b.2.2) (.br (isI a.3.1) (.br (isI a.3.2) (.br (isI b.3.1) (.br (isI b.3.2) (.leaf (.val (.u (.agg [(.si .u64 (tSub a.1 b.1).1), (.si .u64 (tSub a.1 b.1).2), (.si .u64 (mSub1 a.2.1 a.2.2 b.2.1 b.2.2)), (.si .u64 (mSub2 a.2.1 a.2.2 b.2.1 b.2.2)), (.si .i64 (mMinus1 a.3.1 a.3.2 b.3.1 b.3.2)), (.si .i64 (mMinus2 a.3.1 a.3.2 b.3.1 b.3.2)), (.si .u64 (fitsM (.mk (iSub .u64 a.4.1 b.4.2) (iSub .u64 a.4.2 b.4.1))).1), (.si .u64 (fitsM (.mk (iSub .u64 a.4.1 b.4.2) (iSub .u64 a.4.2 b.4.1))).2), (.si .i64 (innerM (.mk (iSub .i64 a.5.1 b.5.2) (iSub .i64 a.5.2 b.5.1))).1), (.si .i64 (innerM (.mk (iSub .i64 a.5.1 b.5.2) (iSub .i64 a.5.2 b.5.1))).2)])))) (.no 98)) (.no 98)) (.no 98)) (.no 98)) (.no 98)) (.no 98)) (.no 98)) (.no 98))) (by kernel_rfl) ρ rfl ?_ w
  · have ra : Raw5 a := raw_of hb0 hb1 hb2 hb3 hb4 hb5 hb6 hb7 hb8 hb9
    have rb : Raw5 b := raw_of hb10 hb11 hb12 hb13 hb14 hb15 hb16 hb17 hb18 hb19
    iterate 8 (refine askB (by first | with_reducible assumption | with_reducible exact raw_t1 (by assumption) | with_reducible exact raw_t2 (by assumption) | decide) ?_)
    simp only [Tr.all]; rfl
def s_subB : Sum := bySum 128 [.a [some .u64, some .u64, some .u64, some .u64, some .i64, some .i64, some .u64, some .u64, some .i64, some .i64], .a [some .u64, some .u64, some .u64, some .u64, some .i64, some .i64, some .u64, some .u64, some .i64, some .i64]] fun
  | [a0, a1, a2, a3, a4, a5, a6, a7, a8, a9, a10, a11, a12, a13, a14, a15, a16, a17, a18, a19], [] => some ([isU (Bd.mk (P2.mk a0 a1) (P2.mk a2 a3) (P2.mk a4 a5) (P2.mk a6 a7) (P2.mk a8 a9)).1.1, isU (Bd.mk (P2.mk a0 a1) (P2.mk a2 a3) (P2.mk a4 a5) (P2.mk a6 a7) (P2.mk a8 a9)).1.2, isU (Bd.mk (P2.mk a0 a1) (P2.mk a2 a3) (P2.mk a4 a5) (P2.mk a6 a7) (P2.mk a8 a9)).2.1, isU (Bd.mk (P2.mk a0 a1) (P2.mk a2 a3) (P2.mk a4 a5) (P2.mk a6 a7) (P2.mk a8 a9)).2.2, isI (Bd.mk (P2.mk a0 a1) (P2.mk a2 a3) (P2.mk a4 a5) (P2.mk a6 a7) (P2.mk a8 a9)).3.1, isI (Bd.mk (P2.mk a0 a1) (P2.mk a2 a3) (P2.mk a4 a5) (P2.mk a6 a7) (P2.mk a8 a9)).3.2, isU (Bd.mk (P2.mk a0 a1) (P2.mk a2 a3) (P2.mk a4 a5) (P2.mk a6 a7) (P2.mk a8 a9)).4.1, isU (Bd.mk (P2.mk a0 a1) (P2.mk a2 a3) (P2.mk a4 a5) (P2.mk a6 a7) (P2.mk a8 a9)).4.2, isI (Bd.mk (P2.mk a0 a1) (P2.mk a2 a3) (P2.mk a4 a5) (P2.mk a6 a7) (P2.mk a8 a9)).5.1, isI (Bd.mk (P2.mk a0 a1) (P2.mk a2 a3) (P2.mk a4 a5) (P2.mk a6 a7) (P2.mk a8 a9)).5.2, isU (Bd.mk (P2.mk a10 a11) (P2.mk a12 a13) (P2.mk a14 a15) (P2.mk a16 a17) (P2.mk a18 a19)).1.1, isU (Bd.mk (P2.mk a10 a11) (P2.mk a12 a13) (P2.mk a14 a15) (P2.mk a16 a17) (P2.mk a18 a19)).1.2, isU (Bd.mk (P2.mk a10 a11) (P2.mk a12 a13) (P2.mk a14 a15) (P2.mk a16 a17) (P2.mk a18 a19)).2.1, isU (Bd.mk (P2.mk a10 a11) (P2.mk a12 a13) (P2.mk a14 a15) (P2.mk a16 a17) (P2.mk a18 a19)).2.2, isI (Bd.mk (P2.mk a10 a11) (P2.mk a12 a13) (P2.mk a14 a15) (P2.mk a16 a17) (P2.mk a18 a19)).3.1, isI (Bd.mk (P2.mk a10 a11) (P2.mk a12 a13) (P2.mk a14 a15) (P2.mk a16 a17) (P2.mk a18 a19)).3.2, isU (Bd.mk (P2.mk a10 a11) (P2.mk a12 a13) (P2.mk a14 a15) (P2.mk a16 a17) (P2.mk a18 a19)).4.1, isU (Bd.mk (P2.mk a10 a11) (P2.mk a12 a13) (P2.mk a14 a15) (P2.mk a16 a17) (P2.mk a18 a19)).4.2, isI (Bd.mk (P2.mk a10 a11) (P2.mk a12 a13) (P2.mk a14 a15) (P2.mk a16 a17) (P2.mk a18 a19)).5.1, isI (Bd.mk (P2.mk a10 a11) (P2.mk a12 a13) (P2.mk a14 a15) (P2.mk a16 a17) (P2.mk a18 a19)).5.2], .u (.agg (cB (subB (Bd.mk (P2.mk a0 a1) (P2.mk a2 a3) (P2.mk a4 a5) (P2.mk a6 a7) (P2.mk a8 a9)) (Bd.mk (P2.mk a10 a11) (P2.mk a12 a13) (P2.mk a14 a15) (P2.mk a16 a17) (P2.mk a18 a19))))))
  | _, _ => none
theorem s_subB_ok : SumOK Tryz.prog s_subB := by
  refine bySum_ok ⟨_, Tryz.func128, by kernel_rfl⟩ ?_
  intro ns os bs r hm hb ρ w
  split at hm
  · rename_i a0 a1 a2 a3 a4 a5 a6 a7 a8 a9 a10 a11 a12 a13 a14 a15 a16 a17 a18 a19
    cases hm
    exact t_subB (Bd.mk (P2.mk a0 a1) (P2.mk a2 a3) (P2.mk a4 a5) (P2.mk a6 a7) (P2.mk a8 a9)) (Bd.mk (P2.mk a10 a11) (P2.mk a12 a13) (P2.mk a14 a15) (P2.mk a16 a17) (P2.mk a18 a19)) (hb _ (by simp)) (hb _ (by simp)) (hb _ (by simp)) (hb _ (by simp)) (hb _ (by simp)) (hb _ (by simp)) (hb _ (by simp)) (hb _ (by simp)) (hb _ (by simp)) (hb _ (by simp)) (hb _ (by simp)) (hb _ (by simp)) (hb _ (by simp)) (hb _ (by simp)) (hb _ (by simp)) (hb _ (by simp)) (hb _ (by simp)) (hb _ (by simp)) (hb _ (by simp)) (hb _ (by simp)) ρ w
  · cases hm
theorem oks_L05P_2 : ∀ q ∈ [s_tShl, L04.s_Shl, s_tShr, L04.s_Shr, s_tSar, L04.s_Sar, s_sync], SumOK Tryz.prog q := (okc s_tShl_ok (okc L04.s_Shl_ok (okc s_tShr_ok (okc L04.s_Shr_ok (okc s_tSar_ok (okc L04.s_Sar_ok (okc s_sync_ok okn)))))))
theorem t_shift (c : Int) (a : Bd) (n : Int) (known : Bool) (hb0 : isU a.1.1 = true) (hb1 : isU a.1.2 = true) (hb2 : isU a.2.1 = true) (hb3 : isU a.2.2 = true) (hb4 : isI a.3.1 = true) (hb5 : isI a.3.2 = true) (hb6 : isU a.4.1 = true) (hb7 : isU a.4.2 = true) (hb8 : isI a.5.1 = true) (hb9 : isI a.5.2 = true) (hb10 : isU n = true) (ρ : Nat → Nat) (w : World) : Calls Tryz.prog 48 (enV [.s (some .u8), .a [some .u64, some .u64, some .u64, some .u64, some .i64, some .i64, some .u64, some .u64, some .i64, some .i64], .s (some .u64), .s none] ([c, a.1.1, a.1.2, a.2.1, a.2.2, a.3.1, a.3.2, a.4.1, a.4.2, a.5.1, a.5.2, n], [known])).toArray w fun e w' => e = .returned (V.den ρ (.u (.agg (cB (shiftB c a n known))))) ∧ Below w.heap.size w w' := by
  refine pure_to nameOK oks_L05P_2 (dOK oks_L05P_2) 300 [.u (.c (.si .u8 c)), .u (.agg (cB a)), .u (.c (.si .u64 n)), .u (.c (.sb known))] (T := (.br (bNot known) (.br (iEq c 7) (.br (isU 0) (.br (isU 18446744073709551615) (.br (isU 0) (.br (isU a.2.2) (.br (isI (-9223372036854775808)) (.br (isI 9223372036854775807) (.br (isU 0) (.br (isU 4294967295) (.br (isI (-2147483648)) (.br (isI 2147483647) (.leaf (.val (.u (.agg (cB (sync (.mk (.mk 0 18446744073709551615) (.mk 0 a.2.2) (.mk (-9223372036854775808) 9223372036854775807) (.mk 0 4294967295) (.mk (-2147483648) 2147483647)))))))) (.no 98)) (.no 98)) (.no 98)) (.no 98)) (.no 98)) (.no 98)) (.no 98)) (.no 98)) (.no 98)) (.no 98)) (.br (bNot known) (.br (isU 0) (.br (isU 18446744073709551615) (.br (isU 0) (.br (isU 18446744073709551615) (.br (isI (-9223372036854775808)) (.br (isI 9223372036854775807) (.br (isU 0) (.br (isU 4294967295) (.br (isI (-2147483648)) (.br (isI 2147483647) (.leaf (.val (.u (.agg (cB (sync (.mk (.mk 0 18446744073709551615) (.mk 0 18446744073709551615) (.mk (-9223372036854775808) 9223372036854775807) (.mk 0 4294967295) (.mk (-2147483648) 2147483647)))))))) (.no 98)) (.no 98)) (.no 98)) (.no 98)) (.no 98)) (.no 98)) (.no 98)) (.no 98)) (.no 98)) (.no 98)) (.br (iEq c 6) (.br (isU n) (.br (isU a.2.1) (.br (isU a.2.2) (.br (isU n) (.br (isU (tShl a.1 n).1) (.br (isU (tShl a.1 n).2) (.br (isU (mShl1 a.2.1 a.2.2 n)) (.br (isU (mShl2 a.2.1 a.2.2 n)) (.br (isI (-9223372036854775808)) (.br (isI 9223372036854775807) (.br (isU 0) (.br (isU 4294967295) (.br (isI (-2147483648)) (.br (isI 2147483647) (.leaf (.val (.u (.agg (cB (sync (.mk (tShl a.1 n) (.mk (mShl1 a.2.1 a.2.2 n) (mShl2 a.2.1 a.2.2 n)) (.mk (-9223372036854775808) 9223372036854775807) (.mk 0 4294967295) (.mk (-2147483648) 2147483647)))))))) (.no 98)) (.no 98)) (.no 98)) (.no 98)) (.no 98)) (.no 98)) (.no 98)) (.no 98)) (.no 98)) (.no 98)) (.no 98)) (.no 98)) (.no 98)) (.no 98)) (.br (iEq c 7) (.br (isU n) (.br (isU a.2.1) (.br (isU a.2.2) (.br (isU n) (.br (isU (tShr a.1 n).1) (.br (isU (tShr a.1 n).2) (.br (isU (mShr1 a.2.1 a.2.2 n)) (.br (isU (mShr2 a.2.1 a.2.2 n)) (.br (isI (-9223372036854775808)) (.br (isI 9223372036854775807) (.br (isU 0) (.br (isU 4294967295) (.br (isI (-2147483648)) (.br (isI 2147483647) (.leaf (.val (.u (.agg (cB (sync (.mk (tShr a.1 n) (.mk (mShr1 a.2.1 a.2.2 n) (mShr2 a.2.1 a.2.2 n)) (.mk (-9223372036854775808) 9223372036854775807) (.mk 0 4294967295) (.mk (-2147483648) 2147483647)))))))) (.no 98)) (.no 98)) (.no 98)) (.no 98)) (.no 98)) (.no 98)) (.no 98)) (.no 98)) (.no 98)) (.no 98)) (.no 98)) (.no 98)) (.no 98)) (.no 98)) (.br (isU n) (.br (isI a.3.1) (.br (isI a.3.2) (.br (isU n) (.br (isU (tSar a.1 n).1) (.br (isU (tSar a.1 n).2) (.br (isU 0) (.br (isU 18446744073709551615) (.br (isI (mSar1 a.3.1 a.3.2 n)) (.br (isI (mSar2 a.3.1 a.3.2 n)) (.br (isU 0) (.br (isU 4294967295) (.br (isI (-2147483648)) (.br (isI 2147483647) (.leaf (.val (.u (.agg (cB (sync (.mk (tSar a.1 n) (.mk 0 18446744073709551615) (.mk (mSar1 a.3.1 a.3.2 n) (mSar2 a.3.1 a.3.2 n)) (.mk 0 4294967295) (.mk (-2147483648) 2147483647)))))))) (.no 98)) (.no 98)) (.no 98)) (.no 98)) (.no 98)) (.no 98)) (.no 98)) (.no 98)) (.no 98)) (.no 98)) (.no 98)) (.no 98)) (.no 98)) (.no 98)))))) (.br (bNot known) (.br (isU 0) (.br (isU 18446744073709551615) (.br (isU 0) (.br (isU 18446744073709551615) (.br (isI (-9223372036854775808)) (.br (isI 9223372036854775807) (.br (isU 0) (.br (isU 4294967295) (.br (isI (-2147483648)) (.br (isI 2147483647) (.leaf (.val (.u (.agg (cB (sync (.mk (.mk 0 18446744073709551615) (.mk 0 18446744073709551615) (.mk (-9223372036854775808) 9223372036854775807) (.mk 0 4294967295) (.mk (-2147483648) 2147483647)))))))) (.no 98)) (.no 98)) (.no 98)) (.no 98)) (.no 98)) (.no 98)) (.no 98)) (.no 98)) (.no 98)) (.no 98)) (.br (iEq c 6) (.br (isU n) (.br (isU a.2.1) (.br (isU a.2.2) (.br (isU n) (.br (isU (tShl a.1 n).1) (.br (isU (tShl a.1 n).2) (.br (isU (mShl1 a.2.1 a.2.2 n)) (.br (isU (mShl2 a.2.1 a.2.2 n)) (.br (isI (-9223372036854775808)) (.br (isI 9223372036854775807) (.br (isU 0) (.br (isU 4294967295) (.br (isI (-2147483648)) (.br (isI 2147483647) (.leaf (.val (.u (.agg (cB (sync (.mk (tShl a.1 n) (.mk (mShl1 a.2.1 a.2.2 n) (mShl2 a.2.1 a.2.2 n)) (.mk (-9223372036854775808) 9223372036854775807) (.mk 0 4294967295) (.mk (-2147483648) 2147483647)))))))) (.no 98)) (.no 98)) (.no 98)) (.no 98)) (.no 98)) (.no 98)) (.no 98)) (.no 98)) (.no 98)) (.no 98)) (.no 98)) (.no 98)) (.no 98)) (.no 98)) (.br (iEq c 7) (.br (isU n) (.br (isU a.2.1) (.br (isU a.2.2) (.br (isU n) (.br (isU (tShr a.1 n).1) (.br (isU (tShr a.1 n).2) (.br (isU (mShr1 a.2.1 a.2.2 n)) (.br (isU (mShr2 a.2.1 a.2.2 n)) (.br (isI (-9223372036854775808)) (.br (isI 9223372036854775807) (.br (isU 0) (.br (isU 4294967295) (.br (isI (-2147483648)) (.br (isI 2147483647) (.leaf (.val (.u (.agg (cB (sync (.mk (tShr a.1 n) (.mk (mShr1 a.2.1 a.2.2 n) (mShr2 a.2.1 a.2.2 n)) (.mk (-9223372036854775808) 9223372036854775807) (.mk 0 4294967295) (.mk (-2147483648) 2147483647)))))))) (.no 98)) (.no 98)) (.no 98)) (.no 98)) (.no 98)) (.no 98)) (.no 98)) (.no 98)) (.no 98)) (.no 98)) (.no 98)) (.no 98)) (.no 98)) (.no 98)) (.br (isU n) (.br (isI a.3.1) (.br (isI a.3.2) (.br (isU n) (.br (isU (tSar a.1 n).1) (.br (isU (tSar a.1 n).2) (.br (isU 0) (.br (isU 18446744073709551615) (.br (isI (mSar1 a.3.1 a.3.2 n)) (.br (isI (mSar2 a.3.1 a.3.2 n)) (.br (isU 0) (.br (isU 4294967295) (.br (isI (-2147483648)) (.br (isI 2147483647) (.leaf (.val (.u (.agg (cB (sync (.mk (tSar a.1 n) (.mk 0 18446744073709551615) (.mk (mSar1 a.3.1 a.3.2 n) (mSar2 a.3.1 a.3.2 n)) (.mk 0 4294967295) (.mk (-2147483648) 2147483647)))))))) (.no 98)) (.no 98)) (.no 98)) (.no 98)) (.no 98)) (.no 98)) (.no 98)) (.no 98)) (.no 98)) (.no 98)) (.no 98)) (.no 98)) (.no 98)) (.no 98))))))) (by kernel_rfl) ρ rfl ?_ w
  · have ra : Raw5 a := raw_of hb0 hb1 hb2 hb3 hb4 hb5 hb6 hb7 hb8 hb9
    have r1 : Raw5 (shlB a n) := shlB_raw ra
    have r2 : Raw5 (shrB a n) := shrB_raw ra
    have r3 : Raw5 (sarB a n) := sarB_raw ra
    have hn : isU n = true := hb10
    have gl1 : isU (tShl a.1 n).1 = true := r1.t.1
    have gl2 : isU (tShl a.1 n).2 = true := r1.t.2
    have gl3 : isU (mShl1 a.2.1 a.2.2 n) = true := r1.u.1
    have gl4 : isU (mShl2 a.2.1 a.2.2 n) = true := r1.u.2
    have gr1 : isU (tShr a.1 n).1 = true := r2.t.1
    have gr2 : isU (tShr a.1 n).2 = true := r2.t.2
    have gr3 : isU (mShr1 a.2.1 a.2.2 n) = true := r2.u.1
    have gr4 : isU (mShr2 a.2.1 a.2.2 n) = true := r2.u.2
    have gs1 : isU (tSar a.1 n).1 = true := r3.t.1
    have gs2 : isU (tSar a.1 n).2 = true := r3.t.2
    have gs3 : isI (mSar1 a.3.1 a.3.2 n) = true := isI_iff.2 r3.s.1
    have gs4 : isI (mSar2 a.3.1 a.3.2 n) = true := isI_iff.2 r3.s.2
    refine brn2 (fun k1 => ?_) (fun k1 => ?_)
    · subst k1
      refine brnT (rfl) ?_
      refine br2 (fun k2 => ?_) (fun k2 => ?_)
      · replace k2 := eq_t.1 k2
        iterate 14 (refine askB (by first | with_reducible assumption | decide) ?_)
        have e : shiftB c a n true = sync (shlB a n) := by unfold shiftB; dsimp only; rw [if_pos (by omega)]
        simp only [Tr.all]; rw [e]; try rfl
      · replace k2 := eq_f.1 k2
        refine br2 (fun k3 => ?_) (fun k3 => ?_)
        · replace k3 := eq_t.1 k3
          iterate 14 (refine askB (by first | with_reducible assumption | decide) ?_)
          have e : shiftB c a n true = sync (shrB a n) := by unfold shiftB; dsimp only; rw [if_neg (by omega), if_pos (by omega)]
          simp only [Tr.all]; rw [e]; try rfl
        · replace k3 := eq_f.1 k3
          iterate 14 (refine askB (by first | with_reducible assumption | decide) ?_)
          have e : shiftB c a n true = sync (sarB a n) := by unfold shiftB; dsimp only; rw [if_neg (by omega), if_neg (by omega)]
          simp only [Tr.all]; rw [e]; try rfl
    · subst k1
      refine br2 (fun k4 => ?_) (fun k4 => ?_)
      · replace k4 := eq_t.1 k4
        iterate 10 (refine askB (by first | with_reducible assumption | decide) ?_)
        have e : shiftB c a n false = sync (shrQ a) := by unfold shiftB; dsimp only; rw [if_pos (by omega)]
        simp only [Tr.all]; rw [e]; try rfl
      · replace k4 := eq_f.1 k4
        refine brnF (rfl) ?_
        iterate 10 (refine askB (by first | with_reducible assumption | decide) ?_)
        have e : shiftB c a n false = sync (anyB) := by unfold shiftB; dsimp only; rw [if_neg (by omega)]
        simp only [Tr.all]; rw [e]; try rfl
def s_shift : Sum := bySum 48 [.s (some .u8), .a [some .u64, some .u64, some .u64, some .u64, some .i64, some .i64, some .u64, some .u64, some .i64, some .i64], .s (some .u64), .s none] fun
  | [a0, a1, a2, a3, a4, a5, a6, a7, a8, a9, a10, a11], [o0] => some ([isU (Bd.mk (P2.mk a1 a2) (P2.mk a3 a4) (P2.mk a5 a6) (P2.mk a7 a8) (P2.mk a9 a10)).1.1, isU (Bd.mk (P2.mk a1 a2) (P2.mk a3 a4) (P2.mk a5 a6) (P2.mk a7 a8) (P2.mk a9 a10)).1.2, isU (Bd.mk (P2.mk a1 a2) (P2.mk a3 a4) (P2.mk a5 a6) (P2.mk a7 a8) (P2.mk a9 a10)).2.1, isU (Bd.mk (P2.mk a1 a2) (P2.mk a3 a4) (P2.mk a5 a6) (P2.mk a7 a8) (P2.mk a9 a10)).2.2, isI (Bd.mk (P2.mk a1 a2) (P2.mk a3 a4) (P2.mk a5 a6) (P2.mk a7 a8) (P2.mk a9 a10)).3.1, isI (Bd.mk (P2.mk a1 a2) (P2.mk a3 a4) (P2.mk a5 a6) (P2.mk a7 a8) (P2.mk a9 a10)).3.2, isU (Bd.mk (P2.mk a1 a2) (P2.mk a3 a4) (P2.mk a5 a6) (P2.mk a7 a8) (P2.mk a9 a10)).4.1, isU (Bd.mk (P2.mk a1 a2) (P2.mk a3 a4) (P2.mk a5 a6) (P2.mk a7 a8) (P2.mk a9 a10)).4.2, isI (Bd.mk (P2.mk a1 a2) (P2.mk a3 a4) (P2.mk a5 a6) (P2.mk a7 a8) (P2.mk a9 a10)).5.1, isI (Bd.mk (P2.mk a1 a2) (P2.mk a3 a4) (P2.mk a5 a6) (P2.mk a7 a8) (P2.mk a9 a10)).5.2, isU a11], .u (.agg (cB (shiftB a0 (Bd.mk (P2.mk a1 a2) (P2.mk a3 a4) (P2.mk a5 a6) (P2.mk a7 a8) (P2.mk a9 a10)) a11 o0))))
  | _, _ => none
theorem s_shift_ok : SumOK Tryz.prog s_shift := by
  refine bySum_ok ⟨_, Tryz.func48, by kernel_rfl⟩ ?_
  intro ns os bs r hm hb ρ w
  split at hm
  · rename_i a0 a1 a2 a3 a4 a5 a6 a7 a8 a9 a10 a11 o0
    cases hm
    exact t_shift a0 (Bd.mk (P2.mk a1 a2) (P2.mk a3 a4) (P2.mk a5 a6) (P2.mk a7 a8) (P2.mk a9 a10)) a11 o0 (hb _ (by simp)) (hb _ (by simp)) (hb _ (by simp)) (hb _ (by simp)) (hb _ (by simp)) (hb _ (by simp)) (hb _ (by simp)) (hb _ (by simp)) (hb _ (by simp)) (hb _ (by simp)) (hb _ (by simp)) ρ w
  · cases hm
theorem oks_L05P_3 : ∀ q ∈ [s_tLowN, s_bsign, s_sync], SumOK Tryz.prog q := (okc s_tLowN_ok (okc s_bsign_ok (okc s_sync_ok okn)))
theorem t_long (a : Bd) (hb0 : isU a.1.1 = true) (hb1 : isU a.1.2 = true) (hb2 : isU a.2.1 = true) (hb3 : isU a.2.2 = true) (hb4 : isI a.3.1 = true) (hb5 : isI a.3.2 = true) (hb6 : isU a.4.1 = true) (hb7 : isU a.4.2 = true) (hb8 : isI a.5.1 = true) (hb9 : isI a.5.2 = true) (ρ : Nat → Nat) (w : World) : Calls Tryz.prog 49 (enV [.a [some .u64, some .u64, some .u64, some .u64, some .i64, some .i64, some .u64, some .u64, some .i64, some .i64]] ([a.1.1, a.1.2, a.2.1, a.2.2, a.3.1, a.3.2, a.4.1, a.4.2, a.5.1, a.5.2], [])).toArray w fun e w' => e = .returned (V.den ρ (.u (.agg (cB (longB a))))) ∧ Below w.heap.size w w' := by
  refine pure_to nameOK oks_L05P_3 (dOK oks_L05P_3) 300 [.u (.agg (cB a))] (T := (.br (isU 32) (.br (isU (iConv .u64 (sg32 (tLowN a.1 32).1))) (.br (isU (iConv .u64 (sg32 (tLowN a.1 32).2))) (.br (isU 0) (.br (isU 18446744073709551615) (.br (isI a.5.1) (.br (isI a.5.2) (.br (isU 0) (.br (isU 4294967295) (.br (isI (-2147483648)) (.br (isI 2147483647) (.leaf (.val (.u (.agg (cB (sync (.mk (.mk (iConv .u64 (sg32 (tLowN a.1 32).1)) (iConv .u64 (sg32 (tLowN a.1 32).2))) (.mk 0 18446744073709551615) a.5 (.mk 0 4294967295) (.mk (-2147483648) 2147483647)))))))) (.no 98)) (.no 98)) (.no 98)) (.no 98)) (.no 98)) (.no 98)) (.no 98)) (.no 98)) (.no 98)) (.no 98)) (.no 98))) (by kernel_rfl) ρ rfl ?_ w
  · have ra : Raw5 a := raw_of hb0 hb1 hb2 hb3 hb4 hb5 hb6 hb7 hb8 hb9
    have g1 : isU (iConv .u64 (sg32 (tLowN a.1 32).1)) = true := iConv_u _
    have g2 : isU (iConv .u64 (sg32 (tLowN a.1 32).2)) = true := iConv_u _
    iterate 11 (refine askB (by first | with_reducible assumption | with_reducible exact raw_t1 (by assumption) | with_reducible exact raw_t2 (by assumption) | decide) ?_)
    simp only [Tr.all]; rfl
def s_longF (longB : Bd → Bd) : Sum := bySum 49 [.a [some .u64, some .u64, some .u64, some .u64, some .i64, some .i64, some .u64, some .u64, some .i64, some .i64]] fun
  | [a0, a1, a2, a3, a4, a5, a6, a7, a8, a9], [] => some ([isU (Bd.mk (P2.mk a0 a1) (P2.mk a2 a3) (P2.mk a4 a5) (P2.mk a6 a7) (P2.mk a8 a9)).1.1, isU (Bd.mk (P2.mk a0 a1) (P2.mk a2 a3) (P2.mk a4 a5) (P2.mk a6 a7) (P2.mk a8 a9)).1.2, isU (Bd.mk (P2.mk a0 a1) (P2.mk a2 a3) (P2.mk a4 a5) (P2.mk a6 a7) (P2.mk a8 a9)).2.1, isU (Bd.mk (P2.mk a0 a1) (P2.mk a2 a3) (P2.mk a4 a5) (P2.mk a6 a7) (P2.mk a8 a9)).2.2, isI (Bd.mk (P2.mk a0 a1) (P2.mk a2 a3) (P2.mk a4 a5) (P2.mk a6 a7) (P2.mk a8 a9)).3.1, isI (Bd.mk (P2.mk a0 a1) (P2.mk a2 a3) (P2.mk a4 a5) (P2.mk a6 a7) (P2.mk a8 a9)).3.2, isU (Bd.mk (P2.mk a0 a1) (P2.mk a2 a3) (P2.mk a4 a5) (P2.mk a6 a7) (P2.mk a8 a9)).4.1, isU (Bd.mk (P2.mk a0 a1) (P2.mk a2 a3) (P2.mk a4 a5) (P2.mk a6 a7) (P2.mk a8 a9)).4.2, isI (Bd.mk (P2.mk a0 a1) (P2.mk a2 a3) (P2.mk a4 a5) (P2.mk a6 a7) (P2.mk a8 a9)).5.1, isI (Bd.mk (P2.mk a0 a1) (P2.mk a2 a3) (P2.mk a4 a5) (P2.mk a6 a7) (P2.mk a8 a9)).5.2], .u (.agg (cB (longB (Bd.mk (P2.mk a0 a1) (P2.mk a2 a3) (P2.mk a4 a5) (P2.mk a6 a7) (P2.mk a8 a9))))))
  | _, _ => none
def s_long : Sum := s_longF longB
theorem s_long_ok : SumOK Tryz.prog s_long := by
  refine bySum_ok ⟨_, Tryz.func49, by kernel_rfl⟩ ?_
  intro ns os bs r hm hb ρ w
  split at hm
  · rename_i a0 a1 a2 a3 a4 a5 a6 a7 a8 a9
    cases hm
    exact t_long (Bd.mk (P2.mk a0 a1) (P2.mk a2 a3) (P2.mk a4 a5) (P2.mk a6 a7) (P2.mk a8 a9)) (hb _ (by simp)) (hb _ (by simp)) (hb _ (by simp)) (hb _ (by simp)) (hb _ (by simp)) (hb _ (by simp)) (hb _ (by simp)) (hb _ (by simp)) (hb _ (by simp)) (hb _ (by simp)) ρ w
  · cases hm
theorem oks_L05P_4 : ∀ q ∈ [s_bNone, s_tLowN, s_sync], SumOK Tryz.prog q := (okc s_bNone_ok (okc s_tLowN_ok (okc s_sync_ok okn)))
theorem t_lowB (b : Bd) (n : Int) (hb0 : isU b.1.1 = true) (hb1 : isU b.1.2 = true) (hb2 : isU b.2.1 = true) (hb3 : isU b.2.2 = true) (hb4 : isI b.3.1 = true) (hb5 : isI b.3.2 = true) (hb6 : isU b.4.1 = true) (hb7 : isU b.4.2 = true) (hb8 : isI b.5.1 = true) (hb9 : isI b.5.2 = true) (hb10 : isU n = true) (ρ : Nat → Nat) (w : World) : Calls Tryz.prog 21 (enV [.a [some .u64, some .u64, some .u64, some .u64, some .i64, some .i64, some .u64, some .u64, some .i64, some .i64], .s (some .u64)] ([b.1.1, b.1.2, b.2.1, b.2.2, b.3.1, b.3.2, b.4.1, b.4.2, b.5.1, b.5.2, n], [])).toArray w fun e w' => e = .returned (V.den ρ (.u (.agg (cB (lowB b n))))) ∧ Below w.heap.size w w' := by
  refine pure_to nameOK oks_L05P_4 (dOK oks_L05P_4) 300 [.u (.agg (cB b)), .u (.c (.si .u64 n))] (T := (.br (iEq n 32) (.br (bNone b) (.leaf (.val (.u (.agg cN)))) (.br (isU n) (.br (isU (tLowN b.1 n).1) (.br (isU (tLowN b.1 n).2) (.br (isU b.4.1) (.br (isU b.4.2) (.br (isI (-9223372036854775808)) (.br (isI 9223372036854775807) (.br (isU b.4.1) (.br (isU b.4.2) (.br (isI b.5.1) (.br (isI b.5.2) (.leaf (.val (.u (.agg (cB (sync (.mk (tLowN b.1 n) b.4 (.mk (-9223372036854775808) 9223372036854775807) b.4 b.5))))))) (.no 98)) (.no 98)) (.no 98)) (.no 98)) (.no 98)) (.no 98)) (.no 98)) (.no 98)) (.no 98)) (.no 98)) (.no 98))) (.br (iEq n 8) (.br (bNone b) (.leaf (.val (.u (.agg cN)))) (.br (isU n) (.br (isU (tLowN b.1 n).1) (.br (isU (tLowN b.1 n).2) (.br (isU 0) (.br (isU 18446744073709551615) (.br (isI (-9223372036854775808)) (.br (isI 9223372036854775807) (.br (isU 0) (.br (isU 4294967295) (.br (isI (-2147483648)) (.br (isI 2147483647) (.leaf (.val (.u (.agg (cB (sync (.mk (tLowN b.1 n) (.mk 0 18446744073709551615) (.mk (-9223372036854775808) 9223372036854775807) (.mk 0 4294967295) (.mk (-2147483648) 2147483647)))))))) (.no 98)) (.no 98)) (.no 98)) (.no 98)) (.no 98)) (.no 98)) (.no 98)) (.no 98)) (.no 98)) (.no 98)) (.no 98))) (.br (iEq n 16) (.br (bNone b) (.leaf (.val (.u (.agg cN)))) (.br (isU n) (.br (isU (tLowN b.1 n).1) (.br (isU (tLowN b.1 n).2) (.br (isU 0) (.br (isU 18446744073709551615) (.br (isI (-9223372036854775808)) (.br (isI 9223372036854775807) (.br (isU 0) (.br (isU 4294967295) (.br (isI (-2147483648)) (.br (isI 2147483647) (.leaf (.val (.u (.agg (cB (sync (.mk (tLowN b.1 n) (.mk 0 18446744073709551615) (.mk (-9223372036854775808) 9223372036854775807) (.mk 0 4294967295) (.mk (-2147483648) 2147483647)))))))) (.no 98)) (.no 98)) (.no 98)) (.no 98)) (.no 98)) (.no 98)) (.no 98)) (.no 98)) (.no 98)) (.no 98)) (.no 98))) (.leaf (.val (.u (.agg (cB b))))))))) (by kernel_rfl) ρ rfl ?_ w
  · have rb : Raw5 b := raw_of hb0 hb1 hb2 hb3 hb4 hb5 hb6 hb7 hb8 hb9
    have hn : isU n = true := hb10
    have g1 : isU (tLowN b.1 n).1 = true := (lowN_uu rb.t n).1
    have g2 : isU (tLowN b.1 n).2 = true := (lowN_uu rb.t n).2
    refine br2 (fun k1 => ?_) (fun k1 => ?_)
    · replace k1 := eq_t.1 k1
      refine br2 (fun k2 => ?_) (fun k2 => ?_)
      · have e : lowB b n = nothing := by unfold lowB; rw [if_pos (by omega), k2]
        simp only [Tr.all]; rw [e]; try rfl
      · iterate 11 (refine askB (by first | with_reducible assumption | with_reducible exact raw_t1 (by assumption) | with_reducible exact raw_t2 (by assumption) | decide) ?_)
        have e : lowB b n = sync (lowQ32 b) := by unfold lowB; rw [if_pos (by omega), k2]
        have e2 : tLowN b.1 n = tLowN b.1 32 := by rw [k1]
        simp only [Tr.all]; rw [e, e2]; try rfl
    · replace k1 := eq_f.1 k1
      refine br2 (fun k3 => ?_) (fun k3 => ?_)
      · replace k3 := eq_t.1 k3
        refine br2 (fun k4 => ?_) (fun k4 => ?_)
        · have e : lowB b n = nothing := by unfold lowB; rw [if_neg (by omega), if_pos (by omega), k4]
          simp only [Tr.all]; rw [e]; try rfl
        · iterate 11 (refine askB (by first | with_reducible assumption | with_reducible exact raw_t1 (by assumption) | with_reducible exact raw_t2 (by assumption) | decide) ?_)
          have e : lowB b n = sync (lowQ b n) := by unfold lowB; rw [if_neg (by omega), if_pos (by omega), k4]
          simp only [Tr.all]; rw [e]; try rfl
      · replace k3 := eq_f.1 k3
        refine br2 (fun k5 => ?_) (fun k5 => ?_)
        · replace k5 := eq_t.1 k5
          refine br2 (fun k6 => ?_) (fun k6 => ?_)
          · have e : lowB b n = nothing := by unfold lowB; rw [if_neg (by omega), if_pos (by omega), k6]
            simp only [Tr.all]; rw [e]; try rfl
          · iterate 11 (refine askB (by first | with_reducible assumption | with_reducible exact raw_t1 (by assumption) | with_reducible exact raw_t2 (by assumption) | decide) ?_)
            have e : lowB b n = sync (lowQ b n) := by unfold lowB; rw [if_neg (by omega), if_pos (by omega), k6]
            simp only [Tr.all]; rw [e]; try rfl
        · replace k5 := eq_f.1 k5
          have e : lowB b n = b := by unfold lowB; rw [if_neg (by omega), if_neg (by omega)]
          simp only [Tr.all]; rw [e]; try rfl
def s_lowB : Sum := bySum 21 [.a [some .u64, some .u64, some .u64, some .u64, some .i64, some .i64, some .u64, some .u64, some .i64, some .i64], .s (some .u64)] fun
  | [a0, a1, a2, a3, a4, a5, a6, a7, a8, a9, a10], [] => some ([isU (Bd.mk (P2.mk a0 a1) (P2.mk a2 a3) (P2.mk a4 a5) (P2.mk a6 a7) (P2.mk a8 a9)).1.1, isU (Bd.mk (P2.mk a0 a1) (P2.mk a2 a3) (P2.mk a4 a5) (P2.mk a6 a7) (P2.mk a8 a9)).1.2, isU (Bd.mk (P2.mk a0 a1) (P2.mk a2 a3) (P2.mk a4 a5) (P2.mk a6 a7) (P2.mk a8 a9)).2.1, isU (Bd.mk (P2.mk a0 a1) (P2.mk a2 a3) (P2.mk a4 a5) (P2.mk a6 a7) (P2.mk a8 a9)).2.2, isI (Bd.mk (P2.mk a0 a1) (P2.mk a2 a3) (P2.mk a4 a5) (P2.mk a6 a7) (P2.mk a8 a9)).3.1, isI (Bd.mk (P2.mk a0 a1) (P2.mk a2 a3) (P2.mk a4 a5) (P2.mk a6 a7) (P2.mk a8 a9)).3.2, isU (Bd.mk (P2.mk a0 a1) (P2.mk a2 a3) (P2.mk a4 a5) (P2.mk a6 a7) (P2.mk a8 a9)).4.1, isU (Bd.mk (P2.mk a0 a1) (P2.mk a2 a3) (P2.mk a4 a5) (P2.mk a6 a7) (P2.mk a8 a9)).4.2, isI (Bd.mk (P2.mk a0 a1) (P2.mk a2 a3) (P2.mk a4 a5) (P2.mk a6 a7) (P2.mk a8 a9)).5.1, isI (Bd.mk (P2.mk a0 a1) (P2.mk a2 a3) (P2.mk a4 a5) (P2.mk a6 a7) (P2.mk a8 a9)).5.2, isU a10], .u (.agg (cB (lowB (Bd.mk (P2.mk a0 a1) (P2.mk a2 a3) (P2.mk a4 a5) (P2.mk a6 a7) (P2.mk a8 a9)) a10))))
  | _, _ => none
theorem s_lowB_ok : SumOK Tryz.prog s_lowB := by
  refine bySum_ok ⟨_, Tryz.func21, by kernel_rfl⟩ ?_
  intro ns os bs r hm hb ρ w
  split at hm
  · rename_i a0 a1 a2 a3 a4 a5 a6 a7 a8 a9 a10
    cases hm
    exact t_lowB (Bd.mk (P2.mk a0 a1) (P2.mk a2 a3) (P2.mk a4 a5) (P2.mk a6 a7) (P2.mk a8 a9)) a10 (hb _ (by simp)) (hb _ (by simp)) (hb _ (by simp)) (hb _ (by simp)) (hb _ (by simp)) (hb _ (by simp)) (hb _ (by simp)) (hb _ (by simp)) (hb _ (by simp)) (hb _ (by simp)) (hb _ (by simp)) ρ w
  · cases hm
theorem oks_L05P_5 : ∀ q ∈ [s_tAdd, s_tShl, s_tShr], SumOK Tryz.prog q := (okc s_tAdd_ok (okc s_tShl_ok (okc s_tShr_ok okn)))
theorem t_mul (p : P2) (q : P2) (hb0 : isU p.1 = true) (hb1 : isU p.2 = true) (hb2 : isU q.1 = true) (hb3 : isU q.2 = true) (ρ : Nat → Nat) (w : World) : Calls Tryz.prog 130 (enV [.a [some .u64, some .u64], .a [some .u64, some .u64]] ([p.1, p.2, q.1, q.2], [])).toArray w fun e w' => e = .returned (V.den ρ (.u (.agg [.si .u64 (tMul p q).1, .si .u64 (tMul p q).2]))) ∧ Below w.heap.size w w' := by
  refine pure_to nameOK oks_L05P_5 (drawl_sound nameOK oks_L05P_5 (by kernel_rfl) (fun n i => match Nat.beq n 49 with | true => some [2,3,4,5,6] | false => none)) 300 [.u (.agg [.si .u64 p.1, .si .u64 p.2]), .u (.agg [.si .u64 q.1, .si .u64 q.2])] (T := (.lp [p.1, p.2, q.1, q.2, 0, 0, (iMul .u64 p.1 q.1), 0, (iMul .u64 p.1 q.1), 0, 0, 0] [] (fun xi0 xb0 j0 => (.br (bNot (bAnd (iEq (hdI xi0) 0) (iEq (hdI (tlI xi0)) 0))) (.br (iEq (iBit .and .u64 (hdI xi0) 1) 1) (.br (isU 1) (.br (isU 1) (.br (bAnd (iEq (tShl (.mk (hdI (tlI (tlI xi0))) (hdI (tlI (tlI (tlI xi0))))) 1).1 0) (iEq (tShl (.mk (hdI (tlI (tlI xi0))) (hdI (tlI (tlI (tlI xi0))))) 1).2 0)) (.leaf (.up (.val (.u (.agg [(.si .u64 (tAdd (tAdd (.mk (hdI (tlI (tlI (tlI (tlI (tlI (tlI (tlI (tlI (tlI (tlI xi0))))))))))) (hdI (tlI (tlI (tlI (tlI (tlI (tlI (tlI (tlI (tlI (tlI (tlI xi0))))))))))))) (.mk 0 (hdI (tlI (tlI (tlI xi0)))))) (.mk (hdI (tlI (tlI (tlI (tlI (tlI (tlI (tlI (tlI xi0))))))))) (hdI (tlI (tlI (tlI (tlI (tlI (tlI (tlI (tlI (tlI xi0)))))))))))).1), (.si .u64 (tAdd (tAdd (.mk (hdI (tlI (tlI (tlI (tlI (tlI (tlI (tlI (tlI (tlI (tlI xi0))))))))))) (hdI (tlI (tlI (tlI (tlI (tlI (tlI (tlI (tlI (tlI (tlI (tlI xi0))))))))))))) (.mk 0 (hdI (tlI (tlI (tlI xi0)))))) (.mk (hdI (tlI (tlI (tlI (tlI (tlI (tlI (tlI (tlI xi0))))))))) (hdI (tlI (tlI (tlI (tlI (tlI (tlI (tlI (tlI (tlI xi0)))))))))))).2)]))))) (.leaf (.again [(tShr (.mk (hdI xi0) (hdI (tlI xi0))) 1).1, (tShr (.mk (hdI xi0) (hdI (tlI xi0))) 1).2, (tShl (.mk (hdI (tlI (tlI xi0))) (hdI (tlI (tlI (tlI xi0))))) 1).1, (tShl (.mk (hdI (tlI (tlI xi0))) (hdI (tlI (tlI (tlI xi0))))) 1).2, (hdI (tlI (tlI (tlI (tlI xi0))))), (hdI (tlI (tlI (tlI (tlI (tlI xi0)))))), (hdI (tlI (tlI (tlI (tlI (tlI (tlI xi0))))))), (hdI (tlI (tlI (tlI (tlI (tlI (tlI (tlI xi0)))))))), (hdI (tlI (tlI (tlI (tlI (tlI (tlI (tlI (tlI xi0))))))))), (hdI (tlI (tlI (tlI (tlI (tlI (tlI (tlI (tlI (tlI xi0)))))))))), (tAdd (.mk (hdI (tlI (tlI (tlI (tlI (tlI (tlI (tlI (tlI (tlI (tlI xi0))))))))))) (hdI (tlI (tlI (tlI (tlI (tlI (tlI (tlI (tlI (tlI (tlI (tlI xi0))))))))))))) (.mk 0 (hdI (tlI (tlI (tlI xi0)))))).1, (tAdd (.mk (hdI (tlI (tlI (tlI (tlI (tlI (tlI (tlI (tlI (tlI (tlI xi0))))))))))) (hdI (tlI (tlI (tlI (tlI (tlI (tlI (tlI (tlI (tlI (tlI (tlI xi0))))))))))))) (.mk 0 (hdI (tlI (tlI (tlI xi0)))))).2] []))) (.no 98)) (.no 98)) (.br (iEq (iBit .and .u64 (hdI (tlI xi0)) 1) 1) (.br (isU 1) (.br (isU 1) (.br (bAnd (iEq (tShl (.mk (hdI (tlI (tlI xi0))) (hdI (tlI (tlI (tlI xi0))))) 1).1 0) (iEq (tShl (.mk (hdI (tlI (tlI xi0))) (hdI (tlI (tlI (tlI xi0))))) 1).2 0)) (.leaf (.up (.val (.u (.agg [(.si .u64 (tAdd (tAdd (.mk (hdI (tlI (tlI (tlI (tlI (tlI (tlI (tlI (tlI (tlI (tlI xi0))))))))))) (hdI (tlI (tlI (tlI (tlI (tlI (tlI (tlI (tlI (tlI (tlI (tlI xi0))))))))))))) (.mk 0 (iBit .or .u64 (hdI (tlI (tlI xi0))) (hdI (tlI (tlI (tlI xi0))))))) (.mk (hdI (tlI (tlI (tlI (tlI (tlI (tlI (tlI (tlI xi0))))))))) (hdI (tlI (tlI (tlI (tlI (tlI (tlI (tlI (tlI (tlI xi0)))))))))))).1), (.si .u64 (tAdd (tAdd (.mk (hdI (tlI (tlI (tlI (tlI (tlI (tlI (tlI (tlI (tlI (tlI xi0))))))))))) (hdI (tlI (tlI (tlI (tlI (tlI (tlI (tlI (tlI (tlI (tlI (tlI xi0))))))))))))) (.mk 0 (iBit .or .u64 (hdI (tlI (tlI xi0))) (hdI (tlI (tlI (tlI xi0))))))) (.mk (hdI (tlI (tlI (tlI (tlI (tlI (tlI (tlI (tlI xi0))))))))) (hdI (tlI (tlI (tlI (tlI (tlI (tlI (tlI (tlI (tlI xi0)))))))))))).2)]))))) (.leaf (.again [(tShr (.mk (hdI xi0) (hdI (tlI xi0))) 1).1, (tShr (.mk (hdI xi0) (hdI (tlI xi0))) 1).2, (tShl (.mk (hdI (tlI (tlI xi0))) (hdI (tlI (tlI (tlI xi0))))) 1).1, (tShl (.mk (hdI (tlI (tlI xi0))) (hdI (tlI (tlI (tlI xi0))))) 1).2, (hdI (tlI (tlI (tlI (tlI xi0))))), (hdI (tlI (tlI (tlI (tlI (tlI xi0)))))), (hdI (tlI (tlI (tlI (tlI (tlI (tlI xi0))))))), (hdI (tlI (tlI (tlI (tlI (tlI (tlI (tlI xi0)))))))), (hdI (tlI (tlI (tlI (tlI (tlI (tlI (tlI (tlI xi0))))))))), (hdI (tlI (tlI (tlI (tlI (tlI (tlI (tlI (tlI (tlI xi0)))))))))), (tAdd (.mk (hdI (tlI (tlI (tlI (tlI (tlI (tlI (tlI (tlI (tlI (tlI xi0))))))))))) (hdI (tlI (tlI (tlI (tlI (tlI (tlI (tlI (tlI (tlI (tlI (tlI xi0))))))))))))) (.mk 0 (iBit .or .u64 (hdI (tlI (tlI xi0))) (hdI (tlI (tlI (tlI xi0))))))).1, (tAdd (.mk (hdI (tlI (tlI (tlI (tlI (tlI (tlI (tlI (tlI (tlI (tlI xi0))))))))))) (hdI (tlI (tlI (tlI (tlI (tlI (tlI (tlI (tlI (tlI (tlI (tlI xi0))))))))))))) (.mk 0 (iBit .or .u64 (hdI (tlI (tlI xi0))) (hdI (tlI (tlI (tlI xi0))))))).2] []))) (.no 98)) (.no 98)) (.br (isU 1) (.br (isU 1) (.br (bAnd (iEq (tShl (.mk (hdI (tlI (tlI xi0))) (hdI (tlI (tlI (tlI xi0))))) 1).1 0) (iEq (tShl (.mk (hdI (tlI (tlI xi0))) (hdI (tlI (tlI (tlI xi0))))) 1).2 0)) (.leaf (.up (.val (.u (.agg [(.si .u64 (tAdd (.mk (hdI (tlI (tlI (tlI (tlI (tlI (tlI (tlI (tlI (tlI (tlI xi0))))))))))) (hdI (tlI (tlI (tlI (tlI (tlI (tlI (tlI (tlI (tlI (tlI (tlI xi0))))))))))))) (.mk (hdI (tlI (tlI (tlI (tlI (tlI (tlI (tlI (tlI xi0))))))))) (hdI (tlI (tlI (tlI (tlI (tlI (tlI (tlI (tlI (tlI xi0)))))))))))).1), (.si .u64 (tAdd (.mk (hdI (tlI (tlI (tlI (tlI (tlI (tlI (tlI (tlI (tlI (tlI xi0))))))))))) (hdI (tlI (tlI (tlI (tlI (tlI (tlI (tlI (tlI (tlI (tlI (tlI xi0))))))))))))) (.mk (hdI (tlI (tlI (tlI (tlI (tlI (tlI (tlI (tlI xi0))))))))) (hdI (tlI (tlI (tlI (tlI (tlI (tlI (tlI (tlI (tlI xi0)))))))))))).2)]))))) (.leaf (.again [(tShr (.mk (hdI xi0) (hdI (tlI xi0))) 1).1, (tShr (.mk (hdI xi0) (hdI (tlI xi0))) 1).2, (tShl (.mk (hdI (tlI (tlI xi0))) (hdI (tlI (tlI (tlI xi0))))) 1).1, (tShl (.mk (hdI (tlI (tlI xi0))) (hdI (tlI (tlI (tlI xi0))))) 1).2, (hdI (tlI (tlI (tlI (tlI xi0))))), (hdI (tlI (tlI (tlI (tlI (tlI xi0)))))), (hdI (tlI (tlI (tlI (tlI (tlI (tlI xi0))))))), (hdI (tlI (tlI (tlI (tlI (tlI (tlI (tlI xi0)))))))), (hdI (tlI (tlI (tlI (tlI (tlI (tlI (tlI (tlI xi0))))))))), (hdI (tlI (tlI (tlI (tlI (tlI (tlI (tlI (tlI (tlI xi0)))))))))), (hdI (tlI (tlI (tlI (tlI (tlI (tlI (tlI (tlI (tlI (tlI xi0))))))))))), (hdI (tlI (tlI (tlI (tlI (tlI (tlI (tlI (tlI (tlI (tlI (tlI xi0))))))))))))] []))) (.no 98)) (.no 98)))) (.leaf (.up (.val (.u (.agg [(.si .u64 (tAdd (.mk (hdI (tlI (tlI (tlI (tlI (tlI (tlI (tlI (tlI (tlI (tlI xi0))))))))))) (hdI (tlI (tlI (tlI (tlI (tlI (tlI (tlI (tlI (tlI (tlI (tlI xi0))))))))))))) (.mk (hdI (tlI (tlI (tlI (tlI (tlI (tlI (tlI (tlI xi0))))))))) (hdI (tlI (tlI (tlI (tlI (tlI (tlI (tlI (tlI (tlI xi0)))))))))))).1), (.si .u64 (tAdd (.mk (hdI (tlI (tlI (tlI (tlI (tlI (tlI (tlI (tlI (tlI (tlI xi0))))))))))) (hdI (tlI (tlI (tlI (tlI (tlI (tlI (tlI (tlI (tlI (tlI (tlI xi0))))))))))))) (.mk (hdI (tlI (tlI (tlI (tlI (tlI (tlI (tlI (tlI xi0))))))))) (hdI (tlI (tlI (tlI (tlI (tlI (tlI (tlI (tlI (tlI xi0)))))))))))).2)]))))))))) (by kernel_rfl) ρ rfl ?_ w
  · have hp : UU p := ⟨hb0, hb1⟩
    have hq : UU q := ⟨hb2, hb3⟩
    refine all_lp (mulI p q) mulM (mulI_start hp hq) ?_
    rintro yi yb j ⟨a, b, t, f, rfl, ha, hb, ht, l1, l2, hg⟩
    simp only [hdI, tlI, Tr.sat, inLoop]
    refine ⟨fun h0 => ?_, fun h0 => ?_⟩
    · have hn : ¬ (a.lo = 0 ∧ a.hi = 0) := by have := and_f.1 (not_t.1 h0); rw [eq_t, eq_t] at this; exact this
      refine ⟨fun h1 => ?_, fun h1 => ⟨fun h2 => ?_, fun h2 => ?_⟩⟩
      · refine ⟨fun _ => ⟨fun _ => ⟨fun h3 => ?_, fun h3 => ?_⟩, fun e => absurd e (by decide)⟩, fun e => absurd e (by decide)⟩
        · have hz := and_t.1 h3
          have e := mul_end1 ha l1 l2 hn (eq_t.1 hz.1) (eq_t.1 hz.2) hg
          rw [mulAdd1 h1] at e
          exact congrArg (fun z : P2 => V.den ρ (.u (.agg [.si .u64 z.1, .si .u64 z.2]))) e
        · have hz : ¬ ((tShl b 1).lo = 0 ∧ (tShl b 1).hi = 0) := by have := and_f.1 h3; rw [eq_t, eq_t] at this; exact this
          have e := mul_next ha hb ht l1 l2 hn hz hg
          rw [mulAdd1 h1] at e
          exact e
      · refine ⟨fun _ => ⟨fun _ => ⟨fun h3 => ?_, fun h3 => ?_⟩, fun e => absurd e (by decide)⟩, fun e => absurd e (by decide)⟩
        · have hz := and_t.1 h3
          have e := mul_end1 ha l1 l2 hn (eq_t.1 hz.1) (eq_t.1 hz.2) hg
          rw [mulAdd2 h1 h2] at e
          exact congrArg (fun z : P2 => V.den ρ (.u (.agg [.si .u64 z.1, .si .u64 z.2]))) e
        · have hz : ¬ ((tShl b 1).lo = 0 ∧ (tShl b 1).hi = 0) := by have := and_f.1 h3; rw [eq_t, eq_t] at this; exact this
          have e := mul_next ha hb ht l1 l2 hn hz hg
          rw [mulAdd2 h1 h2] at e
          exact e
      · refine ⟨fun _ => ⟨fun _ => ⟨fun h3 => ?_, fun h3 => ?_⟩, fun e => absurd e (by decide)⟩, fun e => absurd e (by decide)⟩
        · have hz := and_t.1 h3
          have e := mul_end1 ha l1 l2 hn (eq_t.1 hz.1) (eq_t.1 hz.2) hg
          rw [mulAdd3 h1 h2] at e
          exact congrArg (fun z : P2 => V.den ρ (.u (.agg [.si .u64 z.1, .si .u64 z.2]))) e
        · have hz : ¬ ((tShl b 1).lo = 0 ∧ (tShl b 1).hi = 0) := by have := and_f.1 h3; rw [eq_t, eq_t] at this; exact this
          have e := mul_next ha hb ht l1 l2 hn hz hg
          rw [mulAdd3 h1 h2] at e
          exact e
    · have hz := and_t.1 (not_f.1 h0)
      have e := mul_end0 ha l1 (eq_t.1 hz.1) (eq_t.1 hz.2) hg
      exact congrArg (fun z : P2 => V.den ρ (.u (.agg [.si .u64 z.1, .si .u64 z.2]))) e
def s_mul : Sum := bySum 130 [.a [some .u64, some .u64], .a [some .u64, some .u64]] fun
  | [a0, a1, a2, a3], [] => some ([isU (P2.mk a0 a1).1, isU (P2.mk a0 a1).2, isU (P2.mk a2 a3).1, isU (P2.mk a2 a3).2], .u (.agg [.si .u64 (tMul (P2.mk a0 a1) (P2.mk a2 a3)).1, .si .u64 (tMul (P2.mk a0 a1) (P2.mk a2 a3)).2]))
  | _, _ => none
theorem s_mul_ok : SumOK Tryz.prog s_mul := by
  refine bySum_ok ⟨_, Tryz.func130, by kernel_rfl⟩ ?_
  intro ns os bs r hm hb ρ w
  split at hm
  · rename_i a0 a1 a2 a3
    cases hm
    exact t_mul (P2.mk a0 a1) (P2.mk a2 a3) (hb _ (by simp)) (hb _ (by simp)) (hb _ (by simp)) (hb _ (by simp)) ρ w
  · cases hm
end Go.Proofs.YtafpbibpahjnhaaGreat.L05P
