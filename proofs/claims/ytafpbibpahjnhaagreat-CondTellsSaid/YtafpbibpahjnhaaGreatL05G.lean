/- Layers 3 to 5: what their functions are shown to do, one by one; written by a program of the session's own (gen05.py). -/
import Derived.Test.YtafpbibpahjnhaaGreatProg
import Derived.Test.YtafpbibpahjnhaaGreatL05H
namespace Go.Proofs.YtafpbibpahjnhaaGreat.L05
open Go Go.RowKit Go.Proofs.YtafpbibpahjnhaaGreat.Sx
set_option linter.unusedVariables false
set_option linter.unusedSimpArgs false
theorem nameOK : NameOK Tryz.prog := nameOK_of (by kernel_rfl)
theorem dOK {S : List Sum} (hS : ∀ q ∈ S, SumOK Tryz.prog q) : DSnd Tryz.prog (drawx Tryz.prog S) := drawx_sound nameOK hS (by kernel_rfl)
def ren : Shelf.Ren := { f := fun _ => 215, t := fun n => if n = 46 then 50 else if n = 53 then 22 else n, g := fun n => n }
theorem l129 : Lays.n129 Tryz.prog ren := by
  refine ⟨by kernel_rfl, by kernel_rfl, ?_, ?_, ?_, ?_, ?_, ?_, ?_, ?_, ?_, ?_, ?_, ?_, ?_, ?_, ?_, ?_, ?_, ?_, ?_, ?_, ?_, ?_, ?_, ?_⟩
  all_goals first | kernel_rfl | (intro w; kernel_rfl)
def s_Len64 : Sum := sLen64 (ren.f 129)
theorem s_Len64_ok : SumOK Tryz.prog s_Len64 := sLen64_ok l129 (fn := Tryz.f215) (by kernel_rfl) (by kernel_rfl)
theorem t_tMay (p : P2) (ρ : Nat → Nat) (w : World) : Calls Tryz.prog 58 (enV [.a [some .u64, some .u64]] ([p.1, p.2], [])).toArray w fun e w' => e = .returned (V.den ρ (.u (.c (.sb (tMay p))))) ∧ Below w.heap.size w w' := by
  refine pure_to nameOK okn (dOK okn) 300 [.u (.agg [.si .u64 p.1, .si .u64 p.2])] (T := (.leaf (.val (.u (.c (.sb (iEq (iBit .and .u64 p.1 p.2) 0))))))) (by kernel_rfl) ρ rfl ?_ w
  · simp only [Tr.all]
    repeat' first | refine ⟨?_, ?_⟩ | intro _
    all_goals (refine congrArg Value.bool ?_; rw [Bool.eq_iff_iff]; simp only [tMay, tHas, tIn, eq_t, eq_f, decide_eq_true_eq, decide_eq_false_iff_not, Bool.false_eq_true, false_iff] at *; first | done | exact Iff.rfl | (simp only [andU, notU] at *; simp_all))
def s_tMay : Sum := bySum 58 [.a [some .u64, some .u64]] fun
  | [a0, a1], [] => some ([], .u (.c (.sb (tMay (P2.mk a0 a1)))))
  | _, _ => none
theorem s_tMay_ok : SumOK Tryz.prog s_tMay := by
  refine bySum_ok ⟨_, Tryz.func58, by kernel_rfl⟩ ?_
  intro ns os bs r hm hb ρ w
  split at hm
  · rename_i a0 a1
    cases hm
    exact t_tMay (P2.mk a0 a1) ρ w
  · cases hm
theorem t_tHas (p : P2) (x : Int) (ρ : Nat → Nat) (w : World) : Calls Tryz.prog 62 (enV [.a [some .u64, some .u64], .s (some .u64)] ([p.1, p.2, x], [])).toArray w fun e w' => e = .returned (V.den ρ (.u (.c (.sb (tHas p x))))) ∧ Below w.heap.size w w' := by
  refine pure_to nameOK okn (dOK okn) 300 [.u (.agg [.si .u64 p.1, .si .u64 p.2]), .u (.c (.si .u64 x))] (T := (.leaf (.val (.u (.c (.sb (iEq (iBit .andNot .u64 x p.2) p.1))))))) (by kernel_rfl) ρ rfl ?_ w
  · simp only [Tr.all]
    repeat' first | refine ⟨?_, ?_⟩ | intro _
    all_goals (refine congrArg Value.bool ?_; rw [Bool.eq_iff_iff]; simp only [tMay, tHas, tIn, eq_t, eq_f, decide_eq_true_eq, decide_eq_false_iff_not, Bool.false_eq_true, false_iff] at *; first | done | exact Iff.rfl | (simp only [andU, notU] at *; simp_all))
def s_tHas : Sum := bySum 62 [.a [some .u64, some .u64], .s (some .u64)] fun
  | [a0, a1, a2], [] => some ([], .u (.c (.sb (tHas (P2.mk a0 a1) a2))))
  | _, _ => none
theorem s_tHas_ok : SumOK Tryz.prog s_tHas := by
  refine bySum_ok ⟨_, Tryz.func62, by kernel_rfl⟩ ?_
  intro ns os bs r hm hb ρ w
  split at hm
  · rename_i a0 a1 a2
    cases hm
    exact t_tHas (P2.mk a0 a1) a2 ρ w
  · cases hm
theorem t_tIn (p : P2) (q : P2) (ρ : Nat → Nat) (w : World) : Calls Tryz.prog 67 (enV [.a [some .u64, some .u64], .a [some .u64, some .u64]] ([p.1, p.2, q.1, q.2], [])).toArray w fun e w' => e = .returned (V.den ρ (.u (.c (.sb (tIn p q))))) ∧ Below w.heap.size w w' := by
  refine pure_to nameOK okn (dOK okn) 300 [.u (.agg [.si .u64 p.1, .si .u64 p.2]), .u (.agg [.si .u64 q.1, .si .u64 q.2])] (T := (.br (iEq (iBit .andNot .u64 p.2 q.2) 0) (.leaf (.val (.u (.c (.sb (iEq (iBit .andNot .u64 p.1 q.2) q.1)))))) (.leaf (.val (.u (.c (.lb false))))))) (by kernel_rfl) ρ rfl ?_ w
  · simp only [Tr.all]
    repeat' first | refine ⟨?_, ?_⟩ | intro _
    all_goals (refine congrArg Value.bool ?_; rw [Bool.eq_iff_iff]; simp only [tMay, tHas, tIn, eq_t, eq_f, decide_eq_true_eq, decide_eq_false_iff_not, Bool.false_eq_true, false_iff] at *; first | done | exact Iff.rfl | (simp only [andU, notU] at *; simp_all))
def s_tIn : Sum := bySum 67 [.a [some .u64, some .u64], .a [some .u64, some .u64]] fun
  | [a0, a1, a2, a3], [] => some ([], .u (.c (.sb (tIn (P2.mk a0 a1) (P2.mk a2 a3)))))
  | _, _ => none
theorem s_tIn_ok : SumOK Tryz.prog s_tIn := by
  refine bySum_ok ⟨_, Tryz.func67, by kernel_rfl⟩ ?_
  intro ns os bs r hm hb ρ w
  split at hm
  · rename_i a0 a1 a2 a3
    cases hm
    exact t_tIn (P2.mk a0 a1) (P2.mk a2 a3) ρ w
  · cases hm
theorem t_tMeet (p : P2) (q : P2) (ρ : Nat → Nat) (w : World) : Calls Tryz.prog 181 (enV [.a [some .u64, some .u64], .a [some .u64, some .u64]] ([p.1, p.2, q.1, q.2], [])).toArray w fun e w' => e = .returned (V.den ρ (.tup [.agg [.si .u64 (tMeet p q).1, .si .u64 (tMeet p q).2], .c (.sb (tMeetIs p q))])) ∧ Below w.heap.size w w' := by
  refine pure_to nameOK okn (dOK okn) 300 [.u (.agg [.si .u64 p.1, .si .u64 p.2]), .u (.agg [.si .u64 q.1, .si .u64 q.2])] (T := (.br (iNe (iBit .andNot .u64 (iBit .xor .u64 p.1 q.1) (iBit .or .u64 p.2 q.2)) 0) (.leaf (.val (.tup [(.agg [(.li .u64 0), (.li .u64 0)]), (.c (.lb false))]))) (.leaf (.val (.tup [(.agg [(.si .u64 (iBit .andNot .u64 (iBit .or .u64 p.1 q.1) (iBit .and .u64 p.2 q.2))), (.si .u64 (iBit .and .u64 p.2 q.2))]), (.c (.lb true))]))))) (by kernel_rfl) ρ rfl ?_ w
  · simp only [Tr.all]
    refine ⟨fun h => ?_, fun h => ?_⟩
    · have e : tMeetIs p q = false := by simp only [tMeetIs, decide_eq_false_iff_not]; exact ne_t.1 h
      simp only [tMeet, e]; rfl
    · have e : tMeetIs p q = true := by simp only [tMeetIs, decide_eq_true_eq]; exact ne_f.1 h
      simp only [tMeet, e]; rfl
def s_tMeet : Sum := bySum 181 [.a [some .u64, some .u64], .a [some .u64, some .u64]] fun
  | [a0, a1, a2, a3], [] => some ([], .tup [.agg [.si .u64 (tMeet (P2.mk a0 a1) (P2.mk a2 a3)).1, .si .u64 (tMeet (P2.mk a0 a1) (P2.mk a2 a3)).2], .c (.sb (tMeetIs (P2.mk a0 a1) (P2.mk a2 a3)))])
  | _, _ => none
theorem s_tMeet_ok : SumOK Tryz.prog s_tMeet := by
  refine bySum_ok ⟨_, Tryz.func181, by kernel_rfl⟩ ?_
  intro ns os bs r hm hb ρ w
  split at hm
  · rename_i a0 a1 a2 a3
    cases hm
    exact t_tMeet (P2.mk a0 a1) (P2.mk a2 a3) ρ w
  · cases hm
theorem t_tRange (x : Int) (y : Int) (hb0 : isU x = true) (hb1 : isU y = true) (ρ : Nat → Nat) (w : World) : Calls Tryz.prog 173 (enV [.s (some .u64), .s (some .u64)] ([x, y], [])).toArray w fun e w' => e = .returned (V.den ρ (.u (.agg [.si .u64 (tRange x y).1, .si .u64 (tRange x y).2]))) ∧ Below w.heap.size w w' := by
  refine pure_to nameOK (okc s_Len64_ok okn) (dOK (okc s_Len64_ok okn)) 300 [.u (.c (.si .u64 x)), .u (.c (.si .u64 y))] (T := (.br (iGt x y) (.leaf (.val (.u (.agg [(.li .u64 0), (.li .u64 18446744073709551615)])))) (.br (isU (iBit .xor .u64 x y)) (.br (iNeg? (len64 (iBit .xor .u64 x y))) (.no 11) (.leaf (.val (.u (.agg [(.si .u64 (iBit .andNot .u64 x (iSub .u64 (iShl .u64 1 (len64 (iBit .xor .u64 x y))) 1))), (.si .u64 (iSub .u64 (iShl .u64 1 (len64 (iBit .xor .u64 x y))) 1))]))))) (.no 98)))) (by kernel_rfl) ρ rfl ?_ w
  · have hx := xor_u hb0 hb1
    have hk := bitLen_le _ (nat_lt hx)
    have hs := ones_sub hk
    have h0 : iNeg? (len64 (xorU x y)) = false := neg_f.2 (Int.natCast_nonneg _)
    simp only [Tr.all]
    refine ⟨fun h => ?_, fun h => ⟨fun _ => ⟨fun h1 => ?_, fun _ => ?_⟩, fun h1 => ?_⟩⟩
    · rw [tRange, if_pos (gt_t.1 h)]; rfl
    · rw [show iBit .xor .u64 x y = xorU x y from rfl, h0] at h1; cases h1
    · have e : tRange x y = tOf x (2 ^ bitLen (xorU x y).toNat - 1) := by
        rw [tRange, if_neg (by have := gt_f.1 h; omega)]
      have e2 : iSub .u64 (iShl .u64 1 (len64 (iBit .xor .u64 x y))) 1 = 2 ^ bitLen (xorU x y).toNat - 1 := hs
      rw [e, e2]; rfl
    · rw [show iBit .xor .u64 x y = xorU x y from rfl, hx] at h1; cases h1
def s_tRange : Sum := bySum 173 [.s (some .u64), .s (some .u64)] fun
  | [a0, a1], [] => some ([isU a0, isU a1], .u (.agg [.si .u64 (tRange a0 a1).1, .si .u64 (tRange a0 a1).2]))
  | _, _ => none
theorem s_tRange_ok : SumOK Tryz.prog s_tRange := by
  refine bySum_ok ⟨_, Tryz.func173, by kernel_rfl⟩ ?_
  intro ns os bs r hm hb ρ w
  split at hm
  · rename_i a0 a1
    cases hm
    exact t_tRange a0 a1 (hb _ (by simp)) (hb _ (by simp)) ρ w
  · cases hm
theorem t_pNone (p : P2) (ρ : Nat → Nat) (w : World) : Calls Tryz.prog 73 (enV [.a [some .u64, some .u64]] ([p.1, p.2], [])).toArray w fun e w' => e = .returned (V.den ρ (.u (.c (.sb (pNone p))))) ∧ Below w.heap.size w w' := by
  refine pure_to nameOK okn (dOK okn) 300 [.u (.agg [.si .u64 p.1, .si .u64 p.2])] (T := (.leaf (.val (.u (.c (.sb (iLt p.2 p.1))))))) (by kernel_rfl) ρ rfl ?_ w
  · simp only [Tr.all]
    repeat' first | refine ⟨?_, ?_⟩ | intro _
    all_goals (refine congrArg Value.bool ?_; rw [Bool.eq_iff_iff]; simp only [pNone, pHas, pIn, pBoth, bNone, lt_t, lt_f, le_t, le_f, gt_t, gt_f, ge_t, ge_f, eq_t, eq_f, ne_t, ne_f, neg_t, neg_f, zero_t, zero_f, not_t, not_f, beq_t, beq_f, and_t, and_f, isU_iff, isU_f, isI_iff, isI_f, add_u, sub_u, conv_u, add_i, sub_i, conv_i, max_d, min_d, decide_eq_true_eq, decide_eq_false_iff_not, Bool.false_eq_true, false_iff, true_iff] at *; try omega)
def s_pNone : Sum := bySum 73 [.a [some .u64, some .u64]] fun
  | [a0, a1], [] => some ([], .u (.c (.sb (pNone (P2.mk a0 a1)))))
  | _, _ => none
theorem s_pNone_ok : SumOK Tryz.prog s_pNone := by
  refine bySum_ok ⟨_, Tryz.func73, by kernel_rfl⟩ ?_
  intro ns os bs r hm hb ρ w
  split at hm
  · rename_i a0 a1
    cases hm
    exact t_pNone (P2.mk a0 a1) ρ w
  · cases hm
theorem t_pNil (p : P2) (ρ : Nat → Nat) (w : World) : Calls Tryz.prog 74 (enV [.a [some .i64, some .i64]] ([p.1, p.2], [])).toArray w fun e w' => e = .returned (V.den ρ (.u (.c (.sb (pNone p))))) ∧ Below w.heap.size w w' := by
  refine pure_to nameOK okn (dOK okn) 300 [.u (.agg [.si .i64 p.1, .si .i64 p.2])] (T := (.leaf (.val (.u (.c (.sb (iLt p.2 p.1))))))) (by kernel_rfl) ρ rfl ?_ w
  · simp only [Tr.all]
    repeat' first | refine ⟨?_, ?_⟩ | intro _
    all_goals (refine congrArg Value.bool ?_; rw [Bool.eq_iff_iff]; simp only [pNone, pHas, pIn, pBoth, bNone, lt_t, lt_f, le_t, le_f, gt_t, gt_f, ge_t, ge_f, eq_t, eq_f, ne_t, ne_f, neg_t, neg_f, zero_t, zero_f, not_t, not_f, beq_t, beq_f, and_t, and_f, isU_iff, isU_f, isI_iff, isI_f, add_u, sub_u, conv_u, add_i, sub_i, conv_i, max_d, min_d, decide_eq_true_eq, decide_eq_false_iff_not, Bool.false_eq_true, false_iff, true_iff] at *; try omega)
def s_pNil : Sum := bySum 74 [.a [some .i64, some .i64]] fun
  | [a0, a1], [] => some ([], .u (.c (.sb (pNone (P2.mk a0 a1)))))
  | _, _ => none
theorem s_pNil_ok : SumOK Tryz.prog s_pNil := by
  refine bySum_ok ⟨_, Tryz.func74, by kernel_rfl⟩ ?_
  intro ns os bs r hm hb ρ w
  split at hm
  · rename_i a0 a1
    cases hm
    exact t_pNil (P2.mk a0 a1) ρ w
  · cases hm
theorem t_pHas (p : P2) (x : Int) (ρ : Nat → Nat) (w : World) : Calls Tryz.prog 63 (enV [.a [some .u64, some .u64], .s (some .u64)] ([p.1, p.2, x], [])).toArray w fun e w' => e = .returned (V.den ρ (.u (.c (.sb (pHas p x))))) ∧ Below w.heap.size w w' := by
  refine pure_to nameOK okn (dOK okn) 300 [.u (.agg [.si .u64 p.1, .si .u64 p.2]), .u (.c (.si .u64 x))] (T := (.br (iLe p.1 x) (.leaf (.val (.u (.c (.sb (iLe x p.2)))))) (.leaf (.val (.u (.c (.lb false))))))) (by kernel_rfl) ρ rfl ?_ w
  · simp only [Tr.all]
    repeat' first | refine ⟨?_, ?_⟩ | intro _
    all_goals (refine congrArg Value.bool ?_; rw [Bool.eq_iff_iff]; simp only [pNone, pHas, pIn, pBoth, bNone, lt_t, lt_f, le_t, le_f, gt_t, gt_f, ge_t, ge_f, eq_t, eq_f, ne_t, ne_f, neg_t, neg_f, zero_t, zero_f, not_t, not_f, beq_t, beq_f, and_t, and_f, isU_iff, isU_f, isI_iff, isI_f, add_u, sub_u, conv_u, add_i, sub_i, conv_i, max_d, min_d, decide_eq_true_eq, decide_eq_false_iff_not, Bool.false_eq_true, false_iff, true_iff] at *; try omega)
def s_pHas : Sum := bySum 63 [.a [some .u64, some .u64], .s (some .u64)] fun
  | [a0, a1, a2], [] => some ([], .u (.c (.sb (pHas (P2.mk a0 a1) a2))))
  | _, _ => none
theorem s_pHas_ok : SumOK Tryz.prog s_pHas := by
  refine bySum_ok ⟨_, Tryz.func63, by kernel_rfl⟩ ?_
  intro ns os bs r hm hb ρ w
  split at hm
  · rename_i a0 a1 a2
    cases hm
    exact t_pHas (P2.mk a0 a1) a2 ρ w
  · cases hm
theorem t_pHolds (p : P2) (x : Int) (ρ : Nat → Nat) (w : World) : Calls Tryz.prog 64 (enV [.a [some .i64, some .i64], .s (some .i64)] ([p.1, p.2, x], [])).toArray w fun e w' => e = .returned (V.den ρ (.u (.c (.sb (pHas p x))))) ∧ Below w.heap.size w w' := by
  refine pure_to nameOK okn (dOK okn) 300 [.u (.agg [.si .i64 p.1, .si .i64 p.2]), .u (.c (.si .i64 x))] (T := (.br (iLe p.1 x) (.leaf (.val (.u (.c (.sb (iLe x p.2)))))) (.leaf (.val (.u (.c (.lb false))))))) (by kernel_rfl) ρ rfl ?_ w
  · simp only [Tr.all]
    repeat' first | refine ⟨?_, ?_⟩ | intro _
    all_goals (refine congrArg Value.bool ?_; rw [Bool.eq_iff_iff]; simp only [pNone, pHas, pIn, pBoth, bNone, lt_t, lt_f, le_t, le_f, gt_t, gt_f, ge_t, ge_f, eq_t, eq_f, ne_t, ne_f, neg_t, neg_f, zero_t, zero_f, not_t, not_f, beq_t, beq_f, and_t, and_f, isU_iff, isU_f, isI_iff, isI_f, add_u, sub_u, conv_u, add_i, sub_i, conv_i, max_d, min_d, decide_eq_true_eq, decide_eq_false_iff_not, Bool.false_eq_true, false_iff, true_iff] at *; try omega)
def s_pHolds : Sum := bySum 64 [.a [some .i64, some .i64], .s (some .i64)] fun
  | [a0, a1, a2], [] => some ([], .u (.c (.sb (pHas (P2.mk a0 a1) a2))))
  | _, _ => none
theorem s_pHolds_ok : SumOK Tryz.prog s_pHolds := by
  refine bySum_ok ⟨_, Tryz.func64, by kernel_rfl⟩ ?_
  intro ns os bs r hm hb ρ w
  split at hm
  · rename_i a0 a1 a2
    cases hm
    exact t_pHolds (P2.mk a0 a1) a2 ρ w
  · cases hm
theorem t_pIn (p : P2) (q : P2) (ρ : Nat → Nat) (w : World) : Calls Tryz.prog 59 (enV [.a [some .u64, some .u64], .a [some .u64, some .u64]] ([p.1, p.2, q.1, q.2], [])).toArray w fun e w' => e = .returned (V.den ρ (.u (.c (.sb (pIn p q))))) ∧ Below w.heap.size w w' := by
  refine pure_to nameOK okn (dOK okn) 300 [.u (.agg [.si .u64 p.1, .si .u64 p.2]), .u (.agg [.si .u64 q.1, .si .u64 q.2])] (T := (.br (iLt p.2 p.1) (.leaf (.val (.u (.c (.lb true))))) (.br (iLe q.1 p.1) (.br (iLe p.1 q.2) (.br (iLe q.1 p.2) (.leaf (.val (.u (.c (.sb (iLe p.2 q.2)))))) (.leaf (.val (.u (.c (.lb false)))))) (.leaf (.val (.u (.c (.lb false)))))) (.leaf (.val (.u (.c (.lb false)))))))) (by kernel_rfl) ρ rfl ?_ w
  · simp only [Tr.all]
    repeat' first | refine ⟨?_, ?_⟩ | intro _
    all_goals (refine congrArg Value.bool ?_; rw [Bool.eq_iff_iff]; simp only [pNone, pHas, pIn, pBoth, bNone, lt_t, lt_f, le_t, le_f, gt_t, gt_f, ge_t, ge_f, eq_t, eq_f, ne_t, ne_f, neg_t, neg_f, zero_t, zero_f, not_t, not_f, beq_t, beq_f, and_t, and_f, isU_iff, isU_f, isI_iff, isI_f, add_u, sub_u, conv_u, add_i, sub_i, conv_i, max_d, min_d, decide_eq_true_eq, decide_eq_false_iff_not, Bool.false_eq_true, false_iff, true_iff] at *; try omega)
def s_pIn : Sum := bySum 59 [.a [some .u64, some .u64], .a [some .u64, some .u64]] fun
  | [a0, a1, a2, a3], [] => some ([], .u (.c (.sb (pIn (P2.mk a0 a1) (P2.mk a2 a3)))))
  | _, _ => none
theorem s_pIn_ok : SumOK Tryz.prog s_pIn := by
  refine bySum_ok ⟨_, Tryz.func59, by kernel_rfl⟩ ?_
  intro ns os bs r hm hb ρ w
  split at hm
  · rename_i a0 a1 a2 a3
    cases hm
    exact t_pIn (P2.mk a0 a1) (P2.mk a2 a3) ρ w
  · cases hm
theorem t_pBoth (p : P2) (q : P2) (ρ : Nat → Nat) (w : World) : Calls Tryz.prog 60 (enV [.a [some .i64, some .i64], .a [some .i64, some .i64]] ([p.1, p.2, q.1, q.2], [])).toArray w fun e w' => e = .returned (V.den ρ (.u (.c (.sb (pBoth p q))))) ∧ Below w.heap.size w w' := by
  refine pure_to nameOK okn (dOK okn) 300 [.u (.agg [.si .i64 p.1, .si .i64 p.2]), .u (.agg [.si .i64 q.1, .si .i64 q.2])] (T := (.br (iLe q.1 p.1) (.br (iLe p.1 q.2) (.br (iLe q.1 p.2) (.leaf (.val (.u (.c (.sb (iLe p.2 q.2)))))) (.leaf (.val (.u (.c (.lb false)))))) (.leaf (.val (.u (.c (.lb false)))))) (.leaf (.val (.u (.c (.lb false))))))) (by kernel_rfl) ρ rfl ?_ w
  · simp only [Tr.all]
    repeat' first | refine ⟨?_, ?_⟩ | intro _
    all_goals (refine congrArg Value.bool ?_; rw [Bool.eq_iff_iff]; simp only [pNone, pHas, pIn, pBoth, bNone, lt_t, lt_f, le_t, le_f, gt_t, gt_f, ge_t, ge_f, eq_t, eq_f, ne_t, ne_f, neg_t, neg_f, zero_t, zero_f, not_t, not_f, beq_t, beq_f, and_t, and_f, isU_iff, isU_f, isI_iff, isI_f, add_u, sub_u, conv_u, add_i, sub_i, conv_i, max_d, min_d, decide_eq_true_eq, decide_eq_false_iff_not, Bool.false_eq_true, false_iff, true_iff] at *; try omega)
def s_pBoth : Sum := bySum 60 [.a [some .i64, some .i64], .a [some .i64, some .i64]] fun
  | [a0, a1, a2, a3], [] => some ([], .u (.c (.sb (pBoth (P2.mk a0 a1) (P2.mk a2 a3)))))
  | _, _ => none
theorem s_pBoth_ok : SumOK Tryz.prog s_pBoth := by
  refine bySum_ok ⟨_, Tryz.func60, by kernel_rfl⟩ ?_
  intro ns os bs r hm hb ρ w
  split at hm
  · rename_i a0 a1 a2 a3
    cases hm
    exact t_pBoth (P2.mk a0 a1) (P2.mk a2 a3) ρ w
  · cases hm
theorem t_pMeet (p : P2) (q : P2) (ρ : Nat → Nat) (w : World) : Calls Tryz.prog 71 (enV [.a [some .u64, some .u64], .a [some .u64, some .u64]] ([p.1, p.2, q.1, q.2], [])).toArray w fun e w' => e = .returned (V.den ρ (.u (.agg [.si .u64 (pMeet p q).1, .si .u64 (pMeet p q).2]))) ∧ Below w.heap.size w w' := by
  refine pure_to nameOK okn (dOK okn) 300 [.u (.agg [.si .u64 p.1, .si .u64 p.2]), .u (.agg [.si .u64 q.1, .si .u64 q.2])] (T := (.br (iLt p.2 p.1) (.leaf (.val (.u (.agg [(.li .u64 1), (.li .u64 0)])))) (.br (iLt q.2 q.1) (.leaf (.val (.u (.agg [(.li .u64 1), (.li .u64 0)])))) (.br (iLt (iMin2 p.2 q.2) (iMax2 p.1 q.1)) (.leaf (.val (.u (.agg [(.li .u64 1), (.li .u64 0)])))) (.leaf (.val (.u (.agg [(.si .u64 (iMax2 p.1 q.1)), (.si .u64 (iMin2 p.2 q.2))])))))))) (by kernel_rfl) ρ rfl ?_ w
  · try simp only [isU_iff, isI_iff] at *
    simp only [Tr.all, lt_t, lt_f, le_t, le_f, gt_t, gt_f, ge_t, ge_f, eq_t, eq_f, ne_t, ne_f, neg_t, neg_f, zero_t, zero_f, not_t, not_f, beq_t, beq_f, and_t, and_f, isU_iff, isU_f, isI_iff, isI_f, add_u, sub_u, conv_u, add_i, sub_i, conv_i, max_d, min_d]
    repeat' first | refine ⟨?_, ?_⟩ | intro _
    all_goals first | omega | (refine V.pair (congrArg (Value.int _) ?_) (congrArg (Value.int _) ?_) <;> simp only [pMeet, pSign, pBare, sgn, uns] <;> (repeat' split) <;> (try dsimp only) <;> omega)
def s_pMeet : Sum := bySum 71 [.a [some .u64, some .u64], .a [some .u64, some .u64]] fun
  | [a0, a1, a2, a3], [] => some ([], .u (.agg [.si .u64 (pMeet (P2.mk a0 a1) (P2.mk a2 a3)).1, .si .u64 (pMeet (P2.mk a0 a1) (P2.mk a2 a3)).2]))
  | _, _ => none
theorem s_pMeet_ok : SumOK Tryz.prog s_pMeet := by
  refine bySum_ok ⟨_, Tryz.func71, by kernel_rfl⟩ ?_
  intro ns os bs r hm hb ρ w
  split at hm
  · rename_i a0 a1 a2 a3
    cases hm
    exact t_pMeet (P2.mk a0 a1) (P2.mk a2 a3) ρ w
  · cases hm
theorem t_pCut (p : P2) (q : P2) (ρ : Nat → Nat) (w : World) : Calls Tryz.prog 72 (enV [.a [some .i64, some .i64], .a [some .i64, some .i64]] ([p.1, p.2, q.1, q.2], [])).toArray w fun e w' => e = .returned (V.den ρ (.u (.agg [.si .i64 (pMeet p q).1, .si .i64 (pMeet p q).2]))) ∧ Below w.heap.size w w' := by
  refine pure_to nameOK okn (dOK okn) 300 [.u (.agg [.si .i64 p.1, .si .i64 p.2]), .u (.agg [.si .i64 q.1, .si .i64 q.2])] (T := (.br (iLt p.2 p.1) (.leaf (.val (.u (.agg [(.li .i64 1), (.li .i64 0)])))) (.br (iLt q.2 q.1) (.leaf (.val (.u (.agg [(.li .i64 1), (.li .i64 0)])))) (.br (iLt (iMin2 p.2 q.2) (iMax2 p.1 q.1)) (.leaf (.val (.u (.agg [(.li .i64 1), (.li .i64 0)])))) (.leaf (.val (.u (.agg [(.si .i64 (iMax2 p.1 q.1)), (.si .i64 (iMin2 p.2 q.2))])))))))) (by kernel_rfl) ρ rfl ?_ w
  · try simp only [isU_iff, isI_iff] at *
    simp only [Tr.all, lt_t, lt_f, le_t, le_f, gt_t, gt_f, ge_t, ge_f, eq_t, eq_f, ne_t, ne_f, neg_t, neg_f, zero_t, zero_f, not_t, not_f, beq_t, beq_f, and_t, and_f, isU_iff, isU_f, isI_iff, isI_f, add_u, sub_u, conv_u, add_i, sub_i, conv_i, max_d, min_d]
    repeat' first | refine ⟨?_, ?_⟩ | intro _
    all_goals first | omega | (refine V.pair (congrArg (Value.int _) ?_) (congrArg (Value.int _) ?_) <;> simp only [pMeet, pSign, pBare, sgn, uns] <;> (repeat' split) <;> (try dsimp only) <;> omega)
def s_pCut : Sum := bySum 72 [.a [some .i64, some .i64], .a [some .i64, some .i64]] fun
  | [a0, a1, a2, a3], [] => some ([], .u (.agg [.si .i64 (pMeet (P2.mk a0 a1) (P2.mk a2 a3)).1, .si .i64 (pMeet (P2.mk a0 a1) (P2.mk a2 a3)).2]))
  | _, _ => none
theorem s_pCut_ok : SumOK Tryz.prog s_pCut := by
  refine bySum_ok ⟨_, Tryz.func72, by kernel_rfl⟩ ?_
  intro ns os bs r hm hb ρ w
  split at hm
  · rename_i a0 a1 a2 a3
    cases hm
    exact t_pCut (P2.mk a0 a1) (P2.mk a2 a3) ρ w
  · cases hm
theorem t_bsign (x : Int) (ρ : Nat → Nat) (w : World) : Calls Tryz.prog 65 (enV [.s (some .u64)] ([x], [])).toArray w fun e w' => e = .returned (V.den ρ (.u (.c (.si .i64 (sg32 x))))) ∧ Below w.heap.size w w' := by
  refine pure_to nameOK okn (dOK okn) 300 [.u (.c (.si .u64 x))] (T := (.leaf (.val (.u (.c (.si .i64 (iConv .i64 (iConv .i32 x)))))))) (by kernel_rfl) ρ rfl ?_ w
  · simp only [Tr.all]
    exact congrArg (Value.int _) (conv_sg32 x)
def s_bsign : Sum := bySum 65 [.s (some .u64)] fun
  | [a0], [] => some ([], .u (.c (.si .i64 (sg32 a0))))
  | _, _ => none
theorem s_bsign_ok : SumOK Tryz.prog s_bsign := by
  refine bySum_ok ⟨_, Tryz.func65, by kernel_rfl⟩ ?_
  intro ns os bs r hm hb ρ w
  split at hm
  · rename_i a0
    cases hm
    exact t_bsign a0 ρ w
  · cases hm
theorem t_pSign (p : P2) (hb0 : isU p.1 = true) (hb1 : isU p.2 = true) (ρ : Nat → Nat) (w : World) : Calls Tryz.prog 170 (enV [.a [some .u64, some .u64]] ([p.1, p.2], [])).toArray w fun e w' => e = .returned (V.den ρ (.u (.agg [.si .i64 (pSign p).1, .si .i64 (pSign p).2]))) ∧ Below w.heap.size w w' := by
  refine pure_to nameOK okn (dOK okn) 300 [.u (.agg [.si .u64 p.1, .si .u64 p.2])] (T := (.br (iLt p.2 p.1) (.leaf (.val (.u (.agg [(.li .i64 1), (.li .i64 0)])))) (.br (bNot (bEq (iLt (iConv .i64 p.1) 0) (iLt (iConv .i64 p.2) 0))) (.leaf (.val (.u (.agg [(.li .i64 (-9223372036854775808)), (.li .i64 9223372036854775807)])))) (.leaf (.val (.u (.agg [(.si .i64 (iConv .i64 p.1)), (.si .i64 (iConv .i64 p.2))]))))))) (by kernel_rfl) ρ rfl ?_ w
  · try simp only [isU_iff, isI_iff] at *
    simp only [Tr.all, lt_t, lt_f, le_t, le_f, gt_t, gt_f, ge_t, ge_f, eq_t, eq_f, ne_t, ne_f, neg_t, neg_f, zero_t, zero_f, not_t, not_f, beq_t, beq_f, and_t, and_f, isU_iff, isU_f, isI_iff, isI_f, add_u, sub_u, conv_u, add_i, sub_i, conv_i, max_d, min_d]
    repeat' first | refine ⟨?_, ?_⟩ | intro _
    all_goals first | omega | (refine V.pair (congrArg (Value.int _) ?_) (congrArg (Value.int _) ?_) <;> simp only [pMeet, pSign, pBare, sgn, uns] <;> (repeat' split) <;> (try dsimp only) <;> omega)
def s_pSign : Sum := bySum 170 [.a [some .u64, some .u64]] fun
  | [a0, a1], [] => some ([isU (P2.mk a0 a1).1, isU (P2.mk a0 a1).2], .u (.agg [.si .i64 (pSign (P2.mk a0 a1)).1, .si .i64 (pSign (P2.mk a0 a1)).2]))
  | _, _ => none
theorem s_pSign_ok : SumOK Tryz.prog s_pSign := by
  refine bySum_ok ⟨_, Tryz.func170, by kernel_rfl⟩ ?_
  intro ns os bs r hm hb ρ w
  split at hm
  · rename_i a0 a1
    cases hm
    exact t_pSign (P2.mk a0 a1) (hb _ (by simp)) (hb _ (by simp)) ρ w
  · cases hm
theorem t_pBare (p : P2) (hb0 : isI p.1 = true) (hb1 : isI p.2 = true) (ρ : Nat → Nat) (w : World) : Calls Tryz.prog 171 (enV [.a [some .i64, some .i64]] ([p.1, p.2], [])).toArray w fun e w' => e = .returned (V.den ρ (.u (.agg [.si .u64 (pBare p).1, .si .u64 (pBare p).2]))) ∧ Below w.heap.size w w' := by
  refine pure_to nameOK okn (dOK okn) 300 [.u (.agg [.si .i64 p.1, .si .i64 p.2])] (T := (.br (iLt p.2 p.1) (.leaf (.val (.u (.agg [(.li .u64 1), (.li .u64 0)])))) (.br (bNot (bEq (iLt p.1 0) (iLt p.2 0))) (.leaf (.val (.u (.agg [(.li .u64 0), (.li .u64 18446744073709551615)])))) (.leaf (.val (.u (.agg [(.si .u64 (iConv .u64 p.1)), (.si .u64 (iConv .u64 p.2))]))))))) (by kernel_rfl) ρ rfl ?_ w
  · try simp only [isU_iff, isI_iff] at *
    simp only [Tr.all, lt_t, lt_f, le_t, le_f, gt_t, gt_f, ge_t, ge_f, eq_t, eq_f, ne_t, ne_f, neg_t, neg_f, zero_t, zero_f, not_t, not_f, beq_t, beq_f, and_t, and_f, isU_iff, isU_f, isI_iff, isI_f, add_u, sub_u, conv_u, add_i, sub_i, conv_i, max_d, min_d]
    repeat' first | refine ⟨?_, ?_⟩ | intro _
    all_goals first | omega | (refine V.pair (congrArg (Value.int _) ?_) (congrArg (Value.int _) ?_) <;> simp only [pMeet, pSign, pBare, sgn, uns] <;> (repeat' split) <;> (try dsimp only) <;> omega)
def s_pBare : Sum := bySum 171 [.a [some .i64, some .i64]] fun
  | [a0, a1], [] => some ([isI (P2.mk a0 a1).1, isI (P2.mk a0 a1).2], .u (.agg [.si .u64 (pBare (P2.mk a0 a1)).1, .si .u64 (pBare (P2.mk a0 a1)).2]))
  | _, _ => none
theorem s_pBare_ok : SumOK Tryz.prog s_pBare := by
  refine bySum_ok ⟨_, Tryz.func171, by kernel_rfl⟩ ?_
  intro ns os bs r hm hb ρ w
  split at hm
  · rename_i a0 a1
    cases hm
    exact t_pBare (P2.mk a0 a1) (hb _ (by simp)) (hb _ (by simp)) ρ w
  · cases hm
theorem t_bNone (b : Bd) (ρ : Nat → Nat) (w : World) : Calls Tryz.prog 30 (enV [.a [some .u64, some .u64, some .u64, some .u64, some .i64, some .i64, some .u64, some .u64, some .i64, some .i64]] ([b.1.1, b.1.2, b.2.1, b.2.2, b.3.1, b.3.2, b.4.1, b.4.2, b.5.1, b.5.2], [])).toArray w fun e w' => e = .returned (V.den ρ (.u (.c (.sb (bNone b))))) ∧ Below w.heap.size w w' := by
  refine pure_to nameOK (okc s_pNone_ok (okc s_pNil_ok okn)) (dOK (okc s_pNone_ok (okc s_pNil_ok okn))) 300 [.u (.agg (cB b))] (T := (.br (pNone b.2) (.leaf (.val (.u (.c (.lb true))))) (.br (pNone b.3) (.leaf (.val (.u (.c (.lb true))))) (.br (pNone b.4) (.leaf (.val (.u (.c (.lb true))))) (.leaf (.val (.u (.c (.sb (pNone b.5)))))))))) (by kernel_rfl) ρ rfl ?_ w
  · simp only [Tr.all]
    repeat' first | refine ⟨?_, ?_⟩ | intro _
    all_goals (refine congrArg Value.bool ?_; rw [Bool.eq_iff_iff]; simp only [pNone, pHas, pIn, pBoth, bNone, lt_t, lt_f, le_t, le_f, gt_t, gt_f, ge_t, ge_f, eq_t, eq_f, ne_t, ne_f, neg_t, neg_f, zero_t, zero_f, not_t, not_f, beq_t, beq_f, and_t, and_f, isU_iff, isU_f, isI_iff, isI_f, add_u, sub_u, conv_u, add_i, sub_i, conv_i, max_d, min_d, decide_eq_true_eq, decide_eq_false_iff_not, Bool.false_eq_true, false_iff, true_iff] at *; try omega)
def s_bNone : Sum := bySum 30 [.a [some .u64, some .u64, some .u64, some .u64, some .i64, some .i64, some .u64, some .u64, some .i64, some .i64]] fun
  | [a0, a1, a2, a3, a4, a5, a6, a7, a8, a9], [] => some ([], .u (.c (.sb (bNone (Bd.mk (P2.mk a0 a1) (P2.mk a2 a3) (P2.mk a4 a5) (P2.mk a6 a7) (P2.mk a8 a9))))))
  | _, _ => none
theorem s_bNone_ok : SumOK Tryz.prog s_bNone := by
  refine bySum_ok ⟨_, Tryz.func30, by kernel_rfl⟩ ?_
  intro ns os bs r hm hb ρ w
  split at hm
  · rename_i a0 a1 a2 a3 a4 a5 a6 a7 a8 a9
    cases hm
    exact t_bNone (Bd.mk (P2.mk a0 a1) (P2.mk a2 a3) (P2.mk a4 a5) (P2.mk a6 a7) (P2.mk a8 a9)) ρ w
  · cases hm
theorem t_st1 (b : Bd) (hb0 : isU b.1.1 = true) (hb1 : isU b.1.2 = true) (hb2 : isU b.2.1 = true) (hb3 : isU b.2.2 = true) (hb4 : isI b.3.1 = true) (hb5 : isI b.3.2 = true) (hb6 : isU b.4.1 = true) (hb7 : isU b.4.2 = true) (hb8 : isI b.5.1 = true) (hb9 : isI b.5.2 = true) (ρ : Nat → Nat) (bk x : Nat) (w : World) (hbk : w.heap[bk]? = some (.cells (enL [some .u64, some .u64, some .u64, some .u64, some .i64, some .i64, some .u64, some .u64, some .i64, some .i64] ([b.1.1, b.1.2, b.2.1, b.2.2, b.3.1, b.3.2, b.4.1, b.4.2, b.5.1, b.5.2], [])).1.toArray 33 (0, 0))) (hx : w.heap[x]? = some (.cells #[.pointer (some ⟨bk, 0, none⟩)] 93 (0, 0))) (hne : x ≠ bk) : Calls Tryz.prog 167 (.pointer (some ⟨x, 0, none⟩) :: enV [] (enL [some .u64, some .u64, some .u64, some .u64, some .i64, some .i64, some .u64, some .u64, some .i64, some .i64] ([b.1.1, b.1.2, b.2.1, b.2.2, b.3.1, b.3.2, b.4.1, b.4.2, b.5.1, b.5.2], [])).2).toArray w fun e w' => e = .returned (U.den ρ (.c (.sb (st1 b).2))) ∧ Sx.Touch bk w w' ∧ w'.heap[bk]? = some (.cells (dens ρ [.si .u64 ((st1 b).1).1.1, .si .u64 ((st1 b).1).1.2, .si .u64 ((st1 b).1).2.1, .si .u64 ((st1 b).1).2.2, .si .i64 ((st1 b).1).3.1, .si .i64 ((st1 b).1).3.2, .si .u64 ((st1 b).1).4.1, .si .u64 ((st1 b).1).4.2, .si .i64 ((st1 b).1).5.1, .si .i64 ((st1 b).1).5.2]) 33 (0, 0)) := by
  refine box_to nameOK (okc s_bsign_ok (okc s_pMeet_ok (okc s_pCut_ok (okc s_pSign_ok (okc s_pBare_ok (okc s_tRange_ok (okc s_tMeet_ok okn))))))) (dOK (okc s_bsign_ok (okc s_pMeet_ok (okc s_pCut_ok (okc s_pSign_ok (okc s_pBare_ok (okc s_tRange_ok (okc s_tMeet_ok okn)))))))) 300 [.si .u64 b.1.1, .si .u64 b.1.2, .si .u64 b.2.1, .si .u64 b.2.2, .si .i64 b.3.1, .si .i64 b.3.2, .si .u64 b.4.1, .si .u64 b.4.2, .si .i64 b.5.1, .si .i64 b.5.2] 33 93 [] (T := (.leaf (.val (.tup [(.agg [(.si .u64 b.1.1), (.si .u64 b.1.2), (.si .u64 (pMeet b.2 (.mk b.1.1 (iBit .or .u64 b.1.1 b.1.2))).1), (.si .u64 (pMeet b.2 (.mk b.1.1 (iBit .or .u64 b.1.1 b.1.2))).2), (.si .i64 (pMeet b.3 (.mk (iConv .i64 (iBit .or .u64 b.1.1 (iBit .and .u64 b.1.2 9223372036854775808))) (iConv .i64 (iBit .or .u64 b.1.1 (iBit .andNot .u64 b.1.2 9223372036854775808))))).1), (.si .i64 (pMeet b.3 (.mk (iConv .i64 (iBit .or .u64 b.1.1 (iBit .and .u64 b.1.2 9223372036854775808))) (iConv .i64 (iBit .or .u64 b.1.1 (iBit .andNot .u64 b.1.2 9223372036854775808))))).2), (.si .u64 b.4.1), (.si .u64 b.4.2), (.si .i64 b.5.1), (.si .i64 b.5.2)]), (.c (.lb true))])))) (by kernel_rfl) ρ rfl rfl ?_ bk x w hbk hx hne
  · have e1 : iConv .i64 (iBit .or .u64 b.1.1 (iBit .and .u64 b.1.2 9223372036854775808)) = sgn (orU b.t.lo (andU b.t.hi 9223372036854775808)) := conv_sgn (or_u hb0 (and_u hb1 (by decide)))
    have e2 : iConv .i64 (iBit .or .u64 b.1.1 (iBit .andNot .u64 b.1.2 9223372036854775808)) = sgn (orU b.t.lo (notU b.t.hi 9223372036854775808)) := conv_sgn (or_u hb0 (not_u hb1 (by decide)))
    simp only [Tr.all, e1, e2]
    rfl
def s_st1 : Sum := boxSum 167 33 93 [some .u64, some .u64, some .u64, some .u64, some .i64, some .i64, some .u64, some .u64, some .i64, some .i64] [] fun
  | [a0, a1, a2, a3, a4, a5, a6, a7, a8, a9], [] => some ([isU (Bd.mk (P2.mk a0 a1) (P2.mk a2 a3) (P2.mk a4 a5) (P2.mk a6 a7) (P2.mk a8 a9)).1.1, isU (Bd.mk (P2.mk a0 a1) (P2.mk a2 a3) (P2.mk a4 a5) (P2.mk a6 a7) (P2.mk a8 a9)).1.2, isU (Bd.mk (P2.mk a0 a1) (P2.mk a2 a3) (P2.mk a4 a5) (P2.mk a6 a7) (P2.mk a8 a9)).2.1, isU (Bd.mk (P2.mk a0 a1) (P2.mk a2 a3) (P2.mk a4 a5) (P2.mk a6 a7) (P2.mk a8 a9)).2.2, isI (Bd.mk (P2.mk a0 a1) (P2.mk a2 a3) (P2.mk a4 a5) (P2.mk a6 a7) (P2.mk a8 a9)).3.1, isI (Bd.mk (P2.mk a0 a1) (P2.mk a2 a3) (P2.mk a4 a5) (P2.mk a6 a7) (P2.mk a8 a9)).3.2, isU (Bd.mk (P2.mk a0 a1) (P2.mk a2 a3) (P2.mk a4 a5) (P2.mk a6 a7) (P2.mk a8 a9)).4.1, isU (Bd.mk (P2.mk a0 a1) (P2.mk a2 a3) (P2.mk a4 a5) (P2.mk a6 a7) (P2.mk a8 a9)).4.2, isI (Bd.mk (P2.mk a0 a1) (P2.mk a2 a3) (P2.mk a4 a5) (P2.mk a6 a7) (P2.mk a8 a9)).5.1, isI (Bd.mk (P2.mk a0 a1) (P2.mk a2 a3) (P2.mk a4 a5) (P2.mk a6 a7) (P2.mk a8 a9)).5.2], .tup [.agg (cB ((st1 (Bd.mk (P2.mk a0 a1) (P2.mk a2 a3) (P2.mk a4 a5) (P2.mk a6 a7) (P2.mk a8 a9))).1)), .c (.sb ((st1 (Bd.mk (P2.mk a0 a1) (P2.mk a2 a3) (P2.mk a4 a5) (P2.mk a6 a7) (P2.mk a8 a9))).2))])
  | _, _ => none
theorem s_st1_ok : SumOK Tryz.prog s_st1 := by
  refine boxSum_ok ⟨_, Tryz.func167, by kernel_rfl⟩ ?_
  intro ns os bs new u hm hb ρ bk x w hbk hx hne
  split at hm
  · rename_i a0 a1 a2 a3 a4 a5 a6 a7 a8 a9
    cases hm
    exact t_st1 (Bd.mk (P2.mk a0 a1) (P2.mk a2 a3) (P2.mk a4 a5) (P2.mk a6 a7) (P2.mk a8 a9)) (hb _ (by simp)) (hb _ (by simp)) (hb _ (by simp)) (hb _ (by simp)) (hb _ (by simp)) (hb _ (by simp)) (hb _ (by simp)) (hb _ (by simp)) (hb _ (by simp)) (hb _ (by simp)) ρ bk x w hbk hx hne
  · cases hm
theorem t_st2 (b : Bd) (hb0 : isU b.1.1 = true) (hb1 : isU b.1.2 = true) (hb2 : isU b.2.1 = true) (hb3 : isU b.2.2 = true) (hb4 : isI b.3.1 = true) (hb5 : isI b.3.2 = true) (hb6 : isU b.4.1 = true) (hb7 : isU b.4.2 = true) (hb8 : isI b.5.1 = true) (hb9 : isI b.5.2 = true) (ρ : Nat → Nat) (bk x : Nat) (w : World) (hbk : w.heap[bk]? = some (.cells (enL [some .u64, some .u64, some .u64, some .u64, some .i64, some .i64, some .u64, some .u64, some .i64, some .i64] ([b.1.1, b.1.2, b.2.1, b.2.2, b.3.1, b.3.2, b.4.1, b.4.2, b.5.1, b.5.2], [])).1.toArray 33 (0, 0))) (hx : w.heap[x]? = some (.cells #[.pointer (some ⟨bk, 0, none⟩)] 93 (0, 0))) (hne : x ≠ bk) : Calls Tryz.prog 169 (.pointer (some ⟨x, 0, none⟩) :: enV [] (enL [some .u64, some .u64, some .u64, some .u64, some .i64, some .i64, some .u64, some .u64, some .i64, some .i64] ([b.1.1, b.1.2, b.2.1, b.2.2, b.3.1, b.3.2, b.4.1, b.4.2, b.5.1, b.5.2], [])).2).toArray w fun e w' => e = .returned (U.den ρ (.c (.sb (st2 b).2))) ∧ Sx.Touch bk w w' ∧ w'.heap[bk]? = some (.cells (dens ρ [.si .u64 ((st2 b).1).1.1, .si .u64 ((st2 b).1).1.2, .si .u64 ((st2 b).1).2.1, .si .u64 ((st2 b).1).2.2, .si .i64 ((st2 b).1).3.1, .si .i64 ((st2 b).1).3.2, .si .u64 ((st2 b).1).4.1, .si .u64 ((st2 b).1).4.2, .si .i64 ((st2 b).1).5.1, .si .i64 ((st2 b).1).5.2]) 33 (0, 0)) := by
  refine box_to nameOK (okc s_bsign_ok (okc s_pMeet_ok (okc s_pCut_ok (okc s_pSign_ok (okc s_pBare_ok (okc s_tRange_ok (okc s_tMeet_ok okn))))))) (dOK (okc s_bsign_ok (okc s_pMeet_ok (okc s_pCut_ok (okc s_pSign_ok (okc s_pBare_ok (okc s_tRange_ok (okc s_tMeet_ok okn)))))))) 300 [.si .u64 b.1.1, .si .u64 b.1.2, .si .u64 b.2.1, .si .u64 b.2.2, .si .i64 b.3.1, .si .i64 b.3.2, .si .u64 b.4.1, .si .u64 b.4.2, .si .i64 b.5.1, .si .i64 b.5.2] 33 93 [] (T := (.br (isU b.2.1) (.br (isU b.2.2) (.br (isI (pMeet b.3 (pSign b.2)).1) (.br (isI (pMeet b.3 (pSign b.2)).2) (.leaf (.val (.tup [(.agg [(.si .u64 b.1.1), (.si .u64 b.1.2), (.si .u64 (pMeet b.2 (pBare (pMeet b.3 (pSign b.2)))).1), (.si .u64 (pMeet b.2 (pBare (pMeet b.3 (pSign b.2)))).2), (.si .i64 (pMeet b.3 (pSign b.2)).1), (.si .i64 (pMeet b.3 (pSign b.2)).2), (.si .u64 b.4.1), (.si .u64 b.4.2), (.si .i64 b.5.1), (.si .i64 b.5.2)]), (.c (.lb true))]))) (.no 98)) (.no 98)) (.no 98)) (.no 98))) (by kernel_rfl) ρ rfl rfl ?_ bk x w hbk hx hne
  · have hs : II (pMeet b.s (pSign b.u)) := meet_ii ⟨isI_iff.1 hb4, isI_iff.1 hb5⟩ (sign_ii ⟨hb2, hb3⟩)
    have e1 : isI (pMeet b.s (pSign b.u)).1 = true := isI_iff.2 hs.1
    have e2 : isI (pMeet b.s (pSign b.u)).2 = true := isI_iff.2 hs.2
    simp only [Tr.all]
    refine ⟨fun _ => ⟨fun _ => ⟨fun _ => ⟨fun _ => rfl, fun h => ?_⟩, fun h => ?_⟩, fun h => ?_⟩, fun h => ?_⟩
    · rw [show isI (pMeet b.3 (pSign b.2)).2 = true from e2] at h; cases h
    · rw [show isI (pMeet b.3 (pSign b.2)).1 = true from e1] at h; cases h
    · rw [show isU b.2.2 = true from hb3] at h; cases h
    · rw [show isU b.2.1 = true from hb2] at h; cases h
def s_st2 : Sum := boxSum 169 33 93 [some .u64, some .u64, some .u64, some .u64, some .i64, some .i64, some .u64, some .u64, some .i64, some .i64] [] fun
  | [a0, a1, a2, a3, a4, a5, a6, a7, a8, a9], [] => some ([isU (Bd.mk (P2.mk a0 a1) (P2.mk a2 a3) (P2.mk a4 a5) (P2.mk a6 a7) (P2.mk a8 a9)).1.1, isU (Bd.mk (P2.mk a0 a1) (P2.mk a2 a3) (P2.mk a4 a5) (P2.mk a6 a7) (P2.mk a8 a9)).1.2, isU (Bd.mk (P2.mk a0 a1) (P2.mk a2 a3) (P2.mk a4 a5) (P2.mk a6 a7) (P2.mk a8 a9)).2.1, isU (Bd.mk (P2.mk a0 a1) (P2.mk a2 a3) (P2.mk a4 a5) (P2.mk a6 a7) (P2.mk a8 a9)).2.2, isI (Bd.mk (P2.mk a0 a1) (P2.mk a2 a3) (P2.mk a4 a5) (P2.mk a6 a7) (P2.mk a8 a9)).3.1, isI (Bd.mk (P2.mk a0 a1) (P2.mk a2 a3) (P2.mk a4 a5) (P2.mk a6 a7) (P2.mk a8 a9)).3.2, isU (Bd.mk (P2.mk a0 a1) (P2.mk a2 a3) (P2.mk a4 a5) (P2.mk a6 a7) (P2.mk a8 a9)).4.1, isU (Bd.mk (P2.mk a0 a1) (P2.mk a2 a3) (P2.mk a4 a5) (P2.mk a6 a7) (P2.mk a8 a9)).4.2, isI (Bd.mk (P2.mk a0 a1) (P2.mk a2 a3) (P2.mk a4 a5) (P2.mk a6 a7) (P2.mk a8 a9)).5.1, isI (Bd.mk (P2.mk a0 a1) (P2.mk a2 a3) (P2.mk a4 a5) (P2.mk a6 a7) (P2.mk a8 a9)).5.2], .tup [.agg (cB ((st2 (Bd.mk (P2.mk a0 a1) (P2.mk a2 a3) (P2.mk a4 a5) (P2.mk a6 a7) (P2.mk a8 a9))).1)), .c (.sb ((st2 (Bd.mk (P2.mk a0 a1) (P2.mk a2 a3) (P2.mk a4 a5) (P2.mk a6 a7) (P2.mk a8 a9))).2))])
  | _, _ => none
theorem s_st2_ok : SumOK Tryz.prog s_st2 := by
  refine boxSum_ok ⟨_, Tryz.func169, by kernel_rfl⟩ ?_
  intro ns os bs new u hm hb ρ bk x w hbk hx hne
  split at hm
  · rename_i a0 a1 a2 a3 a4 a5 a6 a7 a8 a9
    cases hm
    exact t_st2 (Bd.mk (P2.mk a0 a1) (P2.mk a2 a3) (P2.mk a4 a5) (P2.mk a6 a7) (P2.mk a8 a9)) (hb _ (by simp)) (hb _ (by simp)) (hb _ (by simp)) (hb _ (by simp)) (hb _ (by simp)) (hb _ (by simp)) (hb _ (by simp)) (hb _ (by simp)) (hb _ (by simp)) (hb _ (by simp)) ρ bk x w hbk hx hne
  · cases hm
theorem t_st3 (b : Bd) (hb0 : isU b.1.1 = true) (hb1 : isU b.1.2 = true) (hb2 : isU b.2.1 = true) (hb3 : isU b.2.2 = true) (hb4 : isI b.3.1 = true) (hb5 : isI b.3.2 = true) (hb6 : isU b.4.1 = true) (hb7 : isU b.4.2 = true) (hb8 : isI b.5.1 = true) (hb9 : isI b.5.2 = true) (ρ : Nat → Nat) (bk x : Nat) (w : World) (hbk : w.heap[bk]? = some (.cells (enL [some .u64, some .u64, some .u64, some .u64, some .i64, some .i64, some .u64, some .u64, some .i64, some .i64] ([b.1.1, b.1.2, b.2.1, b.2.2, b.3.1, b.3.2, b.4.1, b.4.2, b.5.1, b.5.2], [])).1.toArray 33 (0, 0))) (hx : w.heap[x]? = some (.cells #[.pointer (some ⟨bk, 0, none⟩)] 93 (0, 0))) (hne : x ≠ bk) : Calls Tryz.prog 172 (.pointer (some ⟨x, 0, none⟩) :: enV [] (enL [some .u64, some .u64, some .u64, some .u64, some .i64, some .i64, some .u64, some .u64, some .i64, some .i64] ([b.1.1, b.1.2, b.2.1, b.2.2, b.3.1, b.3.2, b.4.1, b.4.2, b.5.1, b.5.2], [])).2).toArray w fun e w' => e = .returned (U.den ρ (.c (.sb (st3 b).2))) ∧ Sx.Touch bk w w' ∧ w'.heap[bk]? = some (.cells (dens ρ [.si .u64 ((st3 b).1).1.1, .si .u64 ((st3 b).1).1.2, .si .u64 ((st3 b).1).2.1, .si .u64 ((st3 b).1).2.2, .si .i64 ((st3 b).1).3.1, .si .i64 ((st3 b).1).3.2, .si .u64 ((st3 b).1).4.1, .si .u64 ((st3 b).1).4.2, .si .i64 ((st3 b).1).5.1, .si .i64 ((st3 b).1).5.2]) 33 (0, 0)) := by
  refine box_to nameOK (okc s_bsign_ok (okc s_pMeet_ok (okc s_pCut_ok (okc s_pSign_ok (okc s_pBare_ok (okc s_tRange_ok (okc s_tMeet_ok okn))))))) (dOK (okc s_bsign_ok (okc s_pMeet_ok (okc s_pCut_ok (okc s_pSign_ok (okc s_pBare_ok (okc s_tRange_ok (okc s_tMeet_ok okn)))))))) 300 [.si .u64 b.1.1, .si .u64 b.1.2, .si .u64 b.2.1, .si .u64 b.2.2, .si .i64 b.3.1, .si .i64 b.3.2, .si .u64 b.4.1, .si .u64 b.4.2, .si .i64 b.5.1, .si .i64 b.5.2] 33 93 [] (T := (.br (isU b.2.1) (.br (isU b.2.2) (.br (tMeetIs b.1 (tRange b.2.1 b.2.2)) (.leaf (.val (.tup [(.agg [(.si .u64 (tMeet b.1 (tRange b.2.1 b.2.2)).1), (.si .u64 (tMeet b.1 (tRange b.2.1 b.2.2)).2), (.si .u64 b.2.1), (.si .u64 b.2.2), (.si .i64 b.3.1), (.si .i64 b.3.2), (.si .u64 b.4.1), (.si .u64 b.4.2), (.si .i64 b.5.1), (.si .i64 b.5.2)]), (.c (.sb (tMeetIs b.1 (tRange b.2.1 b.2.2))))]))) (.leaf (.val (.tup [(.agg (cB b)), (.c (.sb (tMeetIs b.1 (tRange b.2.1 b.2.2))))])))) (.no 98)) (.no 98))) (by kernel_rfl) ρ rfl rfl ?_ bk x w hbk hx hne
  · refine askB hb2 (askB hb3 (br2 (fun h => ?_) (fun h => ?_)))
    · have e : st3 b = ({ b with t := tMeet b.t (tRange b.u.lo b.u.hi) }, true) := by simp only [st3, meetT, h]
      simp only [Tr.all, e, h]; try rfl
    · have e : st3 b = (b, false) := by simp only [st3, meetT, h]
      simp only [Tr.all, e, h]; try rfl
def s_st3 : Sum := boxSum 172 33 93 [some .u64, some .u64, some .u64, some .u64, some .i64, some .i64, some .u64, some .u64, some .i64, some .i64] [] fun
  | [a0, a1, a2, a3, a4, a5, a6, a7, a8, a9], [] => some ([isU (Bd.mk (P2.mk a0 a1) (P2.mk a2 a3) (P2.mk a4 a5) (P2.mk a6 a7) (P2.mk a8 a9)).1.1, isU (Bd.mk (P2.mk a0 a1) (P2.mk a2 a3) (P2.mk a4 a5) (P2.mk a6 a7) (P2.mk a8 a9)).1.2, isU (Bd.mk (P2.mk a0 a1) (P2.mk a2 a3) (P2.mk a4 a5) (P2.mk a6 a7) (P2.mk a8 a9)).2.1, isU (Bd.mk (P2.mk a0 a1) (P2.mk a2 a3) (P2.mk a4 a5) (P2.mk a6 a7) (P2.mk a8 a9)).2.2, isI (Bd.mk (P2.mk a0 a1) (P2.mk a2 a3) (P2.mk a4 a5) (P2.mk a6 a7) (P2.mk a8 a9)).3.1, isI (Bd.mk (P2.mk a0 a1) (P2.mk a2 a3) (P2.mk a4 a5) (P2.mk a6 a7) (P2.mk a8 a9)).3.2, isU (Bd.mk (P2.mk a0 a1) (P2.mk a2 a3) (P2.mk a4 a5) (P2.mk a6 a7) (P2.mk a8 a9)).4.1, isU (Bd.mk (P2.mk a0 a1) (P2.mk a2 a3) (P2.mk a4 a5) (P2.mk a6 a7) (P2.mk a8 a9)).4.2, isI (Bd.mk (P2.mk a0 a1) (P2.mk a2 a3) (P2.mk a4 a5) (P2.mk a6 a7) (P2.mk a8 a9)).5.1, isI (Bd.mk (P2.mk a0 a1) (P2.mk a2 a3) (P2.mk a4 a5) (P2.mk a6 a7) (P2.mk a8 a9)).5.2], .tup [.agg (cB ((st3 (Bd.mk (P2.mk a0 a1) (P2.mk a2 a3) (P2.mk a4 a5) (P2.mk a6 a7) (P2.mk a8 a9))).1)), .c (.sb ((st3 (Bd.mk (P2.mk a0 a1) (P2.mk a2 a3) (P2.mk a4 a5) (P2.mk a6 a7) (P2.mk a8 a9))).2))])
  | _, _ => none
theorem s_st3_ok : SumOK Tryz.prog s_st3 := by
  refine boxSum_ok ⟨_, Tryz.func172, by kernel_rfl⟩ ?_
  intro ns os bs new u hm hb ρ bk x w hbk hx hne
  split at hm
  · rename_i a0 a1 a2 a3 a4 a5 a6 a7 a8 a9
    cases hm
    exact t_st3 (Bd.mk (P2.mk a0 a1) (P2.mk a2 a3) (P2.mk a4 a5) (P2.mk a6 a7) (P2.mk a8 a9)) (hb _ (by simp)) (hb _ (by simp)) (hb _ (by simp)) (hb _ (by simp)) (hb _ (by simp)) (hb _ (by simp)) (hb _ (by simp)) (hb _ (by simp)) (hb _ (by simp)) (hb _ (by simp)) ρ bk x w hbk hx hne
  · cases hm
theorem t_st4 (b : Bd) (hb0 : isU b.1.1 = true) (hb1 : isU b.1.2 = true) (hb2 : isU b.2.1 = true) (hb3 : isU b.2.2 = true) (hb4 : isI b.3.1 = true) (hb5 : isI b.3.2 = true) (hb6 : isU b.4.1 = true) (hb7 : isU b.4.2 = true) (hb8 : isI b.5.1 = true) (hb9 : isI b.5.2 = true) (ρ : Nat → Nat) (bk x : Nat) (w : World) (hbk : w.heap[bk]? = some (.cells (enL [some .u64, some .u64, some .u64, some .u64, some .i64, some .i64, some .u64, some .u64, some .i64, some .i64] ([b.1.1, b.1.2, b.2.1, b.2.2, b.3.1, b.3.2, b.4.1, b.4.2, b.5.1, b.5.2], [])).1.toArray 33 (0, 0))) (hx : w.heap[x]? = some (.cells #[.pointer (some ⟨bk, 0, none⟩)] 93 (0, 0))) (hne : x ≠ bk) : Calls Tryz.prog 174 (.pointer (some ⟨x, 0, none⟩) :: enV [] (enL [some .u64, some .u64, some .u64, some .u64, some .i64, some .i64, some .u64, some .u64, some .i64, some .i64] ([b.1.1, b.1.2, b.2.1, b.2.2, b.3.1, b.3.2, b.4.1, b.4.2, b.5.1, b.5.2], [])).2).toArray w fun e w' => e = .returned (U.den ρ (.c (.sb (st4 b).2))) ∧ Sx.Touch bk w w' ∧ w'.heap[bk]? = some (.cells (dens ρ [.si .u64 ((st4 b).1).1.1, .si .u64 ((st4 b).1).1.2, .si .u64 ((st4 b).1).2.1, .si .u64 ((st4 b).1).2.2, .si .i64 ((st4 b).1).3.1, .si .i64 ((st4 b).1).3.2, .si .u64 ((st4 b).1).4.1, .si .u64 ((st4 b).1).4.2, .si .i64 ((st4 b).1).5.1, .si .i64 ((st4 b).1).5.2]) 33 (0, 0)) := by
  refine box_to nameOK (okc s_bsign_ok (okc s_pMeet_ok (okc s_pCut_ok (okc s_pSign_ok (okc s_pBare_ok (okc s_tRange_ok (okc s_tMeet_ok okn))))))) (dOK (okc s_bsign_ok (okc s_pMeet_ok (okc s_pCut_ok (okc s_pSign_ok (okc s_pBare_ok (okc s_tRange_ok (okc s_tMeet_ok okn)))))))) 300 [.si .u64 b.1.1, .si .u64 b.1.2, .si .u64 b.2.1, .si .u64 b.2.2, .si .i64 b.3.1, .si .i64 b.3.2, .si .u64 b.4.1, .si .u64 b.4.2, .si .i64 b.5.1, .si .i64 b.5.2] 33 93 [] (T := (.leaf (.val (.tup [(.agg [(.si .u64 b.1.1), (.si .u64 b.1.2), (.si .u64 b.2.1), (.si .u64 b.2.2), (.si .i64 b.3.1), (.si .i64 b.3.2), (.si .u64 (pMeet b.4 (.mk (iBit .and .u64 b.1.1 4294967295) (iBit .or .u64 (iBit .and .u64 b.1.1 4294967295) (iBit .and .u64 b.1.2 4294967295)))).1), (.si .u64 (pMeet b.4 (.mk (iBit .and .u64 b.1.1 4294967295) (iBit .or .u64 (iBit .and .u64 b.1.1 4294967295) (iBit .and .u64 b.1.2 4294967295)))).2), (.si .i64 (pMeet b.5 (.mk (sg32 (iBit .or .u64 (iBit .and .u64 b.1.1 4294967295) (iBit .and .u64 (iBit .and .u64 b.1.2 4294967295) 2147483648))) (sg32 (iBit .or .u64 (iBit .and .u64 b.1.1 4294967295) (iBit .andNot .u64 (iBit .and .u64 b.1.2 4294967295) 2147483648))))).1), (.si .i64 (pMeet b.5 (.mk (sg32 (iBit .or .u64 (iBit .and .u64 b.1.1 4294967295) (iBit .and .u64 (iBit .and .u64 b.1.2 4294967295) 2147483648))) (sg32 (iBit .or .u64 (iBit .and .u64 b.1.1 4294967295) (iBit .andNot .u64 (iBit .and .u64 b.1.2 4294967295) 2147483648))))).2)]), (.c (.lb true))])))) (by kernel_rfl) ρ rfl rfl ?_ bk x w hbk hx hne
  · simp only [Tr.all]; try rfl
def s_st4 : Sum := boxSum 174 33 93 [some .u64, some .u64, some .u64, some .u64, some .i64, some .i64, some .u64, some .u64, some .i64, some .i64] [] fun
  | [a0, a1, a2, a3, a4, a5, a6, a7, a8, a9], [] => some ([isU (Bd.mk (P2.mk a0 a1) (P2.mk a2 a3) (P2.mk a4 a5) (P2.mk a6 a7) (P2.mk a8 a9)).1.1, isU (Bd.mk (P2.mk a0 a1) (P2.mk a2 a3) (P2.mk a4 a5) (P2.mk a6 a7) (P2.mk a8 a9)).1.2, isU (Bd.mk (P2.mk a0 a1) (P2.mk a2 a3) (P2.mk a4 a5) (P2.mk a6 a7) (P2.mk a8 a9)).2.1, isU (Bd.mk (P2.mk a0 a1) (P2.mk a2 a3) (P2.mk a4 a5) (P2.mk a6 a7) (P2.mk a8 a9)).2.2, isI (Bd.mk (P2.mk a0 a1) (P2.mk a2 a3) (P2.mk a4 a5) (P2.mk a6 a7) (P2.mk a8 a9)).3.1, isI (Bd.mk (P2.mk a0 a1) (P2.mk a2 a3) (P2.mk a4 a5) (P2.mk a6 a7) (P2.mk a8 a9)).3.2, isU (Bd.mk (P2.mk a0 a1) (P2.mk a2 a3) (P2.mk a4 a5) (P2.mk a6 a7) (P2.mk a8 a9)).4.1, isU (Bd.mk (P2.mk a0 a1) (P2.mk a2 a3) (P2.mk a4 a5) (P2.mk a6 a7) (P2.mk a8 a9)).4.2, isI (Bd.mk (P2.mk a0 a1) (P2.mk a2 a3) (P2.mk a4 a5) (P2.mk a6 a7) (P2.mk a8 a9)).5.1, isI (Bd.mk (P2.mk a0 a1) (P2.mk a2 a3) (P2.mk a4 a5) (P2.mk a6 a7) (P2.mk a8 a9)).5.2], .tup [.agg (cB ((st4 (Bd.mk (P2.mk a0 a1) (P2.mk a2 a3) (P2.mk a4 a5) (P2.mk a6 a7) (P2.mk a8 a9))).1)), .c (.sb ((st4 (Bd.mk (P2.mk a0 a1) (P2.mk a2 a3) (P2.mk a4 a5) (P2.mk a6 a7) (P2.mk a8 a9))).2))])
  | _, _ => none
theorem s_st4_ok : SumOK Tryz.prog s_st4 := by
  refine boxSum_ok ⟨_, Tryz.func174, by kernel_rfl⟩ ?_
  intro ns os bs new u hm hb ρ bk x w hbk hx hne
  split at hm
  · rename_i a0 a1 a2 a3 a4 a5 a6 a7 a8 a9
    cases hm
    exact t_st4 (Bd.mk (P2.mk a0 a1) (P2.mk a2 a3) (P2.mk a4 a5) (P2.mk a6 a7) (P2.mk a8 a9)) (hb _ (by simp)) (hb _ (by simp)) (hb _ (by simp)) (hb _ (by simp)) (hb _ (by simp)) (hb _ (by simp)) (hb _ (by simp)) (hb _ (by simp)) (hb _ (by simp)) (hb _ (by simp)) ρ bk x w hbk hx hne
  · cases hm
theorem t_st5 (b : Bd) (hb0 : isU b.1.1 = true) (hb1 : isU b.1.2 = true) (hb2 : isU b.2.1 = true) (hb3 : isU b.2.2 = true) (hb4 : isI b.3.1 = true) (hb5 : isI b.3.2 = true) (hb6 : isU b.4.1 = true) (hb7 : isU b.4.2 = true) (hb8 : isI b.5.1 = true) (hb9 : isI b.5.2 = true) (ρ : Nat → Nat) (bk x : Nat) (w : World) (hbk : w.heap[bk]? = some (.cells (enL [some .u64, some .u64, some .u64, some .u64, some .i64, some .i64, some .u64, some .u64, some .i64, some .i64] ([b.1.1, b.1.2, b.2.1, b.2.2, b.3.1, b.3.2, b.4.1, b.4.2, b.5.1, b.5.2], [])).1.toArray 33 (0, 0))) (hx : w.heap[x]? = some (.cells #[.pointer (some ⟨bk, 0, none⟩)] 93 (0, 0))) (hne : x ≠ bk) : Calls Tryz.prog 175 (.pointer (some ⟨x, 0, none⟩) :: enV [] (enL [some .u64, some .u64, some .u64, some .u64, some .i64, some .i64, some .u64, some .u64, some .i64, some .i64] ([b.1.1, b.1.2, b.2.1, b.2.2, b.3.1, b.3.2, b.4.1, b.4.2, b.5.1, b.5.2], [])).2).toArray w fun e w' => e = .returned (U.den ρ (.c (.sb (st5 b).2))) ∧ Sx.Touch bk w w' ∧ w'.heap[bk]? = some (.cells (dens ρ [.si .u64 ((st5 b).1).1.1, .si .u64 ((st5 b).1).1.2, .si .u64 ((st5 b).1).2.1, .si .u64 ((st5 b).1).2.2, .si .i64 ((st5 b).1).3.1, .si .i64 ((st5 b).1).3.2, .si .u64 ((st5 b).1).4.1, .si .u64 ((st5 b).1).4.2, .si .i64 ((st5 b).1).5.1, .si .i64 ((st5 b).1).5.2]) 33 (0, 0)) := by
  refine box_to nameOK (okc s_bsign_ok (okc s_pMeet_ok (okc s_pCut_ok (okc s_pSign_ok (okc s_pBare_ok (okc s_tRange_ok (okc s_tMeet_ok okn))))))) (dOK (okc s_bsign_ok (okc s_pMeet_ok (okc s_pCut_ok (okc s_pSign_ok (okc s_pBare_ok (okc s_tRange_ok (okc s_tMeet_ok okn)))))))) 300 [.si .u64 b.1.1, .si .u64 b.1.2, .si .u64 b.2.1, .si .u64 b.2.2, .si .i64 b.3.1, .si .i64 b.3.2, .si .u64 b.4.1, .si .u64 b.4.2, .si .i64 b.5.1, .si .i64 b.5.2] 33 93 [] (T := (.br (iEq (iShr .u64 b.4.1 31) (iShr .u64 b.4.2 31)) (.leaf (.val (.tup [(.agg [(.si .u64 b.1.1), (.si .u64 b.1.2), (.si .u64 b.2.1), (.si .u64 b.2.2), (.si .i64 b.3.1), (.si .i64 b.3.2), (.si .u64 b.4.1), (.si .u64 b.4.2), (.si .i64 (pMeet b.5 (.mk (sg32 b.4.1) (sg32 b.4.2))).1), (.si .i64 (pMeet b.5 (.mk (sg32 b.4.1) (sg32 b.4.2))).2)]), (.c (.lb true))]))) (.leaf (.val (.tup [(.agg (cB b)), (.c (.lb true))]))))) (by kernel_rfl) ρ rfl rfl ?_ bk x w hbk hx hne
  · refine br2 (fun h => ?_) (fun h => ?_)
    · have h := eq_t.1 h
      rw [shr31, shr31] at h
      have e : st5 b = ({ b with v := pMeet b.v ⟨sg32 b.w.lo, sg32 b.w.hi⟩ }, true) := by rw [st5, if_pos h]
      simp only [Tr.all, e]; try rfl
    · have h := eq_f.1 h
      rw [shr31, shr31] at h
      have e : st5 b = (b, true) := by rw [st5, if_neg h]
      simp only [Tr.all, e]; try rfl
def s_st5 : Sum := boxSum 175 33 93 [some .u64, some .u64, some .u64, some .u64, some .i64, some .i64, some .u64, some .u64, some .i64, some .i64] [] fun
  | [a0, a1, a2, a3, a4, a5, a6, a7, a8, a9], [] => some ([isU (Bd.mk (P2.mk a0 a1) (P2.mk a2 a3) (P2.mk a4 a5) (P2.mk a6 a7) (P2.mk a8 a9)).1.1, isU (Bd.mk (P2.mk a0 a1) (P2.mk a2 a3) (P2.mk a4 a5) (P2.mk a6 a7) (P2.mk a8 a9)).1.2, isU (Bd.mk (P2.mk a0 a1) (P2.mk a2 a3) (P2.mk a4 a5) (P2.mk a6 a7) (P2.mk a8 a9)).2.1, isU (Bd.mk (P2.mk a0 a1) (P2.mk a2 a3) (P2.mk a4 a5) (P2.mk a6 a7) (P2.mk a8 a9)).2.2, isI (Bd.mk (P2.mk a0 a1) (P2.mk a2 a3) (P2.mk a4 a5) (P2.mk a6 a7) (P2.mk a8 a9)).3.1, isI (Bd.mk (P2.mk a0 a1) (P2.mk a2 a3) (P2.mk a4 a5) (P2.mk a6 a7) (P2.mk a8 a9)).3.2, isU (Bd.mk (P2.mk a0 a1) (P2.mk a2 a3) (P2.mk a4 a5) (P2.mk a6 a7) (P2.mk a8 a9)).4.1, isU (Bd.mk (P2.mk a0 a1) (P2.mk a2 a3) (P2.mk a4 a5) (P2.mk a6 a7) (P2.mk a8 a9)).4.2, isI (Bd.mk (P2.mk a0 a1) (P2.mk a2 a3) (P2.mk a4 a5) (P2.mk a6 a7) (P2.mk a8 a9)).5.1, isI (Bd.mk (P2.mk a0 a1) (P2.mk a2 a3) (P2.mk a4 a5) (P2.mk a6 a7) (P2.mk a8 a9)).5.2], .tup [.agg (cB ((st5 (Bd.mk (P2.mk a0 a1) (P2.mk a2 a3) (P2.mk a4 a5) (P2.mk a6 a7) (P2.mk a8 a9))).1)), .c (.sb ((st5 (Bd.mk (P2.mk a0 a1) (P2.mk a2 a3) (P2.mk a4 a5) (P2.mk a6 a7) (P2.mk a8 a9))).2))])
  | _, _ => none
theorem s_st5_ok : SumOK Tryz.prog s_st5 := by
  refine boxSum_ok ⟨_, Tryz.func175, by kernel_rfl⟩ ?_
  intro ns os bs new u hm hb ρ bk x w hbk hx hne
  split at hm
  · rename_i a0 a1 a2 a3 a4 a5 a6 a7 a8 a9
    cases hm
    exact t_st5 (Bd.mk (P2.mk a0 a1) (P2.mk a2 a3) (P2.mk a4 a5) (P2.mk a6 a7) (P2.mk a8 a9)) (hb _ (by simp)) (hb _ (by simp)) (hb _ (by simp)) (hb _ (by simp)) (hb _ (by simp)) (hb _ (by simp)) (hb _ (by simp)) (hb _ (by simp)) (hb _ (by simp)) (hb _ (by simp)) ρ bk x w hbk hx hne
  · cases hm
theorem t_st6 (b : Bd) (hb0 : isU b.1.1 = true) (hb1 : isU b.1.2 = true) (hb2 : isU b.2.1 = true) (hb3 : isU b.2.2 = true) (hb4 : isI b.3.1 = true) (hb5 : isI b.3.2 = true) (hb6 : isU b.4.1 = true) (hb7 : isU b.4.2 = true) (hb8 : isI b.5.1 = true) (hb9 : isI b.5.2 = true) (ρ : Nat → Nat) (bk x : Nat) (w : World) (hbk : w.heap[bk]? = some (.cells (enL [some .u64, some .u64, some .u64, some .u64, some .i64, some .i64, some .u64, some .u64, some .i64, some .i64] ([b.1.1, b.1.2, b.2.1, b.2.2, b.3.1, b.3.2, b.4.1, b.4.2, b.5.1, b.5.2], [])).1.toArray 33 (0, 0))) (hx : w.heap[x]? = some (.cells #[.pointer (some ⟨bk, 0, none⟩)] 93 (0, 0))) (hne : x ≠ bk) : Calls Tryz.prog 176 (.pointer (some ⟨x, 0, none⟩) :: enV [] (enL [some .u64, some .u64, some .u64, some .u64, some .i64, some .i64, some .u64, some .u64, some .i64, some .i64] ([b.1.1, b.1.2, b.2.1, b.2.2, b.3.1, b.3.2, b.4.1, b.4.2, b.5.1, b.5.2], [])).2).toArray w fun e w' => e = .returned (U.den ρ (.c (.sb (st6 b).2))) ∧ Sx.Touch bk w w' ∧ w'.heap[bk]? = some (.cells (dens ρ [.si .u64 ((st6 b).1).1.1, .si .u64 ((st6 b).1).1.2, .si .u64 ((st6 b).1).2.1, .si .u64 ((st6 b).1).2.2, .si .i64 ((st6 b).1).3.1, .si .i64 ((st6 b).1).3.2, .si .u64 ((st6 b).1).4.1, .si .u64 ((st6 b).1).4.2, .si .i64 ((st6 b).1).5.1, .si .i64 ((st6 b).1).5.2]) 33 (0, 0)) := by
  refine box_to nameOK (okc s_bsign_ok (okc s_pMeet_ok (okc s_pCut_ok (okc s_pSign_ok (okc s_pBare_ok (okc s_tRange_ok (okc s_tMeet_ok okn))))))) (dOK (okc s_bsign_ok (okc s_pMeet_ok (okc s_pCut_ok (okc s_pSign_ok (okc s_pBare_ok (okc s_tRange_ok (okc s_tMeet_ok okn)))))))) 300 [.si .u64 b.1.1, .si .u64 b.1.2, .si .u64 b.2.1, .si .u64 b.2.2, .si .i64 b.3.1, .si .i64 b.3.2, .si .u64 b.4.1, .si .u64 b.4.2, .si .i64 b.5.1, .si .i64 b.5.2] 33 93 [] (T := (.br (bEq (iLt b.5.1 0) (iLt b.5.2 0)) (.leaf (.val (.tup [(.agg [(.si .u64 b.1.1), (.si .u64 b.1.2), (.si .u64 b.2.1), (.si .u64 b.2.2), (.si .i64 b.3.1), (.si .i64 b.3.2), (.si .u64 (pMeet b.4 (.mk (iBit .and .u64 (iConv .u64 b.5.1) 4294967295) (iBit .and .u64 (iConv .u64 b.5.2) 4294967295))).1), (.si .u64 (pMeet b.4 (.mk (iBit .and .u64 (iConv .u64 b.5.1) 4294967295) (iBit .and .u64 (iConv .u64 b.5.2) 4294967295))).2), (.si .i64 b.5.1), (.si .i64 b.5.2)]), (.c (.lb true))]))) (.leaf (.val (.tup [(.agg (cB b)), (.c (.lb true))]))))) (by kernel_rfl) ρ rfl rfl ?_ bk x w hbk hx hne
  · refine br2 (fun h => ?_) (fun h => ?_)
    · have h := beq_t.1 h
      rw [lt_t, lt_t] at h
      have e : st6 b = ({ b with w := pMeet b.w ⟨b.v.lo % 4294967296, b.v.hi % 4294967296⟩ }, true) := by rw [st6, if_pos h]
      simp only [Tr.all, e, and_conv hb8, and_conv hb9]; try rfl
    · have h := beq_f.1 h
      rw [lt_t, lt_t] at h
      have e : st6 b = (b, true) := by rw [st6, if_neg h]
      simp only [Tr.all, e]; try rfl
def s_st6 : Sum := boxSum 176 33 93 [some .u64, some .u64, some .u64, some .u64, some .i64, some .i64, some .u64, some .u64, some .i64, some .i64] [] fun
  | [a0, a1, a2, a3, a4, a5, a6, a7, a8, a9], [] => some ([isU (Bd.mk (P2.mk a0 a1) (P2.mk a2 a3) (P2.mk a4 a5) (P2.mk a6 a7) (P2.mk a8 a9)).1.1, isU (Bd.mk (P2.mk a0 a1) (P2.mk a2 a3) (P2.mk a4 a5) (P2.mk a6 a7) (P2.mk a8 a9)).1.2, isU (Bd.mk (P2.mk a0 a1) (P2.mk a2 a3) (P2.mk a4 a5) (P2.mk a6 a7) (P2.mk a8 a9)).2.1, isU (Bd.mk (P2.mk a0 a1) (P2.mk a2 a3) (P2.mk a4 a5) (P2.mk a6 a7) (P2.mk a8 a9)).2.2, isI (Bd.mk (P2.mk a0 a1) (P2.mk a2 a3) (P2.mk a4 a5) (P2.mk a6 a7) (P2.mk a8 a9)).3.1, isI (Bd.mk (P2.mk a0 a1) (P2.mk a2 a3) (P2.mk a4 a5) (P2.mk a6 a7) (P2.mk a8 a9)).3.2, isU (Bd.mk (P2.mk a0 a1) (P2.mk a2 a3) (P2.mk a4 a5) (P2.mk a6 a7) (P2.mk a8 a9)).4.1, isU (Bd.mk (P2.mk a0 a1) (P2.mk a2 a3) (P2.mk a4 a5) (P2.mk a6 a7) (P2.mk a8 a9)).4.2, isI (Bd.mk (P2.mk a0 a1) (P2.mk a2 a3) (P2.mk a4 a5) (P2.mk a6 a7) (P2.mk a8 a9)).5.1, isI (Bd.mk (P2.mk a0 a1) (P2.mk a2 a3) (P2.mk a4 a5) (P2.mk a6 a7) (P2.mk a8 a9)).5.2], .tup [.agg (cB ((st6 (Bd.mk (P2.mk a0 a1) (P2.mk a2 a3) (P2.mk a4 a5) (P2.mk a6 a7) (P2.mk a8 a9))).1)), .c (.sb ((st6 (Bd.mk (P2.mk a0 a1) (P2.mk a2 a3) (P2.mk a4 a5) (P2.mk a6 a7) (P2.mk a8 a9))).2))])
  | _, _ => none
theorem s_st6_ok : SumOK Tryz.prog s_st6 := by
  refine boxSum_ok ⟨_, Tryz.func176, by kernel_rfl⟩ ?_
  intro ns os bs new u hm hb ρ bk x w hbk hx hne
  split at hm
  · rename_i a0 a1 a2 a3 a4 a5 a6 a7 a8 a9
    cases hm
    exact t_st6 (Bd.mk (P2.mk a0 a1) (P2.mk a2 a3) (P2.mk a4 a5) (P2.mk a6 a7) (P2.mk a8 a9)) (hb _ (by simp)) (hb _ (by simp)) (hb _ (by simp)) (hb _ (by simp)) (hb _ (by simp)) (hb _ (by simp)) (hb _ (by simp)) (hb _ (by simp)) (hb _ (by simp)) (hb _ (by simp)) ρ bk x w hbk hx hne
  · cases hm
theorem t_st7 (b : Bd) (hb0 : isU b.1.1 = true) (hb1 : isU b.1.2 = true) (hb2 : isU b.2.1 = true) (hb3 : isU b.2.2 = true) (hb4 : isI b.3.1 = true) (hb5 : isI b.3.2 = true) (hb6 : isU b.4.1 = true) (hb7 : isU b.4.2 = true) (hb8 : isI b.5.1 = true) (hb9 : isI b.5.2 = true) (ρ : Nat → Nat) (bk x : Nat) (w : World) (hbk : w.heap[bk]? = some (.cells (enL [some .u64, some .u64, some .u64, some .u64, some .i64, some .i64, some .u64, some .u64, some .i64, some .i64] ([b.1.1, b.1.2, b.2.1, b.2.2, b.3.1, b.3.2, b.4.1, b.4.2, b.5.1, b.5.2], [])).1.toArray 33 (0, 0))) (hx : w.heap[x]? = some (.cells #[.pointer (some ⟨bk, 0, none⟩)] 93 (0, 0))) (hne : x ≠ bk) : Calls Tryz.prog 177 (.pointer (some ⟨x, 0, none⟩) :: enV [] (enL [some .u64, some .u64, some .u64, some .u64, some .i64, some .i64, some .u64, some .u64, some .i64, some .i64] ([b.1.1, b.1.2, b.2.1, b.2.2, b.3.1, b.3.2, b.4.1, b.4.2, b.5.1, b.5.2], [])).2).toArray w fun e w' => e = .returned (U.den ρ (.c (.sb (st7 b).2))) ∧ Sx.Touch bk w w' ∧ w'.heap[bk]? = some (.cells (dens ρ [.si .u64 ((st7 b).1).1.1, .si .u64 ((st7 b).1).1.2, .si .u64 ((st7 b).1).2.1, .si .u64 ((st7 b).1).2.2, .si .i64 ((st7 b).1).3.1, .si .i64 ((st7 b).1).3.2, .si .u64 ((st7 b).1).4.1, .si .u64 ((st7 b).1).4.2, .si .i64 ((st7 b).1).5.1, .si .i64 ((st7 b).1).5.2]) 33 (0, 0)) := by
  refine box_to nameOK (okc s_bsign_ok (okc s_pMeet_ok (okc s_pCut_ok (okc s_pSign_ok (okc s_pBare_ok (okc s_tRange_ok (okc s_tMeet_ok okn))))))) (dOK (okc s_bsign_ok (okc s_pMeet_ok (okc s_pCut_ok (okc s_pSign_ok (okc s_pBare_ok (okc s_tRange_ok (okc s_tMeet_ok okn)))))))) 300 [.si .u64 b.1.1, .si .u64 b.1.2, .si .u64 b.2.1, .si .u64 b.2.2, .si .i64 b.3.1, .si .i64 b.3.2, .si .u64 b.4.1, .si .u64 b.4.2, .si .i64 b.5.1, .si .i64 b.5.2] 33 93 [] (T := (.br (isU b.4.1) (.br (isU b.4.2) (.br (tMeetIs b.1 (.mk (tRange b.4.1 b.4.2).1 (iBit .or .u64 (tRange b.4.1 b.4.2).2 18446744069414584320))) (.leaf (.val (.tup [(.agg [(.si .u64 (tMeet b.1 (.mk (tRange b.4.1 b.4.2).1 (iBit .or .u64 (tRange b.4.1 b.4.2).2 18446744069414584320))).1), (.si .u64 (tMeet b.1 (.mk (tRange b.4.1 b.4.2).1 (iBit .or .u64 (tRange b.4.1 b.4.2).2 18446744069414584320))).2), (.si .u64 b.2.1), (.si .u64 b.2.2), (.si .i64 b.3.1), (.si .i64 b.3.2), (.si .u64 b.4.1), (.si .u64 b.4.2), (.si .i64 b.5.1), (.si .i64 b.5.2)]), (.c (.sb (tMeetIs b.1 (.mk (tRange b.4.1 b.4.2).1 (iBit .or .u64 (tRange b.4.1 b.4.2).2 18446744069414584320)))))]))) (.leaf (.val (.tup [(.agg (cB b)), (.c (.sb (tMeetIs b.1 (.mk (tRange b.4.1 b.4.2).1 (iBit .or .u64 (tRange b.4.1 b.4.2).2 18446744069414584320)))))])))) (.no 98)) (.no 98))) (by kernel_rfl) ρ rfl rfl ?_ bk x w hbk hx hne
  · refine askB hb6 (askB hb7 (br2 (fun h => ?_) (fun h => ?_)))
    · have h' : tMeetIs b.t ⟨(tRange b.w.lo b.w.hi).lo, orU (tRange b.w.lo b.w.hi).hi 18446744069414584320⟩ = true := h
      have e : st7 b = ({ b with t := tMeet b.t ⟨(tRange b.w.lo b.w.hi).lo, orU (tRange b.w.lo b.w.hi).hi 18446744069414584320⟩ }, true) := by simp only [st7, meetT, h']
      simp only [Tr.all, e, h]; try rfl
    · have h' : tMeetIs b.t ⟨(tRange b.w.lo b.w.hi).lo, orU (tRange b.w.lo b.w.hi).hi 18446744069414584320⟩ = false := h
      have e : st7 b = (b, false) := by simp only [st7, meetT, h']
      simp only [Tr.all, e, h]; try rfl
def s_st7 : Sum := boxSum 177 33 93 [some .u64, some .u64, some .u64, some .u64, some .i64, some .i64, some .u64, some .u64, some .i64, some .i64] [] fun
  | [a0, a1, a2, a3, a4, a5, a6, a7, a8, a9], [] => some ([isU (Bd.mk (P2.mk a0 a1) (P2.mk a2 a3) (P2.mk a4 a5) (P2.mk a6 a7) (P2.mk a8 a9)).1.1, isU (Bd.mk (P2.mk a0 a1) (P2.mk a2 a3) (P2.mk a4 a5) (P2.mk a6 a7) (P2.mk a8 a9)).1.2, isU (Bd.mk (P2.mk a0 a1) (P2.mk a2 a3) (P2.mk a4 a5) (P2.mk a6 a7) (P2.mk a8 a9)).2.1, isU (Bd.mk (P2.mk a0 a1) (P2.mk a2 a3) (P2.mk a4 a5) (P2.mk a6 a7) (P2.mk a8 a9)).2.2, isI (Bd.mk (P2.mk a0 a1) (P2.mk a2 a3) (P2.mk a4 a5) (P2.mk a6 a7) (P2.mk a8 a9)).3.1, isI (Bd.mk (P2.mk a0 a1) (P2.mk a2 a3) (P2.mk a4 a5) (P2.mk a6 a7) (P2.mk a8 a9)).3.2, isU (Bd.mk (P2.mk a0 a1) (P2.mk a2 a3) (P2.mk a4 a5) (P2.mk a6 a7) (P2.mk a8 a9)).4.1, isU (Bd.mk (P2.mk a0 a1) (P2.mk a2 a3) (P2.mk a4 a5) (P2.mk a6 a7) (P2.mk a8 a9)).4.2, isI (Bd.mk (P2.mk a0 a1) (P2.mk a2 a3) (P2.mk a4 a5) (P2.mk a6 a7) (P2.mk a8 a9)).5.1, isI (Bd.mk (P2.mk a0 a1) (P2.mk a2 a3) (P2.mk a4 a5) (P2.mk a6 a7) (P2.mk a8 a9)).5.2], .tup [.agg (cB ((st7 (Bd.mk (P2.mk a0 a1) (P2.mk a2 a3) (P2.mk a4 a5) (P2.mk a6 a7) (P2.mk a8 a9))).1)), .c (.sb ((st7 (Bd.mk (P2.mk a0 a1) (P2.mk a2 a3) (P2.mk a4 a5) (P2.mk a6 a7) (P2.mk a8 a9))).2))])
  | _, _ => none
theorem s_st7_ok : SumOK Tryz.prog s_st7 := by
  refine boxSum_ok ⟨_, Tryz.func177, by kernel_rfl⟩ ?_
  intro ns os bs new u hm hb ρ bk x w hbk hx hne
  split at hm
  · rename_i a0 a1 a2 a3 a4 a5 a6 a7 a8 a9
    cases hm
    exact t_st7 (Bd.mk (P2.mk a0 a1) (P2.mk a2 a3) (P2.mk a4 a5) (P2.mk a6 a7) (P2.mk a8 a9)) (hb _ (by simp)) (hb _ (by simp)) (hb _ (by simp)) (hb _ (by simp)) (hb _ (by simp)) (hb _ (by simp)) (hb _ (by simp)) (hb _ (by simp)) (hb _ (by simp)) (hb _ (by simp)) ρ bk x w hbk hx hne
  · cases hm
theorem t_st8 (b : Bd) (hb0 : isU b.1.1 = true) (hb1 : isU b.1.2 = true) (hb2 : isU b.2.1 = true) (hb3 : isU b.2.2 = true) (hb4 : isI b.3.1 = true) (hb5 : isI b.3.2 = true) (hb6 : isU b.4.1 = true) (hb7 : isU b.4.2 = true) (hb8 : isI b.5.1 = true) (hb9 : isI b.5.2 = true) (ρ : Nat → Nat) (bk x : Nat) (w : World) (hbk : w.heap[bk]? = some (.cells (enL [some .u64, some .u64, some .u64, some .u64, some .i64, some .i64, some .u64, some .u64, some .i64, some .i64] ([b.1.1, b.1.2, b.2.1, b.2.2, b.3.1, b.3.2, b.4.1, b.4.2, b.5.1, b.5.2], [])).1.toArray 33 (0, 0))) (hx : w.heap[x]? = some (.cells #[.pointer (some ⟨bk, 0, none⟩)] 93 (0, 0))) (hne : x ≠ bk) : Calls Tryz.prog 178 (.pointer (some ⟨x, 0, none⟩) :: enV [] (enL [some .u64, some .u64, some .u64, some .u64, some .i64, some .i64, some .u64, some .u64, some .i64, some .i64] ([b.1.1, b.1.2, b.2.1, b.2.2, b.3.1, b.3.2, b.4.1, b.4.2, b.5.1, b.5.2], [])).2).toArray w fun e w' => e = .returned (U.den ρ (.c (.sb (st8 b).2))) ∧ Sx.Touch bk w w' ∧ w'.heap[bk]? = some (.cells (dens ρ [.si .u64 ((st8 b).1).1.1, .si .u64 ((st8 b).1).1.2, .si .u64 ((st8 b).1).2.1, .si .u64 ((st8 b).1).2.2, .si .i64 ((st8 b).1).3.1, .si .i64 ((st8 b).1).3.2, .si .u64 ((st8 b).1).4.1, .si .u64 ((st8 b).1).4.2, .si .i64 ((st8 b).1).5.1, .si .i64 ((st8 b).1).5.2]) 33 (0, 0)) := by
  refine box_to nameOK (okc s_bsign_ok (okc s_pMeet_ok (okc s_pCut_ok (okc s_pSign_ok (okc s_pBare_ok (okc s_tRange_ok (okc s_tMeet_ok okn))))))) (dOK (okc s_bsign_ok (okc s_pMeet_ok (okc s_pCut_ok (okc s_pSign_ok (okc s_pBare_ok (okc s_tRange_ok (okc s_tMeet_ok okn)))))))) 300 [.si .u64 b.1.1, .si .u64 b.1.2, .si .u64 b.2.1, .si .u64 b.2.2, .si .i64 b.3.1, .si .i64 b.3.2, .si .u64 b.4.1, .si .u64 b.4.2, .si .i64 b.5.1, .si .i64 b.5.2] 33 93 [] (T := (.br (iEq (iShr .u64 b.2.1 32) (iShr .u64 b.2.2 32)) (.leaf (.val (.tup [(.agg [(.si .u64 b.1.1), (.si .u64 b.1.2), (.si .u64 (pMeet b.2 (.mk (iBit .or .u64 (iBit .and .u64 b.2.1 18446744069414584320) (pMeet b.4 (.mk (iBit .and .u64 b.2.1 4294967295) (iBit .and .u64 b.2.2 4294967295))).1) (iBit .or .u64 (iBit .and .u64 b.2.1 18446744069414584320) (pMeet b.4 (.mk (iBit .and .u64 b.2.1 4294967295) (iBit .and .u64 b.2.2 4294967295))).2))).1), (.si .u64 (pMeet b.2 (.mk (iBit .or .u64 (iBit .and .u64 b.2.1 18446744069414584320) (pMeet b.4 (.mk (iBit .and .u64 b.2.1 4294967295) (iBit .and .u64 b.2.2 4294967295))).1) (iBit .or .u64 (iBit .and .u64 b.2.1 18446744069414584320) (pMeet b.4 (.mk (iBit .and .u64 b.2.1 4294967295) (iBit .and .u64 b.2.2 4294967295))).2))).2), (.si .i64 b.3.1), (.si .i64 b.3.2), (.si .u64 (pMeet b.4 (.mk (iBit .and .u64 b.2.1 4294967295) (iBit .and .u64 b.2.2 4294967295))).1), (.si .u64 (pMeet b.4 (.mk (iBit .and .u64 b.2.1 4294967295) (iBit .and .u64 b.2.2 4294967295))).2), (.si .i64 b.5.1), (.si .i64 b.5.2)]), (.c (.lb true))]))) (.leaf (.val (.tup [(.agg (cB b)), (.c (.lb true))]))))) (by kernel_rfl) ρ rfl rfl ?_ bk x w hbk hx hne
  · have e1 : iBit .and .u64 b.2.1 4294967295 = b.u.lo % 4294967296 := and_low hb2
    have e2 : iBit .and .u64 b.2.2 4294967295 = b.u.hi % 4294967296 := and_low hb3
    refine br2 (fun h => ?_) (fun h => ?_)
    · have h := eq_t.1 h
      rw [shr32, shr32] at h
      have e : st8 b = ({ b with w := pMeet b.w ⟨b.u.lo % 4294967296, b.u.hi % 4294967296⟩, u := pMeet b.u ⟨orU (andU b.u.lo 18446744069414584320) (pMeet b.w ⟨b.u.lo % 4294967296, b.u.hi % 4294967296⟩).lo, orU (andU b.u.lo 18446744069414584320) (pMeet b.w ⟨b.u.lo % 4294967296, b.u.hi % 4294967296⟩).hi⟩ }, true) := by rw [st8, if_pos h]
      simp only [Tr.all, e, e1, e2]; try rfl
    · have h := eq_f.1 h
      rw [shr32, shr32] at h
      have e : st8 b = (b, true) := by rw [st8, if_neg h]
      simp only [Tr.all, e]; try rfl
def s_st8 : Sum := boxSum 178 33 93 [some .u64, some .u64, some .u64, some .u64, some .i64, some .i64, some .u64, some .u64, some .i64, some .i64] [] fun
  | [a0, a1, a2, a3, a4, a5, a6, a7, a8, a9], [] => some ([isU (Bd.mk (P2.mk a0 a1) (P2.mk a2 a3) (P2.mk a4 a5) (P2.mk a6 a7) (P2.mk a8 a9)).1.1, isU (Bd.mk (P2.mk a0 a1) (P2.mk a2 a3) (P2.mk a4 a5) (P2.mk a6 a7) (P2.mk a8 a9)).1.2, isU (Bd.mk (P2.mk a0 a1) (P2.mk a2 a3) (P2.mk a4 a5) (P2.mk a6 a7) (P2.mk a8 a9)).2.1, isU (Bd.mk (P2.mk a0 a1) (P2.mk a2 a3) (P2.mk a4 a5) (P2.mk a6 a7) (P2.mk a8 a9)).2.2, isI (Bd.mk (P2.mk a0 a1) (P2.mk a2 a3) (P2.mk a4 a5) (P2.mk a6 a7) (P2.mk a8 a9)).3.1, isI (Bd.mk (P2.mk a0 a1) (P2.mk a2 a3) (P2.mk a4 a5) (P2.mk a6 a7) (P2.mk a8 a9)).3.2, isU (Bd.mk (P2.mk a0 a1) (P2.mk a2 a3) (P2.mk a4 a5) (P2.mk a6 a7) (P2.mk a8 a9)).4.1, isU (Bd.mk (P2.mk a0 a1) (P2.mk a2 a3) (P2.mk a4 a5) (P2.mk a6 a7) (P2.mk a8 a9)).4.2, isI (Bd.mk (P2.mk a0 a1) (P2.mk a2 a3) (P2.mk a4 a5) (P2.mk a6 a7) (P2.mk a8 a9)).5.1, isI (Bd.mk (P2.mk a0 a1) (P2.mk a2 a3) (P2.mk a4 a5) (P2.mk a6 a7) (P2.mk a8 a9)).5.2], .tup [.agg (cB ((st8 (Bd.mk (P2.mk a0 a1) (P2.mk a2 a3) (P2.mk a4 a5) (P2.mk a6 a7) (P2.mk a8 a9))).1)), .c (.sb ((st8 (Bd.mk (P2.mk a0 a1) (P2.mk a2 a3) (P2.mk a4 a5) (P2.mk a6 a7) (P2.mk a8 a9))).2))])
  | _, _ => none
theorem s_st8_ok : SumOK Tryz.prog s_st8 := by
  refine boxSum_ok ⟨_, Tryz.func178, by kernel_rfl⟩ ?_
  intro ns os bs new u hm hb ρ bk x w hbk hx hne
  split at hm
  · rename_i a0 a1 a2 a3 a4 a5 a6 a7 a8 a9
    cases hm
    exact t_st8 (Bd.mk (P2.mk a0 a1) (P2.mk a2 a3) (P2.mk a4 a5) (P2.mk a6 a7) (P2.mk a8 a9)) (hb _ (by simp)) (hb _ (by simp)) (hb _ (by simp)) (hb _ (by simp)) (hb _ (by simp)) (hb _ (by simp)) (hb _ (by simp)) (hb _ (by simp)) (hb _ (by simp)) (hb _ (by simp)) ρ bk x w hbk hx hne
  · cases hm
theorem t_rnd (b : Bd) (hb0 : isU b.1.1 = true) (hb1 : isU b.1.2 = true) (hb2 : isU b.2.1 = true) (hb3 : isU b.2.2 = true) (hb4 : isI b.3.1 = true) (hb5 : isI b.3.2 = true) (hb6 : isU b.4.1 = true) (hb7 : isU b.4.2 = true) (hb8 : isI b.5.1 = true) (hb9 : isI b.5.2 = true) (ρ : Nat → Nat) (bk : Nat) (w : World) (hbk : w.heap[bk]? = some (.cells (enL [some .u64, some .u64, some .u64, some .u64, some .i64, some .i64, some .u64, some .u64, some .i64, some .i64] ([b.1.1, b.1.2, b.2.1, b.2.2, b.3.1, b.3.2, b.4.1, b.4.2, b.5.1, b.5.2], [])).1.toArray 33 (0, 0))) : Calls Tryz.prog 61 (.pointer (some ⟨bk, 0, none⟩) :: enV [] (enL [some .u64, some .u64, some .u64, some .u64, some .i64, some .i64, some .u64, some .u64, some .i64, some .i64] ([b.1.1, b.1.2, b.2.1, b.2.2, b.3.1, b.3.2, b.4.1, b.4.2, b.5.1, b.5.2], [])).2).toArray w fun e w' => e = .returned (U.den ρ (.c (.sb (rnd b).2))) ∧ Sx.Touch bk w w' ∧ w'.heap[bk]? = some (.cells (dens ρ [.si .u64 ((rnd b).1).1.1, .si .u64 ((rnd b).1).1.2, .si .u64 ((rnd b).1).2.1, .si .u64 ((rnd b).1).2.2, .si .i64 ((rnd b).1).3.1, .si .i64 ((rnd b).1).3.2, .si .u64 ((rnd b).1).4.1, .si .u64 ((rnd b).1).4.2, .si .i64 ((rnd b).1).5.1, .si .i64 ((rnd b).1).5.2]) 33 (0, 0)) := by
  refine heap_to nameOK (okc s_bNone_ok (okc s_st1_ok (okc s_st2_ok (okc s_st3_ok (okc s_st4_ok (okc s_st5_ok (okc s_st6_ok (okc s_st7_ok (okc s_st8_ok okn))))))))) (dOK (okc s_bNone_ok (okc s_st1_ok (okc s_st2_ok (okc s_st3_ok (okc s_st4_ok (okc s_st5_ok (okc s_st6_ok (okc s_st7_ok (okc s_st8_ok okn)))))))))) 300 [.si .u64 b.1.1, .si .u64 b.1.2, .si .u64 b.2.1, .si .u64 b.2.2, .si .i64 b.3.1, .si .i64 b.3.2, .si .u64 b.4.1, .si .u64 b.4.2, .si .i64 b.5.1, .si .i64 b.5.2] 33 [] (T := (a10 b (.br (bNot (st1 b).2) (.leaf (.val (.tup [(.agg (cB (st1 b).1)), (.c (.lb false))]))) (.br (bNone (st1 b).1) (.leaf (.val (.tup [(.agg (cB (st1 b).1)), (.c (.lb false))]))) (a10 (st1 b).1 (.br (bNot (st2 (st1 b).1).2) (.leaf (.val (.tup [(.agg (cB (st2 (st1 b).1).1)), (.c (.lb false))]))) (.br (bNone (st2 (st1 b).1).1) (.leaf (.val (.tup [(.agg (cB (st2 (st1 b).1).1)), (.c (.lb false))]))) (a10 (st2 (st1 b).1).1 (.br (bNot (st3 (st2 (st1 b).1).1).2) (.leaf (.val (.tup [(.agg (cB (st3 (st2 (st1 b).1).1).1)), (.c (.lb false))]))) (.br (bNone (st3 (st2 (st1 b).1).1).1) (.leaf (.val (.tup [(.agg (cB (st3 (st2 (st1 b).1).1).1)), (.c (.lb false))]))) (a10 (st3 (st2 (st1 b).1).1).1 (.br (bNot (st4 (st3 (st2 (st1 b).1).1).1).2) (.leaf (.val (.tup [(.agg (cB (st4 (st3 (st2 (st1 b).1).1).1).1)), (.c (.lb false))]))) (.br (bNone (st4 (st3 (st2 (st1 b).1).1).1).1) (.leaf (.val (.tup [(.agg (cB (st4 (st3 (st2 (st1 b).1).1).1).1)), (.c (.lb false))]))) (a10 (st4 (st3 (st2 (st1 b).1).1).1).1 (.br (bNot (st5 (st4 (st3 (st2 (st1 b).1).1).1).1).2) (.leaf (.val (.tup [(.agg (cB (st5 (st4 (st3 (st2 (st1 b).1).1).1).1).1)), (.c (.lb false))]))) (.br (bNone (st5 (st4 (st3 (st2 (st1 b).1).1).1).1).1) (.leaf (.val (.tup [(.agg (cB (st5 (st4 (st3 (st2 (st1 b).1).1).1).1).1)), (.c (.lb false))]))) (a10 (st5 (st4 (st3 (st2 (st1 b).1).1).1).1).1 (.br (bNot (st6 (st5 (st4 (st3 (st2 (st1 b).1).1).1).1).1).2) (.leaf (.val (.tup [(.agg (cB (st6 (st5 (st4 (st3 (st2 (st1 b).1).1).1).1).1).1)), (.c (.lb false))]))) (.br (bNone (st6 (st5 (st4 (st3 (st2 (st1 b).1).1).1).1).1).1) (.leaf (.val (.tup [(.agg (cB (st6 (st5 (st4 (st3 (st2 (st1 b).1).1).1).1).1).1)), (.c (.lb false))]))) (a10 (st6 (st5 (st4 (st3 (st2 (st1 b).1).1).1).1).1).1 (.br (bNot (st7 (st6 (st5 (st4 (st3 (st2 (st1 b).1).1).1).1).1).1).2) (.leaf (.val (.tup [(.agg (cB (st7 (st6 (st5 (st4 (st3 (st2 (st1 b).1).1).1).1).1).1).1)), (.c (.lb false))]))) (.br (bNone (st7 (st6 (st5 (st4 (st3 (st2 (st1 b).1).1).1).1).1).1).1) (.leaf (.val (.tup [(.agg (cB (st7 (st6 (st5 (st4 (st3 (st2 (st1 b).1).1).1).1).1).1).1)), (.c (.lb false))]))) (a10 (st7 (st6 (st5 (st4 (st3 (st2 (st1 b).1).1).1).1).1).1).1 (.br (bNot (st8 (st7 (st6 (st5 (st4 (st3 (st2 (st1 b).1).1).1).1).1).1).1).2) (.leaf (.val (.tup [(.agg (cB (st8 (st7 (st6 (st5 (st4 (st3 (st2 (st1 b).1).1).1).1).1).1).1).1)), (.c (.lb false))]))) (.br (bNone (st8 (st7 (st6 (st5 (st4 (st3 (st2 (st1 b).1).1).1).1).1).1).1).1) (.leaf (.val (.tup [(.agg (cB (st8 (st7 (st6 (st5 (st4 (st3 (st2 (st1 b).1).1).1).1).1).1).1).1)), (.c (.lb false))]))) (.leaf (.val (.tup [(.agg (cB (st8 (st7 (st6 (st5 (st4 (st3 (st2 (st1 b).1).1).1).1).1).1).1).1)), (.c (.lb true))])))))))))))))))))))))))))))) (by kernel_rfl) ρ rfl rfl ?_ bk w hbk
  · have r0 : Raw5 b := raw_of hb0 hb1 hb2 hb3 hb4 hb5 hb6 hb7 hb8 hb9
    have e0 : rnd b = runs steps b := rfl
    unfold steps at e0
    refine ask10 r0 (brn (fun h => ?_) (fun h1 => br2 (fun k => ?_) (fun k1 => ?_)))
    · have e := e0.trans (runs_f h)
      simp only [Tr.all, e]; try rfl
    · have e := e0.trans (runs_n k)
      simp only [Tr.all, e]; try rfl
    have e1 := e0.trans (runs_g h1 k1)
    have r1 := st1_raw r0
    refine ask10 r1 (brn (fun h => ?_) (fun h2 => br2 (fun k => ?_) (fun k2 => ?_)))
    · have e := e1.trans (runs_f h)
      simp only [Tr.all, e]; try rfl
    · have e := e1.trans (runs_n k)
      simp only [Tr.all, e]; try rfl
    have e2 := e1.trans (runs_g h2 k2)
    have r2 := st2_raw r1
    refine ask10 r2 (brn (fun h => ?_) (fun h3 => br2 (fun k => ?_) (fun k3 => ?_)))
    · have e := e2.trans (runs_f h)
      simp only [Tr.all, e]; try rfl
    · have e := e2.trans (runs_n k)
      simp only [Tr.all, e]; try rfl
    have e3 := e2.trans (runs_g h3 k3)
    have r3 := st3_raw r2
    refine ask10 r3 (brn (fun h => ?_) (fun h4 => br2 (fun k => ?_) (fun k4 => ?_)))
    · have e := e3.trans (runs_f h)
      simp only [Tr.all, e]; try rfl
    · have e := e3.trans (runs_n k)
      simp only [Tr.all, e]; try rfl
    have e4 := e3.trans (runs_g h4 k4)
    have r4 := st4_raw r3
    refine ask10 r4 (brn (fun h => ?_) (fun h5 => br2 (fun k => ?_) (fun k5 => ?_)))
    · have e := e4.trans (runs_f h)
      simp only [Tr.all, e]; try rfl
    · have e := e4.trans (runs_n k)
      simp only [Tr.all, e]; try rfl
    have e5 := e4.trans (runs_g h5 k5)
    have r5 := st5_raw r4
    refine ask10 r5 (brn (fun h => ?_) (fun h6 => br2 (fun k => ?_) (fun k6 => ?_)))
    · have e := e5.trans (runs_f h)
      simp only [Tr.all, e]; try rfl
    · have e := e5.trans (runs_n k)
      simp only [Tr.all, e]; try rfl
    have e6 := e5.trans (runs_g h6 k6)
    have r6 := st6_raw r5
    refine ask10 r6 (brn (fun h => ?_) (fun h7 => br2 (fun k => ?_) (fun k7 => ?_)))
    · have e := e6.trans (runs_f h)
      simp only [Tr.all, e]; try rfl
    · have e := e6.trans (runs_n k)
      simp only [Tr.all, e]; try rfl
    have e7 := e6.trans (runs_g h7 k7)
    have r7 := st7_raw r6
    refine ask10 r7 (brn (fun h => ?_) (fun h8 => br2 (fun k => ?_) (fun k8 => ?_)))
    · have e := e7.trans (runs_f h)
      simp only [Tr.all, e]; try rfl
    · have e := e7.trans (runs_n k)
      simp only [Tr.all, e]; try rfl
    have e8 := e7.trans (runs_g h8 k8)
    simp only [Tr.all, e8]; try rfl
def s_rnd : Sum := heapSum 61 33 [some .u64, some .u64, some .u64, some .u64, some .i64, some .i64, some .u64, some .u64, some .i64, some .i64] [] fun
  | [a0, a1, a2, a3, a4, a5, a6, a7, a8, a9], [] => some ([isU (Bd.mk (P2.mk a0 a1) (P2.mk a2 a3) (P2.mk a4 a5) (P2.mk a6 a7) (P2.mk a8 a9)).1.1, isU (Bd.mk (P2.mk a0 a1) (P2.mk a2 a3) (P2.mk a4 a5) (P2.mk a6 a7) (P2.mk a8 a9)).1.2, isU (Bd.mk (P2.mk a0 a1) (P2.mk a2 a3) (P2.mk a4 a5) (P2.mk a6 a7) (P2.mk a8 a9)).2.1, isU (Bd.mk (P2.mk a0 a1) (P2.mk a2 a3) (P2.mk a4 a5) (P2.mk a6 a7) (P2.mk a8 a9)).2.2, isI (Bd.mk (P2.mk a0 a1) (P2.mk a2 a3) (P2.mk a4 a5) (P2.mk a6 a7) (P2.mk a8 a9)).3.1, isI (Bd.mk (P2.mk a0 a1) (P2.mk a2 a3) (P2.mk a4 a5) (P2.mk a6 a7) (P2.mk a8 a9)).3.2, isU (Bd.mk (P2.mk a0 a1) (P2.mk a2 a3) (P2.mk a4 a5) (P2.mk a6 a7) (P2.mk a8 a9)).4.1, isU (Bd.mk (P2.mk a0 a1) (P2.mk a2 a3) (P2.mk a4 a5) (P2.mk a6 a7) (P2.mk a8 a9)).4.2, isI (Bd.mk (P2.mk a0 a1) (P2.mk a2 a3) (P2.mk a4 a5) (P2.mk a6 a7) (P2.mk a8 a9)).5.1, isI (Bd.mk (P2.mk a0 a1) (P2.mk a2 a3) (P2.mk a4 a5) (P2.mk a6 a7) (P2.mk a8 a9)).5.2], .tup [.agg (cB ((rnd (Bd.mk (P2.mk a0 a1) (P2.mk a2 a3) (P2.mk a4 a5) (P2.mk a6 a7) (P2.mk a8 a9))).1)), .c (.sb ((rnd (Bd.mk (P2.mk a0 a1) (P2.mk a2 a3) (P2.mk a4 a5) (P2.mk a6 a7) (P2.mk a8 a9))).2))])
  | _, _ => none
theorem s_rnd_ok : SumOK Tryz.prog s_rnd := by
  refine heapSum_ok ⟨_, Tryz.func61, by kernel_rfl⟩ ?_
  intro ns os bs new u hm hb ρ bk w hbk
  split at hm
  · rename_i a0 a1 a2 a3 a4 a5 a6 a7 a8 a9
    cases hm
    exact t_rnd (Bd.mk (P2.mk a0 a1) (P2.mk a2 a3) (P2.mk a4 a5) (P2.mk a6 a7) (P2.mk a8 a9)) (hb _ (by simp)) (hb _ (by simp)) (hb _ (by simp)) (hb _ (by simp)) (hb _ (by simp)) (hb _ (by simp)) (hb _ (by simp)) (hb _ (by simp)) (hb _ (by simp)) (hb _ (by simp)) ρ bk w hbk
  · cases hm
theorem t_sync (b : Bd) (hb0 : isU b.1.1 = true) (hb1 : isU b.1.2 = true) (hb2 : isU b.2.1 = true) (hb3 : isU b.2.2 = true) (hb4 : isI b.3.1 = true) (hb5 : isI b.3.2 = true) (hb6 : isU b.4.1 = true) (hb7 : isU b.4.2 = true) (hb8 : isI b.5.1 = true) (hb9 : isI b.5.2 = true) (ρ : Nat → Nat) (w : World) : Calls Tryz.prog 23 (enV [.a [some .u64, some .u64, some .u64, some .u64, some .i64, some .i64, some .u64, some .u64, some .i64, some .i64]] ([b.1.1, b.1.2, b.2.1, b.2.2, b.3.1, b.3.2, b.4.1, b.4.2, b.5.1, b.5.2], [])).toArray w fun e w' => e = .returned (V.den ρ (.u (.agg (cB (sync b))))) ∧ Below w.heap.size w w' := by
  refine pure_to nameOK (okc s_bNone_ok (okc s_tMay_ok (okc s_pIn_ok (okc s_pBoth_ok (okc s_rnd_ok okn))))) (dOK (okc s_bNone_ok (okc s_tMay_ok (okc s_pIn_ok (okc s_pBoth_ok (okc s_rnd_ok okn)))))) 300 [.u (.agg (cB b))] (T := (.br (bNone b) (.leaf (.val (.u (.agg cN)))) (.br (bNot (tMay b.1)) (.leaf (.val (.u (.agg cN)))) (.br (bNot (pIn b.4 (.mk 0 4294967295))) (.leaf (.val (.u (.agg cN)))) (.br (bNot (pBoth b.5 (.mk (-2147483648) 2147483647))) (.leaf (.val (.u (.agg cN)))) (a10 b (.br (bNot (rnd b).2) (.leaf (.val (.u (.agg cN)))) (a10 (rnd b).1 (.br (bNot (rnd (rnd b).1).2) (.leaf (.val (.u (.agg cN)))) (a10 (rnd (rnd b).1).1 (.br (bNot (rnd (rnd (rnd b).1).1).2) (.leaf (.val (.u (.agg cN)))) (.leaf (.val (.u (.agg (cB (rnd (rnd (rnd b).1).1).1)))))))))))))))) (by kernel_rfl) ρ rfl ?_ w
  · have r0 : Raw5 b := raw_of hb0 hb1 hb2 hb3 hb4 hb5 hb6 hb7 hb8 hb9
    have r1 := rnd_raw r0
    have r2 := rnd_raw r1
    have m : mayB b = (!bNone b && tMay b.1 && pIn b.4 (.mk 0 4294967295) && pBoth b.5 (.mk (-2147483648) 2147483647)) := rfl
    refine br2 (fun h => ?_) (fun h1 => brn (fun h => ?_) (fun h2 => brn (fun h => ?_) (fun h3 => brn (fun h => ?_) (fun h4 => ?_))))
    · simp only [Tr.all, sync, m, h, Bool.not_true, Bool.false_and]; try rfl
    · simp only [Tr.all, sync, m, h, Bool.and_false, Bool.false_and]; try rfl
    · simp only [Tr.all, sync, m, h, Bool.and_false, Bool.false_and]; try rfl
    · simp only [Tr.all, sync, m, h, Bool.and_false]; try rfl
    have m' : mayB b = true := by rw [m, h1, h2, h3, h4]; try rfl
    refine ask10 r0 (brn (fun h => ?_) (fun h5 => ask10 r1 (brn (fun h => ?_) (fun h6 => ask10 r2 (brn (fun h => ?_) (fun h7 => ?_))))))
    · simp only [Tr.all, sync, m', h]; try rfl
    · simp only [Tr.all, sync, m', h5, h]; try rfl
    · simp only [Tr.all, sync, m', h5, h6, h]; try rfl
    · simp only [Tr.all, sync, m', h5, h6, h7]
def s_sync : Sum := bySum 23 [.a [some .u64, some .u64, some .u64, some .u64, some .i64, some .i64, some .u64, some .u64, some .i64, some .i64]] fun
  | [a0, a1, a2, a3, a4, a5, a6, a7, a8, a9], [] => some ([isU (Bd.mk (P2.mk a0 a1) (P2.mk a2 a3) (P2.mk a4 a5) (P2.mk a6 a7) (P2.mk a8 a9)).1.1, isU (Bd.mk (P2.mk a0 a1) (P2.mk a2 a3) (P2.mk a4 a5) (P2.mk a6 a7) (P2.mk a8 a9)).1.2, isU (Bd.mk (P2.mk a0 a1) (P2.mk a2 a3) (P2.mk a4 a5) (P2.mk a6 a7) (P2.mk a8 a9)).2.1, isU (Bd.mk (P2.mk a0 a1) (P2.mk a2 a3) (P2.mk a4 a5) (P2.mk a6 a7) (P2.mk a8 a9)).2.2, isI (Bd.mk (P2.mk a0 a1) (P2.mk a2 a3) (P2.mk a4 a5) (P2.mk a6 a7) (P2.mk a8 a9)).3.1, isI (Bd.mk (P2.mk a0 a1) (P2.mk a2 a3) (P2.mk a4 a5) (P2.mk a6 a7) (P2.mk a8 a9)).3.2, isU (Bd.mk (P2.mk a0 a1) (P2.mk a2 a3) (P2.mk a4 a5) (P2.mk a6 a7) (P2.mk a8 a9)).4.1, isU (Bd.mk (P2.mk a0 a1) (P2.mk a2 a3) (P2.mk a4 a5) (P2.mk a6 a7) (P2.mk a8 a9)).4.2, isI (Bd.mk (P2.mk a0 a1) (P2.mk a2 a3) (P2.mk a4 a5) (P2.mk a6 a7) (P2.mk a8 a9)).5.1, isI (Bd.mk (P2.mk a0 a1) (P2.mk a2 a3) (P2.mk a4 a5) (P2.mk a6 a7) (P2.mk a8 a9)).5.2], .u (.agg (cB (sync (Bd.mk (P2.mk a0 a1) (P2.mk a2 a3) (P2.mk a4 a5) (P2.mk a6 a7) (P2.mk a8 a9))))))
  | _, _ => none
theorem s_sync_ok : SumOK Tryz.prog s_sync := by
  refine bySum_ok ⟨_, Tryz.func23, by kernel_rfl⟩ ?_
  intro ns os bs r hm hb ρ w
  split at hm
  · rename_i a0 a1 a2 a3 a4 a5 a6 a7 a8 a9
    cases hm
    exact t_sync (Bd.mk (P2.mk a0 a1) (P2.mk a2 a3) (P2.mk a4 a5) (P2.mk a6 a7) (P2.mk a8 a9)) (hb _ (by simp)) (hb _ (by simp)) (hb _ (by simp)) (hb _ (by simp)) (hb _ (by simp)) (hb _ (by simp)) (hb _ (by simp)) (hb _ (by simp)) (hb _ (by simp)) (hb _ (by simp)) ρ w
  · cases hm
theorem t_bMeet (b : Bd) (c : Bd) (hb0 : isU b.1.1 = true) (hb1 : isU b.1.2 = true) (hb2 : isU b.2.1 = true) (hb3 : isU b.2.2 = true) (hb4 : isI b.3.1 = true) (hb5 : isI b.3.2 = true) (hb6 : isU b.4.1 = true) (hb7 : isU b.4.2 = true) (hb8 : isI b.5.1 = true) (hb9 : isI b.5.2 = true) (hb10 : isU c.1.1 = true) (hb11 : isU c.1.2 = true) (hb12 : isU c.2.1 = true) (hb13 : isU c.2.2 = true) (hb14 : isI c.3.1 = true) (hb15 : isI c.3.2 = true) (hb16 : isU c.4.1 = true) (hb17 : isU c.4.2 = true) (hb18 : isI c.5.1 = true) (hb19 : isI c.5.2 = true) (ρ : Nat → Nat) (w : World) : Calls Tryz.prog 29 (enV [.a [some .u64, some .u64, some .u64, some .u64, some .i64, some .i64, some .u64, some .u64, some .i64, some .i64], .a [some .u64, some .u64, some .u64, some .u64, some .i64, some .i64, some .u64, some .u64, some .i64, some .i64]] ([b.1.1, b.1.2, b.2.1, b.2.2, b.3.1, b.3.2, b.4.1, b.4.2, b.5.1, b.5.2, c.1.1, c.1.2, c.2.1, c.2.2, c.3.1, c.3.2, c.4.1, c.4.2, c.5.1, c.5.2], [])).toArray w fun e w' => e = .returned (V.den ρ (.u (.agg (cB (meet5 b c))))) ∧ Below w.heap.size w w' := by
  refine pure_to nameOK (okc s_bNone_ok (okc s_tMeet_ok (okc s_pMeet_ok (okc s_pCut_ok (okc s_sync_ok okn))))) (dOK (okc s_bNone_ok (okc s_tMeet_ok (okc s_pMeet_ok (okc s_pCut_ok (okc s_sync_ok okn)))))) 300 [.u (.agg (cB b)), .u (.agg (cB c))] (T := (.br (bNone b) (.leaf (.val (.u (.agg cN)))) (.br (bNone c) (.leaf (.val (.u (.agg cN)))) (.br (tMeetIs b.1 c.1) (.br (bNot (tMeetIs b.1 c.1)) (.leaf (.val (.u (.agg cN)))) (.br (isU (tMeet b.1 c.1).1) (.br (isU (tMeet b.1 c.1).2) (.br (isU (pMeet b.2 c.2).1) (.br (isU (pMeet b.2 c.2).2) (.br (isI (pMeet b.3 c.3).1) (.br (isI (pMeet b.3 c.3).2) (.br (isU (pMeet b.4 c.4).1) (.br (isU (pMeet b.4 c.4).2) (.br (isI (pMeet b.5 c.5).1) (.br (isI (pMeet b.5 c.5).2) (.leaf (.val (.u (.agg (cB (sync (.mk (tMeet b.1 c.1) (pMeet b.2 c.2) (pMeet b.3 c.3) (pMeet b.4 c.4) (pMeet b.5 c.5)))))))) (.no 98)) (.no 98)) (.no 98)) (.no 98)) (.no 98)) (.no 98)) (.no 98)) (.no 98)) (.no 98)) (.no 98))) (.br (bNot (tMeetIs b.1 c.1)) (.leaf (.val (.u (.agg cN)))) (.br (isU b.1.1) (.br (isU b.1.2) (.br (isU (pMeet b.2 c.2).1) (.br (isU (pMeet b.2 c.2).2) (.br (isI (pMeet b.3 c.3).1) (.br (isI (pMeet b.3 c.3).2) (.br (isU (pMeet b.4 c.4).1) (.br (isU (pMeet b.4 c.4).2) (.br (isI (pMeet b.5 c.5).1) (.br (isI (pMeet b.5 c.5).2) (.leaf (.val (.u (.agg (cB (sync (.mk b.1 (pMeet b.2 c.2) (pMeet b.3 c.3) (pMeet b.4 c.4) (pMeet b.5 c.5)))))))) (.no 98)) (.no 98)) (.no 98)) (.no 98)) (.no 98)) (.no 98)) (.no 98)) (.no 98)) (.no 98)) (.no 98))))))) (by kernel_rfl) ρ rfl ?_ w
  · have r0 : Raw5 b := raw_of hb0 hb1 hb2 hb3 hb4 hb5 hb6 hb7 hb8 hb9
    have r1 : Raw5 c := raw_of hb10 hb11 hb12 hb13 hb14 hb15 hb16 hb17 hb18 hb19
    have r : Raw5 ⟨tMeet b.1 c.1, pMeet b.2 c.2, pMeet b.3 c.3, pMeet b.4 c.4, pMeet b.5 c.5⟩ := ⟨meet_uu r0.t r1.t, meet_uu2 r0.u r1.u, meet_ii r0.s r1.s, meet_uu2 r0.w r1.w, meet_ii r0.v r1.v⟩
    refine br2 (fun h => ?_) (fun h0 => br2 (fun h => ?_) (fun h1 => br2 (fun h2 => brn (fun h => ?_) (fun _ => ?_)) (fun h2 => brn (fun h => ?_) (fun h => ?_))))
    · simp only [Tr.all, meet5, h, Bool.not_true, Bool.false_and]; try rfl
    · simp only [Tr.all, meet5, h, Bool.not_true, Bool.and_false, Bool.false_and]; try rfl
    · rw [h2] at h; cases h
    · refine ask10 r ?_
      simp only [Tr.all, meet5, h0, h1, h2, Bool.not_false, Bool.true_and]
    · simp only [Tr.all, meet5, h2, Bool.and_false]; try rfl
    · rw [h2] at h; cases h
def s_bMeet : Sum := bySum 29 [.a [some .u64, some .u64, some .u64, some .u64, some .i64, some .i64, some .u64, some .u64, some .i64, some .i64], .a [some .u64, some .u64, some .u64, some .u64, some .i64, some .i64, some .u64, some .u64, some .i64, some .i64]] fun
  | [a0, a1, a2, a3, a4, a5, a6, a7, a8, a9, a10, a11, a12, a13, a14, a15, a16, a17, a18, a19], [] => some ([isU (Bd.mk (P2.mk a0 a1) (P2.mk a2 a3) (P2.mk a4 a5) (P2.mk a6 a7) (P2.mk a8 a9)).1.1, isU (Bd.mk (P2.mk a0 a1) (P2.mk a2 a3) (P2.mk a4 a5) (P2.mk a6 a7) (P2.mk a8 a9)).1.2, isU (Bd.mk (P2.mk a0 a1) (P2.mk a2 a3) (P2.mk a4 a5) (P2.mk a6 a7) (P2.mk a8 a9)).2.1, isU (Bd.mk (P2.mk a0 a1) (P2.mk a2 a3) (P2.mk a4 a5) (P2.mk a6 a7) (P2.mk a8 a9)).2.2, isI (Bd.mk (P2.mk a0 a1) (P2.mk a2 a3) (P2.mk a4 a5) (P2.mk a6 a7) (P2.mk a8 a9)).3.1, isI (Bd.mk (P2.mk a0 a1) (P2.mk a2 a3) (P2.mk a4 a5) (P2.mk a6 a7) (P2.mk a8 a9)).3.2, isU (Bd.mk (P2.mk a0 a1) (P2.mk a2 a3) (P2.mk a4 a5) (P2.mk a6 a7) (P2.mk a8 a9)).4.1, isU (Bd.mk (P2.mk a0 a1) (P2.mk a2 a3) (P2.mk a4 a5) (P2.mk a6 a7) (P2.mk a8 a9)).4.2, isI (Bd.mk (P2.mk a0 a1) (P2.mk a2 a3) (P2.mk a4 a5) (P2.mk a6 a7) (P2.mk a8 a9)).5.1, isI (Bd.mk (P2.mk a0 a1) (P2.mk a2 a3) (P2.mk a4 a5) (P2.mk a6 a7) (P2.mk a8 a9)).5.2, isU (Bd.mk (P2.mk a10 a11) (P2.mk a12 a13) (P2.mk a14 a15) (P2.mk a16 a17) (P2.mk a18 a19)).1.1, isU (Bd.mk (P2.mk a10 a11) (P2.mk a12 a13) (P2.mk a14 a15) (P2.mk a16 a17) (P2.mk a18 a19)).1.2, isU (Bd.mk (P2.mk a10 a11) (P2.mk a12 a13) (P2.mk a14 a15) (P2.mk a16 a17) (P2.mk a18 a19)).2.1, isU (Bd.mk (P2.mk a10 a11) (P2.mk a12 a13) (P2.mk a14 a15) (P2.mk a16 a17) (P2.mk a18 a19)).2.2, isI (Bd.mk (P2.mk a10 a11) (P2.mk a12 a13) (P2.mk a14 a15) (P2.mk a16 a17) (P2.mk a18 a19)).3.1, isI (Bd.mk (P2.mk a10 a11) (P2.mk a12 a13) (P2.mk a14 a15) (P2.mk a16 a17) (P2.mk a18 a19)).3.2, isU (Bd.mk (P2.mk a10 a11) (P2.mk a12 a13) (P2.mk a14 a15) (P2.mk a16 a17) (P2.mk a18 a19)).4.1, isU (Bd.mk (P2.mk a10 a11) (P2.mk a12 a13) (P2.mk a14 a15) (P2.mk a16 a17) (P2.mk a18 a19)).4.2, isI (Bd.mk (P2.mk a10 a11) (P2.mk a12 a13) (P2.mk a14 a15) (P2.mk a16 a17) (P2.mk a18 a19)).5.1, isI (Bd.mk (P2.mk a10 a11) (P2.mk a12 a13) (P2.mk a14 a15) (P2.mk a16 a17) (P2.mk a18 a19)).5.2], .u (.agg (cB (meet5 (Bd.mk (P2.mk a0 a1) (P2.mk a2 a3) (P2.mk a4 a5) (P2.mk a6 a7) (P2.mk a8 a9)) (Bd.mk (P2.mk a10 a11) (P2.mk a12 a13) (P2.mk a14 a15) (P2.mk a16 a17) (P2.mk a18 a19))))))
  | _, _ => none
theorem s_bMeet_ok : SumOK Tryz.prog s_bMeet := by
  refine bySum_ok ⟨_, Tryz.func29, by kernel_rfl⟩ ?_
  intro ns os bs r hm hb ρ w
  split at hm
  · rename_i a0 a1 a2 a3 a4 a5 a6 a7 a8 a9 a10 a11 a12 a13 a14 a15 a16 a17 a18 a19
    cases hm
    exact t_bMeet (Bd.mk (P2.mk a0 a1) (P2.mk a2 a3) (P2.mk a4 a5) (P2.mk a6 a7) (P2.mk a8 a9)) (Bd.mk (P2.mk a10 a11) (P2.mk a12 a13) (P2.mk a14 a15) (P2.mk a16 a17) (P2.mk a18 a19)) (hb _ (by simp)) (hb _ (by simp)) (hb _ (by simp)) (hb _ (by simp)) (hb _ (by simp)) (hb _ (by simp)) (hb _ (by simp)) (hb _ (by simp)) (hb _ (by simp)) (hb _ (by simp)) (hb _ (by simp)) (hb _ (by simp)) (hb _ (by simp)) (hb _ (by simp)) (hb _ (by simp)) (hb _ (by simp)) (hb _ (by simp)) (hb _ (by simp)) (hb _ (by simp)) (hb _ (by simp)) ρ w
  · cases hm
theorem t_bHas (b : Bd) (x : Int) (hb0 : isU b.1.1 = true) (hb1 : isU b.1.2 = true) (hb2 : isU b.2.1 = true) (hb3 : isU b.2.2 = true) (hb4 : isI b.3.1 = true) (hb5 : isI b.3.2 = true) (hb6 : isU b.4.1 = true) (hb7 : isU b.4.2 = true) (hb8 : isI b.5.1 = true) (hb9 : isI b.5.2 = true) (hb10 : isU x = true) (ρ : Nat → Nat) (w : World) : Calls Tryz.prog 25 (enV [.a [some .u64, some .u64, some .u64, some .u64, some .i64, some .i64, some .u64, some .u64, some .i64, some .i64], .s (some .u64)] ([b.1.1, b.1.2, b.2.1, b.2.2, b.3.1, b.3.2, b.4.1, b.4.2, b.5.1, b.5.2, x], [])).toArray w fun e w' => e = .returned (V.den ρ (.u (.c (.sb (bHas b x))))) ∧ Below w.heap.size w w' := by
  refine pure_to nameOK (okc s_bsign_ok (okc s_tHas_ok (okc s_pHas_ok (okc s_pHolds_ok okn)))) (dOK (okc s_bsign_ok (okc s_tHas_ok (okc s_pHas_ok (okc s_pHolds_ok okn))))) 300 [.u (.agg (cB b)), .u (.c (.si .u64 x))] (T := (.br (tHas b.1 x) (.br (pHas b.2 x) (.br (pHas b.3 (iConv .i64 x)) (.br (pHas b.4 (iBit .and .u64 x 4294967295)) (.leaf (.val (.u (.c (.sb (pHas b.5 (sg32 x))))))) (.leaf (.val (.u (.c (.lb false)))))) (.leaf (.val (.u (.c (.lb false)))))) (.leaf (.val (.u (.c (.lb false)))))) (.leaf (.val (.u (.c (.lb false))))))) (by kernel_rfl) ρ rfl ?_ w
  · have e : bHas b x = (tHas b.1 x && (pHas b.2 x && (pHas b.3 (iConv .i64 x) && (pHas b.4 (iBit .and .u64 x 4294967295) && pHas b.5 (sg32 x))))) := by
      rw [conv_sgn hb10, show iBit .and .u64 x 4294967295 = x % 4294967296 from and_low hb10]
      simp only [bHas, pHas, Bool.decide_and]
    refine br2 (fun h1 => br2 (fun h2 => br2 (fun h3 => br2 (fun h4 => ?_) (fun h4 => ?_)) (fun h3 => ?_)) (fun h2 => ?_)) (fun h1 => ?_)
    · simp only [Tr.all, e, h1, h2, h3, h4, Bool.true_and]
    · simp only [Tr.all, e, h1, h2, h3, h4, Bool.true_and, Bool.false_and]; try rfl
    · simp only [Tr.all, e, h1, h2, h3, Bool.true_and, Bool.false_and]; try rfl
    · simp only [Tr.all, e, h1, h2, Bool.true_and, Bool.false_and]; try rfl
    · simp only [Tr.all, e, h1, Bool.false_and]; try rfl
def s_bHas : Sum := bySum 25 [.a [some .u64, some .u64, some .u64, some .u64, some .i64, some .i64, some .u64, some .u64, some .i64, some .i64], .s (some .u64)] fun
  | [a0, a1, a2, a3, a4, a5, a6, a7, a8, a9, a10], [] => some ([isU (Bd.mk (P2.mk a0 a1) (P2.mk a2 a3) (P2.mk a4 a5) (P2.mk a6 a7) (P2.mk a8 a9)).1.1, isU (Bd.mk (P2.mk a0 a1) (P2.mk a2 a3) (P2.mk a4 a5) (P2.mk a6 a7) (P2.mk a8 a9)).1.2, isU (Bd.mk (P2.mk a0 a1) (P2.mk a2 a3) (P2.mk a4 a5) (P2.mk a6 a7) (P2.mk a8 a9)).2.1, isU (Bd.mk (P2.mk a0 a1) (P2.mk a2 a3) (P2.mk a4 a5) (P2.mk a6 a7) (P2.mk a8 a9)).2.2, isI (Bd.mk (P2.mk a0 a1) (P2.mk a2 a3) (P2.mk a4 a5) (P2.mk a6 a7) (P2.mk a8 a9)).3.1, isI (Bd.mk (P2.mk a0 a1) (P2.mk a2 a3) (P2.mk a4 a5) (P2.mk a6 a7) (P2.mk a8 a9)).3.2, isU (Bd.mk (P2.mk a0 a1) (P2.mk a2 a3) (P2.mk a4 a5) (P2.mk a6 a7) (P2.mk a8 a9)).4.1, isU (Bd.mk (P2.mk a0 a1) (P2.mk a2 a3) (P2.mk a4 a5) (P2.mk a6 a7) (P2.mk a8 a9)).4.2, isI (Bd.mk (P2.mk a0 a1) (P2.mk a2 a3) (P2.mk a4 a5) (P2.mk a6 a7) (P2.mk a8 a9)).5.1, isI (Bd.mk (P2.mk a0 a1) (P2.mk a2 a3) (P2.mk a4 a5) (P2.mk a6 a7) (P2.mk a8 a9)).5.2, isU a10], .u (.c (.sb (bHas (Bd.mk (P2.mk a0 a1) (P2.mk a2 a3) (P2.mk a4 a5) (P2.mk a6 a7) (P2.mk a8 a9)) a10))))
  | _, _ => none
theorem s_bHas_ok : SumOK Tryz.prog s_bHas := by
  refine bySum_ok ⟨_, Tryz.func25, by kernel_rfl⟩ ?_
  intro ns os bs r hm hb ρ w
  split at hm
  · rename_i a0 a1 a2 a3 a4 a5 a6 a7 a8 a9 a10
    cases hm
    exact t_bHas (Bd.mk (P2.mk a0 a1) (P2.mk a2 a3) (P2.mk a4 a5) (P2.mk a6 a7) (P2.mk a8 a9)) a10 (hb _ (by simp)) (hb _ (by simp)) (hb _ (by simp)) (hb _ (by simp)) (hb _ (by simp)) (hb _ (by simp)) (hb _ (by simp)) (hb _ (by simp)) (hb _ (by simp)) (hb _ (by simp)) (hb _ (by simp)) ρ w
  · cases hm
theorem t_bIn (b : Bd) (c : Bd) (ρ : Nat → Nat) (w : World) : Calls Tryz.prog 27 (enV [.a [some .u64, some .u64, some .u64, some .u64, some .i64, some .i64, some .u64, some .u64, some .i64, some .i64], .a [some .u64, some .u64, some .u64, some .u64, some .i64, some .i64, some .u64, some .u64, some .i64, some .i64]] ([b.1.1, b.1.2, b.2.1, b.2.2, b.3.1, b.3.2, b.4.1, b.4.2, b.5.1, b.5.2, c.1.1, c.1.2, c.2.1, c.2.2, c.3.1, c.3.2, c.4.1, c.4.2, c.5.1, c.5.2], [])).toArray w fun e w' => e = .returned (V.den ρ (.u (.c (.sb (bIn b c))))) ∧ Below w.heap.size w w' := by
  refine pure_to nameOK (okc s_bNone_ok (okc s_tIn_ok (okc s_pIn_ok (okc s_pBoth_ok okn)))) (dOK (okc s_bNone_ok (okc s_tIn_ok (okc s_pIn_ok (okc s_pBoth_ok okn))))) 300 [.u (.agg (cB b)), .u (.agg (cB c))] (T := (.br (bNone b) (.leaf (.val (.u (.c (.lb true))))) (.br (bNot (bNone c)) (.br (tIn b.1 c.1) (.br (pIn b.2 c.2) (.br (pBoth b.3 c.3) (.br (pIn b.4 c.4) (.leaf (.val (.u (.c (.sb (pBoth b.5 c.5)))))) (.leaf (.val (.u (.c (.lb false)))))) (.leaf (.val (.u (.c (.lb false)))))) (.leaf (.val (.u (.c (.lb false)))))) (.leaf (.val (.u (.c (.lb false)))))) (.leaf (.val (.u (.c (.lb false)))))))) (by kernel_rfl) ρ rfl ?_ w
  · refine br2 (fun h0 => ?_) (fun h0 => brn (fun h1 => br2 (fun h2 => br2 (fun h3 => br2 (fun h4 => br2 (fun h5 => ?_) (fun h5 => ?_)) (fun h4 => ?_)) (fun h3 => ?_)) (fun h2 => ?_)) (fun h1 => ?_))
    · simp only [Tr.all, bIn, h0, Bool.true_or]; try rfl
    · simp only [Tr.all, bIn, h0, h1, h2, h3, h4, h5, Bool.false_or, Bool.not_false, Bool.true_and]
    · simp only [Tr.all, bIn, h0, h1, h2, h3, h4, h5, Bool.false_or, Bool.not_false, Bool.true_and, Bool.false_and]; try rfl
    · simp only [Tr.all, bIn, h0, h1, h2, h3, h4, Bool.false_or, Bool.not_false, Bool.true_and, Bool.false_and]; try rfl
    · simp only [Tr.all, bIn, h0, h1, h2, h3, Bool.false_or, Bool.not_false, Bool.true_and, Bool.false_and]; try rfl
    · simp only [Tr.all, bIn, h0, h1, h2, Bool.false_or, Bool.not_false, Bool.true_and, Bool.false_and]; try rfl
    · simp only [Tr.all, bIn, h0, h1, Bool.false_or, Bool.not_true, Bool.false_and]; try rfl
def s_bIn : Sum := bySum 27 [.a [some .u64, some .u64, some .u64, some .u64, some .i64, some .i64, some .u64, some .u64, some .i64, some .i64], .a [some .u64, some .u64, some .u64, some .u64, some .i64, some .i64, some .u64, some .u64, some .i64, some .i64]] fun
  | [a0, a1, a2, a3, a4, a5, a6, a7, a8, a9, a10, a11, a12, a13, a14, a15, a16, a17, a18, a19], [] => some ([], .u (.c (.sb (bIn (Bd.mk (P2.mk a0 a1) (P2.mk a2 a3) (P2.mk a4 a5) (P2.mk a6 a7) (P2.mk a8 a9)) (Bd.mk (P2.mk a10 a11) (P2.mk a12 a13) (P2.mk a14 a15) (P2.mk a16 a17) (P2.mk a18 a19))))))
  | _, _ => none
theorem s_bIn_ok : SumOK Tryz.prog s_bIn := by
  refine bySum_ok ⟨_, Tryz.func27, by kernel_rfl⟩ ?_
  intro ns os bs r hm hb ρ w
  split at hm
  · rename_i a0 a1 a2 a3 a4 a5 a6 a7 a8 a9 a10 a11 a12 a13 a14 a15 a16 a17 a18 a19
    cases hm
    exact t_bIn (Bd.mk (P2.mk a0 a1) (P2.mk a2 a3) (P2.mk a4 a5) (P2.mk a6 a7) (P2.mk a8 a9)) (Bd.mk (P2.mk a10 a11) (P2.mk a12 a13) (P2.mk a14 a15) (P2.mk a16 a17) (P2.mk a18 a19)) ρ w
  · cases hm
end Go.Proofs.YtafpbibpahjnhaaGreat.L05
