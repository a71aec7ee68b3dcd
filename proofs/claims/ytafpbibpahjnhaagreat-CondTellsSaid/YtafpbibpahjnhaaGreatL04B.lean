/- Layer 4: what its functions are shown to do, one by one; written by a program of the session's own (gen04.py). -/
import Derived.Test.YtafpbibpahjnhaaGreatProg
import Derived.Test.YtafpbibpahjnhaaGreatL04A
namespace Go.Proofs.YtafpbibpahjnhaaGreat.L04
open Go Go.RowKit Go.Proofs.YtafpbibpahjnhaaGreat.Sx
set_option linter.unusedVariables false
set_option linter.unusedSimpArgs false
theorem nameOK : NameOK Tryz.prog := nameOK_of (by kernel_rfl)
theorem dOK {S : List Sum} (hS : ∀ q ∈ S, SumOK Tryz.prog q) : DSnd Tryz.prog (drawx Tryz.prog S) := drawx_sound nameOK hS (by kernel_rfl)
def s_eAdd : Sum := extAdd 225
theorem s_eAdd_ok : SumOK Tryz.prog s_eAdd := extAdd_ok Tryz.func225 (by kernel_rfl) (by kernel_rfl) (by kernel_rfl) (by kernel_rfl)
def s_eSub : Sum := extSub 227
theorem s_eSub_ok : SumOK Tryz.prog s_eSub := extSub_ok Tryz.func227 (by kernel_rfl) (by kernel_rfl) (by kernel_rfl) (by kernel_rfl)
theorem t_None (a b : Int) (ρ : Nat → Nat) (w : World) : Calls Tryz.prog 73 (enc [.a [.u64, .u64]] [a, b]).toArray w fun e w' => e = .returned (V.den ρ (.u (.c (.sb (mNone a b))))) ∧ Below w.heap.size w w' := by
  refine pure_to nameOK okn (dOK okn) 300 [.u (.agg [.si .u64 a, .si .u64 b])] (T := (.leaf (.val (.u (.c (.sb (iLt b a))))))) (by kernel_rfl) ρ rfl ?_ w
  · skip
    simp only [Tr.all]
    repeat' first | refine ⟨?_, ?_⟩ | intro _
    all_goals (refine congrArg Value.bool ?_; rw [Bool.eq_iff_iff]; simp only [lt_t, lt_f, le_t, le_f, gt_t, gt_f, ge_t, ge_f, eq_t, eq_f, ne_t, ne_f, neg_t, neg_f, zero_t, zero_f, not_t, not_f, beq_t, beq_f, and_t, and_f, isU_iff, isU_f, isI_iff, isI_f, add_u, sub_u, conv_u, add_i, sub_i, conv_i, max_d, min_d, mNone, decide_eq_true_eq, Bool.false_eq_true, false_iff, true_iff] at *; try omega)
def s_None : Sum := mkSum 73 [.a [.u64, .u64]] fun
  | [a, b] => some ([], .u (.c (.sb (mNone a b))))
  | _ => none
theorem s_None_ok : SumOK Tryz.prog s_None := by
  refine mkSum_ok ⟨_, Tryz.func73, by kernel_rfl⟩ ?_
  intro xs bs r hm hb ρ w
  split at hm
  · rename_i a b
    cases hm
    exact t_None a b ρ w
  · cases hm
theorem t_Nil (a b : Int) (ρ : Nat → Nat) (w : World) : Calls Tryz.prog 74 (enc [.a [.i64, .i64]] [a, b]).toArray w fun e w' => e = .returned (V.den ρ (.u (.c (.sb (mNone a b))))) ∧ Below w.heap.size w w' := by
  refine pure_to nameOK okn (dOK okn) 300 [.u (.agg [.si .i64 a, .si .i64 b])] (T := (.leaf (.val (.u (.c (.sb (iLt b a))))))) (by kernel_rfl) ρ rfl ?_ w
  · skip
    simp only [Tr.all]
    repeat' first | refine ⟨?_, ?_⟩ | intro _
    all_goals (refine congrArg Value.bool ?_; rw [Bool.eq_iff_iff]; simp only [lt_t, lt_f, le_t, le_f, gt_t, gt_f, ge_t, ge_f, eq_t, eq_f, ne_t, ne_f, neg_t, neg_f, zero_t, zero_f, not_t, not_f, beq_t, beq_f, and_t, and_f, isU_iff, isU_f, isI_iff, isI_f, add_u, sub_u, conv_u, add_i, sub_i, conv_i, max_d, min_d, mNone, decide_eq_true_eq, Bool.false_eq_true, false_iff, true_iff] at *; try omega)
def s_Nil : Sum := mkSum 74 [.a [.i64, .i64]] fun
  | [a, b] => some ([], .u (.c (.sb (mNone a b))))
  | _ => none
theorem s_Nil_ok : SumOK Tryz.prog s_Nil := by
  refine mkSum_ok ⟨_, Tryz.func74, by kernel_rfl⟩ ?_
  intro xs bs r hm hb ρ w
  split at hm
  · rename_i a b
    cases hm
    exact t_Nil a b ρ w
  · cases hm
theorem t_Has (a b c : Int) (ρ : Nat → Nat) (w : World) : Calls Tryz.prog 63 (enc [.a [.u64, .u64], .i .u64] [a, b, c]).toArray w fun e w' => e = .returned (V.den ρ (.u (.c (.sb (mHas a b c))))) ∧ Below w.heap.size w w' := by
  refine pure_to nameOK okn (dOK okn) 300 [.u (.agg [.si .u64 a, .si .u64 b]), .u (.c (.si .u64 c))] (T := (.br (iLe a c) (.leaf (.val (.u (.c (.sb (iLe c b)))))) (.leaf (.val (.u (.c (.lb false))))))) (by kernel_rfl) ρ rfl ?_ w
  · skip
    simp only [Tr.all]
    repeat' first | refine ⟨?_, ?_⟩ | intro _
    all_goals (refine congrArg Value.bool ?_; rw [Bool.eq_iff_iff]; simp only [lt_t, lt_f, le_t, le_f, gt_t, gt_f, ge_t, ge_f, eq_t, eq_f, ne_t, ne_f, neg_t, neg_f, zero_t, zero_f, not_t, not_f, beq_t, beq_f, and_t, and_f, isU_iff, isU_f, isI_iff, isI_f, add_u, sub_u, conv_u, add_i, sub_i, conv_i, max_d, min_d, mHas, decide_eq_true_eq, Bool.false_eq_true, false_iff, true_iff] at *; try omega)
def s_Has : Sum := mkSum 63 [.a [.u64, .u64], .i .u64] fun
  | [a, b, c] => some ([], .u (.c (.sb (mHas a b c))))
  | _ => none
theorem s_Has_ok : SumOK Tryz.prog s_Has := by
  refine mkSum_ok ⟨_, Tryz.func63, by kernel_rfl⟩ ?_
  intro xs bs r hm hb ρ w
  split at hm
  · rename_i a b c
    cases hm
    exact t_Has a b c ρ w
  · cases hm
theorem t_Holds (a b c : Int) (ρ : Nat → Nat) (w : World) : Calls Tryz.prog 64 (enc [.a [.i64, .i64], .i .i64] [a, b, c]).toArray w fun e w' => e = .returned (V.den ρ (.u (.c (.sb (mHas a b c))))) ∧ Below w.heap.size w w' := by
  refine pure_to nameOK okn (dOK okn) 300 [.u (.agg [.si .i64 a, .si .i64 b]), .u (.c (.si .i64 c))] (T := (.br (iLe a c) (.leaf (.val (.u (.c (.sb (iLe c b)))))) (.leaf (.val (.u (.c (.lb false))))))) (by kernel_rfl) ρ rfl ?_ w
  · skip
    simp only [Tr.all]
    repeat' first | refine ⟨?_, ?_⟩ | intro _
    all_goals (refine congrArg Value.bool ?_; rw [Bool.eq_iff_iff]; simp only [lt_t, lt_f, le_t, le_f, gt_t, gt_f, ge_t, ge_f, eq_t, eq_f, ne_t, ne_f, neg_t, neg_f, zero_t, zero_f, not_t, not_f, beq_t, beq_f, and_t, and_f, isU_iff, isU_f, isI_iff, isI_f, add_u, sub_u, conv_u, add_i, sub_i, conv_i, max_d, min_d, mHas, decide_eq_true_eq, Bool.false_eq_true, false_iff, true_iff] at *; try omega)
def s_Holds : Sum := mkSum 64 [.a [.i64, .i64], .i .i64] fun
  | [a, b, c] => some ([], .u (.c (.sb (mHas a b c))))
  | _ => none
theorem s_Holds_ok : SumOK Tryz.prog s_Holds := by
  refine mkSum_ok ⟨_, Tryz.func64, by kernel_rfl⟩ ?_
  intro xs bs r hm hb ρ w
  split at hm
  · rename_i a b c
    cases hm
    exact t_Holds a b c ρ w
  · cases hm
theorem t_In (a b c d : Int) (ρ : Nat → Nat) (w : World) : Calls Tryz.prog 59 (enc [.a [.u64, .u64], .a [.u64, .u64]] [a, b, c, d]).toArray w fun e w' => e = .returned (V.den ρ (.u (.c (.sb (mIn a b c d))))) ∧ Below w.heap.size w w' := by
  refine pure_to nameOK okn (dOK okn) 300 [.u (.agg [.si .u64 a, .si .u64 b]), .u (.agg [.si .u64 c, .si .u64 d])] (T := (.br (iLt b a) (.leaf (.val (.u (.c (.lb true))))) (.br (iLe c a) (.br (iLe a d) (.br (iLe c b) (.leaf (.val (.u (.c (.sb (iLe b d)))))) (.leaf (.val (.u (.c (.lb false)))))) (.leaf (.val (.u (.c (.lb false)))))) (.leaf (.val (.u (.c (.lb false)))))))) (by kernel_rfl) ρ rfl ?_ w
  · skip
    simp only [Tr.all]
    repeat' first | refine ⟨?_, ?_⟩ | intro _
    all_goals (refine congrArg Value.bool ?_; rw [Bool.eq_iff_iff]; simp only [lt_t, lt_f, le_t, le_f, gt_t, gt_f, ge_t, ge_f, eq_t, eq_f, ne_t, ne_f, neg_t, neg_f, zero_t, zero_f, not_t, not_f, beq_t, beq_f, and_t, and_f, isU_iff, isU_f, isI_iff, isI_f, add_u, sub_u, conv_u, add_i, sub_i, conv_i, max_d, min_d, mIn, decide_eq_true_eq, Bool.false_eq_true, false_iff, true_iff] at *; try omega)
def s_In : Sum := mkSum 59 [.a [.u64, .u64], .a [.u64, .u64]] fun
  | [a, b, c, d] => some ([], .u (.c (.sb (mIn a b c d))))
  | _ => none
theorem s_In_ok : SumOK Tryz.prog s_In := by
  refine mkSum_ok ⟨_, Tryz.func59, by kernel_rfl⟩ ?_
  intro xs bs r hm hb ρ w
  split at hm
  · rename_i a b c d
    cases hm
    exact t_In a b c d ρ w
  · cases hm
theorem t_Meet (a b c d : Int) (ρ : Nat → Nat) (w : World) : Calls Tryz.prog 71 (enc [.a [.u64, .u64], .a [.u64, .u64]] [a, b, c, d]).toArray w fun e w' => e = .returned (V.den ρ (.u (.agg [.si .u64 (mMeet1 a b c d), .si .u64 (mMeet2 a b c d)]))) ∧ Below w.heap.size w w' := by
  refine pure_to nameOK okn (dOK okn) 300 [.u (.agg [.si .u64 a, .si .u64 b]), .u (.agg [.si .u64 c, .si .u64 d])] (T := (.br (iLt b a) (.leaf (.val (.u (.agg [(.li .u64 1), (.li .u64 0)])))) (.br (iLt d c) (.leaf (.val (.u (.agg [(.li .u64 1), (.li .u64 0)])))) (.br (iLt (iMin2 b d) (iMax2 a c)) (.leaf (.val (.u (.agg [(.li .u64 1), (.li .u64 0)])))) (.leaf (.val (.u (.agg [(.si .u64 (iMax2 a c)), (.si .u64 (iMin2 b d))])))))))) (by kernel_rfl) ρ rfl ?_ w
  · skip
    simp only [Tr.all, lt_t, lt_f, le_t, le_f, gt_t, gt_f, ge_t, ge_f, eq_t, eq_f, ne_t, ne_f, neg_t, neg_f, zero_t, zero_f, not_t, not_f, beq_t, beq_f, and_t, and_f, isU_iff, isU_f, isI_iff, isI_f, add_u, sub_u, conv_u, add_i, sub_i, conv_i, max_d, min_d]
    repeat' first | refine ⟨?_, ?_⟩ | intro _
    all_goals first | omega | (refine V.pair (congrArg (Value.int _) ?_) (congrArg (Value.int _) ?_) <;> simp only [mMeet1, mMeet2, mMeet, sgn, uns] <;> (repeat' split) <;> omega)
def s_Meet : Sum := mkSum 71 [.a [.u64, .u64], .a [.u64, .u64]] fun
  | [a, b, c, d] => some ([], .u (.agg [.si .u64 (mMeet1 a b c d), .si .u64 (mMeet2 a b c d)]))
  | _ => none
theorem s_Meet_ok : SumOK Tryz.prog s_Meet := by
  refine mkSum_ok ⟨_, Tryz.func71, by kernel_rfl⟩ ?_
  intro xs bs r hm hb ρ w
  split at hm
  · rename_i a b c d
    cases hm
    exact t_Meet a b c d ρ w
  · cases hm
theorem t_Cut (a b c d : Int) (ρ : Nat → Nat) (w : World) : Calls Tryz.prog 72 (enc [.a [.i64, .i64], .a [.i64, .i64]] [a, b, c, d]).toArray w fun e w' => e = .returned (V.den ρ (.u (.agg [.si .i64 (mMeet1 a b c d), .si .i64 (mMeet2 a b c d)]))) ∧ Below w.heap.size w w' := by
  refine pure_to nameOK okn (dOK okn) 300 [.u (.agg [.si .i64 a, .si .i64 b]), .u (.agg [.si .i64 c, .si .i64 d])] (T := (.br (iLt b a) (.leaf (.val (.u (.agg [(.li .i64 1), (.li .i64 0)])))) (.br (iLt d c) (.leaf (.val (.u (.agg [(.li .i64 1), (.li .i64 0)])))) (.br (iLt (iMin2 b d) (iMax2 a c)) (.leaf (.val (.u (.agg [(.li .i64 1), (.li .i64 0)])))) (.leaf (.val (.u (.agg [(.si .i64 (iMax2 a c)), (.si .i64 (iMin2 b d))])))))))) (by kernel_rfl) ρ rfl ?_ w
  · skip
    simp only [Tr.all, lt_t, lt_f, le_t, le_f, gt_t, gt_f, ge_t, ge_f, eq_t, eq_f, ne_t, ne_f, neg_t, neg_f, zero_t, zero_f, not_t, not_f, beq_t, beq_f, and_t, and_f, isU_iff, isU_f, isI_iff, isI_f, add_u, sub_u, conv_u, add_i, sub_i, conv_i, max_d, min_d]
    repeat' first | refine ⟨?_, ?_⟩ | intro _
    all_goals first | omega | (refine V.pair (congrArg (Value.int _) ?_) (congrArg (Value.int _) ?_) <;> simp only [mMeet1, mMeet2, mMeet, sgn, uns] <;> (repeat' split) <;> omega)
def s_Cut : Sum := mkSum 72 [.a [.i64, .i64], .a [.i64, .i64]] fun
  | [a, b, c, d] => some ([], .u (.agg [.si .i64 (mMeet1 a b c d), .si .i64 (mMeet2 a b c d)]))
  | _ => none
theorem s_Cut_ok : SumOK Tryz.prog s_Cut := by
  refine mkSum_ok ⟨_, Tryz.func72, by kernel_rfl⟩ ?_
  intro xs bs r hm hb ρ w
  split at hm
  · rename_i a b c d
    cases hm
    exact t_Cut a b c d ρ w
  · cases hm
theorem t_Plus (a b c d : Int) (hb0 : -9223372036854775808 ≤ a ∧ a < 9223372036854775808) (hb1 : -9223372036854775808 ≤ b ∧ b < 9223372036854775808) (hb2 : -9223372036854775808 ≤ c ∧ c < 9223372036854775808) (hb3 : -9223372036854775808 ≤ d ∧ d < 9223372036854775808) (ρ : Nat → Nat) (w : World) : Calls Tryz.prog 199 (enc [.a [.i64, .i64], .a [.i64, .i64]] [a, b, c, d]).toArray w fun e w' => e = .returned (V.den ρ (.u (.agg [.si .i64 (mPlus1 a b c d), .si .i64 (mPlus2 a b c d)]))) ∧ Below w.heap.size w w' := by
  refine pure_to nameOK okn (dOK okn) 300 [.u (.agg [.si .i64 a, .si .i64 b]), .u (.agg [.si .i64 c, .si .i64 d])] (T := (.br (iLt b a) (.leaf (.val (.u (.agg [(.li .i64 1), (.li .i64 0)])))) (.br (iLt d c) (.leaf (.val (.u (.agg [(.li .i64 1), (.li .i64 0)])))) (.br (bNot (bEq (iLt (iAdd .i64 a c) a) (iLt c 0))) (.leaf (.val (.u (.agg [(.li .i64 (-9223372036854775808)), (.li .i64 9223372036854775807)])))) (.br (bNot (bEq (iLt (iAdd .i64 b d) b) (iLt d 0))) (.leaf (.val (.u (.agg [(.li .i64 (-9223372036854775808)), (.li .i64 9223372036854775807)])))) (.leaf (.val (.u (.agg [(.si .i64 (iAdd .i64 a c)), (.si .i64 (iAdd .i64 b d))]))))))))) (by kernel_rfl) ρ rfl ?_ w
  · skip
    simp only [Tr.all, lt_t, lt_f, le_t, le_f, gt_t, gt_f, ge_t, ge_f, eq_t, eq_f, ne_t, ne_f, neg_t, neg_f, zero_t, zero_f, not_t, not_f, beq_t, beq_f, and_t, and_f, isU_iff, isU_f, isI_iff, isI_f, add_u, sub_u, conv_u, add_i, sub_i, conv_i, max_d, min_d]
    repeat' first | refine ⟨?_, ?_⟩ | intro _
    all_goals first | omega | (refine V.pair (congrArg (Value.int _) ?_) (congrArg (Value.int _) ?_) <;> simp only [mPlus1, mPlus2, mPlus, sgn, uns] <;> (repeat' split) <;> omega)
def s_Plus : Sum := mkSum 199 [.a [.i64, .i64], .a [.i64, .i64]] fun
  | [a, b, c, d] => some ([isI a, isI b, isI c, isI d], .u (.agg [.si .i64 (mPlus1 a b c d), .si .i64 (mPlus2 a b c d)]))
  | _ => none
theorem s_Plus_ok : SumOK Tryz.prog s_Plus := by
  refine mkSum_ok ⟨_, Tryz.func199, by kernel_rfl⟩ ?_
  intro xs bs r hm hb ρ w
  split at hm
  · rename_i a b c d
    cases hm
    exact t_Plus a b c d (isI_iff.1 (hb (isI a) (by simp))) (isI_iff.1 (hb (isI b) (by simp))) (isI_iff.1 (hb (isI c) (by simp))) (isI_iff.1 (hb (isI d) (by simp))) ρ w
  · cases hm
theorem t_rPlus (a b c d : Int) (hb0 : -9223372036854775808 ≤ a ∧ a < 9223372036854775808) (hb1 : -9223372036854775808 ≤ b ∧ b < 9223372036854775808) (hb2 : -9223372036854775808 ≤ c ∧ c < 9223372036854775808) (hb3 : -9223372036854775808 ≤ d ∧ d < 9223372036854775808) (ρ : Nat → Nat) (w : World) : Calls Tryz.prog 154 (enc [.a [.i64, .i64], .a [.i64, .i64]] [a, b, c, d]).toArray w fun e w' => e = .returned (V.den ρ (.u (.agg [.si .i64 (mPlus1 a b c d), .si .i64 (mPlus2 a b c d)]))) ∧ Below w.heap.size w w' := by
  refine pure_to nameOK okn (dOK okn) 300 [.u (.agg [.si .i64 a, .si .i64 b]), .u (.agg [.si .i64 c, .si .i64 d])] (T := (.br (iLt b a) (.leaf (.val (.u (.agg [(.li .i64 1), (.li .i64 0)])))) (.br (iLt d c) (.leaf (.val (.u (.agg [(.li .i64 1), (.li .i64 0)])))) (.br (iGe c 0) (.br (iGt a (iSub .i64 9223372036854775807 c)) (.br (iGe d 0) (.br (iGt b (iSub .i64 9223372036854775807 d)) (.leaf (.val (.u (.agg [(.li .i64 (-9223372036854775808)), (.li .i64 9223372036854775807)])))) (.br (iLt d 0) (.br (iLt b (iSub .i64 (-9223372036854775808) d)) (.leaf (.val (.u (.agg [(.li .i64 (-9223372036854775808)), (.li .i64 9223372036854775807)])))) (.leaf (.val (.u (.agg [(.li .i64 (-9223372036854775808)), (.li .i64 9223372036854775807)]))))) (.leaf (.val (.u (.agg [(.li .i64 (-9223372036854775808)), (.li .i64 9223372036854775807)])))))) (.br (iLt d 0) (.br (iLt b (iSub .i64 (-9223372036854775808) d)) (.leaf (.val (.u (.agg [(.li .i64 (-9223372036854775808)), (.li .i64 9223372036854775807)])))) (.leaf (.val (.u (.agg [(.li .i64 (-9223372036854775808)), (.li .i64 9223372036854775807)]))))) (.leaf (.val (.u (.agg [(.li .i64 (-9223372036854775808)), (.li .i64 9223372036854775807)])))))) (.br (iLt c 0) (.br (iLt a (iSub .i64 (-9223372036854775808) c)) (.br (iGe d 0) (.br (iGt b (iSub .i64 9223372036854775807 d)) (.leaf (.val (.u (.agg [(.li .i64 (-9223372036854775808)), (.li .i64 9223372036854775807)])))) (.br (iLt d 0) (.br (iLt b (iSub .i64 (-9223372036854775808) d)) (.leaf (.val (.u (.agg [(.li .i64 (-9223372036854775808)), (.li .i64 9223372036854775807)])))) (.leaf (.val (.u (.agg [(.li .i64 (-9223372036854775808)), (.li .i64 9223372036854775807)]))))) (.leaf (.val (.u (.agg [(.li .i64 (-9223372036854775808)), (.li .i64 9223372036854775807)])))))) (.br (iLt d 0) (.br (iLt b (iSub .i64 (-9223372036854775808) d)) (.leaf (.val (.u (.agg [(.li .i64 (-9223372036854775808)), (.li .i64 9223372036854775807)])))) (.leaf (.val (.u (.agg [(.li .i64 (-9223372036854775808)), (.li .i64 9223372036854775807)]))))) (.leaf (.val (.u (.agg [(.li .i64 (-9223372036854775808)), (.li .i64 9223372036854775807)])))))) (.br (iGe d 0) (.br (iGt b (iSub .i64 9223372036854775807 d)) (.leaf (.val (.u (.agg [(.li .i64 (-9223372036854775808)), (.li .i64 9223372036854775807)])))) (.br (iLt d 0) (.br (iLt b (iSub .i64 (-9223372036854775808) d)) (.leaf (.val (.u (.agg [(.li .i64 (-9223372036854775808)), (.li .i64 9223372036854775807)])))) (.leaf (.val (.u (.agg [(.si .i64 (iAdd .i64 a c)), (.si .i64 (iAdd .i64 b d))]))))) (.leaf (.val (.u (.agg [(.si .i64 (iAdd .i64 a c)), (.si .i64 (iAdd .i64 b d))])))))) (.br (iLt d 0) (.br (iLt b (iSub .i64 (-9223372036854775808) d)) (.leaf (.val (.u (.agg [(.li .i64 (-9223372036854775808)), (.li .i64 9223372036854775807)])))) (.leaf (.val (.u (.agg [(.si .i64 (iAdd .i64 a c)), (.si .i64 (iAdd .i64 b d))]))))) (.leaf (.val (.u (.agg [(.si .i64 (iAdd .i64 a c)), (.si .i64 (iAdd .i64 b d))]))))))) (.br (iGe d 0) (.br (iGt b (iSub .i64 9223372036854775807 d)) (.leaf (.val (.u (.agg [(.li .i64 (-9223372036854775808)), (.li .i64 9223372036854775807)])))) (.br (iLt d 0) (.br (iLt b (iSub .i64 (-9223372036854775808) d)) (.leaf (.val (.u (.agg [(.li .i64 (-9223372036854775808)), (.li .i64 9223372036854775807)])))) (.leaf (.val (.u (.agg [(.si .i64 (iAdd .i64 a c)), (.si .i64 (iAdd .i64 b d))]))))) (.leaf (.val (.u (.agg [(.si .i64 (iAdd .i64 a c)), (.si .i64 (iAdd .i64 b d))])))))) (.br (iLt d 0) (.br (iLt b (iSub .i64 (-9223372036854775808) d)) (.leaf (.val (.u (.agg [(.li .i64 (-9223372036854775808)), (.li .i64 9223372036854775807)])))) (.leaf (.val (.u (.agg [(.si .i64 (iAdd .i64 a c)), (.si .i64 (iAdd .i64 b d))]))))) (.leaf (.val (.u (.agg [(.si .i64 (iAdd .i64 a c)), (.si .i64 (iAdd .i64 b d))])))))))) (.br (iLt c 0) (.br (iLt a (iSub .i64 (-9223372036854775808) c)) (.br (iGe d 0) (.br (iGt b (iSub .i64 9223372036854775807 d)) (.leaf (.val (.u (.agg [(.li .i64 (-9223372036854775808)), (.li .i64 9223372036854775807)])))) (.br (iLt d 0) (.br (iLt b (iSub .i64 (-9223372036854775808) d)) (.leaf (.val (.u (.agg [(.li .i64 (-9223372036854775808)), (.li .i64 9223372036854775807)])))) (.leaf (.val (.u (.agg [(.li .i64 (-9223372036854775808)), (.li .i64 9223372036854775807)]))))) (.leaf (.val (.u (.agg [(.li .i64 (-9223372036854775808)), (.li .i64 9223372036854775807)])))))) (.br (iLt d 0) (.br (iLt b (iSub .i64 (-9223372036854775808) d)) (.leaf (.val (.u (.agg [(.li .i64 (-9223372036854775808)), (.li .i64 9223372036854775807)])))) (.leaf (.val (.u (.agg [(.li .i64 (-9223372036854775808)), (.li .i64 9223372036854775807)]))))) (.leaf (.val (.u (.agg [(.li .i64 (-9223372036854775808)), (.li .i64 9223372036854775807)])))))) (.br (iGe d 0) (.br (iGt b (iSub .i64 9223372036854775807 d)) (.leaf (.val (.u (.agg [(.li .i64 (-9223372036854775808)), (.li .i64 9223372036854775807)])))) (.br (iLt d 0) (.br (iLt b (iSub .i64 (-9223372036854775808) d)) (.leaf (.val (.u (.agg [(.li .i64 (-9223372036854775808)), (.li .i64 9223372036854775807)])))) (.leaf (.val (.u (.agg [(.si .i64 (iAdd .i64 a c)), (.si .i64 (iAdd .i64 b d))]))))) (.leaf (.val (.u (.agg [(.si .i64 (iAdd .i64 a c)), (.si .i64 (iAdd .i64 b d))])))))) (.br (iLt d 0) (.br (iLt b (iSub .i64 (-9223372036854775808) d)) (.leaf (.val (.u (.agg [(.li .i64 (-9223372036854775808)), (.li .i64 9223372036854775807)])))) (.leaf (.val (.u (.agg [(.si .i64 (iAdd .i64 a c)), (.si .i64 (iAdd .i64 b d))]))))) (.leaf (.val (.u (.agg [(.si .i64 (iAdd .i64 a c)), (.si .i64 (iAdd .i64 b d))]))))))) (.br (iGe d 0) (.br (iGt b (iSub .i64 9223372036854775807 d)) (.leaf (.val (.u (.agg [(.li .i64 (-9223372036854775808)), (.li .i64 9223372036854775807)])))) (.br (iLt d 0) (.br (iLt b (iSub .i64 (-9223372036854775808) d)) (.leaf (.val (.u (.agg [(.li .i64 (-9223372036854775808)), (.li .i64 9223372036854775807)])))) (.leaf (.val (.u (.agg [(.si .i64 (iAdd .i64 a c)), (.si .i64 (iAdd .i64 b d))]))))) (.leaf (.val (.u (.agg [(.si .i64 (iAdd .i64 a c)), (.si .i64 (iAdd .i64 b d))])))))) (.br (iLt d 0) (.br (iLt b (iSub .i64 (-9223372036854775808) d)) (.leaf (.val (.u (.agg [(.li .i64 (-9223372036854775808)), (.li .i64 9223372036854775807)])))) (.leaf (.val (.u (.agg [(.si .i64 (iAdd .i64 a c)), (.si .i64 (iAdd .i64 b d))]))))) (.leaf (.val (.u (.agg [(.si .i64 (iAdd .i64 a c)), (.si .i64 (iAdd .i64 b d))]))))))))))) (by kernel_rfl) ρ rfl ?_ w
  · skip
    simp only [Tr.all, lt_t, lt_f, le_t, le_f, gt_t, gt_f, ge_t, ge_f, eq_t, eq_f, ne_t, ne_f, neg_t, neg_f, zero_t, zero_f, not_t, not_f, beq_t, beq_f, and_t, and_f, isU_iff, isU_f, isI_iff, isI_f, add_u, sub_u, conv_u, add_i, sub_i, conv_i, max_d, min_d]
    repeat' first | refine ⟨?_, ?_⟩ | intro _
    all_goals first | omega | (refine V.pair (congrArg (Value.int _) ?_) (congrArg (Value.int _) ?_) <;> simp only [mPlus1, mPlus2, mPlus, sgn, uns] <;> (repeat' split) <;> omega)
def s_rPlus : Sum := mkSum 154 [.a [.i64, .i64], .a [.i64, .i64]] fun
  | [a, b, c, d] => some ([isI a, isI b, isI c, isI d], .u (.agg [.si .i64 (mPlus1 a b c d), .si .i64 (mPlus2 a b c d)]))
  | _ => none
theorem s_rPlus_ok : SumOK Tryz.prog s_rPlus := by
  refine mkSum_ok ⟨_, Tryz.func154, by kernel_rfl⟩ ?_
  intro xs bs r hm hb ρ w
  split at hm
  · rename_i a b c d
    cases hm
    exact t_rPlus a b c d (isI_iff.1 (hb (isI a) (by simp))) (isI_iff.1 (hb (isI b) (by simp))) (isI_iff.1 (hb (isI c) (by simp))) (isI_iff.1 (hb (isI d) (by simp))) ρ w
  · cases hm
theorem t_Minus (a b c d : Int) (hb0 : -9223372036854775808 ≤ a ∧ a < 9223372036854775808) (hb1 : -9223372036854775808 ≤ b ∧ b < 9223372036854775808) (hb2 : -9223372036854775808 ≤ c ∧ c < 9223372036854775808) (hb3 : -9223372036854775808 ≤ d ∧ d < 9223372036854775808) (ρ : Nat → Nat) (w : World) : Calls Tryz.prog 203 (enc [.a [.i64, .i64], .a [.i64, .i64]] [a, b, c, d]).toArray w fun e w' => e = .returned (V.den ρ (.u (.agg [.si .i64 (mMinus1 a b c d), .si .i64 (mMinus2 a b c d)]))) ∧ Below w.heap.size w w' := by
  refine pure_to nameOK okn (dOK okn) 300 [.u (.agg [.si .i64 a, .si .i64 b]), .u (.agg [.si .i64 c, .si .i64 d])] (T := (.br (iLt b a) (.leaf (.val (.u (.agg [(.li .i64 1), (.li .i64 0)])))) (.br (iLt d c) (.leaf (.val (.u (.agg [(.li .i64 1), (.li .i64 0)])))) (.br (bNot (bEq (iGt (iSub .i64 a d) a) (iLt d 0))) (.leaf (.val (.u (.agg [(.li .i64 (-9223372036854775808)), (.li .i64 9223372036854775807)])))) (.br (bNot (bEq (iGt (iSub .i64 b c) b) (iLt c 0))) (.leaf (.val (.u (.agg [(.li .i64 (-9223372036854775808)), (.li .i64 9223372036854775807)])))) (.leaf (.val (.u (.agg [(.si .i64 (iSub .i64 a d)), (.si .i64 (iSub .i64 b c))]))))))))) (by kernel_rfl) ρ rfl ?_ w
  · skip
    simp only [Tr.all, lt_t, lt_f, le_t, le_f, gt_t, gt_f, ge_t, ge_f, eq_t, eq_f, ne_t, ne_f, neg_t, neg_f, zero_t, zero_f, not_t, not_f, beq_t, beq_f, and_t, and_f, isU_iff, isU_f, isI_iff, isI_f, add_u, sub_u, conv_u, add_i, sub_i, conv_i, max_d, min_d]
    repeat' first | refine ⟨?_, ?_⟩ | intro _
    all_goals first | omega | (refine V.pair (congrArg (Value.int _) ?_) (congrArg (Value.int _) ?_) <;> simp only [mMinus1, mMinus2, mMinus, sgn, uns] <;> (repeat' split) <;> omega)
def s_Minus : Sum := mkSum 203 [.a [.i64, .i64], .a [.i64, .i64]] fun
  | [a, b, c, d] => some ([isI a, isI b, isI c, isI d], .u (.agg [.si .i64 (mMinus1 a b c d), .si .i64 (mMinus2 a b c d)]))
  | _ => none
theorem s_Minus_ok : SumOK Tryz.prog s_Minus := by
  refine mkSum_ok ⟨_, Tryz.func203, by kernel_rfl⟩ ?_
  intro xs bs r hm hb ρ w
  split at hm
  · rename_i a b c d
    cases hm
    exact t_Minus a b c d (isI_iff.1 (hb (isI a) (by simp))) (isI_iff.1 (hb (isI b) (by simp))) (isI_iff.1 (hb (isI c) (by simp))) (isI_iff.1 (hb (isI d) (by simp))) ρ w
  · cases hm
theorem t_rMinus (a b c d : Int) (hb0 : -9223372036854775808 ≤ a ∧ a < 9223372036854775808) (hb1 : -9223372036854775808 ≤ b ∧ b < 9223372036854775808) (hb2 : -9223372036854775808 ≤ c ∧ c < 9223372036854775808) (hb3 : -9223372036854775808 ≤ d ∧ d < 9223372036854775808) (ρ : Nat → Nat) (w : World) : Calls Tryz.prog 158 (enc [.a [.i64, .i64], .a [.i64, .i64]] [a, b, c, d]).toArray w fun e w' => e = .returned (V.den ρ (.u (.agg [.si .i64 (mMinus1 a b c d), .si .i64 (mMinus2 a b c d)]))) ∧ Below w.heap.size w w' := by
  refine pure_to nameOK okn (dOK okn) 300 [.u (.agg [.si .i64 a, .si .i64 b]), .u (.agg [.si .i64 c, .si .i64 d])] (T := (.br (iLt b a) (.leaf (.val (.u (.agg [(.li .i64 1), (.li .i64 0)])))) (.br (iLt d c) (.leaf (.val (.u (.agg [(.li .i64 1), (.li .i64 0)])))) (.br (iLe d 0) (.br (iGt a (iAdd .i64 9223372036854775807 d)) (.br (iLe c 0) (.br (iGt b (iAdd .i64 9223372036854775807 c)) (.leaf (.val (.u (.agg [(.li .i64 (-9223372036854775808)), (.li .i64 9223372036854775807)])))) (.br (iGt c 0) (.br (iLt b (iAdd .i64 (-9223372036854775808) c)) (.leaf (.val (.u (.agg [(.li .i64 (-9223372036854775808)), (.li .i64 9223372036854775807)])))) (.leaf (.val (.u (.agg [(.li .i64 (-9223372036854775808)), (.li .i64 9223372036854775807)]))))) (.leaf (.val (.u (.agg [(.li .i64 (-9223372036854775808)), (.li .i64 9223372036854775807)])))))) (.br (iGt c 0) (.br (iLt b (iAdd .i64 (-9223372036854775808) c)) (.leaf (.val (.u (.agg [(.li .i64 (-9223372036854775808)), (.li .i64 9223372036854775807)])))) (.leaf (.val (.u (.agg [(.li .i64 (-9223372036854775808)), (.li .i64 9223372036854775807)]))))) (.leaf (.val (.u (.agg [(.li .i64 (-9223372036854775808)), (.li .i64 9223372036854775807)])))))) (.br (iGt d 0) (.br (iLt a (iAdd .i64 (-9223372036854775808) d)) (.br (iLe c 0) (.br (iGt b (iAdd .i64 9223372036854775807 c)) (.leaf (.val (.u (.agg [(.li .i64 (-9223372036854775808)), (.li .i64 9223372036854775807)])))) (.br (iGt c 0) (.br (iLt b (iAdd .i64 (-9223372036854775808) c)) (.leaf (.val (.u (.agg [(.li .i64 (-9223372036854775808)), (.li .i64 9223372036854775807)])))) (.leaf (.val (.u (.agg [(.li .i64 (-9223372036854775808)), (.li .i64 9223372036854775807)]))))) (.leaf (.val (.u (.agg [(.li .i64 (-9223372036854775808)), (.li .i64 9223372036854775807)])))))) (.br (iGt c 0) (.br (iLt b (iAdd .i64 (-9223372036854775808) c)) (.leaf (.val (.u (.agg [(.li .i64 (-9223372036854775808)), (.li .i64 9223372036854775807)])))) (.leaf (.val (.u (.agg [(.li .i64 (-9223372036854775808)), (.li .i64 9223372036854775807)]))))) (.leaf (.val (.u (.agg [(.li .i64 (-9223372036854775808)), (.li .i64 9223372036854775807)])))))) (.br (iLe c 0) (.br (iGt b (iAdd .i64 9223372036854775807 c)) (.leaf (.val (.u (.agg [(.li .i64 (-9223372036854775808)), (.li .i64 9223372036854775807)])))) (.br (iGt c 0) (.br (iLt b (iAdd .i64 (-9223372036854775808) c)) (.leaf (.val (.u (.agg [(.li .i64 (-9223372036854775808)), (.li .i64 9223372036854775807)])))) (.leaf (.val (.u (.agg [(.si .i64 (iSub .i64 a d)), (.si .i64 (iSub .i64 b c))]))))) (.leaf (.val (.u (.agg [(.si .i64 (iSub .i64 a d)), (.si .i64 (iSub .i64 b c))])))))) (.br (iGt c 0) (.br (iLt b (iAdd .i64 (-9223372036854775808) c)) (.leaf (.val (.u (.agg [(.li .i64 (-9223372036854775808)), (.li .i64 9223372036854775807)])))) (.leaf (.val (.u (.agg [(.si .i64 (iSub .i64 a d)), (.si .i64 (iSub .i64 b c))]))))) (.leaf (.val (.u (.agg [(.si .i64 (iSub .i64 a d)), (.si .i64 (iSub .i64 b c))]))))))) (.br (iLe c 0) (.br (iGt b (iAdd .i64 9223372036854775807 c)) (.leaf (.val (.u (.agg [(.li .i64 (-9223372036854775808)), (.li .i64 9223372036854775807)])))) (.br (iGt c 0) (.br (iLt b (iAdd .i64 (-9223372036854775808) c)) (.leaf (.val (.u (.agg [(.li .i64 (-9223372036854775808)), (.li .i64 9223372036854775807)])))) (.leaf (.val (.u (.agg [(.si .i64 (iSub .i64 a d)), (.si .i64 (iSub .i64 b c))]))))) (.leaf (.val (.u (.agg [(.si .i64 (iSub .i64 a d)), (.si .i64 (iSub .i64 b c))])))))) (.br (iGt c 0) (.br (iLt b (iAdd .i64 (-9223372036854775808) c)) (.leaf (.val (.u (.agg [(.li .i64 (-9223372036854775808)), (.li .i64 9223372036854775807)])))) (.leaf (.val (.u (.agg [(.si .i64 (iSub .i64 a d)), (.si .i64 (iSub .i64 b c))]))))) (.leaf (.val (.u (.agg [(.si .i64 (iSub .i64 a d)), (.si .i64 (iSub .i64 b c))])))))))) (.br (iGt d 0) (.br (iLt a (iAdd .i64 (-9223372036854775808) d)) (.br (iLe c 0) (.br (iGt b (iAdd .i64 9223372036854775807 c)) (.leaf (.val (.u (.agg [(.li .i64 (-9223372036854775808)), (.li .i64 9223372036854775807)])))) (.br (iGt c 0) (.br (iLt b (iAdd .i64 (-9223372036854775808) c)) (.leaf (.val (.u (.agg [(.li .i64 (-9223372036854775808)), (.li .i64 9223372036854775807)])))) (.leaf (.val (.u (.agg [(.li .i64 (-9223372036854775808)), (.li .i64 9223372036854775807)]))))) (.leaf (.val (.u (.agg [(.li .i64 (-9223372036854775808)), (.li .i64 9223372036854775807)])))))) (.br (iGt c 0) (.br (iLt b (iAdd .i64 (-9223372036854775808) c)) (.leaf (.val (.u (.agg [(.li .i64 (-9223372036854775808)), (.li .i64 9223372036854775807)])))) (.leaf (.val (.u (.agg [(.li .i64 (-9223372036854775808)), (.li .i64 9223372036854775807)]))))) (.leaf (.val (.u (.agg [(.li .i64 (-9223372036854775808)), (.li .i64 9223372036854775807)])))))) (.br (iLe c 0) (.br (iGt b (iAdd .i64 9223372036854775807 c)) (.leaf (.val (.u (.agg [(.li .i64 (-9223372036854775808)), (.li .i64 9223372036854775807)])))) (.br (iGt c 0) (.br (iLt b (iAdd .i64 (-9223372036854775808) c)) (.leaf (.val (.u (.agg [(.li .i64 (-9223372036854775808)), (.li .i64 9223372036854775807)])))) (.leaf (.val (.u (.agg [(.si .i64 (iSub .i64 a d)), (.si .i64 (iSub .i64 b c))]))))) (.leaf (.val (.u (.agg [(.si .i64 (iSub .i64 a d)), (.si .i64 (iSub .i64 b c))])))))) (.br (iGt c 0) (.br (iLt b (iAdd .i64 (-9223372036854775808) c)) (.leaf (.val (.u (.agg [(.li .i64 (-9223372036854775808)), (.li .i64 9223372036854775807)])))) (.leaf (.val (.u (.agg [(.si .i64 (iSub .i64 a d)), (.si .i64 (iSub .i64 b c))]))))) (.leaf (.val (.u (.agg [(.si .i64 (iSub .i64 a d)), (.si .i64 (iSub .i64 b c))]))))))) (.br (iLe c 0) (.br (iGt b (iAdd .i64 9223372036854775807 c)) (.leaf (.val (.u (.agg [(.li .i64 (-9223372036854775808)), (.li .i64 9223372036854775807)])))) (.br (iGt c 0) (.br (iLt b (iAdd .i64 (-9223372036854775808) c)) (.leaf (.val (.u (.agg [(.li .i64 (-9223372036854775808)), (.li .i64 9223372036854775807)])))) (.leaf (.val (.u (.agg [(.si .i64 (iSub .i64 a d)), (.si .i64 (iSub .i64 b c))]))))) (.leaf (.val (.u (.agg [(.si .i64 (iSub .i64 a d)), (.si .i64 (iSub .i64 b c))])))))) (.br (iGt c 0) (.br (iLt b (iAdd .i64 (-9223372036854775808) c)) (.leaf (.val (.u (.agg [(.li .i64 (-9223372036854775808)), (.li .i64 9223372036854775807)])))) (.leaf (.val (.u (.agg [(.si .i64 (iSub .i64 a d)), (.si .i64 (iSub .i64 b c))]))))) (.leaf (.val (.u (.agg [(.si .i64 (iSub .i64 a d)), (.si .i64 (iSub .i64 b c))]))))))))))) (by kernel_rfl) ρ rfl ?_ w
  · skip
    simp only [Tr.all, lt_t, lt_f, le_t, le_f, gt_t, gt_f, ge_t, ge_f, eq_t, eq_f, ne_t, ne_f, neg_t, neg_f, zero_t, zero_f, not_t, not_f, beq_t, beq_f, and_t, and_f, isU_iff, isU_f, isI_iff, isI_f, add_u, sub_u, conv_u, add_i, sub_i, conv_i, max_d, min_d]
    repeat' first | refine ⟨?_, ?_⟩ | intro _
    all_goals first | omega | (refine V.pair (congrArg (Value.int _) ?_) (congrArg (Value.int _) ?_) <;> simp only [mMinus1, mMinus2, mMinus, sgn, uns] <;> (repeat' split) <;> omega)
def s_rMinus : Sum := mkSum 158 [.a [.i64, .i64], .a [.i64, .i64]] fun
  | [a, b, c, d] => some ([isI a, isI b, isI c, isI d], .u (.agg [.si .i64 (mMinus1 a b c d), .si .i64 (mMinus2 a b c d)]))
  | _ => none
theorem s_rMinus_ok : SumOK Tryz.prog s_rMinus := by
  refine mkSum_ok ⟨_, Tryz.func158, by kernel_rfl⟩ ?_
  intro xs bs r hm hb ρ w
  split at hm
  · rename_i a b c d
    cases hm
    exact t_rMinus a b c d (isI_iff.1 (hb (isI a) (by simp))) (isI_iff.1 (hb (isI b) (by simp))) (isI_iff.1 (hb (isI c) (by simp))) (isI_iff.1 (hb (isI d) (by simp))) ρ w
  · cases hm
theorem t_Sar (a b c : Int) (hb0 : -9223372036854775808 ≤ a ∧ a < 9223372036854775808) (hb1 : -9223372036854775808 ≤ b ∧ b < 9223372036854775808) (hb2 : 0 ≤ c ∧ c < 18446744073709551616) (ρ : Nat → Nat) (w : World) : Calls Tryz.prog 150 (enc [.a [.i64, .i64], .i .u64] [a, b, c]).toArray w fun e w' => e = .returned (V.den ρ (.u (.agg [.si .i64 (mSar1 a b c), .si .i64 (mSar2 a b c)]))) ∧ Below w.heap.size w w' := by
  refine pure_to nameOK okn (dOK okn) 300 [.u (.agg [.si .i64 a, .si .i64 b]), .u (.c (.si .u64 c))] (T := (.br (iLt b a) (.leaf (.val (.u (.agg [(.li .i64 1), (.li .i64 0)])))) (.br (iNeg? c) (.no 11) (.br (iNeg? c) (.no 11) (.leaf (.val (.u (.agg [(.si .i64 (iShr .i64 a c)), (.si .i64 (iShr .i64 b c))])))))))) (by kernel_rfl) ρ rfl ?_ w
  · skip
    simp only [Tr.all, neg_t, neg_f, lt_t, lt_f, shr_i']
    repeat' first | refine ⟨?_, ?_⟩ | intro _
    all_goals first | omega | (refine V.pair (congrArg (Value.int _) ?_) (congrArg (Value.int _) ?_) <;> simp only [mSar1, mSar2, mSar] <;> split <;> first | rfl | omega)
def s_Sar : Sum := mkSum 150 [.a [.i64, .i64], .i .u64] fun
  | [a, b, c] => some ([isI a, isI b, isU c], .u (.agg [.si .i64 (mSar1 a b c), .si .i64 (mSar2 a b c)]))
  | _ => none
theorem s_Sar_ok : SumOK Tryz.prog s_Sar := by
  refine mkSum_ok ⟨_, Tryz.func150, by kernel_rfl⟩ ?_
  intro xs bs r hm hb ρ w
  split at hm
  · rename_i a b c
    cases hm
    exact t_Sar a b c (isI_iff.1 (hb (isI a) (by simp))) (isI_iff.1 (hb (isI b) (by simp))) (isU_iff.1 (hb (isU c) (by simp))) ρ w
  · cases hm
theorem t_rSar (a b c : Int) (hb0 : -9223372036854775808 ≤ a ∧ a < 9223372036854775808) (hb1 : -9223372036854775808 ≤ b ∧ b < 9223372036854775808) (hb2 : 0 ≤ c ∧ c < 18446744073709551616) (ρ : Nat → Nat) (w : World) : Calls Tryz.prog 163 (enc [.a [.i64, .i64], .i .u64] [a, b, c]).toArray w fun e w' => e = .returned (V.den ρ (.u (.agg [.si .i64 (mSar1 a b c), .si .i64 (mSar2 a b c)]))) ∧ Below w.heap.size w w' := by
  refine pure_to nameOK okn (dOK okn) 300 [.u (.agg [.si .i64 a, .si .i64 b]), .u (.c (.si .u64 c))] (T := (.br (iLt b a) (.leaf (.val (.u (.agg [(.li .i64 1), (.li .i64 0)])))) (.br (iNeg? (iMin2 c 63)) (.no 11) (.br (iNeg? (iMin2 c 63)) (.no 11) (.leaf (.val (.u (.agg [(.si .i64 (iShr .i64 a (iMin2 c 63))), (.si .i64 (iShr .i64 b (iMin2 c 63)))])))))))) (by kernel_rfl) ρ rfl ?_ w
  · skip
    have key : ∀ x : Int, -9223372036854775808 ≤ x → x < 9223372036854775808 → x / pw (min c 63) = x / pw c := by
      intro x x0 x1
      by_cases h : c ≤ 63
      · rw [show min c 63 = c by omega]
      · rw [show min c 63 = 63 by omega, pw_63, pw_big (by omega)]
        omega
    simp only [Tr.all, neg_t, neg_f, lt_t, lt_f, shr_i', min_d]
    repeat' first | refine ⟨?_, ?_⟩ | intro _
    all_goals first | omega | (refine V.pair (congrArg (Value.int _) ?_) (congrArg (Value.int _) ?_) <;> simp only [mSar1, mSar2, mSar] <;> split <;> first | rfl | omega | exact key _ (by omega) (by omega))
def s_rSar : Sum := mkSum 163 [.a [.i64, .i64], .i .u64] fun
  | [a, b, c] => some ([isI a, isI b, isU c], .u (.agg [.si .i64 (mSar1 a b c), .si .i64 (mSar2 a b c)]))
  | _ => none
theorem s_rSar_ok : SumOK Tryz.prog s_rSar := by
  refine mkSum_ok ⟨_, Tryz.func163, by kernel_rfl⟩ ?_
  intro xs bs r hm hb ρ w
  split at hm
  · rename_i a b c
    cases hm
    exact t_rSar a b c (isI_iff.1 (hb (isI a) (by simp))) (isI_iff.1 (hb (isI b) (by simp))) (isU_iff.1 (hb (isU c) (by simp))) ρ w
  · cases hm
theorem t_Sign (a b : Int) (hb0 : 0 ≤ a ∧ a < 18446744073709551616) (hb1 : 0 ≤ b ∧ b < 18446744073709551616) (ρ : Nat → Nat) (w : World) : Calls Tryz.prog 170 (enc [.a [.u64, .u64]] [a, b]).toArray w fun e w' => e = .returned (V.den ρ (.u (.agg [.si .i64 (mSign1 a b), .si .i64 (mSign2 a b)]))) ∧ Below w.heap.size w w' := by
  refine pure_to nameOK okn (dOK okn) 300 [.u (.agg [.si .u64 a, .si .u64 b])] (T := (.br (iLt b a) (.leaf (.val (.u (.agg [(.li .i64 1), (.li .i64 0)])))) (.br (bNot (bEq (iLt (iConv .i64 a) 0) (iLt (iConv .i64 b) 0))) (.leaf (.val (.u (.agg [(.li .i64 (-9223372036854775808)), (.li .i64 9223372036854775807)])))) (.leaf (.val (.u (.agg [(.si .i64 (iConv .i64 a)), (.si .i64 (iConv .i64 b))]))))))) (by kernel_rfl) ρ rfl ?_ w
  · skip
    simp only [Tr.all, lt_t, lt_f, le_t, le_f, gt_t, gt_f, ge_t, ge_f, eq_t, eq_f, ne_t, ne_f, neg_t, neg_f, zero_t, zero_f, not_t, not_f, beq_t, beq_f, and_t, and_f, isU_iff, isU_f, isI_iff, isI_f, add_u, sub_u, conv_u, add_i, sub_i, conv_i, max_d, min_d]
    repeat' first | refine ⟨?_, ?_⟩ | intro _
    all_goals first | omega | (refine V.pair (congrArg (Value.int _) ?_) (congrArg (Value.int _) ?_) <;> simp only [mSign1, mSign2, mSign, sgn, uns] <;> (repeat' split) <;> omega)
def s_Sign : Sum := mkSum 170 [.a [.u64, .u64]] fun
  | [a, b] => some ([isU a, isU b], .u (.agg [.si .i64 (mSign1 a b), .si .i64 (mSign2 a b)]))
  | _ => none
theorem s_Sign_ok : SumOK Tryz.prog s_Sign := by
  refine mkSum_ok ⟨_, Tryz.func170, by kernel_rfl⟩ ?_
  intro xs bs r hm hb ρ w
  split at hm
  · rename_i a b
    cases hm
    exact t_Sign a b (isU_iff.1 (hb (isU a) (by simp))) (isU_iff.1 (hb (isU b) (by simp))) ρ w
  · cases hm
theorem t_rSign (a b : Int) (hb0 : 0 ≤ a ∧ a < 18446744073709551616) (hb1 : 0 ≤ b ∧ b < 18446744073709551616) (ρ : Nat → Nat) (w : World) : Calls Tryz.prog 99 (enc [.a [.u64, .u64]] [a, b]).toArray w fun e w' => e = .returned (V.den ρ (.u (.agg [.si .i64 (mSign1 a b), .si .i64 (mSign2 a b)]))) ∧ Below w.heap.size w w' := by
  refine pure_to nameOK okn (dOK okn) 300 [.u (.agg [.si .u64 a, .si .u64 b])] (T := (.br (iLt b a) (.leaf (.val (.u (.agg [(.li .i64 1), (.li .i64 0)])))) (.br (bNot (bEq (iLt a 9223372036854775808) (iLt b 9223372036854775808))) (.leaf (.val (.u (.agg [(.li .i64 (-9223372036854775808)), (.li .i64 9223372036854775807)])))) (.leaf (.val (.u (.agg [(.si .i64 (iConv .i64 a)), (.si .i64 (iConv .i64 b))]))))))) (by kernel_rfl) ρ rfl ?_ w
  · skip
    simp only [Tr.all, lt_t, lt_f, le_t, le_f, gt_t, gt_f, ge_t, ge_f, eq_t, eq_f, ne_t, ne_f, neg_t, neg_f, zero_t, zero_f, not_t, not_f, beq_t, beq_f, and_t, and_f, isU_iff, isU_f, isI_iff, isI_f, add_u, sub_u, conv_u, add_i, sub_i, conv_i, max_d, min_d]
    repeat' first | refine ⟨?_, ?_⟩ | intro _
    all_goals first | omega | (refine V.pair (congrArg (Value.int _) ?_) (congrArg (Value.int _) ?_) <;> simp only [mSign1, mSign2, mSign, sgn, uns] <;> (repeat' split) <;> omega)
def s_rSign : Sum := mkSum 99 [.a [.u64, .u64]] fun
  | [a, b] => some ([isU a, isU b], .u (.agg [.si .i64 (mSign1 a b), .si .i64 (mSign2 a b)]))
  | _ => none
theorem s_rSign_ok : SumOK Tryz.prog s_rSign := by
  refine mkSum_ok ⟨_, Tryz.func99, by kernel_rfl⟩ ?_
  intro xs bs r hm hb ρ w
  split at hm
  · rename_i a b
    cases hm
    exact t_rSign a b (isU_iff.1 (hb (isU a) (by simp))) (isU_iff.1 (hb (isU b) (by simp))) ρ w
  · cases hm
theorem t_Bare (a b : Int) (hb0 : -9223372036854775808 ≤ a ∧ a < 9223372036854775808) (hb1 : -9223372036854775808 ≤ b ∧ b < 9223372036854775808) (ρ : Nat → Nat) (w : World) : Calls Tryz.prog 171 (enc [.a [.i64, .i64]] [a, b]).toArray w fun e w' => e = .returned (V.den ρ (.u (.agg [.si .u64 (mBare1 a b), .si .u64 (mBare2 a b)]))) ∧ Below w.heap.size w w' := by
  refine pure_to nameOK okn (dOK okn) 300 [.u (.agg [.si .i64 a, .si .i64 b])] (T := (.br (iLt b a) (.leaf (.val (.u (.agg [(.li .u64 1), (.li .u64 0)])))) (.br (bNot (bEq (iLt a 0) (iLt b 0))) (.leaf (.val (.u (.agg [(.li .u64 0), (.li .u64 18446744073709551615)])))) (.leaf (.val (.u (.agg [(.si .u64 (iConv .u64 a)), (.si .u64 (iConv .u64 b))]))))))) (by kernel_rfl) ρ rfl ?_ w
  · skip
    simp only [Tr.all, lt_t, lt_f, le_t, le_f, gt_t, gt_f, ge_t, ge_f, eq_t, eq_f, ne_t, ne_f, neg_t, neg_f, zero_t, zero_f, not_t, not_f, beq_t, beq_f, and_t, and_f, isU_iff, isU_f, isI_iff, isI_f, add_u, sub_u, conv_u, add_i, sub_i, conv_i, max_d, min_d]
    repeat' first | refine ⟨?_, ?_⟩ | intro _
    all_goals first | omega | (refine V.pair (congrArg (Value.int _) ?_) (congrArg (Value.int _) ?_) <;> simp only [mBare1, mBare2, mBare, sgn, uns] <;> (repeat' split) <;> omega)
def s_Bare : Sum := mkSum 171 [.a [.i64, .i64]] fun
  | [a, b] => some ([isI a, isI b], .u (.agg [.si .u64 (mBare1 a b), .si .u64 (mBare2 a b)]))
  | _ => none
theorem s_Bare_ok : SumOK Tryz.prog s_Bare := by
  refine mkSum_ok ⟨_, Tryz.func171, by kernel_rfl⟩ ?_
  intro xs bs r hm hb ρ w
  split at hm
  · rename_i a b
    cases hm
    exact t_Bare a b (isI_iff.1 (hb (isI a) (by simp))) (isI_iff.1 (hb (isI b) (by simp))) ρ w
  · cases hm
theorem t_rBare (a b : Int) (hb0 : -9223372036854775808 ≤ a ∧ a < 9223372036854775808) (hb1 : -9223372036854775808 ≤ b ∧ b < 9223372036854775808) (ρ : Nat → Nat) (w : World) : Calls Tryz.prog 100 (enc [.a [.i64, .i64]] [a, b]).toArray w fun e w' => e = .returned (V.den ρ (.u (.agg [.si .u64 (mBare1 a b), .si .u64 (mBare2 a b)]))) ∧ Below w.heap.size w w' := by
  refine pure_to nameOK okn (dOK okn) 300 [.u (.agg [.si .i64 a, .si .i64 b])] (T := (.br (iLt b a) (.leaf (.val (.u (.agg [(.li .u64 1), (.li .u64 0)])))) (.br (bNot (bEq (iLt a 0) (iLt b 0))) (.leaf (.val (.u (.agg [(.li .u64 0), (.li .u64 18446744073709551615)])))) (.leaf (.val (.u (.agg [(.si .u64 (iConv .u64 a)), (.si .u64 (iConv .u64 b))]))))))) (by kernel_rfl) ρ rfl ?_ w
  · skip
    simp only [Tr.all, lt_t, lt_f, le_t, le_f, gt_t, gt_f, ge_t, ge_f, eq_t, eq_f, ne_t, ne_f, neg_t, neg_f, zero_t, zero_f, not_t, not_f, beq_t, beq_f, and_t, and_f, isU_iff, isU_f, isI_iff, isI_f, add_u, sub_u, conv_u, add_i, sub_i, conv_i, max_d, min_d]
    repeat' first | refine ⟨?_, ?_⟩ | intro _
    all_goals first | omega | (refine V.pair (congrArg (Value.int _) ?_) (congrArg (Value.int _) ?_) <;> simp only [mBare1, mBare2, mBare, sgn, uns] <;> (repeat' split) <;> omega)
def s_rBare : Sum := mkSum 100 [.a [.i64, .i64]] fun
  | [a, b] => some ([isI a, isI b], .u (.agg [.si .u64 (mBare1 a b), .si .u64 (mBare2 a b)]))
  | _ => none
theorem s_rBare_ok : SumOK Tryz.prog s_rBare := by
  refine mkSum_ok ⟨_, Tryz.func100, by kernel_rfl⟩ ?_
  intro xs bs r hm hb ρ w
  split at hm
  · rename_i a b
    cases hm
    exact t_rBare a b (isI_iff.1 (hb (isI a) (by simp))) (isI_iff.1 (hb (isI b) (by simp))) ρ w
  · cases hm
theorem t_Mul64 (a b : Int) (hb0 : 0 ≤ a ∧ a < 18446744073709551616) (hb1 : 0 ≤ b ∧ b < 18446744073709551616) (ρ : Nat → Nat) (w : World) : Calls Tryz.prog 206 (enc [.i .u64, .i .u64] [a, b]).toArray w fun e w' => e = .returned (V.den ρ (.tup [.c (.si .u64 (eMul1 a b)), .c (.si .u64 (eMul2 a b))])) ∧ Below w.heap.size w w' := by
  refine pure_to nameOK okn (dOK okn) 300 [.u (.c (.si .u64 a)), .u (.c (.si .u64 b))] (T := (.leaf (.val (.tup [(.c (.si .u64 (iAdd .u64 (iAdd .u64 (iMul .u64 (iShr .u64 a 32) (iShr .u64 b 32)) (iShr .u64 (iAdd .u64 (iMul .u64 (iShr .u64 a 32) (iBit .and .u64 b 4294967295)) (iShr .u64 (iMul .u64 (iBit .and .u64 a 4294967295) (iBit .and .u64 b 4294967295)) 32)) 32)) (iShr .u64 (iAdd .u64 (iBit .and .u64 (iAdd .u64 (iMul .u64 (iShr .u64 a 32) (iBit .and .u64 b 4294967295)) (iShr .u64 (iMul .u64 (iBit .and .u64 a 4294967295) (iBit .and .u64 b 4294967295)) 32)) 4294967295) (iMul .u64 (iBit .and .u64 a 4294967295) (iShr .u64 b 32))) 32)))), (.c (.si .u64 (iMul .u64 a b)))])))) (by kernel_rfl) ρ rfl ?_ w
  · skip
    have ha := hb0
    have hb := hb1
    have e1 : ∀ x : Int, iShr .u64 x 32 = x / 4294967296 := fun x => shr_u' x 32
    simp only [Tr.all]
    refine V.two (congrArg (Value.int _) ?_) (congrArg (Value.int _) ?_)
    · have hm := mul64_arith a b (by omega) (by omega) (by omega) (by omega)
      have ea := and_low a (isU_iff.2 ha)
      have eb := and_low b (isU_iff.2 hb)
      have ec : ∀ z : Int, iBit .and .u64 (z % 18446744073709551616) 4294967295 = z % 18446744073709551616 % 4294967296 := fun z => and_low _ (isU_iff.2 ⟨Int.emod_nonneg _ (by omega), Int.emod_lt_of_pos _ (by omega)⟩)
      simp only [e1, ea, eb, add_u, mul_u, ec]
      exact hm
    · exact mul_u a b
def s_Mul64 : Sum := mkSum 206 [.i .u64, .i .u64] fun
  | [a, b] => some ([isU a, isU b], .tup [.c (.si .u64 (eMul1 a b)), .c (.si .u64 (eMul2 a b))])
  | _ => none
theorem s_Mul64_ok : SumOK Tryz.prog s_Mul64 := by
  refine mkSum_ok ⟨_, Tryz.func206, by kernel_rfl⟩ ?_
  intro xs bs r hm hb ρ w
  split at hm
  · rename_i a b
    cases hm
    exact t_Mul64 a b (isU_iff.1 (hb (isU a) (by simp))) (isU_iff.1 (hb (isU b) (by simp))) ρ w
  · cases hm
theorem t_Add (a b c d : Int) (hb0 : 0 ≤ a ∧ a < 18446744073709551616) (hb1 : 0 ≤ b ∧ b < 18446744073709551616) (hb2 : 0 ≤ c ∧ c < 18446744073709551616) (hb3 : 0 ≤ d ∧ d < 18446744073709551616) (ρ : Nat → Nat) (w : World) : Calls Tryz.prog 198 (enc [.a [.u64, .u64], .a [.u64, .u64]] [a, b, c, d]).toArray w fun e w' => e = .returned (V.den ρ (.u (.agg [.si .u64 (mAdd1 a b c d), .si .u64 (mAdd2 a b c d)]))) ∧ Below w.heap.size w w' := by
  refine pure_to nameOK (okc s_eAdd_ok (okc s_eSub_ok okn)) (dOK (okc s_eAdd_ok (okc s_eSub_ok okn))) 300 [.u (.agg [.si .u64 a, .si .u64 b]), .u (.agg [.si .u64 c, .si .u64 d])] (T := (.br (iLt b a) (.leaf (.val (.u (.agg [(.li .u64 1), (.li .u64 0)])))) (.br (iLt d c) (.leaf (.val (.u (.agg [(.li .u64 1), (.li .u64 0)])))) (.br (isU a) (.br (isU c) (.br (isU b) (.br (isU d) (.br (bNot (iEq (eAdd2 b d) 0)) (.leaf (.val (.u (.agg [(.li .u64 0), (.li .u64 18446744073709551615)])))) (.leaf (.val (.u (.agg [(.si .u64 (eAdd1 a c)), (.si .u64 (eAdd1 b d))]))))) (.no 98)) (.no 98)) (.no 98)) (.no 98))))) (by kernel_rfl) ρ rfl ?_ w
  · skip
    simp only [Tr.all, lt_t, lt_f, le_t, le_f, gt_t, gt_f, ge_t, ge_f, eq_t, eq_f, ne_t, ne_f, neg_t, neg_f, zero_t, zero_f, not_t, not_f, beq_t, beq_f, and_t, and_f, isU_iff, isU_f, isI_iff, isI_f, add_u, sub_u, conv_u, add_i, sub_i, conv_i, max_d, min_d, eAdd1, eAdd2]
    repeat' first | refine ⟨?_, ?_⟩ | intro _
    all_goals first | omega | (refine V.pair (congrArg (Value.int _) ?_) (congrArg (Value.int _) ?_) <;> simp only [mAdd1, mAdd2, mAdd] <;> (repeat' split) <;> omega)
def s_Add : Sum := mkSum 198 [.a [.u64, .u64], .a [.u64, .u64]] fun
  | [a, b, c, d] => some ([isU a, isU b, isU c, isU d], .u (.agg [.si .u64 (mAdd1 a b c d), .si .u64 (mAdd2 a b c d)]))
  | _ => none
theorem s_Add_ok : SumOK Tryz.prog s_Add := by
  refine mkSum_ok ⟨_, Tryz.func198, by kernel_rfl⟩ ?_
  intro xs bs r hm hb ρ w
  split at hm
  · rename_i a b c d
    cases hm
    exact t_Add a b c d (isU_iff.1 (hb (isU a) (by simp))) (isU_iff.1 (hb (isU b) (by simp))) (isU_iff.1 (hb (isU c) (by simp))) (isU_iff.1 (hb (isU d) (by simp))) ρ w
  · cases hm
theorem t_Sub (a b c d : Int) (hb0 : 0 ≤ a ∧ a < 18446744073709551616) (hb1 : 0 ≤ b ∧ b < 18446744073709551616) (hb2 : 0 ≤ c ∧ c < 18446744073709551616) (hb3 : 0 ≤ d ∧ d < 18446744073709551616) (ρ : Nat → Nat) (w : World) : Calls Tryz.prog 202 (enc [.a [.u64, .u64], .a [.u64, .u64]] [a, b, c, d]).toArray w fun e w' => e = .returned (V.den ρ (.u (.agg [.si .u64 (mSub1 a b c d), .si .u64 (mSub2 a b c d)]))) ∧ Below w.heap.size w w' := by
  refine pure_to nameOK (okc s_eAdd_ok (okc s_eSub_ok okn)) (dOK (okc s_eAdd_ok (okc s_eSub_ok okn))) 300 [.u (.agg [.si .u64 a, .si .u64 b]), .u (.agg [.si .u64 c, .si .u64 d])] (T := (.br (iLt b a) (.leaf (.val (.u (.agg [(.li .u64 1), (.li .u64 0)])))) (.br (iLt d c) (.leaf (.val (.u (.agg [(.li .u64 1), (.li .u64 0)])))) (.br (isU a) (.br (isU d) (.br (bNot (iEq (eSub2 a d) 0)) (.leaf (.val (.u (.agg [(.li .u64 0), (.li .u64 18446744073709551615)])))) (.leaf (.val (.u (.agg [(.si .u64 (eSub1 a d)), (.si .u64 (iSub .u64 b c))]))))) (.no 98)) (.no 98))))) (by kernel_rfl) ρ rfl ?_ w
  · skip
    have E : eSub2 a d = 0 ↔ ¬ a < d := by unfold eSub2; split <;> omega
    simp only [Tr.all, lt_t, lt_f, le_t, le_f, gt_t, gt_f, ge_t, ge_f, eq_t, eq_f, ne_t, ne_f, neg_t, neg_f, zero_t, zero_f, not_t, not_f, beq_t, beq_f, and_t, and_f, isU_iff, isU_f, isI_iff, isI_f, add_u, sub_u, conv_u, add_i, sub_i, conv_i, max_d, min_d, E, eSub1]
    repeat' first | refine ⟨?_, ?_⟩ | intro _
    all_goals first | omega | (refine V.pair (congrArg (Value.int _) ?_) (congrArg (Value.int _) ?_) <;> simp only [mSub1, mSub2, mSub] <;> (repeat' split) <;> omega)
def s_Sub : Sum := mkSum 202 [.a [.u64, .u64], .a [.u64, .u64]] fun
  | [a, b, c, d] => some ([isU a, isU b, isU c, isU d], .u (.agg [.si .u64 (mSub1 a b c d), .si .u64 (mSub2 a b c d)]))
  | _ => none
theorem s_Sub_ok : SumOK Tryz.prog s_Sub := by
  refine mkSum_ok ⟨_, Tryz.func202, by kernel_rfl⟩ ?_
  intro xs bs r hm hb ρ w
  split at hm
  · rename_i a b c d
    cases hm
    exact t_Sub a b c d (isU_iff.1 (hb (isU a) (by simp))) (isU_iff.1 (hb (isU b) (by simp))) (isU_iff.1 (hb (isU c) (by simp))) (isU_iff.1 (hb (isU d) (by simp))) ρ w
  · cases hm
theorem t_Mul (a b c d : Int) (hb0 : 0 ≤ a ∧ a < 18446744073709551616) (hb1 : 0 ≤ b ∧ b < 18446744073709551616) (hb2 : 0 ≤ c ∧ c < 18446744073709551616) (hb3 : 0 ≤ d ∧ d < 18446744073709551616) (ρ : Nat → Nat) (w : World) : Calls Tryz.prog 131 (enc [.a [.u64, .u64], .a [.u64, .u64]] [a, b, c, d]).toArray w fun e w' => e = .returned (V.den ρ (.u (.agg [.si .u64 (mMul1 a b c d), .si .u64 (mMul2 a b c d)]))) ∧ Below w.heap.size w w' := by
  refine pure_to nameOK (okc s_Mul64_ok okn) (dOK (okc s_Mul64_ok okn)) 300 [.u (.agg [.si .u64 a, .si .u64 b]), .u (.agg [.si .u64 c, .si .u64 d])] (T := (.br (iLt b a) (.leaf (.val (.u (.agg [(.li .u64 1), (.li .u64 0)])))) (.br (iLt d c) (.leaf (.val (.u (.agg [(.li .u64 1), (.li .u64 0)])))) (.br (isU b) (.br (isU d) (.br (bNot (iEq (eMul1 b d) 0)) (.leaf (.val (.u (.agg [(.li .u64 0), (.li .u64 18446744073709551615)])))) (.leaf (.val (.u (.agg [(.si .u64 (iMul .u64 a c)), (.si .u64 (eMul2 b d))]))))) (.no 98)) (.no 98))))) (by kernel_rfl) ρ rfl ?_ w
  · skip
    simp only [Tr.all, lt_t, lt_f, le_t, le_f, gt_t, gt_f, ge_t, ge_f, eq_t, eq_f, ne_t, ne_f, neg_t, neg_f, zero_t, zero_f, not_t, not_f, beq_t, beq_f, and_t, and_f, isU_iff, isU_f, isI_iff, isI_f, add_u, sub_u, conv_u, add_i, sub_i, conv_i, max_d, min_d, eMul1, eMul2]
    have P1 : ¬ b < a → ¬ d < c → a * c ≤ b * d := fun h1 h2 => mul_le (by omega) (by omega) (by omega) (by omega)
    have P2 : 0 ≤ a * c := Int.mul_nonneg (by omega) (by omega)
    have P3 : 0 ≤ b * d := Int.mul_nonneg (by omega) (by omega)
    simp only [mul_u]
    repeat' first | refine ⟨?_, ?_⟩ | intro _
    all_goals first | omega | (refine V.pair (congrArg (Value.int _) ?_) (congrArg (Value.int _) ?_) <;> simp only [mMul1, mMul2, mMul] <;> (repeat' split) <;> omega)
def s_Mul : Sum := mkSum 131 [.a [.u64, .u64], .a [.u64, .u64]] fun
  | [a, b, c, d] => some ([isU a, isU b, isU c, isU d], .u (.agg [.si .u64 (mMul1 a b c d), .si .u64 (mMul2 a b c d)]))
  | _ => none
theorem s_Mul_ok : SumOK Tryz.prog s_Mul := by
  refine mkSum_ok ⟨_, Tryz.func131, by kernel_rfl⟩ ?_
  intro xs bs r hm hb ρ w
  split at hm
  · rename_i a b c d
    cases hm
    exact t_Mul a b c d (isU_iff.1 (hb (isU a) (by simp))) (isU_iff.1 (hb (isU b) (by simp))) (isU_iff.1 (hb (isU c) (by simp))) (isU_iff.1 (hb (isU d) (by simp))) ρ w
  · cases hm
theorem t_Div (a b c d : Int) (hb0 : 0 ≤ a ∧ a < 18446744073709551616) (hb1 : 0 ≤ b ∧ b < 18446744073709551616) (hb2 : 0 ≤ c ∧ c < 18446744073709551616) (hb3 : 0 ≤ d ∧ d < 18446744073709551616) (ρ : Nat → Nat) (w : World) : Calls Tryz.prog 134 (enc [.a [.u64, .u64], .a [.u64, .u64]] [a, b, c, d]).toArray w fun e w' => e = .returned (V.den ρ (.u (.agg [.si .u64 (mDiv1 a b c d), .si .u64 (mDiv2 a b c d)]))) ∧ Below w.heap.size w w' := by
  refine pure_to nameOK okn (dOK okn) 300 [.u (.agg [.si .u64 a, .si .u64 b]), .u (.agg [.si .u64 c, .si .u64 d])] (T := (.br (iLt b a) (.leaf (.val (.u (.agg [(.li .u64 1), (.li .u64 0)])))) (.br (iLt d c) (.leaf (.val (.u (.agg [(.li .u64 1), (.li .u64 0)])))) (.br (iEq c 0) (.leaf (.val (.u (.agg [(.li .u64 0), (.si .u64 b)])))) (.br (iZero? d) (.no 11) (.br (iZero? c) (.no 11) (.leaf (.val (.u (.agg [(.si .u64 (iQuo .u64 a d)), (.si .u64 (iQuo .u64 b c))])))))))))) (by kernel_rfl) ρ rfl ?_ w
  · skip
    have Q1 := fun h => quo_u a d (by omega) (by omega) (by omega)
    have Q2 := fun h => quo_u b c (by omega) (by omega) (by omega)
    simp only [Tr.all, lt_t, lt_f, le_t, le_f, gt_t, gt_f, ge_t, ge_f, eq_t, eq_f, ne_t, ne_f, neg_t, neg_f, zero_t, zero_f, not_t, not_f, beq_t, beq_f, and_t, and_f, isU_iff, isU_f, isI_iff, isI_f, add_u, sub_u, conv_u, add_i, sub_i, conv_i, max_d, min_d]
    repeat' first | refine ⟨?_, ?_⟩ | intro _
    all_goals first | omega | (refine V.pair (congrArg (Value.int _) ?_) (congrArg (Value.int _) ?_) <;> simp only [mDiv1, mDiv2, mDiv] <;> (repeat' split) <;> first | omega | exact Q1 | exact Q2)
def s_Div : Sum := mkSum 134 [.a [.u64, .u64], .a [.u64, .u64]] fun
  | [a, b, c, d] => some ([isU a, isU b, isU c, isU d], .u (.agg [.si .u64 (mDiv1 a b c d), .si .u64 (mDiv2 a b c d)]))
  | _ => none
theorem s_Div_ok : SumOK Tryz.prog s_Div := by
  refine mkSum_ok ⟨_, Tryz.func134, by kernel_rfl⟩ ?_
  intro xs bs r hm hb ρ w
  split at hm
  · rename_i a b c d
    cases hm
    exact t_Div a b c d (isU_iff.1 (hb (isU a) (by simp))) (isU_iff.1 (hb (isU b) (by simp))) (isU_iff.1 (hb (isU c) (by simp))) (isU_iff.1 (hb (isU d) (by simp))) ρ w
  · cases hm
theorem t_Mod (a b c d : Int) (hb0 : 0 ≤ a ∧ a < 18446744073709551616) (hb1 : 0 ≤ b ∧ b < 18446744073709551616) (hb2 : 0 ≤ c ∧ c < 18446744073709551616) (hb3 : 0 ≤ d ∧ d < 18446744073709551616) (ρ : Nat → Nat) (w : World) : Calls Tryz.prog 136 (enc [.a [.u64, .u64], .a [.u64, .u64]] [a, b, c, d]).toArray w fun e w' => e = .returned (V.den ρ (.u (.agg [.si .u64 (mMod1 a b c d), .si .u64 (mMod2 a b c d)]))) ∧ Below w.heap.size w w' := by
  refine pure_to nameOK okn (dOK okn) 300 [.u (.agg [.si .u64 a, .si .u64 b]), .u (.agg [.si .u64 c, .si .u64 d])] (T := (.br (iLt b a) (.leaf (.val (.u (.agg [(.li .u64 1), (.li .u64 0)])))) (.br (iLt d c) (.leaf (.val (.u (.agg [(.li .u64 1), (.li .u64 0)])))) (.br (iEq c 0) (.leaf (.val (.u (.agg [(.li .u64 0), (.si .u64 b)])))) (.leaf (.val (.u (.agg [(.li .u64 0), (.si .u64 (iMin2 b (iSub .u64 d 1)))])))))))) (by kernel_rfl) ρ rfl ?_ w
  · skip
    simp only [Tr.all, lt_t, lt_f, le_t, le_f, gt_t, gt_f, ge_t, ge_f, eq_t, eq_f, ne_t, ne_f, neg_t, neg_f, zero_t, zero_f, not_t, not_f, beq_t, beq_f, and_t, and_f, isU_iff, isU_f, isI_iff, isI_f, add_u, sub_u, conv_u, add_i, sub_i, conv_i, max_d, min_d]
    repeat' first | refine ⟨?_, ?_⟩ | intro _
    all_goals first | omega | (refine V.pair (congrArg (Value.int _) ?_) (congrArg (Value.int _) ?_) <;> simp only [mMod1, mMod2, mMod, sgn, uns] <;> (repeat' split) <;> omega)
def s_Mod : Sum := mkSum 136 [.a [.u64, .u64], .a [.u64, .u64]] fun
  | [a, b, c, d] => some ([isU a, isU b, isU c, isU d], .u (.agg [.si .u64 (mMod1 a b c d), .si .u64 (mMod2 a b c d)]))
  | _ => none
theorem s_Mod_ok : SumOK Tryz.prog s_Mod := by
  refine mkSum_ok ⟨_, Tryz.func136, by kernel_rfl⟩ ?_
  intro xs bs r hm hb ρ w
  split at hm
  · rename_i a b c d
    cases hm
    exact t_Mod a b c d (isU_iff.1 (hb (isU a) (by simp))) (isU_iff.1 (hb (isU b) (by simp))) (isU_iff.1 (hb (isU c) (by simp))) (isU_iff.1 (hb (isU d) (by simp))) ρ w
  · cases hm
theorem t_Shl (a b c : Int) (hb0 : 0 ≤ a ∧ a < 18446744073709551616) (hb1 : 0 ≤ b ∧ b < 18446744073709551616) (hb2 : 0 ≤ c ∧ c < 18446744073709551616) (ρ : Nat → Nat) (w : World) : Calls Tryz.prog 146 (enc [.a [.u64, .u64], .i .u64] [a, b, c]).toArray w fun e w' => e = .returned (V.den ρ (.u (.agg [.si .u64 (mShl1 a b c), .si .u64 (mShl2 a b c)]))) ∧ Below w.heap.size w w' := by
  refine pure_to nameOK okn (dOK okn) 300 [.u (.agg [.si .u64 a, .si .u64 b]), .u (.c (.si .u64 c))] (T := (.br (iLt b a) (.leaf (.val (.u (.agg [(.li .u64 1), (.li .u64 0)])))) (.br (iLt b a) (.leaf (.val (.u (.agg [(.li .u64 1), (.li .u64 0)])))) (.br (iNeg? c) (.no 11) (.br (iNeg? c) (.no 11) (.br (iLt c 64) (.br (iNeg? c) (.no 11) (.br (iNeg? c) (.no 11) (.br (bNot (iEq (iShr .u64 (iShl .u64 b c) c) b)) (.leaf (.val (.u (.agg [(.li .u64 0), (.li .u64 18446744073709551615)])))) (.leaf (.val (.u (.agg [(.si .u64 (iShl .u64 a c)), (.si .u64 (iShl .u64 b c))]))))))) (.leaf (.val (.u (.agg [(.li .u64 0), (.li .u64 18446744073709551615)])))))))))) (by kernel_rfl) ρ rfl ?_ w
  · skip
    have F := fun h => @shl_fits b c (isU_iff.2 hb1) (by omega)
    have PP := pw_pos c
    have P1 : ¬ b < a → a * pw c ≤ b * pw c := fun h => Int.mul_le_mul_of_nonneg_right (by omega) (by omega)
    have P2 : 0 ≤ a * pw c := Int.mul_nonneg (by omega) (by omega)
    have P3 : 0 ≤ b * pw c := Int.mul_nonneg (by omega) (by omega)
    simp only [Tr.all, lt_t, lt_f, le_t, le_f, gt_t, gt_f, ge_t, ge_f, eq_t, eq_f, ne_t, ne_f, neg_t, neg_f, zero_t, zero_f, not_t, not_f, beq_t, beq_f, and_t, and_f, isU_iff, isU_f, isI_iff, isI_f, add_u, sub_u, conv_u, add_i, sub_i, conv_i, max_d, min_d, shl_u, shr_u']
    generalize (b * pw c) % 18446744073709551616 / pw c = z at *
    repeat' first | refine ⟨?_, ?_⟩ | intro _
    all_goals first | omega | (refine V.pair (congrArg (Value.int _) ?_) (congrArg (Value.int _) ?_) <;> simp only [mShl1, mShl2, mShl] <;> (repeat' split) <;> omega)
def s_Shl : Sum := mkSum 146 [.a [.u64, .u64], .i .u64] fun
  | [a, b, c] => some ([isU a, isU b, isU c], .u (.agg [.si .u64 (mShl1 a b c), .si .u64 (mShl2 a b c)]))
  | _ => none
theorem s_Shl_ok : SumOK Tryz.prog s_Shl := by
  refine mkSum_ok ⟨_, Tryz.func146, by kernel_rfl⟩ ?_
  intro xs bs r hm hb ρ w
  split at hm
  · rename_i a b c
    cases hm
    exact t_Shl a b c (isU_iff.1 (hb (isU a) (by simp))) (isU_iff.1 (hb (isU b) (by simp))) (isU_iff.1 (hb (isU c) (by simp))) ρ w
  · cases hm
theorem t_rShl (a b c : Int) (hb0 : 0 ≤ a ∧ a < 18446744073709551616) (hb1 : 0 ≤ b ∧ b < 18446744073709551616) (hb2 : 0 ≤ c ∧ c < 18446744073709551616) (ρ : Nat → Nat) (w : World) : Calls Tryz.prog 161 (enc [.a [.u64, .u64], .i .u64] [a, b, c]).toArray w fun e w' => e = .returned (V.den ρ (.u (.agg [.si .u64 (mShl1 a b c), .si .u64 (mShl2 a b c)]))) ∧ Below w.heap.size w w' := by
  refine pure_to nameOK okn (dOK okn) 300 [.u (.agg [.si .u64 a, .si .u64 b]), .u (.c (.si .u64 c))] (T := (.br (iLt b a) (.leaf (.val (.u (.agg [(.li .u64 1), (.li .u64 0)])))) (.br (iGt c 63) (.leaf (.val (.u (.agg [(.li .u64 0), (.li .u64 18446744073709551615)])))) (.br (iNeg? c) (.no 11) (.br (iGt b (iShr .u64 18446744073709551615 c)) (.leaf (.val (.u (.agg [(.li .u64 0), (.li .u64 18446744073709551615)])))) (.br (iNeg? c) (.no 11) (.br (iNeg? c) (.no 11) (.leaf (.val (.u (.agg [(.si .u64 (iShl .u64 a c)), (.si .u64 (iShl .u64 b c))]))))))))))) (by kernel_rfl) ρ rfl ?_ w
  · skip
    have F := @shl_fits' b c
    have PP := pw_pos c
    have P1 : ¬ b < a → a * pw c ≤ b * pw c := fun h => Int.mul_le_mul_of_nonneg_right (by omega) (by omega)
    have P2 : 0 ≤ a * pw c := Int.mul_nonneg (by omega) (by omega)
    have P3 : 0 ≤ b * pw c := Int.mul_nonneg (by omega) (by omega)
    simp only [Tr.all, lt_t, lt_f, le_t, le_f, gt_t, gt_f, ge_t, ge_f, eq_t, eq_f, ne_t, ne_f, neg_t, neg_f, zero_t, zero_f, not_t, not_f, beq_t, beq_f, and_t, and_f, isU_iff, isU_f, isI_iff, isI_f, add_u, sub_u, conv_u, add_i, sub_i, conv_i, max_d, min_d, shl_u, shr_u']
    repeat' first | refine ⟨?_, ?_⟩ | intro _
    all_goals first | omega | (refine V.pair (congrArg (Value.int _) ?_) (congrArg (Value.int _) ?_) <;> simp only [mShl1, mShl2, mShl] <;> (repeat' split) <;> omega)
def s_rShl : Sum := mkSum 161 [.a [.u64, .u64], .i .u64] fun
  | [a, b, c] => some ([isU a, isU b, isU c], .u (.agg [.si .u64 (mShl1 a b c), .si .u64 (mShl2 a b c)]))
  | _ => none
theorem s_rShl_ok : SumOK Tryz.prog s_rShl := by
  refine mkSum_ok ⟨_, Tryz.func161, by kernel_rfl⟩ ?_
  intro xs bs r hm hb ρ w
  split at hm
  · rename_i a b c
    cases hm
    exact t_rShl a b c (isU_iff.1 (hb (isU a) (by simp))) (isU_iff.1 (hb (isU b) (by simp))) (isU_iff.1 (hb (isU c) (by simp))) ρ w
  · cases hm
theorem t_Shr (a b c : Int) (hb0 : 0 ≤ a ∧ a < 18446744073709551616) (hb1 : 0 ≤ b ∧ b < 18446744073709551616) (hb2 : 0 ≤ c ∧ c < 18446744073709551616) (ρ : Nat → Nat) (w : World) : Calls Tryz.prog 148 (enc [.a [.u64, .u64], .i .u64] [a, b, c]).toArray w fun e w' => e = .returned (V.den ρ (.u (.agg [.si .u64 (mShr1 a b c), .si .u64 (mShr2 a b c)]))) ∧ Below w.heap.size w w' := by
  refine pure_to nameOK okn (dOK okn) 300 [.u (.agg [.si .u64 a, .si .u64 b]), .u (.c (.si .u64 c))] (T := (.br (iLt b a) (.leaf (.val (.u (.agg [(.li .u64 1), (.li .u64 0)])))) (.br (iLt b a) (.leaf (.val (.u (.agg [(.li .u64 1), (.li .u64 0)])))) (.br (iNeg? c) (.no 11) (.br (iNeg? c) (.no 11) (.leaf (.val (.u (.agg [(.si .u64 (iShr .u64 a c)), (.si .u64 (iShr .u64 b c))]))))))))) (by kernel_rfl) ρ rfl ?_ w
  · skip
    simp only [Tr.all, neg_t, neg_f, lt_t, lt_f, shr_u']
    repeat' first | refine ⟨?_, ?_⟩ | intro _
    all_goals first | omega | (refine V.pair (congrArg (Value.int _) ?_) (congrArg (Value.int _) ?_) <;> simp only [mShr1, mShr2, mShr] <;> split <;> first | rfl | omega)
def s_Shr : Sum := mkSum 148 [.a [.u64, .u64], .i .u64] fun
  | [a, b, c] => some ([isU a, isU b, isU c], .u (.agg [.si .u64 (mShr1 a b c), .si .u64 (mShr2 a b c)]))
  | _ => none
theorem s_Shr_ok : SumOK Tryz.prog s_Shr := by
  refine mkSum_ok ⟨_, Tryz.func148, by kernel_rfl⟩ ?_
  intro xs bs r hm hb ρ w
  split at hm
  · rename_i a b c
    cases hm
    exact t_Shr a b c (isU_iff.1 (hb (isU a) (by simp))) (isU_iff.1 (hb (isU b) (by simp))) (isU_iff.1 (hb (isU c) (by simp))) ρ w
  · cases hm
theorem t_rShr (a b c : Int) (hb0 : 0 ≤ a ∧ a < 18446744073709551616) (hb1 : 0 ≤ b ∧ b < 18446744073709551616) (hb2 : 0 ≤ c ∧ c < 18446744073709551616) (ρ : Nat → Nat) (w : World) : Calls Tryz.prog 162 (enc [.a [.u64, .u64], .i .u64] [a, b, c]).toArray w fun e w' => e = .returned (V.den ρ (.u (.agg [.si .u64 (mShr1 a b c), .si .u64 (mShr2 a b c)]))) ∧ Below w.heap.size w w' := by
  refine pure_to nameOK okn (dOK okn) 300 [.u (.agg [.si .u64 a, .si .u64 b]), .u (.c (.si .u64 c))] (T := (.br (iLt b a) (.leaf (.val (.u (.agg [(.li .u64 1), (.li .u64 0)])))) (.br (iGt c 63) (.leaf (.val (.u (.agg [(.li .u64 0), (.li .u64 0)])))) (.br (iNeg? c) (.no 11) (.br (iNeg? c) (.no 11) (.leaf (.val (.u (.agg [(.si .u64 (iShr .u64 a c)), (.si .u64 (iShr .u64 b c))]))))))))) (by kernel_rfl) ρ rfl ?_ w
  · skip
    have Z : ∀ x : Int, 0 ≤ x → x < 18446744073709551616 → 64 ≤ c → 0 = x / pw c := fun x x0 x1 h => by rw [pw_big h]; omega
    simp only [Tr.all, neg_t, neg_f, lt_t, lt_f, gt_t, gt_f, shr_u']
    repeat' first | refine ⟨?_, ?_⟩ | intro _
    all_goals first | omega | (refine V.pair (congrArg (Value.int _) ?_) (congrArg (Value.int _) ?_) <;> simp only [mShr1, mShr2, mShr] <;> split <;> first | rfl | omega | exact Z _ (by omega) (by omega) (by omega))
def s_rShr : Sum := mkSum 162 [.a [.u64, .u64], .i .u64] fun
  | [a, b, c] => some ([isU a, isU b, isU c], .u (.agg [.si .u64 (mShr1 a b c), .si .u64 (mShr2 a b c)]))
  | _ => none
theorem s_rShr_ok : SumOK Tryz.prog s_rShr := by
  refine mkSum_ok ⟨_, Tryz.func162, by kernel_rfl⟩ ?_
  intro xs bs r hm hb ρ w
  split at hm
  · rename_i a b c
    cases hm
    exact t_rShr a b c (isU_iff.1 (hb (isU a) (by simp))) (isU_iff.1 (hb (isU b) (by simp))) (isU_iff.1 (hb (isU c) (by simp))) ρ w
  · cases hm
theorem t_rDo0 (a b c d : Int) (hb0 : 0 ≤ a ∧ a < 18446744073709551616) (hb1 : 0 ≤ b ∧ b < 18446744073709551616) (hb2 : 0 ≤ c ∧ c < 18446744073709551616) (hb3 : 0 ≤ d ∧ d < 18446744073709551616) (ρ : Nat → Nat) (w : World) : Calls Tryz.prog 153 (enc [.a [.u64, .u64], .a [.u64, .u64], .i .i64] [a, b, c, d, 0]).toArray w fun e w' => e = .returned (V.den ρ (.u (.agg [.si .u64 (mAdd1 a b c d), .si .u64 (mAdd2 a b c d)]))) ∧ Below w.heap.size w w' := by
  refine pure_to nameOK okn (dOK okn) 300 [.u (.agg [.si .u64 a, .si .u64 b]), .u (.agg [.si .u64 c, .si .u64 d]), .u (.c (.li .i64 0))] (T := (.br (iLt b a) (.leaf (.val (.u (.agg [(.li .u64 1), (.li .u64 0)])))) (.br (iLt d c) (.leaf (.val (.u (.agg [(.li .u64 1), (.li .u64 0)])))) (.br (iGt b (iSub .u64 18446744073709551615 d)) (.leaf (.val (.u (.agg [(.li .u64 0), (.li .u64 18446744073709551615)])))) (.br (iGt a (iSub .u64 18446744073709551615 c)) (.leaf (.val (.u (.agg [(.li .u64 0), (.li .u64 18446744073709551615)])))) (.leaf (.val (.u (.agg [(.si .u64 (iAdd .u64 a c)), (.si .u64 (iAdd .u64 b d))]))))))))) (by kernel_rfl) ρ rfl ?_ w
  · skip
    simp only [Tr.all, lt_t, lt_f, le_t, le_f, gt_t, gt_f, ge_t, ge_f, eq_t, eq_f, ne_t, ne_f, neg_t, neg_f, zero_t, zero_f, not_t, not_f, beq_t, beq_f, and_t, and_f, isU_iff, isU_f, isI_iff, isI_f, add_u, sub_u, conv_u, add_i, sub_i, conv_i, max_d, min_d]
    repeat' first | refine ⟨?_, ?_⟩ | intro _
    all_goals first | omega | (refine V.pair (congrArg (Value.int _) ?_) (congrArg (Value.int _) ?_) <;> simp only [mAdd1, mAdd2, mAdd, sgn, uns] <;> (repeat' split) <;> omega)
theorem t_rDo1 (a b c d : Int) (hb0 : 0 ≤ a ∧ a < 18446744073709551616) (hb1 : 0 ≤ b ∧ b < 18446744073709551616) (hb2 : 0 ≤ c ∧ c < 18446744073709551616) (hb3 : 0 ≤ d ∧ d < 18446744073709551616) (ρ : Nat → Nat) (w : World) : Calls Tryz.prog 153 (enc [.a [.u64, .u64], .a [.u64, .u64], .i .i64] [a, b, c, d, 1]).toArray w fun e w' => e = .returned (V.den ρ (.u (.agg [.si .u64 (mSub1 a b c d), .si .u64 (mSub2 a b c d)]))) ∧ Below w.heap.size w w' := by
  refine pure_to nameOK okn (dOK okn) 300 [.u (.agg [.si .u64 a, .si .u64 b]), .u (.agg [.si .u64 c, .si .u64 d]), .u (.c (.li .i64 1))] (T := (.br (iLt b a) (.leaf (.val (.u (.agg [(.li .u64 1), (.li .u64 0)])))) (.br (iLt d c) (.leaf (.val (.u (.agg [(.li .u64 1), (.li .u64 0)])))) (.br (iLt a d) (.leaf (.val (.u (.agg [(.li .u64 0), (.li .u64 18446744073709551615)])))) (.br (iLt b c) (.leaf (.val (.u (.agg [(.li .u64 0), (.li .u64 18446744073709551615)])))) (.leaf (.val (.u (.agg [(.si .u64 (iSub .u64 a d)), (.si .u64 (iSub .u64 b c))]))))))))) (by kernel_rfl) ρ rfl ?_ w
  · skip
    simp only [Tr.all, lt_t, lt_f, le_t, le_f, gt_t, gt_f, ge_t, ge_f, eq_t, eq_f, ne_t, ne_f, neg_t, neg_f, zero_t, zero_f, not_t, not_f, beq_t, beq_f, and_t, and_f, isU_iff, isU_f, isI_iff, isI_f, add_u, sub_u, conv_u, add_i, sub_i, conv_i, max_d, min_d]
    repeat' first | refine ⟨?_, ?_⟩ | intro _
    all_goals first | omega | (refine V.pair (congrArg (Value.int _) ?_) (congrArg (Value.int _) ?_) <;> simp only [mSub1, mSub2, mSub, sgn, uns] <;> (repeat' split) <;> omega)
theorem t_rDo2 (a b c d : Int) (hb0 : 0 ≤ a ∧ a < 18446744073709551616) (hb1 : 0 ≤ b ∧ b < 18446744073709551616) (hb2 : 0 ≤ c ∧ c < 18446744073709551616) (hb3 : 0 ≤ d ∧ d < 18446744073709551616) (ρ : Nat → Nat) (w : World) : Calls Tryz.prog 153 (enc [.a [.u64, .u64], .a [.u64, .u64], .i .i64] [a, b, c, d, 2]).toArray w fun e w' => e = .returned (V.den ρ (.u (.agg [.si .u64 (mMul1 a b c d), .si .u64 (mMul2 a b c d)]))) ∧ Below w.heap.size w w' := by
  refine pure_to nameOK okn (dOK okn) 300 [.u (.agg [.si .u64 a, .si .u64 b]), .u (.agg [.si .u64 c, .si .u64 d]), .u (.c (.li .i64 2))] (T := (.br (iLt b a) (.leaf (.val (.u (.agg [(.li .u64 1), (.li .u64 0)])))) (.br (iLt d c) (.leaf (.val (.u (.agg [(.li .u64 1), (.li .u64 0)])))) (.br (iEq a 0) (.br (iEq b 0) (.leaf (.val (.u (.agg [(.li .u64 0), (.li .u64 0)])))) (.br (iEq d 0) (.leaf (.val (.u (.agg [(.li .u64 0), (.li .u64 0)])))) (.br (iZero? d) (.no 11) (.br (bNot (iLe b (iQuo .u64 18446744073709551615 d))) (.leaf (.val (.u (.agg [(.li .u64 0), (.li .u64 18446744073709551615)])))) (.leaf (.val (.u (.agg [(.li .u64 0), (.si .u64 (iMul .u64 b d))])))))))) (.br (iEq c 0) (.br (iEq b 0) (.leaf (.val (.u (.agg [(.li .u64 0), (.li .u64 0)])))) (.br (iEq d 0) (.leaf (.val (.u (.agg [(.li .u64 0), (.li .u64 0)])))) (.br (iZero? d) (.no 11) (.br (bNot (iLe b (iQuo .u64 18446744073709551615 d))) (.leaf (.val (.u (.agg [(.li .u64 0), (.li .u64 18446744073709551615)])))) (.leaf (.val (.u (.agg [(.li .u64 0), (.si .u64 (iMul .u64 b d))])))))))) (.br (iZero? c) (.no 11) (.br (iEq b 0) (.leaf (.val (.u (.agg [(.si .u64 (iMul .u64 a c)), (.li .u64 0)])))) (.br (iEq d 0) (.leaf (.val (.u (.agg [(.si .u64 (iMul .u64 a c)), (.li .u64 0)])))) (.br (iZero? d) (.no 11) (.br (bNot (iLe b (iQuo .u64 18446744073709551615 d))) (.leaf (.val (.u (.agg [(.li .u64 0), (.li .u64 18446744073709551615)])))) (.leaf (.val (.u (.agg [(.si .u64 (iMul .u64 a c)), (.si .u64 (iMul .u64 b d))])))))))))))))) (by kernel_rfl) ρ rfl ?_ w
  · skip
    have P1 : ¬ b < a → ¬ d < c → a * c ≤ b * d := fun h1 h2 => mul_le (by omega) (by omega) (by omega) (by omega)
    have P2 : 0 ≤ a * c := Int.mul_nonneg (by omega) (by omega)
    have P3 : 0 ≤ b * d := Int.mul_nonneg (by omega) (by omega)
    have Q1 : a = 0 → a * c = 0 := fun h => by rw [h, Int.zero_mul]
    have Q2 : c = 0 → a * c = 0 := fun h => by rw [h, Int.mul_zero]
    have Q3 : b = 0 → b * d = 0 := fun h => by rw [h, Int.zero_mul]
    have Q4 : d = 0 → b * d = 0 := fun h => by rw [h, Int.mul_zero]
    have D0 : ∀ y : Int, y ≠ 0 → 0 ≤ y → y < 18446744073709551616 → iQuo .u64 18446744073709551615 y = 18446744073709551615 / y := fun y h0 h1 h2 => quo_u _ _ (by omega) (by omega) h1
    have L : ∀ x y : Int, 0 < y → (x ≤ 18446744073709551615 / y ↔ x * y < 18446744073709551616) := fun x y hy => by rw [Int.le_ediv_iff_mul_le hy]; omega
    have L2 := L b d
    have D2 := D0 d
    simp only [Tr.all, lt_t, lt_f, le_t, le_f, gt_t, gt_f, ge_t, ge_f, eq_t, eq_f, ne_t, ne_f, neg_t, neg_f, zero_t, zero_f, not_t, not_f, beq_t, beq_f, and_t, and_f, isU_iff, isU_f, isI_iff, isI_f, add_u, sub_u, conv_u, add_i, sub_i, conv_i, max_d, min_d, mul_u]
    repeat' first | refine ⟨?_, ?_⟩ | intro _
    all_goals first | omega | (refine V.pair (congrArg (Value.int _) ?_) (congrArg (Value.int _) ?_) <;> simp only [mMul1, mMul2, mMul] <;> (repeat' split) <;> omega)
theorem t_rDo3 (a b c d : Int) (hb0 : 0 ≤ a ∧ a < 18446744073709551616) (hb1 : 0 ≤ b ∧ b < 18446744073709551616) (hb2 : 0 ≤ c ∧ c < 18446744073709551616) (hb3 : 0 ≤ d ∧ d < 18446744073709551616) (ρ : Nat → Nat) (w : World) : Calls Tryz.prog 153 (enc [.a [.u64, .u64], .a [.u64, .u64], .i .i64] [a, b, c, d, 3]).toArray w fun e w' => e = .returned (V.den ρ (.u (.agg [.si .u64 (mDiv1 a b c d), .si .u64 (mDiv2 a b c d)]))) ∧ Below w.heap.size w w' := by
  refine pure_to nameOK okn (dOK okn) 300 [.u (.agg [.si .u64 a, .si .u64 b]), .u (.agg [.si .u64 c, .si .u64 d]), .u (.c (.li .i64 3))] (T := (.br (iLt b a) (.leaf (.val (.u (.agg [(.li .u64 1), (.li .u64 0)])))) (.br (iLt d c) (.leaf (.val (.u (.agg [(.li .u64 1), (.li .u64 0)])))) (.br (iEq c 0) (.leaf (.val (.u (.agg [(.li .u64 0), (.si .u64 b)])))) (.br (iZero? d) (.no 11) (.br (iZero? c) (.no 11) (.leaf (.val (.u (.agg [(.si .u64 (iQuo .u64 a d)), (.si .u64 (iQuo .u64 b c))])))))))))) (by kernel_rfl) ρ rfl ?_ w
  · skip
    have Q1 := fun h => quo_u a d (by omega) (by omega) (by omega)
    have Q2 := fun h => quo_u b c (by omega) (by omega) (by omega)
    simp only [Tr.all, lt_t, lt_f, le_t, le_f, gt_t, gt_f, ge_t, ge_f, eq_t, eq_f, ne_t, ne_f, neg_t, neg_f, zero_t, zero_f, not_t, not_f, beq_t, beq_f, and_t, and_f, isU_iff, isU_f, isI_iff, isI_f, add_u, sub_u, conv_u, add_i, sub_i, conv_i, max_d, min_d]
    repeat' first | refine ⟨?_, ?_⟩ | intro _
    all_goals first | omega | (refine V.pair (congrArg (Value.int _) ?_) (congrArg (Value.int _) ?_) <;> simp only [mDiv1, mDiv2, mDiv] <;> (repeat' split) <;> first | omega | exact Q1 | exact Q2)
theorem t_rDo4 (a b c d : Int) (hb0 : 0 ≤ a ∧ a < 18446744073709551616) (hb1 : 0 ≤ b ∧ b < 18446744073709551616) (hb2 : 0 ≤ c ∧ c < 18446744073709551616) (hb3 : 0 ≤ d ∧ d < 18446744073709551616) (ρ : Nat → Nat) (w : World) : Calls Tryz.prog 153 (enc [.a [.u64, .u64], .a [.u64, .u64], .i .i64] [a, b, c, d, 4]).toArray w fun e w' => e = .returned (V.den ρ (.u (.agg [.si .u64 (mMod1 a b c d), .si .u64 (mMod2 a b c d)]))) ∧ Below w.heap.size w w' := by
  refine pure_to nameOK okn (dOK okn) 300 [.u (.agg [.si .u64 a, .si .u64 b]), .u (.agg [.si .u64 c, .si .u64 d]), .u (.c (.li .i64 4))] (T := (.br (iLt b a) (.leaf (.val (.u (.agg [(.li .u64 1), (.li .u64 0)])))) (.br (iLt d c) (.leaf (.val (.u (.agg [(.li .u64 1), (.li .u64 0)])))) (.br (iEq c 0) (.leaf (.val (.u (.agg [(.li .u64 0), (.si .u64 b)])))) (.leaf (.val (.u (.agg [(.li .u64 0), (.si .u64 (iMin2 b (iSub .u64 d 1)))])))))))) (by kernel_rfl) ρ rfl ?_ w
  · skip
    simp only [Tr.all, lt_t, lt_f, le_t, le_f, gt_t, gt_f, ge_t, ge_f, eq_t, eq_f, ne_t, ne_f, neg_t, neg_f, zero_t, zero_f, not_t, not_f, beq_t, beq_f, and_t, and_f, isU_iff, isU_f, isI_iff, isI_f, add_u, sub_u, conv_u, add_i, sub_i, conv_i, max_d, min_d]
    repeat' first | refine ⟨?_, ?_⟩ | intro _
    all_goals first | omega | (refine V.pair (congrArg (Value.int _) ?_) (congrArg (Value.int _) ?_) <;> simp only [mMod1, mMod2, mMod, sgn, uns] <;> (repeat' split) <;> omega)
def s_rDo : Sum := mkSum 153 [.a [.u64, .u64], .a [.u64, .u64], .i .i64] fun
  | [a, b, c, d, h] => (match decide (h = 0) with | true => some ([isU a, isU b, isU c, isU d], .u (.agg [.si .u64 (mAdd1 a b c d), .si .u64 (mAdd2 a b c d)])) | false => (match decide (h = 1) with | true => some ([isU a, isU b, isU c, isU d], .u (.agg [.si .u64 (mSub1 a b c d), .si .u64 (mSub2 a b c d)])) | false => (match decide (h = 2) with | true => some ([isU a, isU b, isU c, isU d], .u (.agg [.si .u64 (mMul1 a b c d), .si .u64 (mMul2 a b c d)])) | false => (match decide (h = 3) with | true => some ([isU a, isU b, isU c, isU d], .u (.agg [.si .u64 (mDiv1 a b c d), .si .u64 (mDiv2 a b c d)])) | false => (match decide (h = 4) with | true => some ([isU a, isU b, isU c, isU d], .u (.agg [.si .u64 (mMod1 a b c d), .si .u64 (mMod2 a b c d)])) | false => none)))))
  | _ => none
theorem s_rDo_ok : SumOK Tryz.prog s_rDo := by
  refine mkSum_ok ⟨_, Tryz.func153, by kernel_rfl⟩ ?_
  intro xs bs r hm hb ρ w
  split at hm
  · rename_i a b c d h
    split at hm
    · rename_i hh; have hh := of_decide_eq_true hh; subst hh; cases hm; exact t_rDo0 a b c d (isU_iff.1 (hb (isU a) (by simp))) (isU_iff.1 (hb (isU b) (by simp))) (isU_iff.1 (hb (isU c) (by simp))) (isU_iff.1 (hb (isU d) (by simp))) ρ w
    split at hm
    · rename_i hh; have hh := of_decide_eq_true hh; subst hh; cases hm; exact t_rDo1 a b c d (isU_iff.1 (hb (isU a) (by simp))) (isU_iff.1 (hb (isU b) (by simp))) (isU_iff.1 (hb (isU c) (by simp))) (isU_iff.1 (hb (isU d) (by simp))) ρ w
    split at hm
    · rename_i hh; have hh := of_decide_eq_true hh; subst hh; cases hm; exact t_rDo2 a b c d (isU_iff.1 (hb (isU a) (by simp))) (isU_iff.1 (hb (isU b) (by simp))) (isU_iff.1 (hb (isU c) (by simp))) (isU_iff.1 (hb (isU d) (by simp))) ρ w
    split at hm
    · rename_i hh; have hh := of_decide_eq_true hh; subst hh; cases hm; exact t_rDo3 a b c d (isU_iff.1 (hb (isU a) (by simp))) (isU_iff.1 (hb (isU b) (by simp))) (isU_iff.1 (hb (isU c) (by simp))) (isU_iff.1 (hb (isU d) (by simp))) ρ w
    split at hm
    · rename_i hh; have hh := of_decide_eq_true hh; subst hh; cases hm; exact t_rDo4 a b c d (isU_iff.1 (hb (isU a) (by simp))) (isU_iff.1 (hb (isU b) (by simp))) (isU_iff.1 (hb (isU c) (by simp))) (isU_iff.1 (hb (isU d) (by simp))) ρ w
    cases hm
  · cases hm
end Go.Proofs.YtafpbibpahjnhaaGreat.L04
