/- What the executor's conditions say, in plain Lean. A text of the session's own. -/
import Derived.Test.YtnlohongffpkpaaSxO
namespace Go.Proofs.Ytnlohongffpkpaa.Sx
open Go Go.RowKit

theorem lt_t {x y : Int} : iLt x y = true ↔ x < y := by simp [iLt]
theorem lt_f {x y : Int} : iLt x y = false ↔ y ≤ x := by simp [iLt]
theorem le_t {x y : Int} : iLe x y = true ↔ x ≤ y := by simp [iLe]
theorem le_f {x y : Int} : iLe x y = false ↔ y < x := by simp [iLe]
theorem gt_t {x y : Int} : iGt x y = true ↔ y < x := by simp [iGt]
theorem gt_f {x y : Int} : iGt x y = false ↔ x ≤ y := by simp [iGt]
theorem ge_t {x y : Int} : iGe x y = true ↔ y ≤ x := by simp [iGe]
theorem ge_f {x y : Int} : iGe x y = false ↔ x < y := by simp [iGe]
theorem eq_t {x y : Int} : iEq x y = true ↔ x = y := by simp [iEq]
theorem eq_f {x y : Int} : iEq x y = false ↔ ¬ x = y := by simp [iEq]
theorem ne_t {x y : Int} : iNe x y = true ↔ ¬ x = y := by simp [iNe]
theorem ne_f {x y : Int} : iNe x y = false ↔ x = y := by simp [iNe]
theorem neg_t {x : Int} : iNeg? x = true ↔ x < 0 := by simp [iNeg?]
theorem neg_f {x : Int} : iNeg? x = false ↔ 0 ≤ x := by simp [iNeg?]
theorem zero_t {x : Int} : iZero? x = true ↔ x = 0 := by simp [iZero?]
theorem zero_f {x : Int} : iZero? x = false ↔ ¬ x = 0 := by simp [iZero?]
theorem not_t {x : Bool} : bNot x = true ↔ x = false := by simp [bNot]
theorem not_f {x : Bool} : bNot x = false ↔ x = true := by simp [bNot]
theorem beq_t {x y : Bool} : bEq x y = true ↔ (x = true ↔ y = true) := by cases x <;> cases y <;> simp [bEq]
theorem beq_f {x y : Bool} : bEq x y = false ↔ ¬ (x = true ↔ y = true) := by cases x <;> cases y <;> simp [bEq]
theorem and_t {x y : Bool} : bAnd x y = true ↔ x = true ∧ y = true := by simp [bAnd]
theorem and_f {x y : Bool} : bAnd x y = false ↔ ¬ (x = true ∧ y = true) := by cases x <;> cases y <;> simp [bAnd]
theorem isU_f {x : Int} : isU x = false ↔ ¬ (0 ≤ x ∧ x < 18446744073709551616) := by simp [isU]
theorem isI_f {x : Int} : isI x = false ↔ ¬ (-9223372036854775808 ≤ x ∧ x < 9223372036854775808) := by simp [isI]

theorem add_u (x y : Int) : iAdd .u64 x y = (x + y) % 18446744073709551616 := by rw [iAdd, IntKind.wrap_u64]
theorem sub_u (x y : Int) : iSub .u64 x y = (x - y) % 18446744073709551616 := by rw [iSub, IntKind.wrap_u64]
theorem mul_u (x y : Int) : iMul .u64 x y = (x * y) % 18446744073709551616 := by rw [iMul, IntKind.wrap_u64]
theorem conv_u (x : Int) : iConv .u64 x = x % 18446744073709551616 := by rw [iConv, IntKind.wrap_u64]
theorem add_i (x y : Int) : iAdd .i64 x y = (x + y + 9223372036854775808) % 18446744073709551616 - 9223372036854775808 := by rw [iAdd, IntKind.wrap_i64]
theorem sub_i (x y : Int) : iSub .i64 x y = (x - y + 9223372036854775808) % 18446744073709551616 - 9223372036854775808 := by rw [iSub, IntKind.wrap_i64]
theorem mul_i (x y : Int) : iMul .i64 x y = (x * y + 9223372036854775808) % 18446744073709551616 - 9223372036854775808 := by rw [iMul, IntKind.wrap_i64]
theorem conv_i (x : Int) : iConv .i64 x = (x + 9223372036854775808) % 18446744073709551616 - 9223372036854775808 := by rw [iConv, IntKind.wrap_i64]
theorem max_d (x y : Int) : iMax2 x y = max x y := by unfold iMax2; omega
theorem min_d (x y : Int) : iMin2 x y = min x y := by unfold iMin2; omega

/-- The power of two by which a shift goes. -/
def pw (n : Int) : Int := 2 ^ min n.toNat 64
theorem shl_u (x n : Int) : iShl .u64 x n = (x * pw n) % 18446744073709551616 := by rw [iShl, IntKind.wrap_u64]; rfl
theorem shr_u (x n : Int) : iShr .u64 x n = x.fdiv (pw n) := rfl
theorem shr_i (x n : Int) : iShr .i64 x n = x.fdiv (pw n) := rfl
theorem pw_pos (n : Int) : 0 < pw n := Int.pow_pos (by omega)
theorem shr_u' (x n : Int) : iShr .u64 x n = x / pw n := by rw [shr_u, Int.fdiv_eq_ediv_of_nonneg _ (Int.le_of_lt (pw_pos n))]
theorem shr_i' (x n : Int) : iShr .i64 x n = x / pw n := by rw [shr_i, Int.fdiv_eq_ediv_of_nonneg _ (Int.le_of_lt (pw_pos n))]
theorem pw_big {n : Int} (h : 64 ≤ n) : pw n = 18446744073709551616 := by
  have : min n.toNat 64 = 64 := by omega
  rw [pw, this]; rfl
theorem pw_split {n : Int} (h0 : 0 ≤ n) (h : n ≤ 64) : ∃ q, 0 < q ∧ pw n * q = 18446744073709551616 := by
  refine ⟨2 ^ (64 - n.toNat), Int.pow_pos (by omega), ?_⟩
  have : min n.toNat 64 = n.toNat := by omega
  rw [pw, this, ← Int.pow_add, show n.toNat + (64 - n.toNat) = 64 by omega]; rfl
theorem pw_63 : pw 63 = 9223372036854775808 := rfl

/-! lists of summaries -/
theorem okn {P : Program} : ∀ q ∈ ([] : List Sum), SumOK P q := fun _ h => nomatch h
theorem okc {P : Program} {q : Sum} {l : List Sum} (h : SumOK P q) (hl : ∀ q ∈ l, SumOK P q) : ∀ q' ∈ q :: l, SumOK P q' := by
  intro q' h'
  rcases List.mem_cons.1 h' with rfl | h'
  · exact h
  · exact hl q' h'

end Go.Proofs.Ytnlohongffpkpaa.Sx
