/- Layer 5: words between the executor's numbers and the models' ones. A text of the session's own. -/
import Derived.Test.YtafpbibpahjnhaaGreatL05E
import Derived.Test.YtafpbibpahjnhaaGreatSxQ
import Derived.Shelf.Strconv.Itoa0
namespace Go.Proofs.YtafpbibpahjnhaaGreat.L05
open Go Go.RowKit Go.Proofs.YtafpbibpahjnhaaGreat.Sx

theorem conv_sgn {z : Int} (h : isU z = true) : iConv .i64 z = sgn z := by
  rw [isU_iff] at h; rw [conv_i]; unfold sgn; split <;> omega
theorem conv_uns {z : Int} (h : isI z = true) : iConv .u64 z = uns z := by
  rw [isI_iff] at h; rw [conv_u]; unfold uns; split <;> omega
theorem conv_i32 (z : Int) : iConv .i32 z = sg32 z := by
  simp [iConv, IntKind.wrap, IntKind.bits, IntKind.signed]; unfold sg32; split <;> omega
theorem conv_sg32 (z : Int) : iConv .i64 (iConv .i32 z) = sg32 z := by
  rw [conv_i32, conv_i]; unfold sg32; split <;> omega
theorem shr31 (z : Int) : iShr .u64 z 31 = z / 2147483648 := shr_u' z 31
theorem shr32 (z : Int) : iShr .u64 z 32 = z / 4294967296 := shr_u' z 32

/-! the library's length in bits is the same -/
theorem aux_spec : ∀ (f n : Nat), n < 2 ^ f → n < 2 ^ Lib.bitLenAux f n ∧ (n ≠ 0 → 2 ^ (Lib.bitLenAux f n - 1) ≤ n)
  | 0, n, h => by simp [Lib.bitLenAux] at *; omega
  | f + 1, n, h => by
    unfold Lib.bitLenAux
    split
    · rename_i e; subst e; simp
    · rename_i e
      have h2 : n / 2 < 2 ^ f := by rw [Nat.pow_succ] at h; omega
      obtain ⟨g1, g2⟩ := aux_spec f (n / 2) h2
      have h0 : n / 2 = 0 → Lib.bitLenAux f (n / 2) = 0 := fun e => by rw [e]; cases f <;> simp [Lib.bitLenAux]
      generalize Lib.bitLenAux f (n / 2) = k at *
      refine ⟨by rw [Nat.add_comm, Nat.pow_succ]; omega, fun _ => ?_⟩
      rw [Nat.add_sub_cancel_left]
      by_cases e2 : n / 2 = 0
      · have hk : k = 0 := h0 e2
        subst hk; simp; omega
      · have := g2 e2
        have hk : k = (k - 1) + 1 := by
          cases k with
          | zero => simp at g1; omega
          | succ k => omega
        rw [hk, Nat.pow_succ]
        omega

theorem len_unique {n a b : Nat} (ha : n < 2 ^ a ∧ (n ≠ 0 → 2 ^ (a - 1) ≤ n)) (hb : n < 2 ^ b ∧ (n ≠ 0 → 2 ^ (b - 1) ≤ n)) (ha0 : n = 0 → a = 0) (hb0 : n = 0 → b = 0) : a = b := by
  by_cases e : n = 0
  · rw [ha0 e, hb0 e]
  · have h1 := ha.2 e
    have h2 := hb.2 e
    have h3 : a - 1 < b := (Nat.pow_lt_pow_iff_right (by omega)).1 (Nat.lt_of_le_of_lt h1 hb.1)
    have h4 : b - 1 < a := (Nat.pow_lt_pow_iff_right (by omega)).1 (Nat.lt_of_le_of_lt h2 ha.1)
    omega

theorem lib_len {n : Nat} (h : n < 2 ^ 64) : Lib.bitLen n = bitLen n :=
  len_unique (aux_spec 64 n h) (bitLen_spec n) (fun e => by subst e; rfl) (fun e => by subst e; rfl)

theorem ones_sub {k : Nat} (h : k ≤ 64) : iSub .u64 (iShl .u64 1 (k : Int)) 1 = 2 ^ k - 1 := by
  have hp : pw (k : Int) = 2 ^ k := by
    rw [pw, Int.toNat_natCast, Nat.min_eq_left h]
  rw [shl_u, sub_u, hp, Int.one_mul]
  obtain ⟨u, _⟩ := ones_u h
  obtain ⟨u0, u1⟩ := isU_iff.1 u
  omega

def len64 (x : Int) : Int := (bitLen x.toNat : Nat)
def sLen64 (f : FuncId) : Sum := bySum f [.s (some .u64)] fun
  | [x], [] => some ([isU x], .u (.c (.si .i64 (len64 x))))
  | _, _ => none

theorem sLen64_ok {P : Program} {ρ : Shelf.Ren} (L : Lays.n129 P ρ) {fn : Func} (hf : P.funcs[ρ.f 129]? = some fn) (hb : fn.body.isSome = true) : SumOK P (sLen64 (ρ.f 129)) := by
  refine bySum_ok ⟨fn, hf, hb⟩ ?_
  intro ns os bs r hm hbs ρ' w
  split at hm
  · rename_i x
    cases hm
    have hx := hbs (isU x) (by simp)
    obtain ⟨x0, x1⟩ := isU_iff.1 hx
    refine (Any.bits_Len64 L x w x0 (by omega)).mono ?_
    rintro e w' ⟨rfl, rfl⟩
    refine ⟨?_, Below.refl _ _⟩
    rw [lib_len (nat_lt hx)]
    rfl
  · cases hm

end Go.Proofs.YtafpbibpahjnhaaGreat.L05
