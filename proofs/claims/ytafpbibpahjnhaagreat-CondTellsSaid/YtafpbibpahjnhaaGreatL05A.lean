/- Bits of numbers without a sign, in plain Lean. A text of the session's own. -/
import Derived.Test.YtafpbibpahjnhaaGreatSxP
namespace Go.Proofs.YtafpbibpahjnhaaGreat.L05
open Go Go.RowKit Go.Proofs.YtafpbibpahjnhaaGreat.Sx

/-- A bit of a number. -/
def tb (x : Int) (i : Nat) : Bool := x.toNat.testBit i

theorem ofInt_nat {x : Int} (h : isU x = true) : (BitVec.ofInt 64 x).toNat = x.toNat := by
  obtain ⟨h0, h1⟩ := isU_iff.1 h
  rw [BitVec.toNat_ofInt]
  have : x % ((2 ^ 64 : Nat) : Int) = x := Int.emod_eq_of_lt h0 (by simpa using h1)
  rw [this]

theorem nat_lt {x : Int} (h : isU x = true) : x.toNat < 2 ^ 64 := by
  obtain ⟨h0, h1⟩ := isU_iff.1 h
  have : (2 : Nat) ^ 64 = 18446744073709551616 := rfl
  omega

theorem wrap_nat {n : Nat} (h : n < 2 ^ 64) : IntKind.wrap .u64 (n : Int) = n := by
  rw [IntKind.wrap_u64]
  have : (2 : Nat) ^ 64 = 18446744073709551616 := rfl
  omega

theorem nat_u {n : Nat} (h : n < 2 ^ 64) : isU (n : Int) = true := by
  rw [isU_iff]
  have : (2 : Nat) ^ 64 = 18446744073709551616 := rfl
  omega

def andU (x y : Int) : Int := iBit .and .u64 x y
def orU (x y : Int) : Int := iBit .or .u64 x y
def xorU (x y : Int) : Int := iBit .xor .u64 x y
def notU (x y : Int) : Int := iBit .andNot .u64 x y

section
variable {x y : Int}
theorem and_nat (hx : isU x = true) (hy : isU y = true) : andU x y = ((x.toNat &&& y.toNat : Nat) : Int) := by
  show IntKind.wrap .u64 (((BitVec.ofInt 64 x &&& BitVec.ofInt 64 y).toNat : Nat) : Int) = _
  rw [wrap_nat (BitVec.isLt _), BitVec.toNat_and, ofInt_nat hx, ofInt_nat hy]
theorem or_nat (hx : isU x = true) (hy : isU y = true) : orU x y = ((x.toNat ||| y.toNat : Nat) : Int) := by
  show IntKind.wrap .u64 (((BitVec.ofInt 64 x ||| BitVec.ofInt 64 y).toNat : Nat) : Int) = _
  rw [wrap_nat (BitVec.isLt _), BitVec.toNat_or, ofInt_nat hx, ofInt_nat hy]
theorem xor_nat (hx : isU x = true) (hy : isU y = true) : xorU x y = ((x.toNat ^^^ y.toNat : Nat) : Int) := by
  show IntKind.wrap .u64 (((BitVec.ofInt 64 x ^^^ BitVec.ofInt 64 y).toNat : Nat) : Int) = _
  rw [wrap_nat (BitVec.isLt _), BitVec.toNat_xor, ofInt_nat hx, ofInt_nat hy]
theorem not_nat (hx : isU x = true) (hy : isU y = true) : notU x y = ((x.toNat &&& (2 ^ 64 - 1 - y.toNat) : Nat) : Int) := by
  show IntKind.wrap .u64 (((BitVec.ofInt 64 x &&& ~~~BitVec.ofInt 64 y).toNat : Nat) : Int) = _
  rw [wrap_nat (BitVec.isLt _), BitVec.toNat_and, BitVec.toNat_not, ofInt_nat hx, ofInt_nat hy]

theorem and_u (hx : isU x = true) (hy : isU y = true) : isU (andU x y) = true := by
  rw [and_nat hx hy]; exact nat_u (Nat.and_lt_two_pow _ (nat_lt hy))
theorem or_u (hx : isU x = true) (hy : isU y = true) : isU (orU x y) = true := by
  rw [or_nat hx hy]; exact nat_u (Nat.or_lt_two_pow (nat_lt hx) (nat_lt hy))
theorem xor_u (hx : isU x = true) (hy : isU y = true) : isU (xorU x y) = true := by
  rw [xor_nat hx hy]; exact nat_u (Nat.xor_lt_two_pow (nat_lt hx) (nat_lt hy))
theorem not_u (hx : isU x = true) (hy : isU y = true) : isU (notU x y) = true := by
  rw [not_nat hx hy]; exact nat_u (Nat.lt_of_le_of_lt Nat.and_le_left (nat_lt hx))

theorem tb_and (hx : isU x = true) (hy : isU y = true) (i : Nat) : tb (andU x y) i = (tb x i && tb y i) := by
  rw [and_nat hx hy, tb, Int.toNat_natCast, Nat.testBit_and]; rfl
theorem tb_or (hx : isU x = true) (hy : isU y = true) (i : Nat) : tb (orU x y) i = (tb x i || tb y i) := by
  rw [or_nat hx hy, tb, Int.toNat_natCast, Nat.testBit_or]; rfl
theorem tb_xor (hx : isU x = true) (hy : isU y = true) (i : Nat) : tb (xorU x y) i = (tb x i ^^ tb y i) := by
  rw [xor_nat hx hy, tb, Int.toNat_natCast, Nat.testBit_xor]; rfl
theorem tb_big (hx : isU x = true) {i : Nat} (h : 64 ≤ i) : tb x i = false := by
  rw [tb]
  exact Nat.testBit_lt_two_pow (Nat.lt_of_lt_of_le (nat_lt hx) (Nat.pow_le_pow_right (by omega) h))
theorem tb_not (hx : isU x = true) (hy : isU y = true) (i : Nat) : tb (notU x y) i = (tb x i && !tb y i) := by
  rw [not_nat hx hy, tb, Int.toNat_natCast, Nat.testBit_and]
  have e : 2 ^ 64 - 1 - y.toNat = 2 ^ 64 - (y.toNat + 1) := by omega
  rw [e, Nat.testBit_two_pow_sub_succ (nat_lt hy)]
  by_cases h : i < 64
  · simp [h, tb]
  · have := tb_big hx (i := i) (by omega)
    rw [tb] at this
    simp [tb, this]

theorem tb_ext (hx : isU x = true) (hy : isU y = true) (h : ∀ i, tb x i = tb y i) : x = y := by
  have : x.toNat = y.toNat := Nat.eq_of_testBit_eq h
  obtain ⟨h0, _⟩ := isU_iff.1 hx
  obtain ⟨h1, _⟩ := isU_iff.1 hy
  omega
theorem tb_zero (i : Nat) : tb 0 i = false := by simp [tb]
end
end Go.Proofs.YtafpbibpahjnhaaGreat.L05
