/- Layer 4: what the functions on spans and reaches come to, in plain Lean. A text of the session's own. -/
import Derived.Test.YtafpbibpahjnhaaGreatSxP
import Derived.Laws.MathBits
namespace Go.Proofs.YtafpbibpahjnhaaGreat.L04
open Go Go.RowKit Go.Proofs.YtafpbibpahjnhaaGreat.Sx

def mNone (a b : Int) : Bool := decide (b < a)
def mHas (a b x : Int) : Bool := decide (a ≤ x ∧ x ≤ b)
def mIn (a b c d : Int) : Bool := decide (b < a ∨ c ≤ a ∧ a ≤ d ∧ c ≤ b ∧ b ≤ d)

def mMeet (a b c d : Int) : Int × Int := if b < a ∨ d < c ∨ min b d < max a c then (1, 0) else (max a c, min b d)
def mJoin (a b c d : Int) : Int × Int := if b < a ∧ d < c then (1, 0) else if b < a then (c, d) else if d < c then (a, b) else (min a c, max b d)
def mAdd (a b c d : Int) : Int × Int := if b < a ∨ d < c then (1, 0) else if 18446744073709551616 ≤ b + d then (0, 18446744073709551615) else (a + c, b + d)
def mSub (a b c d : Int) : Int × Int := if b < a ∨ d < c then (1, 0) else if a < d then (0, 18446744073709551615) else (a - d, b - c)
def mMul (a b c d : Int) : Int × Int := if b < a ∨ d < c then (1, 0) else if 18446744073709551616 ≤ b * d then (0, 18446744073709551615) else (a * c, b * d)
def mDiv (a b c d : Int) : Int × Int := if b < a ∨ d < c then (1, 0) else if c = 0 then (0, b) else (a / d, b / c)
def mMod (a b c d : Int) : Int × Int := if b < a ∨ d < c then (1, 0) else if c = 0 then (0, b) else (0, min b (d - 1))
def mShl (a b n : Int) : Int × Int := if b < a then (1, 0) else if 64 ≤ n ∨ 18446744073709551616 ≤ b * pw n then (0, 18446744073709551615) else (a * pw n, b * pw n)
def mShr (a b n : Int) : Int × Int := if b < a then (1, 0) else (a / pw n, b / pw n)
def mPlus (a b c d : Int) : Int × Int := if b < a ∨ d < c then (1, 0) else if a + c < -9223372036854775808 ∨ 9223372036854775808 ≤ a + c ∨ b + d < -9223372036854775808 ∨ 9223372036854775808 ≤ b + d then (-9223372036854775808, 9223372036854775807) else (a + c, b + d)
def mMinus (a b c d : Int) : Int × Int := if b < a ∨ d < c then (1, 0) else if a - d < -9223372036854775808 ∨ 9223372036854775808 ≤ a - d ∨ b - c < -9223372036854775808 ∨ 9223372036854775808 ≤ b - c then (-9223372036854775808, 9223372036854775807) else (a - d, b - c)
def mSar (a b n : Int) : Int × Int := if b < a then (1, 0) else (a / pw n, b / pw n)
def sgn (x : Int) : Int := if x < 9223372036854775808 then x else x - 18446744073709551616
def uns (x : Int) : Int := if x < 0 then x + 18446744073709551616 else x
def mSign (a b : Int) : Int × Int := if b < a then (1, 0) else if a < 9223372036854775808 ∧ 9223372036854775808 ≤ b then (-9223372036854775808, 9223372036854775807) else (sgn a, sgn b)
def mBare (a b : Int) : Int × Int := if b < a then (1, 0) else if a < 0 ∧ 0 ≤ b then (0, 18446744073709551615) else (uns a, uns b)
def mRound (x p q : Int) : Int × Int := (x - min x p, x + min (18446744073709551615 - x) q)
def mAbout (x p q : Int) : Int × Int := (x - min (x + 9223372036854775808) p, x + min (9223372036854775807 - x) q)

def mMeet1 (a b c d : Int) : Int := (mMeet a b c d).1
def mMeet2 (a b c d : Int) : Int := (mMeet a b c d).2
def mJoin1 (a b c d : Int) : Int := (mJoin a b c d).1
def mJoin2 (a b c d : Int) : Int := (mJoin a b c d).2
def mAdd1 (a b c d : Int) : Int := (mAdd a b c d).1
def mAdd2 (a b c d : Int) : Int := (mAdd a b c d).2
def mSub1 (a b c d : Int) : Int := (mSub a b c d).1
def mSub2 (a b c d : Int) : Int := (mSub a b c d).2
def mMul1 (a b c d : Int) : Int := (mMul a b c d).1
def mMul2 (a b c d : Int) : Int := (mMul a b c d).2
def mDiv1 (a b c d : Int) : Int := (mDiv a b c d).1
def mDiv2 (a b c d : Int) : Int := (mDiv a b c d).2
def mMod1 (a b c d : Int) : Int := (mMod a b c d).1
def mMod2 (a b c d : Int) : Int := (mMod a b c d).2
def mShl1 (a b n : Int) : Int := (mShl a b n).1
def mShl2 (a b n : Int) : Int := (mShl a b n).2
def mShr1 (a b n : Int) : Int := (mShr a b n).1
def mShr2 (a b n : Int) : Int := (mShr a b n).2
def mPlus1 (a b c d : Int) : Int := (mPlus a b c d).1
def mPlus2 (a b c d : Int) : Int := (mPlus a b c d).2
def mMinus1 (a b c d : Int) : Int := (mMinus a b c d).1
def mMinus2 (a b c d : Int) : Int := (mMinus a b c d).2
def mSar1 (a b n : Int) : Int := (mSar a b n).1
def mSar2 (a b n : Int) : Int := (mSar a b n).2
def mSign1 (a b : Int) : Int := (mSign a b).1
def mSign2 (a b : Int) : Int := (mSign a b).2
def mBare1 (a b : Int) : Int := (mBare a b).1
def mBare2 (a b : Int) : Int := (mBare a b).2
def mRound1 (x p q : Int) : Int := (mRound x p q).1
def mRound2 (x p q : Int) : Int := (mRound x p q).2
def mAbout1 (x p q : Int) : Int := (mAbout x p q).1
def mAbout2 (x p q : Int) : Int := (mAbout x p q).2

def eMul1 (x y : Int) : Int := x * y / 18446744073709551616
def eMul2 (x y : Int) : Int := x * y % 18446744073709551616

theorem and_low (z : Int) (h : isU z = true) : iBit .and .u64 z 4294967295 = z % 4294967296 := by
  obtain ⟨h0, h1⟩ := isU_iff.1 h
  exact and_low32 z h0 h1

theorem shl_fits {b n : Int} (hb : isU b = true) (h0 : 0 ≤ n) (h : n ≤ 64) : (b * pw n) % 18446744073709551616 / pw n = b ↔ b * pw n < 18446744073709551616 := by
  obtain ⟨q, hq, he⟩ := pw_split h0 h
  have hp := pw_pos n
  obtain ⟨b0, b1⟩ := isU_iff.1 hb
  have e : (b * pw n) % 18446744073709551616 = (b % q) * pw n := by
    rw [← he, Int.mul_comm b, Int.mul_emod_mul_of_pos _ _ hp, Int.mul_comm]
  rw [e, Int.mul_ediv_cancel _ (by omega)]
  constructor
  · intro h2
    rw [← he, Int.mul_comm (pw n) q]
    exact (Int.mul_lt_mul_right hp).2 (by rw [← h2]; exact Int.emod_lt_of_pos _ hq)
  · intro h2
    rw [← he, Int.mul_comm (pw n) q] at h2
    exact Int.emod_eq_of_lt b0 ((Int.mul_lt_mul_right hp).1 h2)

theorem shl_fits' {b n : Int} : 18446744073709551615 / pw n < b ↔ 18446744073709551616 ≤ b * pw n := by
  rw [Int.ediv_lt_iff_lt_mul (pw_pos n)]; omega

theorem mul_le {a b c d : Int} (ha : 0 ≤ a) (hc : 0 ≤ c) (h1 : a ≤ b) (h2 : c ≤ d) : a * c ≤ b * d := Int.mul_le_mul h1 h2 hc (by omega)

theorem quo_u (x y : Int) (hx : 0 ≤ x) (hx1 : x < 18446744073709551616) (hy : 0 ≤ y) : iQuo .u64 x y = x / y := by
  have h1 : 0 ≤ x / y := Int.ediv_nonneg hx hy
  have h2 : x / y ≤ x := Int.ediv_le_self _ hx
  rw [iQuo, IntKind.wrap_u64, Int.tdiv_eq_ediv_of_nonneg hx]
  omega

end Go.Proofs.YtafpbibpahjnhaaGreat.L04
