/- What is made of two bounds, and of two numbers (layer 5): no number is lost. Plain Lean. A text of the session's own. -/
import Derived.Test.YtafpbibpahjnhaaGreatL05M
import Derived.Test.YtafpbibpahjnhaaGreatL04C
namespace Go.Proofs.YtafpbibpahjnhaaGreat.L05
open Go Go.RowKit Go.Proofs.YtafpbibpahjnhaaGreat.Sx
open Go.Proofs.YtafpbibpahjnhaaGreat.L04 (mAdd1 mAdd2 mSub1 mSub2 mMul1 mMul2 mDiv1 mDiv2 mMod1 mMod2 mPlus1 mPlus2 mMinus1 mMinus2 mShl1 mShl2 mShr1 mShr2 mSar1 mSar2 Amid AmidI InU InI mHas)
set_option linter.unusedVariables false

def tSar (t : P2) (n : Int) : P2 := ⟨iConv .u64 (iShr .i64 (iConv .i64 t.lo) n), iConv .u64 (iShr .i64 (iConv .i64 t.hi) n)⟩
def tLowN (t : P2) (n : Int) : P2 := ⟨andU t.lo (subU (iShl .u64 1 n) 1), andU t.hi (subU (iShl .u64 1 n) 1)⟩
def fitsM (p : P2) : P2 := if 4294967295 < p.hi ∨ p.hi < p.lo then ⟨0, 4294967295⟩ else p
def innerM (p : P2) : P2 := if -2147483648 ≤ p.lo ∧ p.lo ≤ 2147483647 ∧ -2147483648 ≤ p.hi ∧ p.hi ≤ 2147483647 then p else ⟨-2147483648, 2147483647⟩
def uAdd (a b : P2) : P2 := ⟨mAdd1 a.lo a.hi b.lo b.hi, mAdd2 a.lo a.hi b.lo b.hi⟩
def uSub (a b : P2) : P2 := ⟨mSub1 a.lo a.hi b.lo b.hi, mSub2 a.lo a.hi b.lo b.hi⟩
def uMul (a b : P2) : P2 := ⟨mMul1 a.lo a.hi b.lo b.hi, mMul2 a.lo a.hi b.lo b.hi⟩
def uDiv (a b : P2) : P2 := ⟨mDiv1 a.lo a.hi b.lo b.hi, mDiv2 a.lo a.hi b.lo b.hi⟩
def uMod (a b : P2) : P2 := ⟨mMod1 a.lo a.hi b.lo b.hi, mMod2 a.lo a.hi b.lo b.hi⟩
def sAdd (a b : P2) : P2 := ⟨mPlus1 a.lo a.hi b.lo b.hi, mPlus2 a.lo a.hi b.lo b.hi⟩
def sSub (a b : P2) : P2 := ⟨mMinus1 a.lo a.hi b.lo b.hi, mMinus2 a.lo a.hi b.lo b.hi⟩
def uShl (a : P2) (n : Int) : P2 := ⟨mShl1 a.lo a.hi n, mShl2 a.lo a.hi n⟩
def uShr (a : P2) (n : Int) : P2 := ⟨mShr1 a.lo a.hi n, mShr2 a.lo a.hi n⟩
def sSar (a : P2) (n : Int) : P2 := ⟨mSar1 a.lo a.hi n, mSar2 a.lo a.hi n⟩
def addB (a b : Bd) : Bd := ⟨tAdd a.t b.t, uAdd a.u b.u, sAdd a.s b.s, fitsM ⟨addU a.w.lo b.w.lo, addU a.w.hi b.w.hi⟩, innerM ⟨iAdd .i64 a.v.lo b.v.lo, iAdd .i64 a.v.hi b.v.hi⟩⟩
def subB (a b : Bd) : Bd := ⟨tSub a.t b.t, uSub a.u b.u, sSub a.s b.s, fitsM ⟨subU a.w.lo b.w.hi, subU a.w.hi b.w.lo⟩, innerM ⟨iSub .i64 a.v.lo b.v.hi, iSub .i64 a.v.hi b.v.lo⟩⟩
def mulB (a b : Bd) : Bd := ⟨tMul a.t b.t, uMul a.u b.u, anyB.s, fitsM ⟨mulU a.w.lo b.w.lo, mulU a.w.hi b.w.hi⟩, anyB.v⟩
def divB (a b : Bd) : Bd := ⟨anyB.t, uDiv a.u b.u, anyB.s, anyB.w, anyB.v⟩
def modB (a b : Bd) : Bd := ⟨anyB.t, uMod a.u b.u, anyB.s, anyB.w, anyB.v⟩
def andB (a b : Bd) : Bd := ⟨tAndM a.t b.t, ⟨0, iMin2 a.u.hi b.u.hi⟩, anyB.s, ⟨0, iMin2 a.w.hi b.w.hi⟩, anyB.v⟩
def orB (a b : Bd) : Bd := ⟨tOrM a.t b.t, ⟨iMax2 a.u.lo b.u.lo, anyB.u.hi⟩, anyB.s, ⟨iMax2 a.w.lo b.w.lo, anyB.w.hi⟩, anyB.v⟩
def xorB (a b : Bd) : Bd := ⟨tXorM a.t b.t, anyB.u, anyB.s, anyB.w, anyB.v⟩
def shlB (a : Bd) (n : Int) : Bd := ⟨tShl a.t n, uShl a.u n, anyB.s, anyB.w, anyB.v⟩
def shrB (a : Bd) (n : Int) : Bd := ⟨tShr a.t n, uShr a.u n, anyB.s, anyB.w, anyB.v⟩
def sarB (a : Bd) (n : Int) : Bd := ⟨tSar a.t n, anyB.u, sSar a.s n, anyB.w, anyB.v⟩
def shrQ (a : Bd) : Bd := ⟨anyB.t, ⟨0, a.u.hi⟩, anyB.s, anyB.w, anyB.v⟩
def shiftB (c : Int) (a : Bd) (n : Int) (known : Bool) : Bd := match known with
  | false => if c = 7 then sync (shrQ a) else sync anyB
  | true => if c = 6 then sync (shlB a n) else if c = 7 then sync (shrB a n) else sync (sarB a n)
def longQ (a : Bd) : Bd := ⟨⟨iConv .u64 (sg32 (tLowN a.t 32).lo), iConv .u64 (sg32 (tLowN a.t 32).hi)⟩, anyB.u, a.v, anyB.w, anyB.v⟩
def longB (a : Bd) : Bd := sync (longQ a)
def lowQ (a : Bd) (n : Int) : Bd := ⟨tLowN a.t n, anyB.u, anyB.s, anyB.w, anyB.v⟩
def lowQ32 (a : Bd) : Bd := ⟨tLowN a.t 32, a.w, anyB.s, a.w, a.v⟩
def lowB (b : Bd) (n : Int) : Bd :=
  if n = 32 then (match bNone b with | true => nothing | false => sync (lowQ32 b))
  else if n = 8 ∨ n = 16 then (match bNone b with | true => nothing | false => sync (lowQ b n)) else b
/-- what is made of two bounds by a code that is no shift, and not AluMov -/
def opB (c : Int) (a b : Bd) : Bd :=
  if c = 0 then addB a b else if c = 1 then subB a b else if c = 2 then mulB a b else if c = 3 then divB a b else if c = 4 then orB a b
  else if c = 5 then andB a b else if c = 8 then subB (bConst 0) a else if c = 9 then modB a b else xorB a b
def isSh (c : Int) : Bool := decide (c = 6 ∨ c = 7 ∨ c = 12)
def wideB (c : Int) (a b : Bd) : Bd := match isSh c with
  | true => shiftB c a (tLowN b.t 6).lo (iEq (tLowN b.t 6).hi 0)
  | false => if c = 11 then b else sync (opB c a b)
def halfB (c : Int) (a b : Bd) : Bd := match isSh c with
  | true => lowB (shiftB c (if c = 12 then longB (lowB a 32) else lowB a 32) (tLowN b.t 5).lo (iEq (tLowN b.t 5).hi 0)) 32
  | false => match bNone (lowB a 32) || bNone (lowB b 32) with
    | true => nothing
    | false => lowB (if c = 11 then lowB b 32 else sync (opB c (lowB a 32) (lowB b 32))) 32
def doesB (c : Int) (wide : Bool) (a b : Bd) : Bd :=
  if 12 < c then zB else match bNone a || bNone b with
  | true => nothing
  | false => match wide with | true => wideB c a b | false => halfB c a b
def doesE (c : Int) : Int := if 12 < c then 20 else 0

/-! numbers -/
def nBits (wide : Bool) : Int := match wide with | true => 64 | false => 32
def aluR (c : Int) (wide : Bool) (x y : Int) : Int :=
  if c = 0 then addU x y else if c = 1 then subU x y else if c = 2 then mulU x y else if c = 3 then (if y = 0 then 0 else iQuo .u64 x y) else if c = 4 then orU x y
  else if c = 5 then andU x y else if c = 6 then iShl .u64 x (y % nBits wide) else if c = 7 then iShr .u64 x (y % nBits wide) else if c = 8 then subU 0 x
  else if c = 9 then (if y = 0 then x else iRem x y) else if c = 10 then xorU x y else if c = 11 then y else iConv .u64 (iShr .i64 (signM wide x) (y % nBits wide))
def aluN (c : Int) (wide : Bool) (x y : Int) : Int := if 12 < c then 0 else lowM wide (aluR c wide (lowM wide x) (lowM wide y))

/-! where what is reckoned may be -/
theorem uu_iff {p : P2} : UU p ↔ (0 ≤ p.lo ∧ p.lo < 18446744073709551616) ∧ 0 ≤ p.hi ∧ p.hi < 18446744073709551616 := by unfold UU; rw [isU_iff, isU_iff]
section
variable {a b : P2} {x y n : Int}
theorem uAdd_uu (ha : UU a) (hb : UU b) : UU (uAdd a b) := by
  rw [uu_iff] at *
  simp only [uAdd, mAdd1, mAdd2, L04.mAdd]
  repeat' split
  all_goals simp only
  all_goals omega
theorem uSub_uu (ha : UU a) (hb : UU b) : UU (uSub a b) := by
  rw [uu_iff] at *
  simp only [uSub, mSub1, mSub2, L04.mSub]
  repeat' split
  all_goals simp only
  all_goals omega
theorem uMul_uu (ha : UU a) (hb : UU b) : UU (uMul a b) := by
  rw [uu_iff] at *
  have h3 : 0 ≤ a.lo * b.lo := Int.mul_nonneg (by omega) (by omega)
  have h4 : 0 ≤ a.hi * b.hi := Int.mul_nonneg (by omega) (by omega)
  have h1 : a.lo ≤ a.hi → b.lo ≤ b.hi → a.lo * b.lo ≤ a.hi * b.hi := fun h k => L04.mul_le (by omega) (by omega) h k
  simp only [uMul, mMul1, mMul2, L04.mMul]
  repeat' split
  all_goals simp only
  all_goals omega
theorem ediv_u {p q : Int} (h0 : 0 ≤ p) (h1 : p < 18446744073709551616) (hq : 0 ≤ q) : 0 ≤ p / q ∧ p / q < 18446744073709551616 := by
  have h2 : 0 ≤ p / q := Int.ediv_nonneg h0 hq
  have h3 : p / q ≤ p := Int.ediv_le_self _ h0
  omega
theorem uDiv_uu (ha : UU a) (hb : UU b) : UU (uDiv a b) := by
  rw [uu_iff] at *
  have h1 := ediv_u (p := a.lo) (q := b.hi) (by omega) (by omega) (by omega)
  have h2 := ediv_u (p := a.hi) (q := b.lo) (by omega) (by omega) (by omega)
  simp only [uDiv, mDiv1, mDiv2, L04.mDiv]
  repeat' split
  all_goals simp only
  all_goals omega
theorem uMod_uu (ha : UU a) (hb : UU b) : UU (uMod a b) := by
  rw [uu_iff] at *
  simp only [uMod, mMod1, mMod2, L04.mMod]
  repeat' split
  all_goals simp only
  all_goals omega
theorem sAdd_ii (ha : II a) (hb : II b) : II (sAdd a b) := by
  unfold II at *
  simp only [sAdd, mPlus1, mPlus2, L04.mPlus]
  repeat' split
  all_goals simp only
  all_goals omega
theorem sSub_ii (ha : II a) (hb : II b) : II (sSub a b) := by
  unfold II at *
  simp only [sSub, mMinus1, mMinus2, L04.mMinus]
  repeat' split
  all_goals simp only
  all_goals omega
theorem uShl_uu (ha : UU a) : UU (uShl a n) := by
  rw [uu_iff] at *
  have hp := pw_pos n
  have h3 : 0 ≤ a.lo * pw n := Int.mul_nonneg (by omega) (by omega)
  have h4 : 0 ≤ a.hi * pw n := Int.mul_nonneg (by omega) (by omega)
  have h1 : a.lo ≤ a.hi → a.lo * pw n ≤ a.hi * pw n := fun h => Int.mul_le_mul_of_nonneg_right h (by omega)
  simp only [uShl, mShl1, mShl2, L04.mShl]
  repeat' split
  all_goals simp only
  all_goals omega
theorem uShr_uu (ha : UU a) : UU (uShr a n) := by
  rw [uu_iff] at *
  have hp := pw_pos n
  have h1 := ediv_u (p := a.lo) (q := pw n) (by omega) (by omega) (by omega)
  have h2 := ediv_u (p := a.hi) (q := pw n) (by omega) (by omega) (by omega)
  simp only [uShr, mShr1, mShr2, L04.mShr]
  repeat' split
  all_goals simp only
  all_goals omega
theorem ediv_i {p q : Int} (h0 : -9223372036854775808 ≤ p) (h1 : p < 9223372036854775808) (hq : 0 < q) : -9223372036854775808 ≤ p / q ∧ p / q < 9223372036854775808 := by
  constructor
  · rw [Int.le_ediv_iff_mul_le hq]
    have : (-9223372036854775808 : Int) * q ≤ -9223372036854775808 * 1 := Int.mul_le_mul_of_nonpos_left (by omega) (by omega)
    omega
  · rw [Int.ediv_lt_iff_lt_mul hq]
    have : (9223372036854775808 : Int) * 1 ≤ 9223372036854775808 * q := Int.mul_le_mul_of_nonneg_left (by omega) (by omega)
    omega
theorem sSar_ii (ha : II a) : II (sSar a n) := by
  unfold II at *
  have hp := pw_pos n
  have h1 := ediv_i (p := a.lo) (q := pw n) (by omega) (by omega) hp
  have h2 := ediv_i (p := a.hi) (q := pw n) (by omega) (by omega) hp
  simp only [sSar, mSar1, mSar2, L04.mSar]
  repeat' split
  all_goals simp only
  all_goals omega
theorem fits_ww (ha : UU a) : WW (fitsM a) := by
  rw [uu_iff] at ha
  unfold fitsM WW
  split <;> (try dsimp only) <;> omega
theorem inner_vv : VV (innerM a) := by
  unfold innerM VV
  split <;> (try dsimp only) <;> omega
theorem mid_amid (ha : UU a) (h : Mid a x) : Amid a.lo x a.hi := by
  rw [uu_iff] at ha; unfold Mid at h; unfold Amid; omega
theorem mid_amidI (ha : II a) (h : Mid a x) : AmidI a.lo x a.hi := by
  unfold II at ha; unfold Mid at h; unfold AmidI; omega
theorem has_mid (h : mHas a.lo a.hi x = true) : Mid a x := by
  simp only [mHas, decide_eq_true_eq] at h; exact h
end
theorem any_tm : TM anyB.t := any_inv.t
theorem ww_uu {p : P2} (h : WW p) : UU p := by unfold WW at h; rw [uu_iff]; omega
theorem lown_u {n : Int} : isU (subU (iShl .u64 1 n) 1) = true := sub_u (shl_u 1 n) (by decide)
theorem lowN_uu {t : P2} (h : UU t) (n : Int) : UU (tLowN t n) := ⟨and_u h.1 lown_u, and_u h.2 lown_u⟩
theorem tLowN32 (t : P2) : tLowN t 32 = tLow t := by
  have : subU (iShl .u64 1 32) 1 = 4294967295 := by decide
  unfold tLowN; rw [this]; rfl
/-- The lowest bits. -/
theorem lowN_bits {n : Int} (k : Nat) (hn : n = k) (hk : k ≤ 64) : ∀ i, tb (subU (iShl .u64 1 n) 1) i = decide (i < k) := by
  intro i
  subst hn
  have := ones_sub hk
  rw [show subU (iShl .u64 1 (k : Int)) 1 = 2 ^ k - 1 from this]
  exact (ones_u hk).2 i
theorem mod_bits {x : Int} (hx : isU x = true) (k : Nat) (i : Nat) : tb (x % 2 ^ k) i = (tb x i && decide (i < k)) := by
  obtain ⟨h0, h1⟩ := isU_iff.1 hx
  have e : x % 2 ^ k = ((x.toNat % 2 ^ k : Nat) : Int) := by rw [Int.natCast_emod, Int.toNat_of_nonneg h0]; push_cast; rfl
  rw [tb, e, Int.toNat_natCast, Nat.testBit_mod_two_pow, Bool.and_comm]; rfl
theorem lowN_ht {t : P2} {x n : Int} (k : Nat) (hn : n = k) (hk : k ≤ 64) (h : UU t) (hx : isU x = true) (kt : HT t x) : HT (tLowN t n) (x % 2 ^ k) := by
  intro i
  show (tb (x % 2 ^ k) i && !tb (andU t.hi _) i) = tb (andU t.lo _) i
  rw [tb_and h.1 lown_u, tb_and h.2 lown_u, lowN_bits k hn hk, mod_bits hx, ← kt i]
  cases tb x i <;> cases tb t.hi i <;> cases decide (i < k) <;> rfl
theorem pow_u {x : Int} (hx : isU x = true) (k : Nat) : isU (x % 2 ^ k) = true := by
  obtain ⟨h0, h1⟩ := isU_iff.1 hx
  have hp : (0 : Int) < 2 ^ k := Int.pow_pos (by decide)
  have h2 := Int.emod_nonneg x (Int.ne_of_gt hp)
  have h3 : x % 2 ^ k ≤ x := by
    have := Int.emod_add_mul_ediv x (2 ^ k)
    have h4 : (0 : Int) ≤ 2 ^ k * (x / 2 ^ k) := Int.mul_nonneg (Int.le_of_lt hp) (Int.ediv_nonneg h0 (Int.le_of_lt hp))
    omega
  rw [isU_iff]; omega

/-! a number with a sign, shifted; a lower half with its sign -/
theorem toInt_sgn {x : Int} (hx : isU x = true) : (BitVec.ofInt 64 x).toInt = sgn x := by
  obtain ⟨h0, h1⟩ := isU_iff.1 hx
  rw [BitVec.toInt_ofInt]
  simp only [Int.bmod]
  unfold sgn
  have : ((2 ^ 64 : Nat) : Int) = 18446744073709551616 := rfl
  split <;> split <;> omega
theorem conv_toNat (v : Int) : (iConv .u64 v).toNat = (BitVec.ofInt 64 v).toNat := by
  rw [conv_u, BitVec.toNat_ofInt]; rfl
theorem iConv_u (v : Int) : isU (iConv .u64 v) = true := by rw [conv_u, isU_iff]; omega
theorem tb_sar {x : Int} (hx : isU x = true) (n : Int) (i : Nat) : tb (iConv .u64 (iShr .i64 (sgn x) n)) i = (decide (i < 64) && tb x (min (min n.toNat 64 + i) 63)) := by
  rw [tb, conv_toNat]
  have e : iShr .i64 (sgn x) n = (sgn x) >>> (min n.toNat 64) := by
    rw [shr_i', pw, Int.shiftRight_eq_div_pow]; push_cast; rfl
  rw [e, ← toInt_sgn hx]
  have e2 : BitVec.ofInt 64 ((BitVec.ofInt 64 x).toInt >>> min n.toNat 64) = (BitVec.ofInt 64 x).sshiftRight (min n.toNat 64) := rfl
  rw [e2]
  have := BitVec.getLsbD_sshiftRight (BitVec.ofInt 64 x) (min n.toNat 64) i
  simp only [BitVec.getLsbD] at this
  rw [this, BitVec.msb_eq_getLsbD_last]
  simp only [BitVec.getLsbD, ofInt_nat hx]
  by_cases h : i < 64
  · have h' : decide (64 ≤ i) = false := decide_eq_false (by omega)
    rw [h', decide_eq_true h]
    simp only [Bool.not_false, Bool.true_and]
    split
    · rw [show min (min n.toNat 64 + i) 63 = min n.toNat 64 + i by omega]; rfl
    · rw [show min (min n.toNat 64 + i) 63 = 63 by omega]; rfl
  · have h' : decide (64 ≤ i) = true := decide_eq_true (by omega)
    rw [h', decide_eq_false h]; rfl
theorem tb_sg {z : Int} (hz : isU z = true) (h1 : z < 4294967296) (i : Nat) : tb (iConv .u64 (sg32 z)) i = (decide (i < 64) && tb z (min i 31)) := by
  obtain ⟨z0, _⟩ := isU_iff.1 hz
  have hb : (BitVec.ofInt 32 z).toInt = sg32 z := by
    rw [BitVec.toInt_ofInt]
    simp only [Int.bmod]
    unfold sg32
    have : ((2 ^ 32 : Nat) : Int) = 4294967296 := rfl
    split <;> split <;> omega
  have hn : (BitVec.ofInt 32 z).toNat = z.toNat := by
    rw [BitVec.toNat_ofInt]
    have : ((2 ^ 32 : Nat) : Int) = 4294967296 := rfl
    rw [this, Int.emod_eq_of_lt z0 h1]
  rw [tb, conv_toNat, ← hb]
  have e2 : BitVec.ofInt 64 (BitVec.ofInt 32 z).toInt = (BitVec.ofInt 32 z).signExtend 64 := rfl
  rw [e2]
  have := BitVec.getLsbD_signExtend (BitVec.ofInt 32 z) (v := 64) (i := i)
  simp only [BitVec.getLsbD] at this
  rw [this, BitVec.msb_eq_getLsbD_last]
  simp only [BitVec.getLsbD, hn]
  congr 1
  split
  · rw [Nat.min_eq_left (by omega)]; rfl
  · rw [Nat.min_eq_right (by omega)]; rfl
theorem tSar_eq {t : P2} (h : UU t) (n : Int) : tSar t n = ⟨iConv .u64 (iShr .i64 (sgn t.lo) n), iConv .u64 (iShr .i64 (sgn t.hi) n)⟩ := by
  unfold tSar; rw [conv_sgn h.1, conv_sgn h.2]
theorem tSar_has {a : P2} {x : Int} (ha : TM a) (hx : isU x = true) (ka : HT a x) (n : Int) : TM (tSar a n) ∧ HT (tSar a n) (iConv .u64 (iShr .i64 (sgn x) n)) := by
  obtain ⟨⟨a1, a2⟩, a3⟩ := ha
  rw [tSar_eq ⟨a1, a2⟩]
  refine ⟨⟨⟨iConv_u _, iConv_u _⟩, fun i => ?_⟩, fun i => ?_⟩
  · show (tb (iConv .u64 (iShr .i64 (sgn a.lo) n)) i && tb (iConv .u64 (iShr .i64 (sgn a.hi) n)) i) = false
    rw [tb_sar a1, tb_sar a2]
    have := a3 (min (min n.toNat 64 + i) 63)
    revert this
    cases decide (i < 64) <;> cases tb a.lo (min (min n.toNat 64 + i) 63) <;> cases tb a.hi (min (min n.toNat 64 + i) 63) <;> simp
  · show (tb (iConv .u64 (iShr .i64 (sgn x) n)) i && !tb (iConv .u64 (iShr .i64 (sgn a.hi) n)) i) = tb (iConv .u64 (iShr .i64 (sgn a.lo) n)) i
    rw [tb_sar a1, tb_sar a2, tb_sar hx, ← ka (min (min n.toNat 64 + i) 63)]
    cases decide (i < 64) <;> cases tb x (min (min n.toNat 64 + i) 63) <;> cases tb a.hi (min (min n.toNat 64 + i) 63) <;> rfl
def tLong (t : P2) : P2 := ⟨iConv .u64 (sg32 (tLowN t 32).lo), iConv .u64 (sg32 (tLowN t 32).hi)⟩
theorem low_lt' {x : Int} (hx : isU x = true) : andU x 4294967295 < 4294967296 := (low_lt hx).2
theorem tLong_has {a : P2} {x : Int} (ha : TM a) (hx : isU x = true) (ka : HT a x) : TM (tLong a) ∧ HT (tLong a) (iConv .u64 (sg32 x)) := by
  obtain ⟨⟨a1, a2⟩, a3⟩ := ha
  have hl := low_uu ⟨a1, a2⟩
  have b1 : ∀ i, tb (iConv .u64 (sg32 (tLow a).lo)) i = (decide (i < 64) && tb a.lo (min i 31)) := fun i => by
    rw [tb_sg hl.1 (low_lt' a1), show tb (tLow a).lo (min i 31) = tb (andU a.lo 4294967295) (min i 31) from rfl, tb_and a1 low32, tb_low32, decide_eq_true (show min i 31 < 32 by omega), Bool.and_true]
  have b2 : ∀ i, tb (iConv .u64 (sg32 (tLow a).hi)) i = (decide (i < 64) && tb a.hi (min i 31)) := fun i => by
    rw [tb_sg hl.2 (low_lt' a2), show tb (tLow a).hi (min i 31) = tb (andU a.hi 4294967295) (min i 31) from rfl, tb_and a2 low32, tb_low32, decide_eq_true (show min i 31 < 32 by omega), Bool.and_true]
  have b3 : ∀ i, tb (iConv .u64 (sg32 x)) i = (decide (i < 64) && tb x (min i 31)) := fun i => by
    rw [← sg32_mod, tb_sg (mod_u hx) (by omega), tb_mod hx, decide_eq_true (show min i 31 < 32 by omega), Bool.and_true]
  unfold tLong
  rw [tLowN32]
  refine ⟨⟨⟨iConv_u _, iConv_u _⟩, fun i => ?_⟩, fun i => ?_⟩
  · show (tb (iConv .u64 (sg32 (tLow a).lo)) i && tb (iConv .u64 (sg32 (tLow a).hi)) i) = false
    rw [b1, b2]
    have := a3 (min i 31)
    revert this
    cases decide (i < 64) <;> cases tb a.lo (min i 31) <;> cases tb a.hi (min i 31) <;> simp
  · show (tb (iConv .u64 (sg32 x)) i && !tb (iConv .u64 (sg32 (tLow a).hi)) i) = tb (iConv .u64 (sg32 (tLow a).lo)) i
    rw [b1, b2, b3, ← ka (min i 31)]
    cases decide (i < 64) <;> cases tb x (min i 31) <;> cases tb a.hi (min i 31) <;> rfl
end Go.Proofs.YtafpbibpahjnhaaGreat.L05
