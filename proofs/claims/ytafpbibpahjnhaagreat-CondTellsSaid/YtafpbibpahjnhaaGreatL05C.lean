/- What a round of a bound's five ways does (layer 5), in plain Lean. A text of the session's own. -/
import Derived.Test.YtafpbibpahjnhaaGreatL05B
namespace Go.Proofs.YtafpbibpahjnhaaGreat.L05
open Go Go.RowKit Go.Proofs.YtafpbibpahjnhaaGreat.Sx
set_option linter.unusedVariables false

structure Bd where
  t : P2
  u : P2
  s : P2
  w : P2
  v : P2

def pNone (a : P2) : Bool := decide (a.hi < a.lo)
def pHas (a : P2) (x : Int) : Bool := decide (a.lo ≤ x ∧ x ≤ a.hi)
def pIn (a b : P2) : Bool := decide (a.hi < a.lo ∨ b.lo ≤ a.lo ∧ a.lo ≤ b.hi ∧ b.lo ≤ a.hi ∧ a.hi ≤ b.hi)
def pBoth (a b : P2) : Bool := decide (b.lo ≤ a.lo ∧ a.lo ≤ b.hi ∧ b.lo ≤ a.hi ∧ a.hi ≤ b.hi)
def pMeet (a b : P2) : P2 := if a.hi < a.lo ∨ b.hi < b.lo ∨ min a.hi b.hi < max a.lo b.lo then ⟨1, 0⟩ else ⟨max a.lo b.lo, min a.hi b.hi⟩
def sgn (x : Int) : Int := if x < 9223372036854775808 then x else x - 18446744073709551616
def uns (x : Int) : Int := if x < 0 then x + 18446744073709551616 else x
def sg32 (x : Int) : Int := if x % 4294967296 < 2147483648 then x % 4294967296 else x % 4294967296 - 4294967296
def pSign (a : P2) : P2 := if a.hi < a.lo then ⟨1, 0⟩ else if a.lo < 9223372036854775808 ∧ 9223372036854775808 ≤ a.hi then ⟨-9223372036854775808, 9223372036854775807⟩ else ⟨sgn a.lo, sgn a.hi⟩
def pBare (a : P2) : P2 := if a.hi < a.lo then ⟨1, 0⟩ else if a.lo < 0 ∧ 0 ≤ a.hi then ⟨0, 18446744073709551615⟩ else ⟨uns a.lo, uns a.hi⟩

def bNone (b : Bd) : Bool := decide (b.u.hi < b.u.lo ∨ b.s.hi < b.s.lo ∨ b.w.hi < b.w.lo ∨ b.v.hi < b.v.lo)
def bHas (b : Bd) (x : Int) : Bool := tHas b.t x && decide ((b.u.lo ≤ x ∧ x ≤ b.u.hi) ∧ (b.s.lo ≤ sgn x ∧ sgn x ≤ b.s.hi) ∧ (b.w.lo ≤ x % 4294967296 ∧ x % 4294967296 ≤ b.w.hi) ∧ b.v.lo ≤ sg32 x ∧ sg32 x ≤ b.v.hi)

def II (a : P2) : Prop := (-9223372036854775808 ≤ a.lo ∧ a.lo < 9223372036854775808) ∧ -9223372036854775808 ≤ a.hi ∧ a.hi < 9223372036854775808
def WW (a : P2) : Prop := (0 ≤ a.lo ∧ a.lo < 4294967296) ∧ 0 ≤ a.hi ∧ a.hi < 4294967296
def VV (a : P2) : Prop := (-2147483648 ≤ a.lo ∧ a.lo < 2147483648) ∧ -2147483648 ≤ a.hi ∧ a.hi < 2147483648
def Mid (a : P2) (x : Int) : Prop := a.lo ≤ x ∧ x ≤ a.hi
def Nar (a b : P2) : Prop := b.lo ≤ a.lo ∧ a.hi ≤ b.hi

/-- A bound whose ways are told as they may be. -/
structure Inv5 (b : Bd) : Prop where
  t : TM b.t
  u : UU b.u
  s : II b.s
  w : WW b.w
  v : VV b.v

structure HasB (b : Bd) (x : Int) : Prop where
  t : HT b.t x
  u : Mid b.u x
  s : Mid b.s (sgn x)
  w : Mid b.w (x % 4294967296)
  v : Mid b.v (sg32 x)

/-- No wider. -/
structure Sub (a b : Bd) : Prop where
  t : TI a.t b.t
  u : Nar a.u b.u
  s : Nar a.s b.s
  w : Nar a.w b.w
  v : Nar a.v b.v

theorem Nar.refl (a : P2) : Nar a a := ⟨Int.le_refl _, Int.le_refl _⟩
theorem Nar.trans {a b c : P2} (h : Nar a b) (k : Nar b c) : Nar a c := ⟨Int.le_trans k.1 h.1, Int.le_trans h.2 k.2⟩
theorem Nar.mid {a b : P2} {x : Int} (h : Nar a b) (k : Mid a x) : Mid b x := ⟨Int.le_trans h.1 k.1, Int.le_trans k.2 h.2⟩
theorem Sub.refl {a : Bd} (h : TM a.t) : Sub a a := ⟨TI.refl h, Nar.refl _, Nar.refl _, Nar.refl _, Nar.refl _⟩
theorem Sub.trans {a b c : Bd} (h : Sub a b) (k : Sub b c) : Sub a c := ⟨h.t.trans k.t, h.u.trans k.u, h.s.trans k.s, h.w.trans k.w, h.v.trans k.v⟩
theorem Sub.has {a b : Bd} {x : Int} (h : Sub a b) (k : HasB a x) : HasB b x := ⟨h.t.has k.t, h.u.mid k.u, h.s.mid k.s, h.w.mid k.w, h.v.mid k.v⟩

theorem meet_mid {a b : P2} {x : Int} (h : Mid a x) (k : Mid b x) : Mid (pMeet a b) x := by
  unfold Mid at *; unfold pMeet; rw [if_neg (by omega)]; dsimp only; omega
theorem meet_nar {a b : P2} (h : (pMeet a b).lo ≤ (pMeet a b).hi) : Nar (pMeet a b) a := by
  unfold Nar; unfold pMeet at *
  split at h
  · dsimp only at h; omega
  · rename_i e; rw [if_neg e]; dsimp only at *; omega
theorem meet_uu2 {a b : P2} (h : UU a) (k : UU b) : UU (pMeet a b) := by
  unfold UU at *
  simp only [isU_iff] at *
  unfold pMeet
  split <;> dsimp only <;> omega
theorem meet_ii {a b : P2} (h : II a) (k : II b) : II (pMeet a b) := by
  unfold II at *; unfold pMeet; split <;> dsimp only <;> omega
theorem meet_ww {a b : P2} (h : WW a) (k : WW b) : WW (pMeet a b) := by
  unfold WW at *; unfold pMeet; split <;> dsimp only <;> omega
theorem meet_vv {a b : P2} (h : VV a) (k : VV b) : VV (pMeet a b) := by
  unfold VV at *; unfold pMeet; split <;> dsimp only <;> omega
theorem pMeet_comm (a b : P2) : pMeet a b = pMeet b a := by
  unfold pMeet
  split <;> rename_i h
  · rw [if_pos (by omega)]
  · rw [if_neg (by omega), Int.max_comm, Int.min_comm]

theorem sgn_ii {x y : Int} (hx : isU x = true) (hy : isU y = true) : II ⟨sgn x, sgn y⟩ := by
  rw [isU_iff] at hx hy; unfold II sgn; dsimp only; split <;> split <;> omega
theorem sg32_vv (x y : Int) : VV ⟨sg32 x, sg32 y⟩ := by
  unfold VV sg32; dsimp only; split <;> split <;> omega

/-! a number by its lower bits and the next one -/
theorem tb_top {z : Int} (h0 : 0 ≤ z) (k : Nat) (P : Int) (hP : P = 2 ^ k) (h1 : z < 2 * P) : tb z k = decide (P ≤ z) := by
  obtain ⟨n, rfl⟩ := Int.eq_ofNat_of_zero_le h0
  rw [tb, Int.toNat_natCast, Nat.testBit_eq_decide_div_mod_eq]
  have hP' : P = ((2 ^ k : Nat) : Int) := by rw [hP]; simp
  have hp : 0 < 2 ^ k := Nat.two_pow_pos k
  rw [hP'] at h1 ⊢
  generalize 2 ^ k = p at *
  have h1' : n < 2 * p := by omega
  by_cases h : p ≤ n
  · have : n / p = 1 := by
      rw [Nat.div_eq_iff hp]; omega
    have h' : (p : Int) ≤ (n : Int) := by omega
    simp [this, h']
  · have : n / p = 0 := Nat.div_eq_of_lt (by omega)
    have h' : ¬ (p : Int) ≤ (n : Int) := by omega
    simp [this, h']

theorem low_le {x y : Int} (hx : 0 ≤ x) (hy : 0 ≤ y) (k : Nat) (P : Int) (hP : P = 2 ^ k) (h : ∀ i, i < k → tb x i = true → tb y i = true) : x % P ≤ y % P := by
  obtain ⟨n, rfl⟩ := Int.eq_ofNat_of_zero_le hx
  obtain ⟨m, rfl⟩ := Int.eq_ofNat_of_zero_le hy
  have hP' : P = ((2 ^ k : Nat) : Int) := by rw [hP]; simp
  rw [hP', ← Int.natCast_emod, ← Int.natCast_emod]
  have e : (n % 2 ^ k) &&& (m % 2 ^ k) = n % 2 ^ k := by
    refine Nat.eq_of_testBit_eq fun i => ?_
    rw [Nat.testBit_and, Nat.testBit_mod_two_pow, Nat.testBit_mod_two_pow]
    by_cases hi : i < k
    · have := h i hi
      simp only [tb, Int.toNat_natCast] at this
      cases e : n.testBit i
      · simp
      · simp [this e]
    · simp [hi]
  have : n % 2 ^ k ≤ m % 2 ^ k := by rw [← e]; exact Nat.and_le_right
  omega

theorem tb_pow {k i : Nat} (P : Int) (hP : P = 2 ^ k) : tb P i = decide (i = k) := by
  have hP' : P = ((2 ^ k : Nat) : Int) := by rw [hP]; simp
  rw [hP', tb, Int.toNat_natCast, Nat.testBit_two_pow]
  by_cases h : k = i
  · simp [h]
  · simp [h, Ne.symm h]

/-- The number of so many bits with a sign. -/
def sk (P x : Int) : Int := if P ≤ x % (2 * P) then x % P - P else x % P

theorem sk_ends {t : P2} {x : Int} (k : Nat) (P : Int) (hP : P = 2 ^ k) (hPu : isU P = true) (ht : UU t) (hx : isU x = true) (h : HT t x) (t0 : t.lo < 2 * P) (t1 : t.hi < 2 * P) (x1 : x < 2 * P) :
    (let z := orU t.lo (andU t.hi P); (if P ≤ z then z % P - P else z % P) ≤ if P ≤ x then x % P - P else x % P) ∧
    (let z := orU t.lo (notU t.hi P); (if P ≤ x then x % P - P else x % P) ≤ if P ≤ z then z % P - P else z % P) := by
  obtain ⟨x0, _⟩ := isU_iff.1 hx
  have hpos : 0 < P := by rw [hP]; exact Int.pow_pos (by omega)
  have a0 := and_u ht.2 hPu
  have n0 := not_u ht.2 hPu
  have z1 := or_u ht.1 a0
  have z2 := or_u ht.1 n0
  have bx := tb_top x0 k P hP x1
  have lt_of : ∀ z, isU z = true → (∀ i, k < i → tb z i = false) → z < 2 * P := by
    intro z hz hb
    obtain ⟨n, rfl⟩ := Int.eq_ofNat_of_zero_le (isU_iff.1 hz).1
    have hP' : P = ((2 ^ k : Nat) : Int) := by rw [hP]; simp
    have : n < 2 ^ (k + 1) := by
      refine Nat.lt_pow_two_of_testBit n fun i hi => ?_
      have := hb i (by omega)
      simpa [tb] using this
    rw [Nat.pow_succ] at this
    omega
  have hi_t : ∀ z : Int, isU z = true → z < 2 * P → ∀ i, k < i → tb z i = false := by
    intro z hz hl i hi
    obtain ⟨n, rfl⟩ := Int.eq_ofNat_of_zero_le (isU_iff.1 hz).1
    have hP' : P = ((2 ^ k : Nat) : Int) := by rw [hP]; simp
    rw [tb, Int.toNat_natCast]
    refine Nat.testBit_lt_two_pow ?_
    have : 2 ^ (k + 1) ≤ 2 ^ i := Nat.pow_le_pow_right (by omega) hi
    rw [Nat.pow_succ] at this
    omega
  have b1 : ∀ i, tb (orU t.lo (andU t.hi P)) i = (tb t.lo i || (tb t.hi i && decide (i = k))) := fun i => by rw [tb_or ht.1 a0, tb_and ht.2 hPu, tb_pow P hP]
  have b2 : ∀ i, tb (orU t.lo (notU t.hi P)) i = (tb t.lo i || (tb t.hi i && !decide (i = k))) := fun i => by rw [tb_or ht.1 n0, tb_not ht.2 hPu, tb_pow P hP]
  have l1 : orU t.lo (andU t.hi P) < 2 * P := lt_of _ z1 fun i hi => by rw [b1, hi_t _ ht.1 t0 i hi, hi_t _ ht.2 t1 i hi]; rfl
  have l2 : orU t.lo (notU t.hi P) < 2 * P := lt_of _ z2 fun i hi => by rw [b2, hi_t _ ht.1 t0 i hi, hi_t _ ht.2 t1 i hi]; rfl
  have c1 := tb_top (isU_iff.1 z1).1 k P hP l1
  have c2 := tb_top (isU_iff.1 z2).1 k P hP l2
  have e1 : orU t.lo (andU t.hi P) % P ≤ x % P := by
    refine low_le (isU_iff.1 z1).1 x0 k P hP fun i hi => ?_
    rw [b1, ← h i]
    have : decide (i = k) = false := by simp; omega
    rw [this]
    cases tb x i <;> simp
  have e2 : x % P ≤ orU t.lo (notU t.hi P) % P := by
    refine low_le x0 (isU_iff.1 z2).1 k P hP fun i hi hxi => ?_
    have hh := h i
    have : decide (i = k) = false := by simp; omega
    rw [b2, this, ← hh, hxi]
    cases tb t.hi i <;> rfl
  have hk := h k
  rw [b1 k] at c1
  rw [b2 k] at c2
  rw [bx] at hk
  simp only [decide_true, Bool.and_true, Bool.not_true, Bool.and_false, Bool.or_false] at c1 c2
  have m1 := Int.emod_lt_of_pos x hpos
  have m2 := Int.emod_lt_of_pos (orU t.lo (andU t.hi P)) hpos
  have m3 := Int.emod_lt_of_pos (orU t.lo (notU t.hi P)) hpos
  have p1 := Int.emod_nonneg x (by omega : P ≠ 0)
  have p2 := Int.emod_nonneg (orU t.lo (andU t.hi P)) (by omega : P ≠ 0)
  have p3 := Int.emod_nonneg (orU t.lo (notU t.hi P)) (by omega : P ≠ 0)
  constructor
  · dsimp only
    split <;> split <;> rename_i g1 g2 <;> try omega
    exfalso
    simp only [g1, g2, decide_true, decide_false] at c1 hk
    revert hk c1
    cases tb t.lo k <;> cases tb t.hi k <;> simp
  · dsimp only
    split <;> split <;> rename_i g1 g2 <;> try omega
    exfalso
    simp only [g1, g2, decide_true, decide_false] at c2 hk
    revert hk c2
    cases tb t.lo k <;> cases tb t.hi k <;> simp

end Go.Proofs.YtafpbibpahjnhaaGreat.L05
