/- What is known of numbers by their bits (layer 3), in plain Lean. A text of the session's own. -/
import Derived.Test.YtafpbibpahjnhaaGreatL05A
import Derived.Laws.MathBits
namespace Go.Proofs.YtafpbibpahjnhaaGreat.L05
open Go Go.RowKit Go.Proofs.YtafpbibpahjnhaaGreat.Sx
set_option linter.unusedVariables false

/-- Two numbers: a tnum (value, mask), a span or a reach (low, high). -/
structure P2 where
  lo : Int
  hi : Int

def tMay (t : P2) : Bool := decide (andU t.lo t.hi = 0)
def tHas (t : P2) (x : Int) : Bool := decide (notU x t.hi = t.lo)
def tIn (a b : P2) : Bool := decide (notU a.hi b.hi = 0 ∧ notU a.lo b.hi = b.lo)
def tOf (v m : Int) : P2 := ⟨notU v m, m⟩
def tMeetIs (a b : P2) : Bool := decide (notU (xorU a.lo b.lo) (orU a.hi b.hi) = 0)
def tMeet (a b : P2) : P2 := match tMeetIs a b with | true => tOf (orU a.lo b.lo) (andU a.hi b.hi) | false => ⟨0, 0⟩

/-- Both are numbers of 64 bits. -/
def UU (t : P2) : Prop := isU t.lo = true ∧ isU t.hi = true
/-- Bits that are not known are 0 in the value. -/
def TM (t : P2) : Prop := UU t ∧ ∀ i, (tb t.lo i && tb t.hi i) = false
/-- x is a number of t, bit by bit. -/
def HT (t : P2) (x : Int) : Prop := ∀ i, (tb x i && !tb t.hi i) = tb t.lo i

section
variable {t a b : P2} {x : Int}

theorem tMay_iff (h : UU t) : tMay t = true ↔ TM t := by
  simp only [tMay, decide_eq_true_eq]
  constructor
  · intro e
    refine ⟨h, fun i => ?_⟩
    rw [← tb_and h.1 h.2, e, tb_zero]
  · rintro ⟨_, e⟩
    refine tb_ext (and_u h.1 h.2) (by decide) fun i => ?_
    rw [tb_and h.1 h.2, e i, tb_zero]

theorem tHas_iff (h : UU t) (hx : isU x = true) : tHas t x = true ↔ HT t x := by
  simp only [tHas, decide_eq_true_eq]
  constructor
  · intro e i
    rw [← tb_not hx h.2, e]
  · intro e
    refine tb_ext (not_u hx h.2) h.1 fun i => ?_
    rw [tb_not hx h.2, e i]

theorem HT.may (h : HT t x) (hu : UU t) : TM t := by
  refine ⟨hu, fun i => ?_⟩
  rw [← h i]
  cases tb t.hi i <;> simp

def TI (a b : P2) : Prop := ∀ i, (tb a.hi i && !tb b.hi i) = false ∧ (tb a.lo i && !tb b.hi i) = tb b.lo i

theorem tIn_iff (h : UU a) (k : UU b) : tIn a b = true ↔ TI a b := by
  simp only [tIn, decide_eq_true_eq]
  constructor
  · rintro ⟨e1, e2⟩ i
    constructor
    · rw [← tb_not h.2 k.2, e1, tb_zero]
    · rw [← tb_not h.1 k.2, e2]
  · intro e
    constructor
    · refine tb_ext (not_u h.2 k.2) (by decide) fun i => ?_
      rw [tb_not h.2 k.2, (e i).1, tb_zero]
    · refine tb_ext (not_u h.1 k.2) k.1 fun i => ?_
      rw [tb_not h.1 k.2, (e i).2]

theorem TI.has (h : TI a b) (k : HT a x) : HT b x := by
  intro i
  have h1 := h i
  have k1 := k i
  revert h1 k1
  cases tb x i <;> cases tb a.hi i <;> cases tb a.lo i <;> cases tb b.hi i <;> cases tb b.lo i <;> simp
theorem TI.refl (h : TM a) : TI a a := by
  intro i
  have h1 := h.2 i
  revert h1
  cases tb a.hi i <;> cases tb a.lo i <;> simp
theorem TI.trans {c : P2} (h : TI a b) (k : TI b c) : TI a c := by
  intro i
  have h1 := h i
  have k1 := k i
  revert h1 k1
  cases tb a.hi i <;> cases tb a.lo i <;> cases tb b.hi i <;> cases tb b.lo i <;> cases tb c.hi i <;> cases tb c.lo i <;> simp

theorem tOf_uu {v m : Int} (hv : isU v = true) (hm : isU m = true) : UU (tOf v m) := ⟨not_u hv hm, hm⟩
theorem tOf_tm {v m : Int} (hv : isU v = true) (hm : isU m = true) : TM (tOf v m) := by
  refine ⟨tOf_uu hv hm, fun i => ?_⟩
  simp only [tOf, tb_not hv hm]
  cases tb v i <;> cases tb m i <;> rfl

theorem tMeetIs_iff (h : UU a) (k : UU b) : tMeetIs a b = true ↔ ∀ i, ((tb a.lo i ^^ tb b.lo i) && !(tb a.hi i || tb b.hi i)) = false := by
  simp only [tMeetIs, decide_eq_true_eq]
  have hx := xor_u h.1 k.1
  have ho := or_u h.2 k.2
  constructor
  · intro e i
    rw [← tb_xor h.1 k.1, ← tb_or h.2 k.2, ← tb_not hx ho, e, tb_zero]
  · intro e
    refine tb_ext (not_u hx ho) (by decide) fun i => ?_
    rw [tb_not hx ho, tb_xor h.1 k.1, tb_or h.2 k.2, e i, tb_zero]

theorem meet_bits (h : UU a) (k : UU b) (hs : tMeetIs a b = true) (i : Nat) :
    tb (tMeet a b).lo i = ((tb a.lo i || tb b.lo i) && !(tb a.hi i && tb b.hi i)) ∧ tb (tMeet a b).hi i = (tb a.hi i && tb b.hi i) := by
  have ho := or_u h.1 k.1
  have ha := and_u h.2 k.2
  simp only [tMeet, hs, tOf, tb_not ho ha, tb_or h.1 k.1, tb_and h.2 k.2, and_self]

theorem meet_uu (h : UU a) (k : UU b) : UU (tMeet a b) := by
  unfold tMeet
  split
  · exact tOf_uu (or_u h.1 k.1) (and_u h.2 k.2)
  · exact ⟨by decide, by decide⟩
theorem meet_tm (h : UU a) (k : UU b) : TM (tMeet a b) := by
  unfold tMeet
  split
  · exact tOf_tm (or_u h.1 k.1) (and_u h.2 k.2)
  · exact ⟨⟨by decide, by decide⟩, fun i => by simp [tb_zero]⟩

theorem meet_has (h : UU a) (k : UU b) (ha : HT a x) (hb : HT b x) : tMeetIs a b = true ∧ HT (tMeet a b) x := by
  have hs : tMeetIs a b = true := by
    rw [tMeetIs_iff h k]
    intro i
    have h1 := ha i
    have k1 := hb i
    revert h1 k1
    cases tb x i <;> cases tb a.hi i <;> cases tb a.lo i <;> cases tb b.hi i <;> cases tb b.lo i <;> simp
  refine ⟨hs, fun i => ?_⟩
  obtain ⟨e1, e2⟩ := meet_bits h k hs i
  rw [e1, e2]
  have h1 := ha i
  have k1 := hb i
  revert h1 k1
  cases tb x i <;> cases tb a.hi i <;> cases tb a.lo i <;> cases tb b.hi i <;> cases tb b.lo i <;> simp

theorem meet_ti1 (h : TM a) (k : TM b) (hs : tMeetIs a b = true) : TI (tMeet a b) a := by
  intro i
  obtain ⟨e1, e2⟩ := meet_bits h.1 k.1 hs i
  rw [e1, e2]
  have h1 := h.2 i
  have k1 := k.2 i
  have s1 := (tMeetIs_iff h.1 k.1).1 hs i
  revert h1 k1 s1
  cases tb a.hi i <;> cases tb a.lo i <;> cases tb b.hi i <;> cases tb b.lo i <;> simp
theorem meet_ti2 (h : TM a) (k : TM b) (hs : tMeetIs a b = true) : TI (tMeet a b) b := by
  intro i
  obtain ⟨e1, e2⟩ := meet_bits h.1 k.1 hs i
  rw [e1, e2]
  have h1 := h.2 i
  have k1 := k.2 i
  have s1 := (tMeetIs_iff h.1 k.1).1 hs i
  revert h1 k1 s1
  cases tb a.hi i <;> cases tb a.lo i <;> cases tb b.hi i <;> cases tb b.lo i <;> simp
theorem meet_comm (h : UU a) (k : UU b) : tMeetIs a b = tMeetIs b a ∧ tMeet a b = tMeet b a := by
  have e0 : tMeetIs a b = tMeetIs b a := by
    rw [Bool.eq_iff_iff, tMeetIs_iff h k, tMeetIs_iff k h]
    constructor <;> intro e i <;> have := e i <;> revert this <;> cases tb a.hi i <;> cases tb a.lo i <;> cases tb b.hi i <;> cases tb b.lo i <;> simp
  refine ⟨e0, ?_⟩
  have e1 : orU a.lo b.lo = orU b.lo a.lo := tb_ext (or_u h.1 k.1) (or_u k.1 h.1) fun i => by rw [tb_or h.1 k.1, tb_or k.1 h.1, Bool.or_comm]
  have e2 : andU a.hi b.hi = andU b.hi a.hi := tb_ext (and_u h.2 k.2) (and_u k.2 h.2) fun i => by rw [tb_and h.2 k.2, tb_and k.2 h.2, Bool.and_comm]
  unfold tMeet
  rw [e0, e1, e2]

/-! the numbers of a tnum lie from its value on, to its value with all that is not known -/
theorem le_of_bits {x y : Int} (hx : isU x = true) (hy : isU y = true) (h : ∀ i, tb x i = true → tb y i = true) : x ≤ y := by
  have e : x.toNat &&& y.toNat = x.toNat := by
    refine Nat.eq_of_testBit_eq fun i => ?_
    rw [Nat.testBit_and]
    have := h i
    simp only [tb] at this
    cases e : x.toNat.testBit i
    · simp
    · rw [this e]; rfl
  have h1 : x.toNat ≤ y.toNat := by rw [← e]; exact Nat.and_le_right
  obtain ⟨h0, _⟩ := isU_iff.1 hx
  obtain ⟨h2, _⟩ := isU_iff.1 hy
  omega

theorem ht_low (h : UU t) (hx : isU x = true) (k : HT t x) : t.lo ≤ x :=
  le_of_bits h.1 hx fun i hi => by
    have := k i
    rw [hi] at this
    revert this
    cases tb x i <;> simp
theorem ht_high (h : UU t) (hx : isU x = true) (k : HT t x) : x ≤ orU t.lo t.hi :=
  le_of_bits hx (or_u h.1 h.2) fun i hi => by
    have := k i
    rw [tb_or h.1 h.2]
    rw [hi] at this
    revert this
    cases tb t.lo i <;> cases tb t.hi i <;> simp

/-! bits that are not known between two numbers -/
def tRange (l h : Int) : P2 := if h < l then ⟨0, 18446744073709551615⟩ else tOf l (2 ^ bitLen (xorU l h).toNat - 1)

theorem bitLen_le (n : Nat) (h : n < 2 ^ 64) : bitLen n ≤ 64 := by
  by_cases e : n = 0
  · subst e; decide
  · have := (bitLen_spec n).2 e
    by_cases h2 : bitLen n ≤ 64
    · exact h2
    · have : 2 ^ 64 ≤ 2 ^ (bitLen n - 1) := Nat.pow_le_pow_right (by omega) (by omega)
      omega

theorem ones_u {k : Nat} (h : k ≤ 64) : isU ((2 : Int) ^ k - 1) = true ∧ ∀ i, tb ((2 : Int) ^ k - 1) i = decide (i < k) := by
  have e : ((2 : Int) ^ k - 1) = ((2 ^ k - 1 : Nat) : Int) := by
    have : 1 ≤ 2 ^ k := Nat.one_le_two_pow
    push_cast [Int.natCast_sub this]
    rfl
  have hlt : 2 ^ k - 1 < 2 ^ 64 := by
    have h1 : 2 ^ k ≤ 2 ^ 64 := Nat.pow_le_pow_right (by omega) h
    have : 1 ≤ 2 ^ k := Nat.one_le_two_pow
    omega
  rw [e]
  refine ⟨nat_u hlt, fun i => ?_⟩
  rw [tb, Int.toNat_natCast, Nat.testBit_two_pow_sub_one]

theorem range_tm {l h : Int} (hl : isU l = true) (hh : isU h = true) : TM (tRange l h) := by
  unfold tRange
  split
  · exact ⟨⟨by decide, by decide⟩, fun i => by simp [tb_zero]⟩
  · exact tOf_tm hl (ones_u (bitLen_le _ (nat_lt (xor_u hl hh)))).1

theorem range_has {l h : Int} (hl : isU l = true) (hh : isU h = true) (hx : isU x = true) (h1 : l ≤ x) (h2 : x ≤ h) : HT (tRange l h) x := by
  obtain ⟨l0, l1⟩ := isU_iff.1 hl
  obtain ⟨x0, x1⟩ := isU_iff.1 hx
  have hk := bitLen_le _ (nat_lt (xor_u hl hh))
  have hs := (bitLen_spec (xorU l h).toNat).1
  unfold tRange
  rw [if_neg (by omega)]
  generalize bitLen (xorU l h).toNat = k at hk hs
  obtain ⟨hu, hb⟩ := ones_u hk
  intro i
  simp only [tOf, tb_not hl hu, hb]
  by_cases hi : i < k
  · simp [hi]
  · simp only [hi, decide_false, Bool.not_false, Bool.and_true]
    have same : ∀ j, k ≤ j → l.toNat.testBit j = h.toNat.testBit j := fun j hj => by
      have h3 : (xorU l h).toNat.testBit j = false := Nat.testBit_lt_two_pow (Nat.lt_of_lt_of_le hs (Nat.pow_le_pow_right (by omega) hj))
      rw [xor_nat hl hh, Int.toNat_natCast, Nat.testBit_xor] at h3
      revert h3
      cases l.toNat.testBit j <;> cases h.toNat.testBit j <;> simp
    have hd : l.toNat / 2 ^ k = h.toNat / 2 ^ k := by
      refine Nat.eq_of_testBit_eq fun j => ?_
      rw [Nat.testBit_div_two_pow, Nat.testBit_div_two_pow]
      exact same _ (by omega)
    have d1 : l.toNat / 2 ^ k ≤ x.toNat / 2 ^ k := Nat.div_le_div_right (by omega)
    have d2 : x.toNat / 2 ^ k ≤ h.toNat / 2 ^ k := Nat.div_le_div_right (by omega)
    have d3 : x.toNat / 2 ^ k = l.toNat / 2 ^ k := by omega
    have e : i = k + (i - k) := by omega
    have := congrArg (fun z => z.testBit (i - k)) d3
    simp only [Nat.testBit_div_two_pow] at this
    rw [tb, tb, e, Nat.add_comm]
    exact this
end
end Go.Proofs.YtafpbibpahjnhaaGreat.L05
