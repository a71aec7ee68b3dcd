/- What is reckoned with numbers of whose bits some are known, in plain Lean: no number is lost. A text of the session's own. -/
import Derived.Test.YtafpbibpahjnhaaGreatL05I
namespace Go.Proofs.YtafpbibpahjnhaaGreat.L05
open Go Go.RowKit Go.Proofs.YtafpbibpahjnhaaGreat.Sx
set_option linter.unusedVariables false

def addU (x y : Int) : Int := iAdd .u64 x y
def subU (x y : Int) : Int := iSub .u64 x y

section
variable {x y : Int}
theorem addU_eq (hx : isU x = true) (hy : isU y = true) : addU x y = ((BitVec.ofNat 64 x.toNat + BitVec.ofNat 64 y.toNat).toNat : Nat) := by
  obtain ⟨h0, h1⟩ := isU_iff.1 hx
  obtain ⟨k0, k1⟩ := isU_iff.1 hy
  show IntKind.wrap .u64 (x + y) = _
  rw [IntKind.wrap_u64, BitVec.toNat_add, BitVec.toNat_ofNat, BitVec.toNat_ofNat]
  have e : (2 : Nat) ^ 64 = 18446744073709551616 := rfl
  rw [e, Nat.mod_eq_of_lt (show x.toNat < 18446744073709551616 by omega), Nat.mod_eq_of_lt (show y.toNat < 18446744073709551616 by omega)]
  omega
theorem subU_eq (hx : isU x = true) (hy : isU y = true) : addU (subU x y) y = x ∧ isU (subU x y) = true := by
  obtain ⟨h0, h1⟩ := isU_iff.1 hx
  obtain ⟨k0, k1⟩ := isU_iff.1 hy
  have e : subU x y = (x - y) % 18446744073709551616 := by show IntKind.wrap .u64 (x - y) = _; rw [IntKind.wrap_u64]
  have e2 : addU (subU x y) y = (subU x y + y) % 18446744073709551616 := by show IntKind.wrap .u64 (subU x y + y) = _; rw [IntKind.wrap_u64]
  constructor
  · rw [e2, e]; omega
  · rw [isU_iff, e]; omega
theorem add_u (hx : isU x = true) (hy : isU y = true) : isU (addU x y) = true := by
  have e : addU x y = (x + y) % 18446744073709551616 := by show IntKind.wrap .u64 (x + y) = _; rw [IntKind.wrap_u64]
  rw [isU_iff, e]; omega
/-- the carry into a bit -/
def car (x y : Int) (i : Nat) : Bool := decide (2 ^ i ≤ x.toNat % 2 ^ i + y.toNat % 2 ^ i)
theorem tb_add (hx : isU x = true) (hy : isU y = true) {i : Nat} (hi : i < 64) : tb (addU x y) i = (tb x i ^^ (tb y i ^^ car x y i)) := by
  rw [addU_eq hx hy, tb, Int.toNat_natCast]
  have := BitVec.getLsbD_add hi (BitVec.ofNat 64 x.toNat) (BitVec.ofNat 64 y.toNat)
  simp only [BitVec.getLsbD, BitVec.toNat_ofNat, BitVec.carry, Nat.mod_eq_of_lt (nat_lt hx), Nat.mod_eq_of_lt (nat_lt hy)] at this
  simpa [car, tb] using this
theorem mod_le {x y : Int} {i : Nat} (h : ∀ k, tb x k = true → tb y k = true) : x.toNat % 2 ^ i ≤ y.toNat % 2 ^ i := by
  have key : x.toNat % 2 ^ i = x.toNat % 2 ^ i &&& y.toNat % 2 ^ i := by
    apply Nat.eq_of_testBit_eq
    intro k
    rw [Nat.testBit_and, Nat.testBit_mod_two_pow, Nat.testBit_mod_two_pow]
    have := h k
    simp only [tb] at this
    cases e : x.toNat.testBit k
    · simp
    · rw [this e]; simp
  rw [key]
  exact Nat.and_le_right
theorem car_mono {x y x' y' : Int} {i : Nat} (h : ∀ k, tb x k = true → tb x' k = true) (g : ∀ k, tb y k = true → tb y' k = true) (hc : car x y i = true) : car x' y' i = true := by
  simp only [car, decide_eq_true_eq] at hc ⊢
  have h1 := mod_le (i := i) h
  have h2 := mod_le (i := i) g
  omega
theorem add_comm4 {a b c d : Int} (ha : isU a = true) (hb : isU b = true) (hc : isU c = true) (hd : isU d = true) : addU (addU a b) (addU c d) = addU (addU c a) (addU d b) := by
  have e : ∀ x y, addU x y = (x + y) % 18446744073709551616 := fun x y => by show IntKind.wrap .u64 (x + y) = _; rw [IntKind.wrap_u64]
  simp only [e]
  omega
/-- without a carry, the sum is what both have -/
theorem add_or {x y : Int} (hx : isU x = true) (hy : isU y = true) (h : ∀ i, (tb x i && tb y i) = false) : addU x y = orU x y := by
  rw [or_nat hx hy, addU_eq hx hy]
  have hz : BitVec.ofNat 64 x.toNat &&& BitVec.ofNat 64 y.toNat = 0#64 := by
    apply BitVec.eq_of_toNat_eq
    rw [BitVec.toNat_and, BitVec.toNat_ofNat, BitVec.toNat_ofNat, Nat.mod_eq_of_lt (nat_lt hx), Nat.mod_eq_of_lt (nat_lt hy)]
    apply Nat.eq_of_testBit_eq
    intro i
    rw [Nat.testBit_and]
    exact (h i).trans (by simp)
  rw [BitVec.add_eq_or_of_and_eq_zero _ _ hz, BitVec.toNat_or, BitVec.toNat_ofNat, BitVec.toNat_ofNat, Nat.mod_eq_of_lt (nat_lt hx), Nat.mod_eq_of_lt (nat_lt hy)]
def tAdd (a b : P2) : P2 := tOf (addU a.lo b.lo) (orU (orU (xorU (addU (addU a.hi b.hi) (addU a.lo b.lo)) (addU a.lo b.lo)) a.hi) b.hi)
theorem tAdd_tm {a b : P2} (ha : TM a) (hb : TM b) : TM (tAdd a b) :=
  tOf_tm (add_u ha.1.1 hb.1.1) (or_u (or_u (xor_u (add_u (add_u ha.1.2 hb.1.2) (add_u ha.1.1 hb.1.1)) (add_u ha.1.1 hb.1.1)) ha.1.2) hb.1.2)
theorem tAdd_has {a b : P2} {x y : Int} (ha : TM a) (hb : TM b) (hx : isU x = true) (hy : isU y = true) (ka : HT a x) (kb : HT b y) : HT (tAdd a b) (addU x y) := by
  obtain ⟨⟨a1, a2⟩, a3⟩ := ha
  obtain ⟨⟨b1, b2⟩, b3⟩ := hb
  have hv := add_u a1 b1
  have hm := add_u a2 b2
  have hc := xor_u (add_u hm hv) hv
  intro i
  show (tb (addU x y) i && !tb (orU (orU (xorU (addU (addU a.hi b.hi) (addU a.lo b.lo)) (addU a.lo b.lo)) a.hi) b.hi) i) = tb (notU (addU a.lo b.lo) (orU (orU (xorU (addU (addU a.hi b.hi) (addU a.lo b.lo)) (addU a.lo b.lo)) a.hi) b.hi)) i
  rw [tb_not hv (or_u (or_u hc a2) b2), tb_or (or_u hc a2) b2, tb_or hc a2, tb_xor (add_u hm hv) hv]
  by_cases hi : i < 64
  · have xa : ∀ k, tb (addU a.lo a.hi) k = (tb a.lo k || tb a.hi k) := fun k => by rw [add_or a1 a2 a3, tb_or a1 a2]
    have xb : ∀ k, tb (addU b.lo b.hi) k = (tb b.lo k || tb b.hi k) := fun k => by rw [add_or b1 b2 b3, tb_or b1 b2]
    rw [add_comm4 a2 b2 a1 b1, tb_add (add_u a1 a2) (add_u b1 b2) hi, tb_add a1 b1 hi, tb_add hx hy hi, xa, xb]
    have m1 : car a.lo b.lo i = true → car x y i = true := car_mono (fun k hk => by have := ka k; rw [hk] at this; cases e : tb x k <;> simp_all) (fun k hk => by have := kb k; rw [hk] at this; cases e : tb y k <;> simp_all)
    have m2 : car x y i = true → car (addU a.lo a.hi) (addU b.lo b.hi) i = true := car_mono (fun k hk => by rw [xa]; have := ka k; rw [hk] at this; cases e : tb a.hi k <;> simp_all) (fun k hk => by rw [xb]; have := kb k; rw [hk] at this; cases e : tb b.hi k <;> simp_all)
    have ki := ka i
    have li := kb i
    generalize tb x i = p1 at *
    generalize tb y i = p2 at *
    generalize tb a.lo i = p3 at *
    generalize tb a.hi i = p4 at *
    generalize tb b.lo i = p5 at *
    generalize tb b.hi i = p6 at *
    generalize car a.lo b.lo i = c1 at *
    generalize car x y i = c2 at *
    generalize car (addU a.lo a.hi) (addU b.lo b.hi) i = c3 at *
    revert ki li m1 m2
    revert p1 p2 p3 p4 p5 p6 c1 c2 c3
    decide
  · rw [tb_big (add_u hx hy) (by omega), tb_big hv (by omega)]
/-- the borrow out of a bit -/
def bor (x y : Int) (i : Nat) : Bool := decide (x.toNat % 2 ^ i < y.toNat % 2 ^ i)
theorem sub_u {x y : Int} (hx : isU x = true) (hy : isU y = true) : isU (subU x y) = true := (subU_eq hx hy).2
theorem tb_sub {x y : Int} (hx : isU x = true) (hy : isU y = true) {i : Nat} (hi : i < 64) : tb (subU x y) i = (tb x i ^^ (tb y i ^^ bor x y i)) := by
  obtain ⟨e, hz⟩ := subU_eq hx hy
  have h1 := tb_add hz hy hi
  rw [e] at h1
  have h2 : car (subU x y) y i = bor x y i := by
    have e2 : x.toNat = ((subU x y).toNat + y.toNat) % 2 ^ 64 := by
      have := addU_eq hz hy
      rw [e, BitVec.toNat_add, BitVec.toNat_ofNat, BitVec.toNat_ofNat, Nat.mod_eq_of_lt (nat_lt hz), Nat.mod_eq_of_lt (nat_lt hy)] at this
      have := congrArg Int.toNat this
      rwa [Int.toNat_natCast] at this
    have e3 : x.toNat % 2 ^ i = ((subU x y).toNat % 2 ^ i + y.toNat % 2 ^ i) % 2 ^ i := by
      rw [e2, Nat.mod_mod_of_dvd _ (Nat.pow_dvd_pow 2 (Nat.le_of_lt hi)), Nat.add_mod]
    have hp : 0 < 2 ^ i := Nat.two_pow_pos i
    have z1 := Nat.mod_lt (subU x y).toNat hp
    have z2 := Nat.mod_lt y.toNat hp
    unfold car bor
    rw [e3]
    generalize (subU x y).toNat % 2 ^ i = p at *
    generalize y.toNat % 2 ^ i = q at *
    generalize 2 ^ i = r at *
    by_cases h : r ≤ p + q
    · rw [Nat.mod_eq_sub_mod h, Nat.mod_eq_of_lt (by omega)]
      rw [decide_eq_true h, decide_eq_true (by omega)]
    · rw [Nat.mod_eq_of_lt (by omega), decide_eq_false h, decide_eq_false (by omega)]
  rw [h2] at h1
  rw [h1]
  cases tb (subU x y) i <;> cases tb y i <;> cases bor x y i <;> rfl
theorem bor_mono {x y x' y' : Int} {i : Nat} (h : ∀ k, tb x' k = true → tb x k = true) (g : ∀ k, tb y k = true → tb y' k = true) (hc : bor x y i = true) : bor x' y' i = true := by
  simp only [bor, decide_eq_true_eq] at hc ⊢
  have h1 := mod_le (i := i) h
  have h2 := mod_le (i := i) g
  omega
theorem sub_swap {a b c : Int} (ha : isU a = true) (hb : isU b = true) (hc : isU c = true) : addU (subU a b) c = subU (addU a c) b ∧ subU (subU a b) c = subU a (addU b c) := by
  have e : ∀ x y, addU x y = (x + y) % 18446744073709551616 := fun x y => by show IntKind.wrap .u64 (x + y) = _; rw [IntKind.wrap_u64]
  have e' : ∀ x y, subU x y = (x - y) % 18446744073709551616 := fun x y => by show IntKind.wrap .u64 (x - y) = _; rw [IntKind.wrap_u64]
  simp only [e, e']
  omega
def tSub (a b : P2) : P2 := tOf (subU a.lo b.lo) (orU (orU (xorU (addU (subU a.lo b.lo) a.hi) (subU (subU a.lo b.lo) b.hi)) a.hi) b.hi)
theorem tSub_tm {a b : P2} (ha : TM a) (hb : TM b) : TM (tSub a b) :=
  tOf_tm (sub_u ha.1.1 hb.1.1) (or_u (or_u (xor_u (add_u (sub_u ha.1.1 hb.1.1) ha.1.2) (sub_u (sub_u ha.1.1 hb.1.1) hb.1.2)) ha.1.2) hb.1.2)
theorem tSub_has {a b : P2} {x y : Int} (ha : TM a) (hb : TM b) (hx : isU x = true) (hy : isU y = true) (ka : HT a x) (kb : HT b y) : HT (tSub a b) (subU x y) := by
  obtain ⟨⟨a1, a2⟩, a3⟩ := ha
  obtain ⟨⟨b1, b2⟩, b3⟩ := hb
  have hv := sub_u a1 b1
  have hc := xor_u (add_u hv a2) (sub_u hv b2)
  intro i
  show (tb (subU x y) i && !tb (orU (orU (xorU (addU (subU a.lo b.lo) a.hi) (subU (subU a.lo b.lo) b.hi)) a.hi) b.hi) i) = tb (notU (subU a.lo b.lo) (orU (orU (xorU (addU (subU a.lo b.lo) a.hi) (subU (subU a.lo b.lo) b.hi)) a.hi) b.hi)) i
  rw [tb_not hv (or_u (or_u hc a2) b2), tb_or (or_u hc a2) b2, tb_or hc a2, tb_xor (add_u hv a2) (sub_u hv b2)]
  by_cases hi : i < 64
  · have xa : ∀ k, tb (addU a.lo a.hi) k = (tb a.lo k || tb a.hi k) := fun k => by rw [add_or a1 a2 a3, tb_or a1 a2]
    have xb : ∀ k, tb (addU b.lo b.hi) k = (tb b.lo k || tb b.hi k) := fun k => by rw [add_or b1 b2 b3, tb_or b1 b2]
    rw [(sub_swap a1 b1 a2).1, (sub_swap a1 b1 b2).2, tb_sub (add_u a1 a2) b1 hi, tb_sub a1 (add_u b1 b2) hi, tb_sub a1 b1 hi, tb_sub hx hy hi, xa, xb]
    have sa : ∀ k, tb a.lo k = true → tb x k = true := fun k hk => by have := ka k; rw [hk] at this; cases e : tb x k <;> simp_all
    have sb : ∀ k, tb b.lo k = true → tb y k = true := fun k hk => by have := kb k; rw [hk] at this; cases e : tb y k <;> simp_all
    have ta : ∀ k, tb x k = true → tb (addU a.lo a.hi) k = true := fun k hk => by rw [xa]; have := ka k; rw [hk] at this; cases e : tb a.hi k <;> simp_all
    have tb' : ∀ k, tb y k = true → tb (addU b.lo b.hi) k = true := fun k hk => by rw [xb]; have := kb k; rw [hk] at this; cases e : tb b.hi k <;> simp_all
    have m1 : bor (addU a.lo a.hi) b.lo i = true → bor x y i = true := bor_mono ta sb
    have m2 : bor x y i = true → bor a.lo (addU b.lo b.hi) i = true := bor_mono sa tb'
    have m3 : bor (addU a.lo a.hi) b.lo i = true → bor a.lo b.lo i = true := bor_mono (fun k hk => ta k (sa k hk)) (fun k hk => hk)
    have m4 : bor a.lo b.lo i = true → bor a.lo (addU b.lo b.hi) i = true := bor_mono (fun k hk => hk) (fun k hk => tb' k (sb k hk))
    have ki := ka i
    have li := kb i
    clear sa sb ta tb' xa xb hc hv
    generalize tb x i = p1 at *
    generalize tb y i = p2 at *
    generalize tb a.lo i = p3 at *
    generalize tb a.hi i = p4 at *
    generalize tb b.lo i = p5 at *
    generalize tb b.hi i = p6 at *
    generalize bor a.lo b.lo i = c1 at *
    generalize bor x y i = c2 at *
    generalize bor (addU a.lo a.hi) b.lo i = c3 at *
    generalize bor a.lo (addU b.lo b.hi) i = c4 at *
    revert ki li m1 m2 m3 m4
    revert p1 p2 p3 p4 p5 p6 c1 c2 c3 c4
    decide
  · rw [tb_big (sub_u hx hy) (by omega), tb_big hv (by omega)]
def tOrM (a b : P2) : P2 := ⟨orU a.lo b.lo, notU (orU a.hi b.hi) (orU a.lo b.lo)⟩
def tXorM (a b : P2) : P2 := tOf (xorU a.lo b.lo) (orU a.hi b.hi)
theorem tOr_has {a b : P2} {x y : Int} (ha : TM a) (hb : TM b) (hx : isU x = true) (hy : isU y = true) (ka : HT a x) (kb : HT b y) : TM (tOrM a b) ∧ HT (tOrM a b) (orU x y) := by
  obtain ⟨⟨a1, a2⟩, a3⟩ := ha
  obtain ⟨⟨b1, b2⟩, b3⟩ := hb
  have hv := or_u a1 b1
  have hm := or_u a2 b2
  refine ⟨⟨⟨hv, not_u hm hv⟩, fun i => ?_⟩, fun i => ?_⟩
  · show (tb (orU a.lo b.lo) i && tb (notU (orU a.hi b.hi) (orU a.lo b.lo)) i) = false
    rw [tb_not hm hv]
    cases tb (orU a.lo b.lo) i <;> simp
  · show (tb (orU x y) i && !tb (notU (orU a.hi b.hi) (orU a.lo b.lo)) i) = tb (orU a.lo b.lo) i
    rw [tb_not hm hv, tb_or hx hy, tb_or a1 b1, tb_or a2 b2]
    have := ka i
    have := kb i
    generalize tb x i = p1 at *
    generalize tb y i = p2 at *
    generalize tb a.lo i = p3 at *
    generalize tb a.hi i = p4 at *
    generalize tb b.lo i = p5 at *
    generalize tb b.hi i = p6 at *
    revert p1 p2 p3 p4 p5 p6
    decide
theorem tAnd_has {a b : P2} {x y : Int} (ha : TM a) (hb : TM b) (hx : isU x = true) (hy : isU y = true) (ka : HT a x) (kb : HT b y) : TM (tAndM a b) ∧ HT (tAndM a b) (andU x y) := by
  obtain ⟨⟨a1, a2⟩, a3⟩ := ha
  obtain ⟨⟨b1, b2⟩, b3⟩ := hb
  have hv := and_u a1 b1
  have hm := and_u (or_u a1 a2) (or_u b1 b2)
  refine ⟨⟨⟨hv, not_u hm hv⟩, fun i => ?_⟩, fun i => ?_⟩
  · show (tb (andU a.lo b.lo) i && tb (notU (andU (orU a.lo a.hi) (orU b.lo b.hi)) (andU a.lo b.lo)) i) = false
    rw [tb_not hm hv]
    cases tb (andU a.lo b.lo) i <;> simp
  · show (tb (andU x y) i && !tb (notU (andU (orU a.lo a.hi) (orU b.lo b.hi)) (andU a.lo b.lo)) i) = tb (andU a.lo b.lo) i
    rw [tb_not hm hv, tb_and hx hy, tb_and a1 b1, tb_and (or_u a1 a2) (or_u b1 b2), tb_or a1 a2, tb_or b1 b2]
    have := ka i
    have := kb i
    generalize tb x i = p1 at *
    generalize tb y i = p2 at *
    generalize tb a.lo i = p3 at *
    generalize tb a.hi i = p4 at *
    generalize tb b.lo i = p5 at *
    generalize tb b.hi i = p6 at *
    revert p1 p2 p3 p4 p5 p6
    decide
theorem tXor_has {a b : P2} {x y : Int} (ha : TM a) (hb : TM b) (hx : isU x = true) (hy : isU y = true) (ka : HT a x) (kb : HT b y) : TM (tXorM a b) ∧ HT (tXorM a b) (xorU x y) := by
  obtain ⟨⟨a1, a2⟩, a3⟩ := ha
  obtain ⟨⟨b1, b2⟩, b3⟩ := hb
  have hv := xor_u a1 b1
  have hm := or_u a2 b2
  refine ⟨tOf_tm hv hm, fun i => ?_⟩
  show (tb (xorU x y) i && !tb (orU a.hi b.hi) i) = tb (notU (xorU a.lo b.lo) (orU a.hi b.hi)) i
  rw [tb_not hv hm, tb_xor hx hy, tb_xor a1 b1, tb_or a2 b2]
  have := ka i
  have := kb i
  generalize tb x i = p1 at *
  generalize tb y i = p2 at *
  generalize tb a.lo i = p3 at *
  generalize tb a.hi i = p4 at *
  generalize tb b.lo i = p5 at *
  generalize tb b.hi i = p6 at *
  revert p1 p2 p3 p4 p5 p6
  decide
theorem shl_u (x n : Int) : isU (iShl .u64 x n) = true := by
  rw [isU_iff]
  show 0 ≤ IntKind.wrap .u64 _ ∧ IntKind.wrap .u64 _ < _
  rw [IntKind.wrap_u64]
  omega
theorem shl_nat {x : Int} (hx : isU x = true) (n : Int) : (iShl .u64 x n).toNat = (x.toNat <<< (min n.toNat 64)) % 2 ^ 64 := by
  obtain ⟨h0, h1⟩ := isU_iff.1 hx
  have e : iShl .u64 x n = (x * 2 ^ min n.toNat 64) % 18446744073709551616 := by show IntKind.wrap .u64 _ = _; rw [IntKind.wrap_u64]; rfl
  have hx' : x = (x.toNat : Int) := by omega
  rw [e, Nat.shiftLeft_eq, hx']
  have : ((x.toNat : Int) * 2 ^ min n.toNat 64) = ((x.toNat * 2 ^ min n.toNat 64 : Nat) : Int) := by push_cast; rfl
  rw [this]
  simp only [Int.toNat_natCast]
  omega
theorem tb_shl {x : Int} (hx : isU x = true) (n : Int) (i : Nat) : tb (iShl .u64 x n) i = (decide (i < 64) && (decide (n.toNat ≤ i) && tb x (i - n.toNat))) := by
  rw [tb, shl_nat hx, Nat.testBit_mod_two_pow, Nat.testBit_shiftLeft]
  by_cases hi : i < 64
  · by_cases hn : n.toNat ≤ 64
    · rw [Nat.min_eq_left hn]; rfl
    · rw [Nat.min_eq_right (by omega), decide_eq_false (show ¬ i ≥ 64 by omega), decide_eq_false (show ¬ n.toNat ≤ i by omega)]; rfl
  · rw [decide_eq_false hi]; rfl
theorem shr_nat {x : Int} (hx : isU x = true) (n : Int) : iShr .u64 x n = ((x.toNat >>> (min n.toNat 64) : Nat) : Int) := by
  obtain ⟨h0, h1⟩ := isU_iff.1 hx
  have e : iShr .u64 x n = x.fdiv (2 ^ min n.toNat 64) := rfl
  have hx' : x = (x.toNat : Int) := by omega
  rw [e, Int.fdiv_eq_ediv_of_nonneg _ (Int.le_of_lt (Int.pow_pos (by decide))), Nat.shiftRight_eq_div_pow, Int.natCast_ediv, ← hx']
  push_cast
  rfl
theorem shr_u {x : Int} (hx : isU x = true) (n : Int) : isU (iShr .u64 x n) = true := by
  rw [shr_nat hx]
  exact nat_u (Nat.lt_of_le_of_lt (Nat.shiftRight_le _ _) (nat_lt hx))
theorem tb_shr {x : Int} (hx : isU x = true) (n : Int) (i : Nat) : tb (iShr .u64 x n) i = tb x (n.toNat + i) := by
  rw [shr_nat hx, tb, Int.toNat_natCast, Nat.testBit_shiftRight]
  by_cases hn : n.toNat ≤ 64
  · rw [Nat.min_eq_left hn]; rfl
  · rw [Nat.min_eq_right (by omega)]
    have a := tb_big hx (i := 64 + i) (by omega)
    have b := tb_big hx (i := n.toNat + i) (by omega)
    rw [b]; exact a
def tShl (t : P2) (n : Int) : P2 := ⟨iShl .u64 t.lo n, iShl .u64 t.hi n⟩
def tShr (t : P2) (n : Int) : P2 := ⟨iShr .u64 t.lo n, iShr .u64 t.hi n⟩
theorem tShl_has {a : P2} {x : Int} (ha : TM a) (hx : isU x = true) (ka : HT a x) (n : Int) : TM (tShl a n) ∧ HT (tShl a n) (iShl .u64 x n) := by
  obtain ⟨⟨a1, a2⟩, a3⟩ := ha
  refine ⟨⟨⟨shl_u _ _, shl_u _ _⟩, fun i => ?_⟩, fun i => ?_⟩
  · show (tb (iShl .u64 a.lo n) i && tb (iShl .u64 a.hi n) i) = false
    rw [tb_shl a1, tb_shl a2]
    have := a3 (i - n.toNat)
    generalize tb a.lo (i - n.toNat) = p at *
    generalize tb a.hi (i - n.toNat) = q at *
    cases decide (i < 64) <;> cases decide (n.toNat ≤ i) <;> cases p <;> cases q <;> first | rfl | exact this
  · show (tb (iShl .u64 x n) i && !tb (iShl .u64 a.hi n) i) = tb (iShl .u64 a.lo n) i
    rw [tb_shl a1, tb_shl a2, tb_shl hx]
    have := ka (i - n.toNat)
    rw [← this]
    cases decide (i < 64) <;> cases decide (n.toNat ≤ i) <;> cases tb x (i - n.toNat) <;> cases tb a.hi (i - n.toNat) <;> rfl
theorem tShr_has {a : P2} {x : Int} (ha : TM a) (hx : isU x = true) (ka : HT a x) (n : Int) : TM (tShr a n) ∧ HT (tShr a n) (iShr .u64 x n) := by
  obtain ⟨⟨a1, a2⟩, a3⟩ := ha
  refine ⟨⟨⟨shr_u a1 _, shr_u a2 _⟩, fun i => ?_⟩, fun i => ?_⟩
  · show (tb (iShr .u64 a.lo n) i && tb (iShr .u64 a.hi n) i) = false
    rw [tb_shr a1, tb_shr a2]
    exact a3 _
  · show (tb (iShr .u64 x n) i && !tb (iShr .u64 a.hi n) i) = tb (iShr .u64 a.lo n) i
    rw [tb_shr a1, tb_shr a2, tb_shr hx]
    exact ka _
end
end Go.Proofs.YtafpbibpahjnhaaGreat.L05
