/- Tnums bit by bit, as the document's answer builds them (layer 3), in plain Lean. A text of the session's own. -/
import Derived.Test.YtafpbibpahjnhaaGreatL05R
namespace Go.Proofs.YtafpbibpahjnhaaGreat.L05
open Go Go.RowKit Go.Proofs.YtafpbibpahjnhaaGreat.Sx
set_option linter.unusedVariables false

def isX (i : Int) : Bool := decide (0 ≤ i ∧ i < 64)
theorem isX_iff {i : Int} : isX i = true ↔ 0 ≤ i ∧ i < 64 := by simp [isX]
/-- A bit: 0, 1, or 2: it is not known. -/
def bitM (t : P2) (i : Int) : Int := match tb t.hi i.toNat with | true => 2 | false => match tb t.lo i.toNat with | true => 1 | false => 0
def putM (t : P2) (i b : Int) : P2 := ⟨if b = 1 then orU t.lo (iShl .u64 1 i) else t.lo, if b = 2 then orU t.hi (iShl .u64 1 i) else t.hi⟩
theorem conv_x {i : Int} (h : isX i = true) : iConv .u64 i = i ∧ iNeg? i = false := by
  have h := isX_iff.1 h
  rw [conv_u, neg_f]; omega
theorem bit_at {x i : Int} (hx : isU x = true) (hi : isX i = true) : iBit .and .u64 (iShr .u64 x i) 1 = if tb x i.toNat = true then 1 else 0 := by
  have hi := isX_iff.1 hi
  have h1 : iBit .and .u64 (iShr .u64 x i) 1 = (((iShr .u64 x i).toNat &&& 1 : Nat) : Int) := and_nat (shr_u hx i) (by decide)
  rw [h1, Nat.and_one_is_mod, shr_nat hx, Int.toNat_natCast, Nat.min_eq_left (by omega)]
  have : tb x i.toNat = decide ((x.toNat >>> i.toNat) % 2 = 1) := by
    rw [tb, Nat.testBit, Nat.and_comm, Nat.and_one_is_mod]
    have := Nat.mod_two_eq_zero_or_one (x.toNat >>> i.toNat)
    rcases this with h | h <;> rw [h] <;> rfl
  rw [this]
  have := Nat.mod_two_eq_zero_or_one (x.toNat >>> i.toNat)
  rcases this with h | h <;> rw [h] <;> rfl
theorem tb_one_shl {i : Int} (hi : isX i = true) (j : Nat) : tb (iShl .u64 1 i) j = decide (j = i.toNat) := by
  have hi := isX_iff.1 hi
  rw [tb_shl (by decide), tb_one]
  by_cases h : j = i.toNat
  · rw [h, decide_eq_true (show i.toNat < 64 by omega), decide_eq_true (show i.toNat ≤ i.toNat by omega), decide_eq_true (show i.toNat - i.toNat = 0 by omega)]; simp
  · rw [decide_eq_false h]
    by_cases h2 : i.toNat ≤ j
    · rw [decide_eq_false (show ¬ j - i.toNat = 0 by omega)]; simp
    · rw [decide_eq_false h2]; simp
theorem bitM_cases (t : P2) (i : Int) : bitM t i = 0 ∨ bitM t i = 1 ∨ bitM t i = 2 := by
  unfold bitM; split
  · simp
  · split <;> simp
/-- t has the bits that f tells, at the places of S, and none elsewhere. -/
structure BT (t : P2) (f : Nat → Int) (S : Nat → Bool) : Prop where
  u : UU t
  h : ∀ j, tb t.hi j = (S j && decide (f j = 2))
  l : ∀ j, tb t.lo j = (S j && decide (f j = 1))
theorem BT.zero (f : Nat → Int) (S : Nat → Bool) (h : ∀ j, S j = false) : BT ⟨0, 0⟩ f S :=
  ⟨⟨by decide, by decide⟩, fun j => by rw [h j]; exact tb_zero j, fun j => by rw [h j]; exact tb_zero j⟩
theorem BT.put {t : P2} {f : Nat → Int} {S S' : Nat → Bool} (h : BT t f S) {i b : Int} (hi : isX i = true) (hb : b = f i.toNat) (hS : ∀ j, S' j = (S j || decide (j = i.toNat))) : BT (putM t i b) f S' := by
  subst hb
  have hs := shl_u 1 i
  refine ⟨⟨?_, ?_⟩, fun j => ?_, fun j => ?_⟩
  · show isU (if _ then _ else _) = true; split
    · exact or_u h.u.1 hs
    · exact h.u.1
  · show isU (if _ then _ else _) = true; split
    · exact or_u h.u.2 hs
    · exact h.u.2
  · show tb (if f i.toNat = 2 then orU t.hi (iShl .u64 1 i) else t.hi) j = _
    rw [hS j]
    by_cases e : j = i.toNat
    · subst e
      split
      · rename_i e2; rw [tb_or h.u.2 hs, tb_one_shl hi, e2]; simp
      · rename_i e2; rw [h.h, decide_eq_false e2]; simp
    · rw [decide_eq_false e, Bool.or_false]
      split
      · rw [tb_or h.u.2 hs, tb_one_shl hi, decide_eq_false e, Bool.or_false, h.h]
      · exact h.h j
  · show tb (if f i.toNat = 1 then orU t.lo (iShl .u64 1 i) else t.lo) j = _
    rw [hS j]
    by_cases e : j = i.toNat
    · subst e
      split
      · rename_i e2; rw [tb_or h.u.1 hs, tb_one_shl hi, e2]; simp
      · rename_i e2; rw [h.l, decide_eq_false e2]; simp
    · rw [decide_eq_false e, Bool.or_false]
      split
      · rw [tb_or h.u.1 hs, tb_one_shl hi, decide_eq_false e, Bool.or_false, h.l]
      · exact h.l j
/-- a place that is left out, for its bit is 0 -/
theorem BT.skip {t : P2} {f : Nat → Int} {S S' : Nat → Bool} (h : BT t f S) {k : Nat} (hb : f k = 0) (hS : ∀ j, S' j = (S j || decide (j = k))) : BT t f S' := by
  refine ⟨h.u, fun j => ?_, fun j => ?_⟩
  · rw [hS j, h.h]
    by_cases e : j = k
    · subst e; rw [hb]; simp
    · rw [decide_eq_false e, Bool.or_false]
  · rw [hS j, h.l]
    by_cases e : j = k
    · subst e; rw [hb]; simp
    · rw [decide_eq_false e, Bool.or_false]
theorem BT.eq {t q : P2} {f : Nat → Int} {S : Nat → Bool} (h : BT t f S) (hS : ∀ j, j < 64 → S j = true) (hq : UU q) (e : ∀ j, j < 64 → tb q.hi j = decide (f j = 2) ∧ tb q.lo j = decide (f j = 1)) : t = q := by
  have h1 : t.hi = q.hi := tb_ext h.u.2 hq.2 fun j => by
    by_cases hj : j < 64
    · rw [h.h, hS j hj, (e j hj).1]; simp
    · rw [tb_big h.u.2 (by omega), tb_big hq.2 (by omega)]
  have h2 : t.lo = q.lo := tb_ext h.u.1 hq.1 fun j => by
    by_cases hj : j < 64
    · rw [h.l, hS j hj, (e j hj).2]; simp
    · rw [tb_big h.u.1 (by omega), tb_big hq.1 (by omega)]
  cases t; cases q; simp only at h1 h2; rw [h1, h2]
theorem upto_step (i : Int) (h : 0 ≤ i) (j : Nat) : decide (j < (i + 1).toNat) = (decide (j < i.toNat) || decide (j = i.toNat)) := by
  by_cases h1 : j < i.toNat
  · simp [h1]; omega
  · by_cases h2 : j = i.toNat
    · simp [h2]; omega
    · simp [h1, h2]; omega
theorem down_step (i : Int) (h : 0 ≤ i) (j : Nat) : decide ((i - 1 < (j : Int)) ∧ j < 64) = (decide ((i < (j : Int)) ∧ j < 64) || decide (j = i.toNat ∧ j < 64)) := by
  rw [Bool.eq_iff_iff]; simp only [Bool.or_eq_true, decide_eq_true_eq]; omega

section
variable {a b : P2}
theorem bitM_2 {t : P2} {j : Nat} : bitM t (j : Int) = 2 ↔ tb t.hi j = true := by
  unfold bitM; rw [Int.toNat_natCast]
  cases tb t.hi j <;> cases tb t.lo j <;> simp
theorem bitM_eq (t : P2) (j : Nat) : bitM t (j : Int) = match tb t.hi j with | true => 2 | false => match tb t.lo j with | true => 1 | false => 0 := by
  unfold bitM; rw [Int.toNat_natCast]
/-! what both have in common -/
def fMeet (a b : P2) (j : Nat) : Int := if bitM a j = 2 then bitM b j else bitM a j
def okMeet (a b : P2) (j : Nat) : Bool := decide (bitM b j = 2 ∨ fMeet a b j = bitM b j)
theorem meet_fold {t : P2} {S : Nat → Bool} (ha : TM a) (hb : TM b) (hS : ∀ j, j < 64 → S j = true) (h : BT t (fMeet a b) S) (ok : ∀ j, j < 64 → okMeet a b j = true) : tMeetIs a b = true ∧ t = tMeet a b := by
  have hs : tMeetIs a b = true := by
    rw [tMeetIs_iff ha.1 hb.1]
    intro j
    by_cases hj : j < 64
    · have := ok j hj
      unfold okMeet fMeet at this
      rw [bitM_eq, bitM_eq] at this
      revert this
      cases tb a.hi j <;> cases tb a.lo j <;> cases tb b.hi j <;> cases tb b.lo j <;> decide
    · rw [tb_big ha.1.1 (by omega), tb_big hb.1.1 (by omega)]; rfl
  refine ⟨hs, h.eq hS (meet_uu ha.1 hb.1) fun j hj => ?_⟩
  obtain ⟨e1, e2⟩ := meet_bits ha.1 hb.1 hs j
  have a3 := ha.2 j
  have b3 := hb.2 j
  have o := ok j hj
  unfold okMeet fMeet at o
  unfold fMeet
  rw [bitM_eq, bitM_eq] at o
  rw [e1, e2, bitM_eq, bitM_eq]
  revert a3 b3 o
  cases tb a.hi j <;> cases tb a.lo j <;> cases tb b.hi j <;> cases tb b.lo j <;> decide
theorem meet_bad {j : Nat} (ha : UU a) (hb : UU b) (h : okMeet a b j = false) : tMeetIs a b = false := by
  cases e : tMeetIs a b with
  | false => rfl
  | true =>
    have := (tMeetIs_iff ha hb).1 e j
    unfold okMeet fMeet at h
    rw [bitM_eq, bitM_eq] at h
    revert h this
    cases tb a.hi j <;> cases tb a.lo j <;> cases tb b.hi j <;> cases tb b.lo j <;> decide
/-! the lowest bits -/
theorem low_fold {t : P2} {S : Nat → Bool} (ha : TM a) (n : Nat) (hn : n ≤ 64) (hS : ∀ j, j < 64 → S j = decide (j < n)) (h : BT t (fun j => bitM a j) S) : t = tLowN a n := by
  have h2 : BT t (fun j => if j < n then bitM a j else 0) (fun j => decide (j < 64)) := by
    refine ⟨h.u, fun j => ?_, fun j => ?_⟩
    · by_cases hj : j < 64
      · rw [h.h, hS j hj]; by_cases hk : j < n <;> simp [hk, hj]
      · rw [tb_big h.u.2 (by omega)]; simp [hj]
    · by_cases hj : j < 64
      · rw [h.l, hS j hj]; by_cases hk : j < n <;> simp [hk, hj]
      · rw [tb_big h.u.1 (by omega)]; simp [hj]
  refine h2.eq (fun j hj => by simp [hj]) (lowN_uu ha.1 n) fun j hj => ?_
  show tb (andU a.hi _) j = _ ∧ tb (andU a.lo _) j = _
  rw [tb_and ha.1.2 lown_u, tb_and ha.1.1 lown_u, lowN_bits n rfl hn]
  have a3 := ha.2 j
  rw [bitM_eq]
  revert a3
  by_cases hk : j < n
  · simp only [hk, if_true, decide_true, Bool.and_true]
    cases tb a.hi j <;> cases tb a.lo j <;> decide
  · simp only [hk, if_false, decide_false, Bool.and_false]
    intro _; decide
/-! from one number to another -/
def knownR (l h : Int) (j : Nat) : Bool := (List.range 64).all fun k => decide (k < j) || (tb l k == tb h k)
theorem knownR_iff {l h : Int} {j : Nat} : knownR l h j = true ↔ ∀ k, k < 64 → j ≤ k → tb l k = tb h k := by
  simp only [knownR, List.all_eq_true, List.mem_range, Bool.or_eq_true, decide_eq_true_eq, beq_iff_eq]
  constructor
  · intro q k h1 h2
    rcases q k h1 with h3 | h3
    · omega
    · exact h3
  · intro q k h1
    by_cases h2 : k < j
    · exact .inl h2
    · exact .inr (q k h1 (by omega))
def fRange (l h : Int) (j : Nat) : Int := if knownR l h j = true then (if tb l j then 1 else 0) else 2
theorem range_fold {t : P2} {S : Nat → Bool} {l h : Int} (hl : isU l = true) (hh : isU h = true) (hle : l ≤ h) (hS : ∀ j, j < 64 → S j = true) (k : BT t (fRange l h) S) : t = tRange l h := by
  refine k.eq hS (range_tm hl hh).1 fun j hj => ?_
  have hk := bitLen_le _ (nat_lt (xor_u hl hh))
  have hs := bitLen_spec (xorU l h).toNat
  have h0 : (xorU l h).toNat = 0 → bitLen (xorU l h).toNat = 0 := fun e => by rw [e]; rfl
  unfold tRange
  rw [if_neg (by omega)]
  generalize bitLen (xorU l h).toNat = n at hk hs h0
  obtain ⟨hu, hb⟩ := ones_u hk
  simp only [tOf, tb_not hl hu, hb]
  have key : (∀ k, k < 64 → j ≤ k → tb l k = tb h k) ↔ n ≤ j := by
    constructor
    · intro h3
      by_cases hn : n ≤ j
      · exact hn
      · exfalso
        have hx : (xorU l h).toNat < 2 ^ j := by
          apply Nat.lt_pow_two_of_testBit
          intro i hi
          show tb (xorU l h) i = false
          rw [tb_xor hl hh]
          by_cases h4 : i < 64
          · rw [h3 i h4 hi]; simp
          · rw [tb_big hl (by omega), tb_big hh (by omega)]; rfl
        by_cases hz : (xorU l h).toNat = 0
        · have := h0 hz; omega
        · have := hs.2 hz
          have h7 : 2 ^ j ≤ 2 ^ (n - 1) := Nat.pow_le_pow_right (by omega) (by omega)
          omega
    · intro h3 i h5 h4
      have h6 : tb (xorU l h) i = false := by
        rw [tb]; exact Nat.testBit_lt_two_pow (Nat.lt_of_lt_of_le hs.1 (Nat.pow_le_pow_right (by omega) (by omega)))
      rw [tb_xor hl hh] at h6
      revert h6
      cases tb l i <;> cases tb h i <;> simp
  unfold fRange
  by_cases hn : n ≤ j
  · rw [if_pos (knownR_iff.2 (key.2 hn)), decide_eq_false (show ¬ j < n by omega)]
    cases tb l j <;> decide
  · rw [if_neg (fun h => hn (key.1 (knownR_iff.1 h))), decide_eq_true (show j < n by omega)]
    cases tb l j <;> decide
/-! bit by bit -/
def fAnd (a b : P2) (j : Nat) : Int := if bitM a j = 0 ∨ bitM b j = 0 then 0 else if bitM a j = 1 ∧ bitM b j = 1 then 1 else 2
def fOr (a b : P2) (j : Nat) : Int := if bitM a j = 1 ∨ bitM b j = 1 then 1 else if bitM a j = 0 ∧ bitM b j = 0 then 0 else 2
def xorI (x y : Int) : Int := iBit .xor .i64 x y
def fXor (a b : P2) (j : Nat) : Int := if ¬ bitM a j = 2 ∧ ¬ bitM b j = 2 then xorI (bitM a j) (bitM b j) else 2
theorem and_fold {t : P2} {S : Nat → Bool} (ha : TM a) (hb : TM b) (hS : ∀ j, j < 64 → S j = true) (h : BT t (fAnd a b) S) : t = tAndM a b := by
  refine h.eq hS (tAnd_uu ha.1 hb.1) fun j hj => ?_
  show tb (notU (andU (orU a.lo a.hi) (orU b.lo b.hi)) (andU a.lo b.lo)) j = _ ∧ tb (andU a.lo b.lo) j = _
  rw [tb_not (and_u (or_u ha.1.1 ha.1.2) (or_u hb.1.1 hb.1.2)) (and_u ha.1.1 hb.1.1), tb_and (or_u ha.1.1 ha.1.2) (or_u hb.1.1 hb.1.2), tb_or ha.1.1 ha.1.2, tb_or hb.1.1 hb.1.2, tb_and ha.1.1 hb.1.1]
  have a3 := ha.2 j
  have b3 := hb.2 j
  unfold fAnd
  rw [bitM_eq, bitM_eq]
  revert a3 b3
  cases tb a.hi j <;> cases tb a.lo j <;> cases tb b.hi j <;> cases tb b.lo j <;> decide
theorem or_fold {t : P2} {S : Nat → Bool} (ha : TM a) (hb : TM b) (hS : ∀ j, j < 64 → S j = true) (h : BT t (fOr a b) S) : t = tOrM a b := by
  refine h.eq hS (tOr_uu ha.1 hb.1) fun j hj => ?_
  show tb (notU (orU a.hi b.hi) (orU a.lo b.lo)) j = _ ∧ tb (orU a.lo b.lo) j = _
  rw [tb_not (or_u ha.1.2 hb.1.2) (or_u ha.1.1 hb.1.1), tb_or ha.1.2 hb.1.2, tb_or ha.1.1 hb.1.1]
  have a3 := ha.2 j
  have b3 := hb.2 j
  unfold fOr
  rw [bitM_eq, bitM_eq]
  revert a3 b3
  cases tb a.hi j <;> cases tb a.lo j <;> cases tb b.hi j <;> cases tb b.lo j <;> decide
theorem xor_fold {t : P2} {S : Nat → Bool} (ha : TM a) (hb : TM b) (hS : ∀ j, j < 64 → S j = true) (h : BT t (fXor a b) S) : t = tXorM a b := by
  refine h.eq hS (tXor_uu ha.1 hb.1) fun j hj => ?_
  show tb (orU a.hi b.hi) j = _ ∧ tb (notU (xorU a.lo b.lo) (orU a.hi b.hi)) j = _
  rw [tb_not (xor_u ha.1.1 hb.1.1) (or_u ha.1.2 hb.1.2), tb_or ha.1.2 hb.1.2, tb_xor ha.1.1 hb.1.1]
  have a3 := ha.2 j
  have b3 := hb.2 j
  unfold fXor
  rw [bitM_eq, bitM_eq]
  revert a3 b3
  cases tb a.hi j <;> cases tb a.lo j <;> cases tb b.hi j <;> cases tb b.lo j <;> decide
/-! shifted -/
def fFrom (t : P2) (k : Int) : Int := if 0 ≤ k ∧ k < 64 then bitM t k else 0
def fShl (t : P2) (n : Int) (j : Nat) : Int := fFrom t (if 63 < n then -1 else (j : Int) - n)
def fShr (t : P2) (n : Int) (j : Nat) : Int := fFrom t (if 63 < n then -1 else (j : Int) + n)
def fSar (t : P2) (n : Int) (j : Nat) : Int := fFrom t (if 63 < n then 63 else min ((j : Int) + n) 63)
theorem from_bits {t : P2} (ht : TM t) (k : Int) : (decide (fFrom t k = 2) = (decide (0 ≤ k ∧ k < 64) && tb t.hi k.toNat)) ∧ decide (fFrom t k = 1) = (decide (0 ≤ k ∧ k < 64) && tb t.lo k.toNat) := by
  unfold fFrom
  by_cases h : 0 ≤ k ∧ k < 64
  · rw [if_pos h, decide_eq_true h]
    have a3 := ht.2 k.toNat
    unfold bitM
    revert a3
    cases tb t.hi k.toNat <;> cases tb t.lo k.toNat <;> decide
  · rw [if_neg h, decide_eq_false h, Bool.false_and, Bool.false_and]; decide
theorem shl_fold {t q : P2} {n : Int} {S : Nat → Bool} (ha : TM q) (hn : isU n = true) (hS : ∀ j, j < 64 → S j = true) (h : BT t (fShl q n) S) : t = tShl q n := by
  have n0 := isU_iff.1 hn
  refine h.eq hS tShl_uu fun j hj => ?_
  show tb (iShl .u64 q.hi n) j = _ ∧ tb (iShl .u64 q.lo n) j = _
  unfold fShl
  rw [(from_bits ha _).1, (from_bits ha _).2, tb_shl ha.1.2, tb_shl ha.1.1, decide_eq_true hj]
  by_cases h1 : 63 < n
  · rw [if_pos h1, decide_eq_false (show ¬ n.toNat ≤ j by omega)]; exact ⟨rfl, rfl⟩
  · rw [if_neg h1]
    by_cases h2 : n.toNat ≤ j
    · rw [decide_eq_true h2, decide_eq_true (show 0 ≤ (j : Int) - n ∧ (j : Int) - n < 64 by omega), show ((j : Int) - n).toNat = j - n.toNat by omega]; exact ⟨rfl, rfl⟩
    · rw [decide_eq_false h2, decide_eq_false (show ¬ (0 ≤ (j : Int) - n ∧ (j : Int) - n < 64) by omega)]; exact ⟨rfl, rfl⟩
theorem shr_fold {t q : P2} {n : Int} {S : Nat → Bool} (ha : TM q) (hn : isU n = true) (hS : ∀ j, j < 64 → S j = true) (h : BT t (fShr q n) S) : t = tShr q n := by
  have n0 := isU_iff.1 hn
  refine h.eq hS (tShr_uu ha.1) fun j hj => ?_
  show tb (iShr .u64 q.hi n) j = _ ∧ tb (iShr .u64 q.lo n) j = _
  unfold fShr
  rw [(from_bits ha _).1, (from_bits ha _).2, tb_shr ha.1.2, tb_shr ha.1.1]
  by_cases h1 : 63 < n
  · rw [if_pos h1, tb_big ha.1.2 (by omega), tb_big ha.1.1 (by omega)]; exact ⟨rfl, rfl⟩
  · rw [if_neg h1]
    by_cases h2 : (j : Int) + n < 64
    · rw [decide_eq_true (show 0 ≤ (j : Int) + n ∧ (j : Int) + n < 64 by omega), show ((j : Int) + n).toNat = n.toNat + j by omega]; exact ⟨rfl, rfl⟩
    · rw [decide_eq_false (show ¬ (0 ≤ (j : Int) + n ∧ (j : Int) + n < 64) by omega), tb_big ha.1.2 (by omega), tb_big ha.1.1 (by omega)]; exact ⟨rfl, rfl⟩
theorem sar_fold {t q : P2} {n : Int} {S : Nat → Bool} (ha : TM q) (hn : isU n = true) (hS : ∀ j, j < 64 → S j = true) (h : BT t (fSar q n) S) : t = tSar q n := by
  have n0 := isU_iff.1 hn
  refine h.eq hS tSar_uu fun j hj => ?_
  rw [tSar_eq ha.1]
  show tb (iConv .u64 (iShr .i64 (sgn q.hi) n)) j = _ ∧ tb (iConv .u64 (iShr .i64 (sgn q.lo) n)) j = _
  unfold fSar
  rw [(from_bits ha _).1, (from_bits ha _).2, tb_sar ha.1.2, tb_sar ha.1.1, decide_eq_true hj]
  have e : min (min n.toNat 64 + j) 63 = (if 63 < n then (63 : Int) else min ((j : Int) + n) 63).toNat := by split <;> omega
  have e2 : 0 ≤ (if 63 < n then (63 : Int) else min ((j : Int) + n) 63) ∧ (if 63 < n then (63 : Int) else min ((j : Int) + n) 63) < 64 := by split <;> omega
  rw [← e, decide_eq_true e2]; exact ⟨rfl, rfl⟩
/-! the product, without an end ahead of time -/
theorem tAdd_zero {t : P2} (ht : TM t) : tAdd t ⟨0, 0⟩ = t := by
  have hz : TM ⟨0, 0⟩ := ⟨⟨by decide, by decide⟩, fun i => by show (tb 0 i && tb 0 i) = false; rw [tb_zero]; rfl⟩
  have e1 : addU t.lo 0 = t.lo := by have := isU_iff.1 ht.1.1; rw [addU_mod]; unfold M64; omega
  have e2 : addU t.hi 0 = t.hi := by have := isU_iff.1 ht.1.2; rw [addU_mod]; unfold M64; omega
  have e3 : addU t.hi t.lo = orU t.hi t.lo := add_or ht.1.2 ht.1.1 fun i => by rw [Bool.and_comm]; exact ht.2 i
  have hx := xor_u (or_u ht.1.2 ht.1.1) ht.1.1
  have e4 : orU (orU (xorU (orU t.hi t.lo) t.lo) t.hi) 0 = t.hi := by
    rw [orU_zero (or_u hx ht.1.2)]
    refine tb_ext (or_u hx ht.1.2) ht.1.2 fun i => ?_
    rw [tb_or hx ht.1.2, tb_xor (or_u ht.1.2 ht.1.1) ht.1.1, tb_or ht.1.2 ht.1.1]
    have := ht.2 i
    revert this
    cases tb t.hi i <;> cases tb t.lo i <;> decide
  unfold tAdd
  dsimp only
  rw [e1, e2, e3, e4]
  unfold tOf
  have e5 : notU t.lo t.hi = t.lo := by
    refine tb_ext (not_u ht.1.1 ht.1.2) ht.1.1 fun i => ?_
    rw [tb_not ht.1.1 ht.1.2]
    have := ht.2 i
    revert this
    cases tb t.hi i <;> cases tb t.lo i <;> decide
  rw [e5]
end
end Go.Proofs.YtafpbibpahjnhaaGreat.L05
