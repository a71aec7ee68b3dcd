/- The loops of the document's answer of layer 3, and its round of layer 5: what they come to. Plain Lean. A text of the session's own. -/
import Derived.Test.YtafpbibpahjnhaaGreatL05V
namespace Go.Proofs.YtafpbibpahjnhaaGreat.Sx
theorem askS {c : Bool} {T : Tr} {R : Leaf → Prop} (h : c = true) (k : T.sat R) : (Tr.br c T (.no 98)).sat R := ⟨fun _ => k, fun e => by rw [h] at e; cases e⟩
theorem brs2 {c : Bool} {A B : Tr} {R : Leaf → Prop} (h : c = true → A.sat R) (k : c = false → B.sat R) : (Tr.br c A B).sat R := ⟨h, k⟩
theorem brns2 {c : Bool} {A B : Tr} {R : Leaf → Prop} (h : c = true → B.sat R) (k : c = false → A.sat R) : (Tr.br (bNot c) A B).sat R := ⟨fun e => k (not_t.1 e), fun e => h (not_f.1 e)⟩
theorem brsT {c : Bool} {A B : Tr} {R : Leaf → Prop} (h : c = true) (k : A.sat R) : (Tr.br c A B).sat R := ⟨fun _ => k, fun e => by rw [h] at e; cases e⟩
theorem brsF {c : Bool} {A B : Tr} {R : Leaf → Prop} (h : c = false) (k : B.sat R) : (Tr.br c A B).sat R := ⟨fun e => (by rw [h] at e; cases e), fun _ => k⟩
theorem brnsT {c : Bool} {A B : Tr} {R : Leaf → Prop} (h : c = true) (k : B.sat R) : (Tr.br (bNot c) A B).sat R := brsF (by rw [h]; rfl) k
theorem brnsF {c : Bool} {A B : Tr} {R : Leaf → Prop} (h : c = false) (k : A.sat R) : (Tr.br (bNot c) A B).sat R := brsT (by rw [h]; rfl) k
end Go.Proofs.YtafpbibpahjnhaaGreat.Sx
namespace Go.Proofs.YtafpbibpahjnhaaGreat.L05
open Go Go.RowKit Go.Proofs.YtafpbibpahjnhaaGreat.Sx
set_option linter.unusedVariables false

theorem inc_i {i : Int} (h : isX i = true) : iAdd .i64 i 1 = i + 1 := by have := isX_iff.1 h; rw [add_i]; omega
theorem dec_i {i : Int} (h : isX i = true) : iSub .i64 i 1 = i - 1 := by have := isX_iff.1 h; rw [sub_i]; omega
def upTo (i : Int) (j : Nat) : Bool := decide (j < i.toNat)
def dnTo (i : Int) (j : Nat) : Bool := decide (i < (j : Int) ∧ j < 64)
theorem upTo_next {i : Int} (h : isX i = true) (j : Nat) : upTo (i + 1) j = (upTo i j || decide (j = i.toNat)) := upto_step i (isX_iff.1 h).1 j
theorem dnTo_next {i : Int} (h : isX i = true) (j : Nat) : dnTo (i - 1) j = (dnTo i j || decide (j = i.toNat)) := by
  have := isX_iff.1 h
  unfold dnTo
  rw [Bool.eq_iff_iff]; simp only [Bool.or_eq_true, decide_eq_true_eq]; omega
theorem upTo_all {i : Int} (h : 64 ≤ i) : ∀ j, j < 64 → upTo i j = true := fun j hj => decide_eq_true (by omega)
theorem bit_conv {x i : Int} (hx : isU x = true) (hi : isX i = true) : iConv .i64 (iBit .and .u64 (iShr .u64 x (iConv .u64 i)) 1) = if tb x i.toNat = true then 1 else 0 := by
  rw [(conv_x hi).1, bit_at hx hi, conv_i]; split <;> rfl

section
variable {p q t r : P2} {i b n : Int}
def MeetI (p q : P2) (xi : List Int) (xb : List Bool) : Prop := ∃ (i : Int) (t : P2), xi = [i, p.lo, p.hi, q.lo, q.hi, 0, 0, t.lo, t.hi] ∧ (0 ≤ i ∧ i ≤ 64) ∧ BT t (fMeet p q) (upTo i) ∧ ∀ j, j < i.toNat → okMeet p q j = true
def mI0 (xi : List Int) (_ : List Bool) : Nat := (64 - hdI xi).toNat
def mI1 (xi : List Int) (_ : List Bool) : Nat := (64 - hdI (tlI xi)).toNat
def mI2 (xi : List Int) (_ : List Bool) : Nat := (64 - hdI (tlI (tlI xi))).toNat
def mD2 (xi : List Int) (_ : List Bool) : Nat := (hdI (tlI (tlI xi)) + 1).toNat
theorem meetI_start : MeetI p q [0, p.lo, p.hi, q.lo, q.hi, 0, 0, 0, 0] [] := ⟨0, ⟨0, 0⟩, rfl, by omega, BT.zero _ _ fun j => rfl, fun j hj => by simp at hj⟩
theorem meetI_next {xb : List Bool} (hi : isX i = true) (hB : BT t (fMeet p q) (upTo i)) (hok : ∀ j, j < i.toNat → okMeet p q j = true) (hb : b = fMeet p q i.toNat) (ho : okMeet p q i.toNat = true) :
    MeetI p q [iAdd .i64 i 1, p.lo, p.hi, q.lo, q.hi, 0, 0, (putM t i b).lo, (putM t i b).hi] [] ∧ mI0 [iAdd .i64 i 1, p.lo, p.hi, q.lo, q.hi, 0, 0, (putM t i b).lo, (putM t i b).hi] [] < mI0 [i, p.lo, p.hi, q.lo, q.hi, 0, 0, t.lo, t.hi] xb := by
  have h := isX_iff.1 hi
  rw [inc_i hi]
  refine ⟨⟨i + 1, putM t i b, rfl, by omega, hB.put hi hb (upTo_next hi), fun j hj => ?_⟩, by simp only [mI0, hdI]; omega⟩
  by_cases e : j = i.toNat
  · rw [e]; exact ho
  · exact hok j (by omega)
theorem meetI_exit (hp : TM p) (hq : TM q) (h : 64 ≤ i) (hB : BT t (fMeet p q) (upTo i)) (hok : ∀ j, j < i.toNat → okMeet p q j = true) : tMeetIs p q = true ∧ t = tMeet p q :=
  meet_fold hp hq (upTo_all h) hB fun j hj => hok j (by omega)
theorem meetI_bad (hp : UU p) (hq : UU q) (hi : isX i = true) (h : okMeet p q i.toNat = false) : tMeetIs p q = false ∧ tMeet p q = ⟨0, 0⟩ := by
  have := meet_bad hp hq h
  exact ⟨this, by unfold tMeet; rw [this]⟩
theorem nat_i (hi : isX i = true) : ((i.toNat : Nat) : Int) = i := Int.toNat_of_nonneg (isX_iff.1 hi).1
theorem fMeet_at (hi : isX i = true) : fMeet p q i.toNat = if bitM p i = 2 then bitM q i else bitM p i := by unfold fMeet; rw [nat_i hi]
theorem okMeet_at (hi : isX i = true) : okMeet p q i.toNat = decide (bitM q i = 2 ∨ (if bitM p i = 2 then bitM q i else bitM p i) = bitM q i) := by unfold okMeet; rw [fMeet_at hi, nat_i hi]

def LowI (t : P2) (n : Int) (xi : List Int) (xb : List Bool) : Prop := ∃ (i : Int) (r : P2), xi = [n, i, t.lo, t.hi, 0, 0, r.lo, r.hi] ∧ (0 ≤ i ∧ i ≤ n) ∧ BT r (fun j => bitM t j) (upTo i)
theorem lowI_start (hn : 0 ≤ n) : LowI t n [n, 0, t.lo, t.hi, 0, 0, 0, 0] [] := ⟨0, ⟨0, 0⟩, rfl, by omega, BT.zero _ _ fun j => rfl⟩
theorem lowI_next {xb : List Bool} (hi : isX i = true) (hn : i < n) (hB : BT r (fun j => bitM t j) (upTo i)) :
    LowI t n [n, iAdd .i64 i 1, t.lo, t.hi, 0, 0, (putM r i (bitM t i)).lo, (putM r i (bitM t i)).hi] [] ∧ mI1 [n, iAdd .i64 i 1, t.lo, t.hi, 0, 0, (putM r i (bitM t i)).lo, (putM r i (bitM t i)).hi] [] < mI1 [n, i, t.lo, t.hi, 0, 0, r.lo, r.hi] xb := by
  have h := isX_iff.1 hi
  rw [inc_i hi]
  refine ⟨⟨i + 1, putM r i (bitM t i), rfl, by omega, hB.put hi (by show bitM t i = bitM t (i.toNat : Int); rw [nat_i hi]) (upTo_next hi)⟩, by simp only [mI1, hdI, tlI]; omega⟩
theorem lowI_exit (ht : TM t) (h0 : 0 ≤ i) (hn : n ≤ 64) (e : i = n) (hB : BT r (fun j => bitM t j) (upTo i)) : r = tLowN t n := by
  have := low_fold ht n.toNat (by omega) (fun j _ => by rw [e]; rfl) hB
  rw [Int.toNat_of_nonneg (by omega)] at this
  exact this

def RangeI (x y : Int) (xi : List Int) (xb : List Bool) : Prop := ∃ (i : Int) (t : P2) (kn : Bool), xi = [x, y, i, 0, 0, t.lo, t.hi] ∧ xb = [kn] ∧ (-1 ≤ i ∧ i ≤ 63) ∧ BT t (fRange x y) (dnTo i) ∧ kn = knownR x y (i + 1).toNat
theorem known_step {l h : Int} {j : Nat} (hj : j < 64) : knownR l h j = (knownR l h (j + 1) && (tb l j == tb h j)) := by
  rw [Bool.eq_iff_iff, Bool.and_eq_true, knownR_iff, knownR_iff, beq_iff_eq]
  constructor
  · intro q; exact ⟨fun k h1 h2 => q k h1 (by omega), q j hj (Nat.le_refl _)⟩
  · rintro ⟨q1, q2⟩ k h1 h2
    by_cases e : k = j
    · rw [e]; exact q2
    · exact q1 k h1 (by omega)
theorem rangeI_start {x y : Int} : RangeI x y [x, y, 63, 0, 0, 0, 0] [true] := by
  refine ⟨63, ⟨0, 0⟩, true, rfl, rfl, by omega, BT.zero _ _ fun j => ?_, ?_⟩
  · unfold dnTo; rw [decide_eq_false (by omega)]
  · refine (knownR_iff.2 fun k h1 h2 => ?_).symm
    have : (63 + 1 : Int).toNat = 64 := rfl
    omega
theorem rangeI_next {x y : Int} {kn' : Bool} {xb : List Bool} (hi : isX i = true) (hB : BT t (fRange x y) (dnTo i)) (hk : kn' = knownR x y i.toNat) (hb : b = fRange x y i.toNat) :
    RangeI x y [x, y, iSub .i64 i 1, 0, 0, (putM t i b).lo, (putM t i b).hi] [kn'] ∧ mD2 [x, y, iSub .i64 i 1, 0, 0, (putM t i b).lo, (putM t i b).hi] [kn'] < mD2 [x, y, i, 0, 0, t.lo, t.hi] xb := by
  have h := isX_iff.1 hi
  rw [dec_i hi]
  exact ⟨⟨i - 1, putM t i b, kn', rfl, rfl, by omega, hB.put hi hb (dnTo_next hi), by rw [hk, show i - 1 + 1 = i by omega]⟩, by simp only [mD2, hdI, tlI]; omega⟩
theorem rangeI_exit {x y : Int} (hx : isU x = true) (hy : isU y = true) (hle : x ≤ y) (h : i < 0) (hB : BT t (fRange x y) (dnTo i)) : t = tRange x y :=
  range_fold hx hy hle (fun j hj => decide_eq_true (by omega)) hB

def ShiftI (how : Int) (f : Nat → Int) (q : P2) (n : Int) (xi : List Int) (xb : List Bool) : Prop := ∃ (i : Int) (t : P2), xi = [n, how, i, q.lo, q.hi, 0, 0, t.lo, t.hi] ∧ (0 ≤ i ∧ i ≤ 64) ∧ BT t f (upTo i)
theorem shiftI_start {how : Int} {f : Nat → Int} : ShiftI how f q n [n, how, 0, q.lo, q.hi, 0, 0, 0, 0] [] := ⟨0, ⟨0, 0⟩, rfl, by omega, BT.zero _ _ fun j => rfl⟩
theorem shiftI_next {how : Int} {f : Nat → Int} {xb : List Bool} (hi : isX i = true) (hB : BT t f (upTo i)) (hb : b = f i.toNat) :
    ShiftI how f q n [n, how, iAdd .i64 i 1, q.lo, q.hi, 0, 0, (putM t i b).lo, (putM t i b).hi] [] ∧ mI2 [n, how, iAdd .i64 i 1, q.lo, q.hi, 0, 0, (putM t i b).lo, (putM t i b).hi] [] < mI2 [n, how, i, q.lo, q.hi, 0, 0, t.lo, t.hi] xb := by
  have h := isX_iff.1 hi
  rw [inc_i hi]
  exact ⟨⟨i + 1, putM t i b, rfl, by omega, hB.put hi hb (upTo_next hi)⟩, by simp only [mI2, hdI, tlI]; omega⟩
theorem shiftI_skip {how : Int} {f : Nat → Int} {xb : List Bool} (hi : isX i = true) (hB : BT t f (upTo i)) (hb : f i.toNat = 0) :
    ShiftI how f q n [n, how, iAdd .i64 i 1, q.lo, q.hi, 0, 0, t.lo, t.hi] [] ∧ mI2 [n, how, iAdd .i64 i 1, q.lo, q.hi, 0, 0, t.lo, t.hi] [] < mI2 [n, how, i, q.lo, q.hi, 0, 0, t.lo, t.hi] xb := by
  have h := isX_iff.1 hi
  rw [inc_i hi]
  exact ⟨⟨i + 1, t, rfl, by omega, hB.skip hb (upTo_next hi)⟩, by simp only [mI2, hdI, tlI]; omega⟩
def BitsI (how : Int) (f : Nat → Int) (p q : P2) (xi : List Int) (xb : List Bool) : Prop := ∃ (i : Int) (t : P2), xi = [how, i, p.lo, p.hi, q.lo, q.hi, 0, 0, t.lo, t.hi] ∧ (0 ≤ i ∧ i ≤ 64) ∧ BT t f (upTo i)
theorem bitsI_start {how : Int} {f : Nat → Int} : BitsI how f p q [how, 0, p.lo, p.hi, q.lo, q.hi, 0, 0, 0, 0] [] := ⟨0, ⟨0, 0⟩, rfl, by omega, BT.zero _ _ fun j => rfl⟩
theorem bitsI_next {how : Int} {f : Nat → Int} {xb : List Bool} (hi : isX i = true) (hB : BT t f (upTo i)) (hb : b = f i.toNat) :
    BitsI how f p q [how, iAdd .i64 i 1, p.lo, p.hi, q.lo, q.hi, 0, 0, (putM t i b).lo, (putM t i b).hi] [] ∧ mI1 [how, iAdd .i64 i 1, p.lo, p.hi, q.lo, q.hi, 0, 0, (putM t i b).lo, (putM t i b).hi] [] < mI1 [how, i, p.lo, p.hi, q.lo, q.hi, 0, 0, t.lo, t.hi] xb := by
  have h := isX_iff.1 hi
  rw [inc_i hi]
  exact ⟨⟨i + 1, putM t i b, rfl, by omega, hB.put hi hb (upTo_next hi)⟩, by simp only [mI1, hdI, tlI]; omega⟩

theorem fFrom_in {k : Int} (h : 0 ≤ k ∧ k < 64) : fFrom t k = bitM t k := by unfold fFrom; rw [if_pos h]
theorem fFrom_out {k : Int} (h : ¬ (0 ≤ k ∧ k < 64)) : fFrom t k = 0 := by unfold fFrom; rw [if_neg h]
theorem fShl_big {j : Nat} (h : 63 < n) : fShl t n j = 0 := by unfold fShl; rw [if_pos h]; exact fFrom_out (by omega)
theorem fShr_big {j : Nat} (h : 63 < n) : fShr t n j = 0 := by unfold fShr; rw [if_pos h]; exact fFrom_out (by omega)
theorem fSar_big {j : Nat} (h : 63 < n) : fSar t n j = bitM t 63 := by unfold fSar; rw [if_pos h]; exact fFrom_in (by omega)
theorem fShl_in {k : Int} (hi : isX i = true) (h : n ≤ 63) (e : k = i - n) (h2 : 0 ≤ k ∧ k < 64) : fShl t n i.toNat = bitM t k := by unfold fShl; rw [if_neg (by omega), nat_i hi, ← e]; exact fFrom_in h2
theorem fShl_out {k : Int} (hi : isX i = true) (h : n ≤ 63) (e : k = i - n) (h2 : ¬ (0 ≤ k ∧ k < 64)) : fShl t n i.toNat = 0 := by unfold fShl; rw [if_neg (by omega), nat_i hi, ← e]; exact fFrom_out h2
theorem fShr_in {k : Int} (hi : isX i = true) (h : n ≤ 63) (e : k = i + n) (h2 : 0 ≤ k ∧ k < 64) : fShr t n i.toNat = bitM t k := by unfold fShr; rw [if_neg (by omega), nat_i hi, ← e]; exact fFrom_in h2
theorem fShr_out {k : Int} (hi : isX i = true) (h : n ≤ 63) (e : k = i + n) (h2 : ¬ (0 ≤ k ∧ k < 64)) : fShr t n i.toNat = 0 := by unfold fShr; rw [if_neg (by omega), nat_i hi, ← e]; exact fFrom_out h2
theorem fSar_in {k : Int} (hi : isX i = true) (h : n ≤ 63) (e : k = min (i + n) 63) (h2 : 0 ≤ k ∧ k < 64) : fSar t n i.toNat = bitM t k := by unfold fSar; rw [if_neg (by omega), nat_i hi, ← e]; exact fFrom_in h2
/-! the product -/
def mulFull : Nat → P2 → P2 → P2 → P2
  | 0, _, _, t => t
  | f + 1, a, b, t => mulFull f (tShr a 1) (tShl b 1) (mulAdd a b t)
theorem mulAdd_a0 (hi : P2) (b t : P2) (h1 : hi.lo = 0) (h2 : hi.hi = 0) : mulAdd hi b t = t := mulAdd3 (by rw [h1]; decide) (by rw [h2]; decide)
theorem mulFull_a0 : ∀ (f : Nat) (a b t : P2), a.lo = 0 → a.hi = 0 → mulFull f a b t = t
  | 0, _, _, _, _, _ => rfl
  | f + 1, a, b, t, h1, h2 => by
    simp only [mulFull]
    rw [mulAdd_a0 a b t h1 h2]
    exact mulFull_a0 f _ _ t (by show iShr .u64 a.lo 1 = 0; rw [h1, shr_z]) (by show iShr .u64 a.hi 1 = 0; rw [h2, shr_z])
theorem mulAdd_tm {a b t : P2} (hb : UU b) (ht : TM t) : TM (mulAdd a b t) := by
  have z : isU 0 = true := by decide
  unfold mulAdd
  split
  · exact tAdd_tm ht ⟨⟨z, hb.2⟩, fun i => by show (tb 0 i && _) = false; rw [tb_zero]; rfl⟩
  · exact tAdd_tm ht ⟨⟨z, or_u hb.1 hb.2⟩, fun i => by show (tb 0 i && _) = false; rw [tb_zero]; rfl⟩
  · exact ht
theorem mulAdd_b0 {a b t : P2} (ht : TM t) (h1 : b.lo = 0) (h2 : b.hi = 0) : mulAdd a b t = t := by
  unfold mulAdd
  split
  · rw [h2]; exact tAdd_zero ht
  · rw [h1, h2, show orU 0 0 = 0 by decide]; exact tAdd_zero ht
  · rfl
theorem mulFull_b0 : ∀ (f : Nat) (a b t : P2), TM t → b.lo = 0 → b.hi = 0 → mulFull f a b t = t
  | 0, _, _, _, _, _, _ => rfl
  | f + 1, a, b, t, ht, h1, h2 => by
    simp only [mulFull]
    rw [mulAdd_b0 ht h1 h2]
    exact mulFull_b0 f _ _ t ht (by show iShl .u64 b.lo 1 = 0; rw [h1, shl_z]) (by show iShl .u64 b.hi 1 = 0; rw [h2, shl_z])
theorem mulGo_full : ∀ (f : Nat) (a b t : P2), UU b → TM t → mulGo f a b t = mulFull f a b t
  | 0, _, _, _, _, _ => rfl
  | f + 1, a, b, t, hb, ht => by
    simp only [mulGo]
    split
    · rename_i h
      have h := of_decide_eq_true h
      exact (mulFull_a0 (f + 1) a b t h.1 h.2).symm
    · split
      · rename_i h
        have h := of_decide_eq_true h
        simp only [mulFull]
        exact (mulFull_b0 f _ _ _ (mulAdd_tm hb ht) h.1 h.2).symm
      · exact mulGo_full f _ _ _ tShl_uu (mulAdd_tm hb ht)
theorem shr_shr {x : Int} (hx : isU x = true) (hi : 0 ≤ i) : iShr .u64 (iShr .u64 x i) 1 = iShr .u64 x (i + 1) := by
  refine tb_ext (shr_u (shr_u hx _) _) (shr_u hx _) fun j => ?_
  rw [tb_shr (shr_u hx _), tb_shr hx, tb_shr hx, show i.toNat + ((1 : Int).toNat + j) = (i + 1).toNat + j by omega]
theorem shl_shl {x : Int} (hx : isU x = true) (hi : 0 ≤ i) : iShl .u64 (iShl .u64 x i) 1 = iShl .u64 x (i + 1) := by
  refine tb_ext (shl_u _ _) (shl_u _ _) fun j => ?_
  rw [tb_shl (shl_u _ _), tb_shl hx, tb_shl hx]
  by_cases h1 : j < 64
  · by_cases h2 : (1 : Int).toNat ≤ j
    · rw [decide_eq_true h1, decide_eq_true h2, decide_eq_true (show j - (1 : Int).toNat < 64 by omega), show j - (1 : Int).toNat - i.toNat = j - (i + 1).toNat by omega]
      by_cases h3 : (i + 1).toNat ≤ j
      · rw [decide_eq_true h3, decide_eq_true (show i.toNat ≤ j - (1 : Int).toNat by omega)]; rfl
      · rw [decide_eq_false h3, decide_eq_false (show ¬ i.toNat ≤ j - (1 : Int).toNat by omega)]; rfl
    · rw [decide_eq_false h2, decide_eq_false (show ¬ (i + 1).toNat ≤ j by omega)]; simp
  · rw [decide_eq_false h1]; rfl
theorem bit0_shr {x : Int} (hx : isU x = true) (hi : isX i = true) : iEq (iBit .and .u64 (iShr .u64 x i) 1) 1 = tb x i.toNat := by
  rw [bit0 (shr_u hx i), tb_shr hx, Nat.add_zero]
theorem shl_or {x y : Int} (hx : isU x = true) (hy : isU y = true) : orU (iShl .u64 x i) (iShl .u64 y i) = iShl .u64 (orU x y) i := by
  refine tb_ext (or_u (shl_u _ _) (shl_u _ _)) (shl_u _ _) fun j => ?_
  rw [tb_or (shl_u _ _) (shl_u _ _), tb_shl hx, tb_shl hy, tb_shl (or_u hx hy), tb_or hx hy]
  cases decide (j < 64) <;> cases decide (i.toNat ≤ j) <;> simp
def MulI (p q : P2) (xi : List Int) (xb : List Bool) : Prop := ∃ (i : Int) (t : P2), xi = [i, p.lo, p.hi, q.lo, q.hi, 0, 0, t.lo, t.hi] ∧ (0 ≤ i ∧ i ≤ 64) ∧ TM t ∧ mulFull (64 - i.toNat) (tShr p i) (tShl q i) t = mulFull 64 p q ⟨0, 0⟩
theorem zero_tm : TM ⟨0, 0⟩ := ⟨⟨by decide, by decide⟩, fun i => by show (tb 0 i && tb 0 i) = false; rw [tb_zero]; rfl⟩
theorem mulI2_start (hp : UU p) (hq : UU q) : MulI p q [0, p.lo, p.hi, q.lo, q.hi, 0, 0, 0, 0] [] := by
  refine ⟨0, ⟨0, 0⟩, rfl, by omega, zero_tm, ?_⟩
  have e1 : tShr p 0 = p := by
    have a : ∀ x, isU x = true → iShr .u64 x 0 = x := fun x hx => by rw [shr_u']; show x / 1 = x; omega
    cases p; unfold tShr; simp only; rw [a _ hp.1, a _ hp.2]
  have e2 : tShl q 0 = q := by
    have a : ∀ x, isU x = true → iShl .u64 x 0 = x := fun x hx => by have := isU_iff.1 hx; rw [Sx.shl_u]; show x * 1 % _ = x; omega
    cases q; unfold tShl; simp only; rw [a _ hq.1, a _ hq.2]
  rw [e1, e2]; rfl
theorem mulI2_next {xb : List Bool} {z : P2} (hp : UU p) (hq : UU q) (hi : isX i = true) (ht : TM t) (hg : mulFull (64 - i.toNat) (tShr p i) (tShl q i) t = mulFull 64 p q ⟨0, 0⟩) (hz : mulAdd (tShr p i) (tShl q i) t = z) :
    MulI p q [iAdd .i64 i 1, p.lo, p.hi, q.lo, q.hi, 0, 0, z.lo, z.hi] [] ∧ mI0 [iAdd .i64 i 1, p.lo, p.hi, q.lo, q.hi, 0, 0, z.lo, z.hi] [] < mI0 [i, p.lo, p.hi, q.lo, q.hi, 0, 0, t.lo, t.hi] xb := by
  have h := isX_iff.1 hi
  rw [inc_i hi]
  subst hz
  refine ⟨⟨i + 1, _, rfl, by omega, mulAdd_tm tShl_uu ht, ?_⟩, by simp only [mI0, hdI]; omega⟩
  rw [← hg, show 64 - i.toNat = (64 - (i + 1).toNat) + 1 by omega]
  simp only [mulFull]
  have e1 : tShr (tShr p i) 1 = tShr p (i + 1) := by unfold tShr; simp only; rw [shr_shr hp.1 h.1, shr_shr hp.2 h.1]
  have e2 : tShl (tShl q i) 1 = tShl q (i + 1) := by unfold tShl; simp only; rw [shl_shl hq.1 h.1, shl_shl hq.2 h.1]
  rw [e1, e2]
theorem mul_bit1 (hp : TM p) (hi : isX i = true) (h : bitM p i = 1) : mulAdd (tShr p i) (tShl q i) t = tAdd t ⟨0, iShl .u64 q.hi i⟩ := by
  refine mulAdd1 ?_
  show iEq (iBit .and .u64 (iShr .u64 p.lo i) 1) 1 = true
  rw [bit0_shr hp.1.1 hi]
  unfold bitM at h
  revert h
  cases tb p.hi i.toNat <;> cases tb p.lo i.toNat <;> decide
theorem mul_bit2 (hp : TM p) (hq : UU q) (hi : isX i = true) (h : bitM p i = 2) : mulAdd (tShr p i) (tShl q i) t = tAdd t ⟨0, iShl .u64 (orU q.lo q.hi) i⟩ := by
  have a3 := hp.2 i.toNat
  have e1 : iEq (iBit .and .u64 (tShr p i).lo 1) 1 = false := by
    show iEq (iBit .and .u64 (iShr .u64 p.lo i) 1) 1 = false
    rw [bit0_shr hp.1.1 hi]
    unfold bitM at h
    revert h a3
    cases tb p.hi i.toNat <;> cases tb p.lo i.toNat <;> decide
  have e2 : iEq (iBit .and .u64 (tShr p i).hi 1) 1 = true := by
    show iEq (iBit .and .u64 (iShr .u64 p.hi i) 1) 1 = true
    rw [bit0_shr hp.1.2 hi]
    unfold bitM at h
    revert h a3
    cases tb p.hi i.toNat <;> cases tb p.lo i.toNat <;> decide
  rw [mulAdd2 e1 e2]
  show tAdd t ⟨0, orU (iShl .u64 q.lo i) (iShl .u64 q.hi i)⟩ = _
  rw [shl_or hq.1 hq.2]
theorem mul_bit0 (hp : TM p) (hi : isX i = true) (h1 : ¬ bitM p i = 1) (h2 : ¬ bitM p i = 2) : mulAdd (tShr p i) (tShl q i) t = t := by
  refine mulAdd3 ?_ ?_
  · show iEq (iBit .and .u64 (iShr .u64 p.lo i) 1) 1 = false
    rw [bit0_shr hp.1.1 hi]
    unfold bitM at h1 h2
    revert h1 h2
    cases tb p.hi i.toNat <;> cases tb p.lo i.toNat <;> decide
  · show iEq (iBit .and .u64 (iShr .u64 p.hi i) 1) 1 = false
    rw [bit0_shr hp.1.2 hi]
    unfold bitM at h1 h2
    revert h1 h2
    cases tb p.hi i.toNat <;> cases tb p.lo i.toNat <;> decide
theorem mulI2_exit (hq : UU q) (h : i = 64) (hg : mulFull (64 - i.toNat) (tShr p i) (tShl q i) t = mulFull 64 p q ⟨0, 0⟩) : tAdd t ⟨iMul .u64 p.lo q.lo, 0⟩ = tMul p q := by
  subst h
  unfold tMul
  rw [mulGo_full 64 p q _ hq zero_tm, ← hg]
  rfl
end
end Go.Proofs.YtafpbibpahjnhaaGreat.L05
