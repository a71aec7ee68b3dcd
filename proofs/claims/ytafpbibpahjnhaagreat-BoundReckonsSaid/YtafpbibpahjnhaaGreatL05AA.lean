/- The document's answer of layer 5 on what is made of bounds: it comes to the same. Plain Lean. A text of the session's own. -/
import Derived.Test.YtafpbibpahjnhaaGreatL05Z
namespace Go.Proofs.YtafpbibpahjnhaaGreat.L05
open Go Go.RowKit Go.Proofs.YtafpbibpahjnhaaGreat.Sx
set_option linter.unusedVariables false
def bitsH (how : Int) (p q : P2) : P2 := if how = 1 then tAndM p q else if how = 2 then tOrM p q else tXorM p q
def isH (h : Int) : Bool := decide (h = 1 ∨ h = 2 ∨ h = 3)
def shH (how : Int) (t : P2) (n : Int) : P2 := if how = 0 then tShl t n else if how = 1 then tShr t n else tSar t n
def isH0 (h : Int) : Bool := decide (h = 0 ∨ h = 1 ∨ h = 2)
def isR (c : Int) : Bool := decide (c = 0 ∨ c = 1 ∨ c = 2 ∨ c = 3 ∨ c = 9)
def isB (c : Int) : Bool := decide (c = 4 ∨ c = 5 ∨ c = 10)
def isD (c : Int) : Bool := decide (0 ≤ c ∧ c < 13)
theorem isD_iff {c : Int} : isD c = true ↔ 0 ≤ c ∧ c < 13 := by simp [isD]
def withinM (p : P2) (d : Bool) : P2 := match d with | false => ⟨0, 4294967295⟩ | true => if 4294967295 < p.hi then ⟨0, 4294967295⟩ else p
def innerR (p : P2) : P2 := if p.lo < -2147483648 ∨ 2147483647 < p.hi then ⟨-2147483648, 2147483647⟩ else p
theorem within_t {p : P2} (h : p.lo ≤ p.hi) : withinM p true = fitsM p := by
  unfold withinM fitsM
  dsimp only
  by_cases e : 4294967295 < p.hi
  · rw [if_pos e, if_pos (.inl e)]
  · rw [if_neg e, if_neg (by omega)]
theorem inner_eq {p : P2} (h : p.lo ≤ p.hi) : innerR p = innerM p := by
  unfold innerR innerM
  by_cases e : p.lo < -2147483648 ∨ 2147483647 < p.hi
  · rw [if_pos e, if_neg (by omega)]
  · rw [if_neg e, if_pos (by omega)]
section
variable {a b : Bd}
theorem good_w (h : Inv5 a) (n : bNone a = false) : (0 ≤ a.w.lo ∧ a.w.lo ≤ a.w.hi ∧ a.w.hi < 4294967296) ∧ -2147483648 ≤ a.v.lo ∧ a.v.lo ≤ a.v.hi ∧ a.v.hi < 2147483648 := by
  have := h.w; have := h.v; have := none_f.1 n
  unfold WW VV at *; omega
theorem add_w (ha : Inv5 a) (na : bNone a = false) (hb : Inv5 b) (nb : bNone b = false) : withinM ⟨iAdd .u64 a.w.lo b.w.lo, iAdd .u64 a.w.hi b.w.hi⟩ true = fitsM ⟨iAdd .u64 a.w.lo b.w.lo, iAdd .u64 a.w.hi b.w.hi⟩ := by
  have h1 := good_w ha na; have h2 := good_w hb nb
  refine within_t ?_
  dsimp only
  rw [Sx.add_u, Sx.add_u]; omega
theorem add_v (ha : Inv5 a) (na : bNone a = false) (hb : Inv5 b) (nb : bNone b = false) : innerR ⟨iAdd .i64 a.v.lo b.v.lo, iAdd .i64 a.v.hi b.v.hi⟩ = innerM ⟨iAdd .i64 a.v.lo b.v.lo, iAdd .i64 a.v.hi b.v.hi⟩ := by
  have h1 := good_w ha na; have h2 := good_w hb nb
  refine inner_eq ?_
  dsimp only
  rw [add_i, add_i]; omega
theorem sub_w (ha : Inv5 a) (na : bNone a = false) (hb : Inv5 b) (nb : bNone b = false) : withinM ⟨iSub .u64 a.w.lo b.w.hi, iSub .u64 a.w.hi b.w.lo⟩ (iGe a.w.lo b.w.hi) = fitsM ⟨iSub .u64 a.w.lo b.w.hi, iSub .u64 a.w.hi b.w.lo⟩ := by
  have h1 := good_w ha na; have h2 := good_w hb nb
  by_cases e : b.w.hi ≤ a.w.lo
  · rw [ge_t.2 e]
    refine within_t ?_
    dsimp only
    rw [Sx.sub_u, Sx.sub_u]; omega
  · rw [ge_f.2 (by omega)]
    unfold withinM fitsM
    dsimp only
    rw [if_pos]
    rw [Sx.sub_u, Sx.sub_u]; omega
theorem sub_v (ha : Inv5 a) (na : bNone a = false) (hb : Inv5 b) (nb : bNone b = false) : innerR ⟨iSub .i64 a.v.lo b.v.hi, iSub .i64 a.v.hi b.v.lo⟩ = innerM ⟨iSub .i64 a.v.lo b.v.hi, iSub .i64 a.v.hi b.v.lo⟩ := by
  have h1 := good_w ha na; have h2 := good_w hb nb
  refine inner_eq ?_
  dsimp only
  rw [sub_i, sub_i]; omega
theorem mul_w (ha : Inv5 a) (na : bNone a = false) (hb : Inv5 b) (nb : bNone b = false) : withinM ⟨iMul .u64 a.w.lo b.w.lo, iMul .u64 a.w.hi b.w.hi⟩ true = fitsM ⟨iMul .u64 a.w.lo b.w.lo, iMul .u64 a.w.hi b.w.hi⟩ := by
  have h1 := good_w ha na; have h2 := good_w hb nb
  refine within_t ?_
  dsimp only
  have m1 : a.w.lo * b.w.lo ≤ a.w.hi * b.w.hi := L04.mul_le (by omega) (by omega) (by omega) (by omega)
  have m2 : 0 ≤ a.w.lo * b.w.lo := Int.mul_nonneg (by omega) (by omega)
  have m3 : a.w.hi * b.w.hi ≤ 4294967295 * 4294967295 := L04.mul_le (by omega) (by omega) (by omega) (by omega)
  rw [mul_u, mul_u]; omega
/-! a lower half with its sign -/
theorem or_high {z : Int} (h0 : 0 ≤ z) (h1 : z < 4294967296) : iBit .or .u64 z 18446744069414584320 = 18446744069414584320 + z := by
  have hz : isU z = true := isU_iff.2 (by omega)
  have hd : ∀ i, (tb z i && tb 18446744069414584320 i) = false := fun i => by
    rw [tb_high32]
    by_cases hi : i < 32
    · simp [hi]
    · rw [tb, Nat.testBit_lt_two_pow (Nat.lt_of_lt_of_le (show z.toNat < 2 ^ 32 by have : (2 : Nat) ^ 32 = 4294967296 := rfl; omega) (Nat.pow_le_pow_right (by omega) (by omega)))]; rfl
  rw [show iBit .or .u64 z 18446744069414584320 = orU z 18446744069414584320 from rfl, ← add_or hz high32 hd, addU_mod]
  unfold M64; omega
theorem long_bit {z : Int} (h0 : 0 ≤ z) (h1 : z < 4294967296) : (iEq (iShr .u64 z 31) 1 = true → iBit .or .u64 z 18446744069414584320 = iConv .u64 (sg32 z)) ∧ (iEq (iShr .u64 z 31) 1 = false → z = iConv .u64 (sg32 z)) := by
  rw [or_high h0 h1, shr31, conv_u, eq_t, eq_f]
  unfold sg32
  constructor
  · intro h; rw [if_neg (by omega)]; omega
  · intro h; rw [if_pos (by omega)]; omega
theorem low_range {t : P2} (h : UU t) : (0 ≤ (tLowN t 32).lo ∧ (tLowN t 32).lo < 4294967296) ∧ 0 ≤ (tLowN t 32).hi ∧ (tLowN t 32).hi < 4294967296 := by
  rw [tLowN32]; exact ⟨low_lt h.1, low_lt h.2⟩
end
end Go.Proofs.YtafpbibpahjnhaaGreat.L05
namespace Go.Proofs.YtafpbibpahjnhaaGreat.L05
open Go Go.RowKit Go.Proofs.YtafpbibpahjnhaaGreat.Sx
section
variable {a b : Bd} {c n : Int} {k : Bool}
theorem lowB_inv (h : Inv5 a) : Inv5 (lowB a n) := by
  unfold lowB
  split
  · split
    · exact nothing_inv
    · exact (sync_ok (lowQ32_raw h.raw)).1
  · split
    · split
      · exact nothing_inv
      · exact (sync_ok (lowQ_raw h.raw)).1
    · exact h
theorem longB_inv (h : Inv5 a) : Inv5 (longB a) := (sync_ok (longQ_raw h.raw)).1
theorem shiftB_inv (h : Inv5 a) : Inv5 (shiftB c a n k) := by
  unfold shiftB
  cases k
  · dsimp only; split
    · exact (sync_ok (shrQ_raw h.raw)).1
    · exact (sync_ok any_raw).1
  · dsimp only; split
    · exact (sync_ok (shlB_raw h.raw)).1
    · split
      · exact (sync_ok (shrB_raw h.raw)).1
      · exact (sync_ok (sarB_raw h.raw)).1
theorem opB_raw (ha : Raw5 a) (hb : Raw5 b) : Raw5 (opB c a b) := by
  unfold opB
  repeat' split
  · exact addB_raw ha hb
  · exact subB_raw ha hb
  · exact mulB_raw ha hb
  · exact divB_raw ha hb
  · exact orB_raw ha hb
  · exact andB_raw ha hb
  · exact subB_raw c0_raw ha
  · exact modB_raw ha hb
  · exact xorB_raw ha hb
theorem opS_inv (ha : Inv5 a) (hb : Inv5 b) : Inv5 (sync (opB c a b)) := (sync_ok (opB_raw ha.raw hb.raw)).1
theorem doesB_inv (w : Bool) (ha : Inv5 a) (hb : Inv5 b) (hc : c ≤ 12) : Inv5 (doesB c w a b) := by
  unfold doesB
  rw [if_neg (by omega)]
  split
  · exact nothing_inv
  · cases w
    · show Inv5 (halfB c a b)
      unfold halfB
      split
      · refine lowB_inv (shiftB_inv ?_)
        split
        · exact longB_inv (lowB_inv ha)
        · exact lowB_inv ha
      · split
        · exact nothing_inv
        · refine lowB_inv ?_
          split
          · exact lowB_inv hb
          · exact opS_inv (lowB_inv ha) (lowB_inv hb)
    · show Inv5 (wideB c a b)
      unfold wideB
      split
      · exact shiftB_inv ha
      · split
        · exact hb
        · exact opS_inv ha hb
end
theorem const0 : Inv5 (bConst 0) ∧ bNone (bConst 0) = false := ⟨(const_ok (x := 0) (by decide)).1, (const_ok (x := 0) (by decide)).2.some⟩
end Go.Proofs.YtafpbibpahjnhaaGreat.L05
