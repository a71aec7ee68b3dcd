/- Layer 6: what its functions reckon, in plain Lean. A text of the session's own. -/
import Derived.Test.YtafpbibpahjnhaaGreatL05H
namespace Go.Proofs.YtafpbibpahjnhaaGreat.L05
open Go Go.RowKit Go.Proofs.YtafpbibpahjnhaaGreat.Sx
set_option linter.unusedVariables false

/-- How a bound is told about a number: five numbers of 64 bits, two of 32. -/
structure Ab where
  m : Int
  d : Int
  u : Int
  l : Int
  r : Int
  h : Int
  t : Int

def lift (x : Int) : Int := iAdd .u64 x 9223372036854775808
def aOf (w : Ab) (x : Int) : Bd :=
  ⟨⟨iBit .andNot .u64 x w.m, w.m⟩,
   ⟨iSub .u64 x (iMin2 x w.d), iAdd .u64 x (iMin2 (iSub .u64 18446744073709551615 x) w.u)⟩,
   ⟨iConv .i64 (iSub .u64 (iSub .u64 (lift x) (iMin2 (lift x) w.l)) 9223372036854775808), iConv .i64 (iSub .u64 (iAdd .u64 (lift x) (iMin2 (iSub .u64 18446744073709551615 (lift x)) w.r)) 9223372036854775808)⟩,
   ⟨iSub .u64 (iRem x 4294967296) (iMin2 (iRem x 4294967296) (iConv .u64 w.h)), iAdd .u64 (iRem x 4294967296) (iMin2 (iSub .u64 4294967295 (iRem x 4294967296)) (iConv .u64 w.t))⟩,
   ⟨-2147483648, 2147483647⟩⟩
def isY (x : Int) : Bool := decide (0 ≤ x ∧ x < 256)
def isW (x : Int) : Bool := decide (0 ≤ x ∧ x < 4294967296)

def bConst (x : Int) : Bd := ⟨⟨x, 0⟩, ⟨x, x⟩, ⟨sgn x, sgn x⟩, ⟨x % 4294967296, x % 4294967296⟩, ⟨sg32 x, sg32 x⟩⟩

structure Two where
  a : Bd
  b : Bd
  is : Bool

def zB : Bd := ⟨⟨0, 0⟩, ⟨0, 0⟩, ⟨0, 0⟩, ⟨0, 0⟩, ⟨0, 0⟩⟩
def twoZ : Two := ⟨zB, zB, false⟩
def turnT (p : Two) : Two := ⟨p.b, p.a, p.is⟩
def upperM (wide : Bool) : Int := match wide with | true => 0 | false => 18446744069414584320
def seenM (t : P2) (wide : Bool) : P2 := match wide with | true => t | false => tLow t
def kT (t : P2) (wide : Bool) : P2 := match wide with | true => tOf t.lo t.hi | false => tOf t.lo (orU t.hi 18446744069414584320)
def knows (b : Bd) (t : P2) (wide : Bool) : Bd × Bool := ({ b with t := tMeet b.t (kT t wide) }, tMeetIs b.t (kT t wide))
def withW (b : Bd) (w v : P2) : Bd := { b with w := w, v := v }
def equalM (wide : Bool) (a b : Bd) : Two :=
  match wide with
  | true => ⟨meet5 a b, meet5 a b, true⟩
  | false => ⟨withW (knows a b.t false).1 (pMeet a.w b.w) (pMeet a.v b.v), withW (knows b a.t false).1 (pMeet a.w b.w) (pMeet a.v b.v), (knows a b.t false).2 && (knows b a.t false).2⟩
def plainM (k : IntKind) (s : P2) (n : Int) : P2 :=
  if s.lo = n ∧ s.hi = n then ⟨1, 0⟩ else if s.lo = n then ⟨iAdd k s.lo 1, s.hi⟩ else if s.hi = n then ⟨s.lo, iSub k s.hi 1⟩ else s
abbrev plainU := plainM .u64
abbrev plainI := plainM .i64
def unlikeM (wide : Bool) (a b : Bd) : Bd :=
  match wide with
  | true => if b.u.lo = b.u.hi then { a with u := plainM .u64 a.u b.u.lo, s := plainM .i64 a.s (sgn b.u.lo) } else a
  | false => if b.w.lo = b.w.hi then { a with w := plainM .u64 a.w b.w.lo, v := plainM .i64 a.v (sg32 b.w.lo) } else a
def aboveIs (by' : Int) (x y : P2) : Bool := decide (¬ (iAdd .u64 y.lo by' < by' ∨ x.hi < by'))
def aboveX (by' : Int) (x y : P2) : P2 := ⟨max x.lo (iAdd .u64 y.lo by'), x.hi⟩
def aboveY (by' : Int) (x y : P2) : P2 := ⟨y.lo, min y.hi (iSub .u64 x.hi by')⟩
def aboveM (wide : Bool) (by' : Int) (a b : Bd) : Two :=
  match wide with
  | true => (match aboveIs by' a.u b.u with | true => ⟨{ a with u := aboveX by' a.u b.u }, { b with u := aboveY by' a.u b.u }, true⟩ | false => twoZ)
  | false => (match aboveIs by' a.w b.w with | true => ⟨{ a with w := aboveX by' a.w b.w }, { b with w := aboveY by' a.w b.w }, true⟩ | false => twoZ)
def overIs (by' : Int) (x y : P2) : Bool := decide (¬ (iAdd .i64 y.lo by' < y.lo ∨ x.hi < iSub .i64 x.hi by'))
def overX (by' : Int) (x y : P2) : P2 := ⟨max x.lo (iAdd .i64 y.lo by'), x.hi⟩
def overY (by' : Int) (x y : P2) : P2 := ⟨y.lo, min y.hi (iSub .i64 x.hi by')⟩
def overM (wide : Bool) (by' : Int) (a b : Bd) : Two :=
  match wide with
  | true => (match overIs by' a.s b.s with | true => ⟨{ a with s := overX by' a.s b.s }, { b with s := overY by' a.s b.s }, true⟩ | false => twoZ)
  | false => (match overIs by' a.v b.v with | true => ⟨{ a with v := overX by' a.v b.v }, { b with v := overY by' a.v b.v }, true⟩ | false => twoZ)
def inv64 (x : Int) : Int := iBit .xor .u64 18446744073709551615 x
def one? (u : P2) : Bool := decide (u.hi = 0 ∧ andU u.lo (iSub .u64 u.lo 1) = 0)
def bitOf (a : Bd) (u : P2) : Bd × Bool := match one? u with | true => knows a ⟨u.lo, inv64 u.lo⟩ true | false => (a, true)
def commonIs (t u : P2) : Bool := decide (¬ andU (orU t.lo t.hi) (orU u.lo u.hi) = 0)
def commonM (wide : Bool) (a b : Bd) : Two :=
  match commonIs (seenM a.t wide) (seenM b.t wide) with
  | true => ⟨(bitOf a (seenM b.t wide)).1, (bitOf b (seenM a.t wide)).1, (bitOf a (seenM b.t wide)).2 && (bitOf b (seenM a.t wide)).2⟩
  | false => twoZ
def apartIs (t u : P2) : Bool := decide (andU t.lo u.lo = 0)
def apartM (wide : Bool) (a b : Bd) : Two :=
  match apartIs (seenM a.t wide) (seenM b.t wide) with
  | true => ⟨(knows a ⟨0, inv64 (seenM b.t wide).lo⟩ true).1, (knows b ⟨0, inv64 (seenM a.t wide).lo⟩ true).1, (knows a ⟨0, inv64 (seenM b.t wide).lo⟩ true).2 && (knows b ⟨0, inv64 (seenM a.t wide).lo⟩ true).2⟩
  | false => twoZ

def turned (c : Int) : Int × Bool :=
  if c = 10 then (2, true) else if c = 2 then (10, true) else if c = 11 then (3, true) else if c = 3 then (11, true) else if c = 12 then (6, true) else if c = 6 then (12, true)
  else if c = 13 then (7, true) else if c = 7 then (13, true) else if c = 1 then (1, true) else if c = 5 then (5, true) else if c = 4 then (4, true) else (0, false)
def other (c : Int) : Int × Bool :=
  if c = 10 then (3, true) else if c = 3 then (10, true) else if c = 11 then (2, true) else if c = 2 then (11, true) else if c = 12 then (7, true) else if c = 7 then (12, true)
  else if c = 13 then (6, true) else if c = 6 then (13, true) else if c = 1 then (5, true) else if c = 5 then (1, true) else (0, false)
def isCode (c : Int) : Bool := decide (c = 0 ∨ c = 1 ∨ c = 2 ∨ c = 3 ∨ c = 4 ∨ c = 5 ∨ c = 6 ∨ c = 7 ∨ c = 10 ∨ c = 11 ∨ c = 12 ∨ c = 13)
def codesM (c : Int) : Int := if c % 12 > 7 then c % 12 + 2 else c % 12

/-- The number as it is asked: as it is, or its lower half. -/
def lowM (wide : Bool) (x : Int) : Int := match wide with | true => x | false => x % 4294967296
def signM (wide : Bool) (x : Int) : Int := match wide with | true => sgn x | false => sg32 x
def asks (c : Int) (wide : Bool) (x y : Int) : Bool :=
  if c = 0 then true else if c = 1 then decide (lowM wide x = lowM wide y) else if c = 5 then decide (¬ lowM wide x = lowM wide y) else if c = 4 then decide (¬ andU (lowM wide x) (lowM wide y) = 0)
  else if c = 10 then decide (lowM wide x < lowM wide y) else if c = 11 then decide (lowM wide x ≤ lowM wide y) else if c = 2 then decide (lowM wide y < lowM wide x) else if c = 3 then decide (lowM wide y ≤ lowM wide x)
  else if c = 12 then decide (signM wide x < signM wide y) else if c = 13 then decide (signM wide x ≤ signM wide y) else if c = 6 then decide (signM wide y < signM wide x) else if c = 7 then decide (signM wide y ≤ signM wide x)
  else false
def asksE (c : Int) : Int := match isCode c with | true => 0 | false => 20

def holds (c : Int) (wide : Bool) (a b : Bd) : Two :=
  if c = 1 then equalM wide a b else if c = 5 then ⟨unlikeM wide a b, unlikeM wide b a, true⟩ else if c = 2 then aboveM wide 1 a b else if c = 3 then aboveM wide 0 a b
  else if c = 6 then overM wide 1 a b else if c = 7 then overM wide 0 a b else if c = 4 then commonM wide a b else if c = 0 then ⟨a, b, true⟩
  else if c = 10 then turnT (aboveM wide 1 b a) else if c = 11 then turnT (aboveM wide 0 b a) else if c = 12 then turnT (overM wide 1 b a) else if c = 13 then turnT (overM wide 0 b a)
  else ⟨a, b, true⟩

def sideM (c : Int) (wide so : Bool) (a b : Bd) : Two :=
  match bNone a || bNone b || (!so && decide (c = 0)) with
  | true => twoZ
  | false => match so with
    | true => holds c wide a b
    | false => match (other c).2 with
      | true => holds (other c).1 wide a b
      | false => apartM wide a b
/-- Is something left? -/
def left (p : Two) : Bool := p.is && !bNone (sync p.a) && !bNone (sync p.b)
def refA (c : Int) (wide so : Bool) (a b : Bd) : Bd := match isCode c with | false => zB | true => match left (sideM c wide so a b) with | true => sync (sideM c wide so a b).a | false => nothing
def refB (c : Int) (wide so : Bool) (a b : Bd) : Bd := match isCode c with | false => zB | true => match left (sideM c wide so a b) with | true => sync (sideM c wide so a b).b | false => nothing
def refIs (c : Int) (wide so : Bool) (a b : Bd) : Bool := match isCode c with | false => false | true => left (sideM c wide so a b)
def sureSo (c : Int) (wide : Bool) (a b : Bd) : Bool := isCode c && !bNone a && !bNone b && !refIs c wide false a b
def sureIs (c : Int) (wide : Bool) (a b : Bd) : Bool := isCode c && !bNone a && !bNone b && (!refIs c wide false a b || !refIs c wide true a b)

/-! how the code says these -/
theorem isY_iff {x : Int} : isY x = true ↔ 0 ≤ x ∧ x < 256 := by simp [isY]
theorem isW_iff {x : Int} : isW x = true ↔ 0 ≤ x ∧ x < 4294967296 := by simp [isW]
theorem add_y (x y : Int) : iAdd .u8 x y = (x + y) % 256 := rfl
theorem ne_dec (x y : Int) : iNe x y = decide (¬ x = y) := by rw [Bool.eq_iff_iff, ne_t, decide_eq_true_eq]
theorem pw0 : pw 0 = 1 := rfl
theorem pw32 : pw 32 = 4294967296 := rfl
theorem shl0 {x : Int} (h : isU x = true) : iShr .u64 (iShl .u64 x 0) 0 = x := by
  have := isU_iff.1 h
  rw [shr_u', shl_u, pw0]; omega
theorem shl32 {x : Int} (h : isU x = true) : iShr .u64 (iShl .u64 x 32) 32 = x % 4294967296 := by
  have := isU_iff.1 h
  rw [shr_u', shl_u, pw32]; omega
theorem sar0 {x : Int} (h : isU x = true) : iShr .i64 (iConv .i64 (iShl .u64 x 0)) 0 = sgn x := by
  have := isU_iff.1 h
  rw [shr_i', conv_i, shl_u, pw0]
  unfold sgn; split <;> omega
theorem sar32 (x : Int) : iShr .i64 (iConv .i64 (iShl .u64 (x % 4294967296) 32)) 32 = sg32 x := by
  rw [shr_i', conv_i, shl_u, pw32]
  unfold sg32; split <;> omega
theorem and_max {x : Int} (h : isU x = true) : iBit .and .u64 x 18446744073709551615 = x := by
  refine tb_ext (and_u h (by decide)) h fun i => ?_
  rw [show iBit .and .u64 x 18446744073709551615 = andU x 18446744073709551615 from rfl, tb_and h (by decide)]
  have e := (ones_u (k := 64) (Nat.le_refl _)).2 i
  have e2 : ((2 : Int) ^ 64 - 1) = 18446744073709551615 := by decide
  rw [e2] at e
  rw [e]
  by_cases hi : i < 64
  · simp [hi]
  · rw [tb_big h (by omega)]; simp
theorem or_zero {x : Int} (h : isU x = true) : iBit .or .u64 x 0 = x := by
  refine tb_ext (or_u h (by decide)) h fun i => ?_
  rw [show iBit .or .u64 x 0 = orU x 0 from rfl, tb_or h (by decide), tb_zero, Bool.or_false]
theorem sync_one : sync ⟨⟨0, 0⟩, ⟨1, 0⟩, ⟨0, 0⟩, ⟨0, 0⟩, ⟨0, 0⟩⟩ = nothing := rfl

/-! the numbers stay what their types may hold -/
theorem zB_raw : Raw5 zB := ⟨⟨by decide, by decide⟩, ⟨by decide, by decide⟩, ⟨by decide, by decide⟩, ⟨by decide, by decide⟩, ⟨by decide, by decide⟩⟩
theorem max64 : isU 18446744073709551615 = true := by decide
theorem inv_u {x : Int} (h : isU x = true) : isU (inv64 x) = true := xor_u max64 h
theorem kT_uu {t : P2} (h : UU t) (wide : Bool) : UU (kT t wide) := by
  cases wide
  · exact tOf_uu h.1 (or_u h.2 high32)
  · exact tOf_uu h.1 h.2
theorem knows_raw {b : Bd} {t : P2} (r : Raw5 b) (h : UU t) (wide : Bool) : Raw5 (knows b t wide).1 := ⟨meet_uu r.t (kT_uu h wide), r.u, r.s, r.w, r.v⟩
theorem seen_uu {t : P2} (h : UU t) (wide : Bool) : UU (seenM t wide) := by
  cases wide
  · exact low_uu h
  · exact h
theorem wrapU_u (x : Int) : isU (IntKind.wrap .u64 x) = true := by rw [IntKind.wrap_u64, isU_iff]; omega
theorem wrapI_i (x : Int) : isI (IntKind.wrap .i64 x) = true := by rw [IntKind.wrap_i64, isI_iff]; omega
theorem isU01 : isU 1 = true ∧ isU 0 = true := ⟨by decide, by decide⟩
theorem isI01 : isI 1 = true ∧ isI 0 = true := ⟨by decide, by decide⟩
theorem plain_uu {s : P2} (h : UU s) (n : Int) : UU (plainM .u64 s n) := by
  unfold plainM
  split
  · exact isU01
  · split
    · exact ⟨wrapU_u _, h.2⟩
    · split
      · exact ⟨h.1, wrapU_u _⟩
      · exact h
theorem plain_ii {s : P2} (h : II s) (n : Int) : II (plainM .i64 s n) := by
  unfold plainM
  split
  · exact ⟨isI_iff.1 isI01.1, isI_iff.1 isI01.2⟩
  · split
    · exact ⟨isI_iff.1 (wrapI_i _), h.2⟩
    · split
      · exact ⟨h.1, isI_iff.1 (wrapI_i _)⟩
      · exact h
theorem max_u {x y : Int} (h : isU x = true) (k : isU y = true) : isU (max x y) = true := by rw [isU_iff] at *; omega
theorem min_u {x y : Int} (h : isU x = true) (k : isU y = true) : isU (min x y) = true := by rw [isU_iff] at *; omega
theorem aboveX_uu {x y : P2} (n : Int) (h : UU x) : UU (aboveX n x y) := ⟨max_u h.1 (wrapU_u _), h.2⟩
theorem aboveY_uu {x y : P2} (n : Int) (h : UU y) : UU (aboveY n x y) := ⟨h.1, min_u h.2 (wrapU_u _)⟩
theorem overX_ii {x y : P2} (n : Int) (h : II x) : II (overX n x y) := by
  have := isI_iff.1 (wrapI_i (y.lo + n))
  refine ⟨?_, h.2⟩
  have h1 := h.1
  show -9223372036854775808 ≤ max x.lo (iAdd .i64 y.lo n) ∧ max x.lo (iAdd .i64 y.lo n) < 9223372036854775808
  unfold iAdd; omega
theorem overY_ii {x y : P2} (n : Int) (h : II y) : II (overY n x y) := by
  have := isI_iff.1 (wrapI_i (x.hi - n))
  refine ⟨h.1, ?_⟩
  have h1 := h.2
  show -9223372036854775808 ≤ min y.hi (iSub .i64 x.hi n) ∧ min y.hi (iSub .i64 x.hi n) < 9223372036854775808
  unfold iSub; omega
def RawT (p : Two) : Prop := Raw5 p.a ∧ Raw5 p.b
theorem RawT.turn {p : Two} (h : RawT p) : RawT (turnT p) := ⟨h.2, h.1⟩
theorem twoZ_raw : RawT twoZ := ⟨zB_raw, zB_raw⟩
theorem sync_raw {b : Bd} (r : Raw5 b) : Raw5 (sync b) := (sync_ok r).1.raw
theorem nothing_raw : Raw5 nothing := nothing_inv.raw
theorem meet5_raw {a b : Bd} (ha : Raw5 a) (hb : Raw5 b) : Raw5 (meet5 a b) := by
  unfold meet5
  split
  · exact nothing_raw
  · exact sync_raw ⟨meet_uu ha.t hb.t, meet_uu2 ha.u hb.u, meet_ii ha.s hb.s, meet_uu2 ha.w hb.w, meet_ii ha.v hb.v⟩
theorem equal_raw {a b : Bd} (ha : Raw5 a) (hb : Raw5 b) (wide : Bool) : RawT (equalM wide a b) := by
  cases wide
  · have h1 := knows_raw ha hb.t false
    have h2 := knows_raw hb ha.t false
    exact ⟨⟨h1.t, h1.u, h1.s, meet_uu2 ha.w hb.w, meet_ii ha.v hb.v⟩, ⟨h2.t, h2.u, h2.s, meet_uu2 ha.w hb.w, meet_ii ha.v hb.v⟩⟩
  · exact ⟨meet5_raw ha hb, meet5_raw ha hb⟩
theorem unlike_raw {a b : Bd} (ha : Raw5 a) (wide : Bool) : Raw5 (unlikeM wide a b) := by
  cases wide <;> unfold unlikeM <;> simp only <;> split
  · exact ⟨ha.t, ha.u, ha.s, plain_uu ha.w _, plain_ii ha.v _⟩
  · exact ha
  · exact ⟨ha.t, plain_uu ha.u _, plain_ii ha.s _, ha.w, ha.v⟩
  · exact ha
theorem above_raw {a b : Bd} (ha : Raw5 a) (hb : Raw5 b) (wide : Bool) (n : Int) : RawT (aboveM wide n a b) := by
  cases wide <;> unfold aboveM <;> simp only <;> split
  · exact ⟨⟨ha.t, ha.u, ha.s, aboveX_uu n ha.w, ha.v⟩, ⟨hb.t, hb.u, hb.s, aboveY_uu n hb.w, hb.v⟩⟩
  · exact twoZ_raw
  · exact ⟨⟨ha.t, aboveX_uu n ha.u, ha.s, ha.w, ha.v⟩, ⟨hb.t, aboveY_uu n hb.u, hb.s, hb.w, hb.v⟩⟩
  · exact twoZ_raw
theorem over_raw {a b : Bd} (ha : Raw5 a) (hb : Raw5 b) (wide : Bool) (n : Int) : RawT (overM wide n a b) := by
  cases wide <;> unfold overM <;> simp only <;> split
  · exact ⟨⟨ha.t, ha.u, ha.s, ha.w, overX_ii n ha.v⟩, ⟨hb.t, hb.u, hb.s, hb.w, overY_ii n hb.v⟩⟩
  · exact twoZ_raw
  · exact ⟨⟨ha.t, ha.u, overX_ii n ha.s, ha.w, ha.v⟩, ⟨hb.t, hb.u, overY_ii n hb.s, hb.w, hb.v⟩⟩
  · exact twoZ_raw
theorem bitOf_raw {a : Bd} {u : P2} (ha : Raw5 a) (hu : UU u) : Raw5 (bitOf a u).1 := by
  unfold bitOf
  split
  · exact knows_raw (t := ⟨u.lo, inv64 u.lo⟩) ha ⟨hu.1, inv_u hu.1⟩ true
  · exact ha
theorem common_raw {a b : Bd} (ha : Raw5 a) (hb : Raw5 b) (wide : Bool) : RawT (commonM wide a b) := by
  unfold commonM
  split
  · exact ⟨bitOf_raw ha (seen_uu hb.t wide), bitOf_raw hb (seen_uu ha.t wide)⟩
  · exact twoZ_raw
theorem apart_raw {a b : Bd} (ha : Raw5 a) (hb : Raw5 b) (wide : Bool) : RawT (apartM wide a b) := by
  unfold apartM
  split
  · exact ⟨knows_raw (t := ⟨0, inv64 (seenM b.t wide).lo⟩) ha ⟨isU01.2, inv_u (seen_uu hb.t wide).1⟩ true, knows_raw (t := ⟨0, inv64 (seenM a.t wide).lo⟩) hb ⟨isU01.2, inv_u (seen_uu ha.t wide).1⟩ true⟩
  · exact twoZ_raw
/-- What holds of each of its ways holds of it. -/
theorem holds_ind {Q : Two → Prop} {c : Int} {wide : Bool} {a b : Bd} (h1 : c = 1 → Q (equalM wide a b)) (h5 : c = 5 → Q ⟨unlikeM wide a b, unlikeM wide b a, true⟩) (h2 : c = 2 → Q (aboveM wide 1 a b)) (h3 : c = 3 → Q (aboveM wide 0 a b))
    (h6 : c = 6 → Q (overM wide 1 a b)) (h7 : c = 7 → Q (overM wide 0 a b)) (h4 : c = 4 → Q (commonM wide a b)) (h0 : Q ⟨a, b, true⟩) (h10 : c = 10 → Q (turnT (aboveM wide 1 b a))) (h11 : c = 11 → Q (turnT (aboveM wide 0 b a)))
    (h12 : c = 12 → Q (turnT (overM wide 1 b a))) (h13 : c = 13 → Q (turnT (overM wide 0 b a))) : Q (holds c wide a b) := by
  unfold holds
  by_cases e : c = 1
  · rw [if_pos e]; exact h1 e
  rw [if_neg e]
  by_cases e : c = 5
  · rw [if_pos e]; exact h5 e
  rw [if_neg e]
  by_cases e : c = 2
  · rw [if_pos e]; exact h2 e
  rw [if_neg e]
  by_cases e : c = 3
  · rw [if_pos e]; exact h3 e
  rw [if_neg e]
  by_cases e : c = 6
  · rw [if_pos e]; exact h6 e
  rw [if_neg e]
  by_cases e : c = 7
  · rw [if_pos e]; exact h7 e
  rw [if_neg e]
  by_cases e : c = 4
  · rw [if_pos e]; exact h4 e
  rw [if_neg e]
  by_cases e : c = 0
  · rw [if_pos e]; exact h0
  rw [if_neg e]
  by_cases e : c = 10
  · rw [if_pos e]; exact h10 e
  rw [if_neg e]
  by_cases e : c = 11
  · rw [if_pos e]; exact h11 e
  rw [if_neg e]
  by_cases e : c = 12
  · rw [if_pos e]; exact h12 e
  rw [if_neg e]
  by_cases e : c = 13
  · rw [if_pos e]; exact h13 e
  rw [if_neg e]
  exact h0
theorem holds_raw {a b : Bd} (ha : Raw5 a) (hb : Raw5 b) (c : Int) (wide : Bool) : RawT (holds c wide a b) :=
  holds_ind (fun _ => equal_raw ha hb wide) (fun _ => ⟨unlike_raw ha wide, unlike_raw hb wide⟩) (fun _ => above_raw ha hb wide 1) (fun _ => above_raw ha hb wide 0) (fun _ => over_raw ha hb wide 1) (fun _ => over_raw ha hb wide 0)
    (fun _ => common_raw ha hb wide) ⟨ha, hb⟩ (fun _ => (above_raw hb ha wide 1).turn) (fun _ => (above_raw hb ha wide 0).turn) (fun _ => (over_raw hb ha wide 1).turn) (fun _ => (over_raw hb ha wide 0).turn)
theorem side_raw {a b : Bd} (ha : Raw5 a) (hb : Raw5 b) (c : Int) (wide so : Bool) : RawT (sideM c wide so a b) := by
  unfold sideM
  repeat' split
  · exact twoZ_raw
  · exact holds_raw ha hb _ wide
  · exact holds_raw ha hb _ wide
  · exact apart_raw ha hb wide

end Go.Proofs.YtafpbibpahjnhaaGreat.L05
