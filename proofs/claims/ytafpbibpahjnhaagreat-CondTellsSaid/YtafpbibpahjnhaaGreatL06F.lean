/- The document's answer of layer 6: it comes to the same. Plain Lean. A text of the session's own. -/
import Derived.Test.YtafpbibpahjnhaaGreatL06D
import Derived.Test.YtafpbibpahjnhaaGreatL05Z
namespace Go.Proofs.YtafpbibpahjnhaaGreat.L05
open Go Go.RowKit Go.Proofs.YtafpbibpahjnhaaGreat.Sx
set_option linter.unusedVariables false
def gone6 : Two := ⟨nothing, nothing, false⟩
/-- nothing is told of what may not be -/
def fixT (p : Two) : Two := match p.is with | true => p | false => gone6
theorem fix_turn (p : Two) : fixT (turnT p) = turnT (fixT p) := by
  unfold fixT
  show (match p.is with | true => turnT p | false => gone6) = _
  cases p.is <;> rfl
theorem fix_raw {p : Two} (h : RawT p) : RawT (fixT p) := by
  unfold fixT
  cases p.is
  · exact ⟨nothing_raw, nothing_raw⟩
  · exact h
def isWu (x : Int) : Bool := decide (0 ≤ x ∧ x < 4294967296)
theorem isWu_iff {x : Int} : isWu x = true ↔ 0 ≤ x ∧ x < 4294967296 := by simp [isWu]
def lowK (t : P2) : P2 := ⟨(tLowN t 32).lo, orU (tLowN t 32).hi 18446744069414584320⟩
theorem lowK_eq {t : P2} (h : TM t) : lowK t = kT t false := by
  obtain ⟨⟨h1, h2⟩, h3⟩ := h
  unfold lowK kT tOf
  rw [tLowN32]
  have e1 : (tLow t).lo = notU t.lo (orU t.hi 18446744069414584320) := by
    refine tb_ext (low_uu ⟨h1, h2⟩).1 (not_u h1 (or_u h2 high32)) fun i => ?_
    show tb (andU t.lo 4294967295) i = _
    rw [tb_and h1 low32, tb_not h1 (or_u h2 high32), tb_or h2 high32, tb_low32, tb_high32]
    have := h3 i
    by_cases hi : i < 32
    · simp only [hi, decide_true, Bool.not_true, Bool.and_false, Bool.or_false, Bool.and_true]
      revert this; cases tb t.lo i <;> cases tb t.hi i <;> decide
    · by_cases hj : i < 64
      · simp [hi, hj]
      · rw [tb_big h1 (by omega)]; simp
  have e2 : orU (tLow t).hi 18446744069414584320 = orU t.hi 18446744069414584320 := by
    refine tb_ext (or_u (low_uu ⟨h1, h2⟩).2 high32) (or_u h2 high32) fun i => ?_
    rw [tb_or (low_uu ⟨h1, h2⟩).2 high32, tb_or h2 high32, show tb (tLow t).hi i = tb (andU t.hi 4294967295) i from rfl, tb_and h2 low32, tb_low32, tb_high32]
    by_cases hi : i < 32
    · simp [hi]
    · by_cases hj : i < 64
      · simp [hi, hj]
      · rw [tb_big h2 (by omega)]; simp
  rw [e1, e2]
theorem seen_tm {t : P2} (h : TM t) (w : Bool) : TM (seenM t w) := by
  cases w
  · show TM (tLow t); rw [← tLowN32]; exact lowN_tm h 32
  · exact h
/-- one bit, and no more, is known -/
theorem one_k {x : Int} (hx : isU x = true) : kT ⟨x, inv64 x⟩ true = ⟨x, inv64 x⟩ := by
  unfold kT tOf
  have : notU x (inv64 x) = x := by
    have hi := inv_u hx
    refine tb_ext (not_u hx hi) hx fun i => ?_
    rw [tb_not hx hi]
    have : tb (inv64 x) i = (tb 18446744073709551615 i ^^ tb x i) := tb_xor max64 hx i
    rw [this]
    have e := (ones_u (k := 64) (Nat.le_refl _)).2 i
    have e2 : ((2 : Int) ^ 64 - 1) = 18446744073709551615 := by decide
    rw [e2] at e
    rw [e]
    by_cases hj : i < 64
    · simp [hj]
    · rw [tb_big hx (by omega)]; rfl
  rw [this]
theorem zero_k {x : Int} (hx : isU x = true) : kT ⟨0, inv64 x⟩ true = ⟨0, inv64 x⟩ := by
  unfold kT tOf; rw [notU_zero (inv_u hx)]
theorem mask_tm {x : Int} (hx : isU x = true) : TM ⟨0, inv64 x⟩ := ⟨⟨(by decide : isU 0 = true), inv_u hx⟩, fun i => by show (tb 0 i && _) = false; rw [tb_zero]; rfl⟩
theorem bit_tm {x : Int} (hx : isU x = true) : TM ⟨x, inv64 x⟩ := by have h := kT_tm (t := ⟨x, inv64 x⟩) ⟨hx, inv_u hx⟩ true; rwa [one_k hx] at h
def withT (b : Bd) (t : P2) : Bd := { b with t := t }
theorem knows_one {b : Bd} {x : Int} (hx : isU x = true) : knows b ⟨x, inv64 x⟩ true = (withT b (tMeet b.t ⟨x, inv64 x⟩), tMeetIs b.t ⟨x, inv64 x⟩) := by
  unfold knows; rw [one_k hx]; rfl
theorem knows_zero {b : Bd} {x : Int} (hx : isU x = true) : knows b ⟨0, inv64 x⟩ true = (withT b (tMeet b.t ⟨0, inv64 x⟩), tMeetIs b.t ⟨0, inv64 x⟩) := by
  unfold knows; rw [zero_k hx]; rfl
theorem knows_half {b : Bd} {t : P2} (ht : TM t) : knows b t false = (withT b (tMeet b.t (lowK t)), tMeetIs b.t (lowK t)) := by
  unfold knows; rw [lowK_eq ht]; rfl
section
variable {a b : Bd} {wide : Bool}
/-! one by one -/
theorem eq_half (ha : TM a.t) (hb : TM b.t) : fixT (equalM false a b) = match tMeetIs a.t (lowK b.t) && tMeetIs b.t (lowK a.t) with
    | true => ⟨withW (withT a (tMeet a.t (lowK b.t))) (pMeet a.w b.w) (pMeet a.v b.v), withW (withT b (tMeet b.t (lowK a.t))) (pMeet a.w b.w) (pMeet a.v b.v), true⟩
    | false => gone6 := by
  unfold fixT equalM
  rw [knows_half ha, knows_half hb]
  dsimp only
  cases tMeetIs a.t (lowK b.t) && tMeetIs b.t (lowK a.t) <;> rfl
theorem sign_half {x : Int} (h : 0 ≤ x ∧ x < 4294967296) : sg32 x = if 2147483648 ≤ x then x - 4294967296 else x := by
  unfold sg32; split <;> split <;> omega
/-- the bits of one that both have, as the document has it -/
def aloneQ (x : Int) : Bool := decide (¬ x = 0 ∧ andU x (iSub .u64 x 1) = 0)
theorem set_eq (ha : TM a.t) (hb : TM b.t) : fixT (commonM wide a b) = match commonIs (seenM a.t wide) (seenM b.t wide) with
    | false => gone6
    | true => match decide ((seenM b.t wide).hi = 0) && aloneQ (seenM b.t wide).lo with
      | true => (match tMeetIs a.t ⟨(seenM b.t wide).lo, inv64 (seenM b.t wide).lo⟩ with
        | false => gone6
        | true => match decide ((seenM a.t wide).hi = 0) && aloneQ (seenM a.t wide).lo with
          | true => (match tMeetIs b.t ⟨(seenM a.t wide).lo, inv64 (seenM a.t wide).lo⟩ with
            | false => gone6
            | true => ⟨withT a (tMeet a.t ⟨(seenM b.t wide).lo, inv64 (seenM b.t wide).lo⟩), withT b (tMeet b.t ⟨(seenM a.t wide).lo, inv64 (seenM a.t wide).lo⟩), true⟩)
          | false => ⟨withT a (tMeet a.t ⟨(seenM b.t wide).lo, inv64 (seenM b.t wide).lo⟩), b, true⟩)
      | false => match decide ((seenM a.t wide).hi = 0) && aloneQ (seenM a.t wide).lo with
          | true => (match tMeetIs b.t ⟨(seenM a.t wide).lo, inv64 (seenM a.t wide).lo⟩ with
            | false => gone6
            | true => ⟨a, withT b (tMeet b.t ⟨(seenM a.t wide).lo, inv64 (seenM a.t wide).lo⟩), true⟩)
          | false => ⟨a, b, true⟩ := by
  have sa := seen_tm ha wide
  have sb := seen_tm hb wide
  unfold fixT commonM
  cases hc : commonIs (seenM a.t wide) (seenM b.t wide) with
  | false => rfl
  | true =>
    have hc' : ¬ andU (orU (seenM a.t wide).lo (seenM a.t wide).hi) (orU (seenM b.t wide).lo (seenM b.t wide).hi) = 0 := of_decide_eq_true hc
    have one : ∀ t : P2, (t = seenM a.t wide ∨ t = seenM b.t wide) → one? t = (decide (t.hi = 0) && aloneQ t.lo) := by
      intro t ht
      unfold one? aloneQ
      rw [Bool.eq_iff_iff]
      simp only [decide_eq_true_eq, Bool.and_eq_true]
      constructor
      · rintro ⟨h1, h2⟩
        refine ⟨h1, fun hz => hc' ?_, h2⟩
        have e0 : orU t.lo t.hi = 0 := by rw [h1, hz]; decide
        rcases ht with rfl | rfl
        · rw [e0]; exact (andU_zero (or_u sb.1.1 sb.1.2)).2
        · rw [e0]; exact (andU_zero (or_u sa.1.1 sa.1.2)).1
      · rintro ⟨h1, _, h2⟩; exact ⟨h1, h2⟩
    have o1 := one _ (.inr rfl)
    have o2 := one _ (.inl rfl)
    dsimp only
    unfold bitOf
    rw [o1, o2]
    cases e1 : decide ((seenM b.t wide).hi = 0) && aloneQ (seenM b.t wide).lo <;> cases e2 : decide ((seenM a.t wide).hi = 0) && aloneQ (seenM a.t wide).lo <;> dsimp only
    · rfl
    · rw [knows_one sa.1.1]; dsimp only [Bool.true_and]; cases tMeetIs b.t ⟨(seenM a.t wide).lo, inv64 (seenM a.t wide).lo⟩ <;> rfl
    · rw [knows_one sb.1.1]; dsimp only; cases tMeetIs a.t ⟨(seenM b.t wide).lo, inv64 (seenM b.t wide).lo⟩ <;> rfl
    · rw [knows_one sa.1.1, knows_one sb.1.1]; dsimp only; cases tMeetIs a.t ⟨(seenM b.t wide).lo, inv64 (seenM b.t wide).lo⟩ <;> cases tMeetIs b.t ⟨(seenM a.t wide).lo, inv64 (seenM a.t wide).lo⟩ <;> rfl
theorem clear_eq (ha : TM a.t) (hb : TM b.t) : fixT (apartM wide a b) = match apartIs (seenM a.t wide) (seenM b.t wide) with
    | false => gone6
    | true => match tMeetIs a.t ⟨0, inv64 (seenM b.t wide).lo⟩ && tMeetIs b.t ⟨0, inv64 (seenM a.t wide).lo⟩ with
      | true => ⟨withT a (tMeet a.t ⟨0, inv64 (seenM b.t wide).lo⟩), withT b (tMeet b.t ⟨0, inv64 (seenM a.t wide).lo⟩), true⟩
      | false => gone6 := by
  have sa := seen_tm ha wide
  have sb := seen_tm hb wide
  unfold fixT apartM
  cases apartIs (seenM a.t wide) (seenM b.t wide) with
  | false => rfl
  | true =>
    dsimp only
    rw [knows_zero sb.1.1, knows_zero sa.1.1]
    dsimp only
    cases tMeetIs a.t ⟨0, inv64 (seenM b.t wide).lo⟩ && tMeetIs b.t ⟨0, inv64 (seenM a.t wide).lo⟩ <;> rfl
end
def otherR (c : Int) : Int := match (other c).2 with | true => (other c).1 | false => c
/-- what is left of a pair -/
def endA (p : Two) : Bd := match left p with | true => sync p.a | false => nothing
def endB (p : Two) : Bd := match left p with | true => sync p.b | false => nothing
theorem left_fix (p : Two) : left (fixT p) = left p := by
  unfold fixT
  cases h : p.is with
  | true => rfl
  | false => unfold left; rw [h]; rfl
theorem endA_fix (p : Two) : endA (fixT p) = endA p := by
  unfold endA
  rw [left_fix]
  cases h : left p with
  | false => rfl
  | true => unfold fixT; unfold left at h; cases hi : p.is <;> rw [hi] at h <;> simp_all
theorem endB_fix (p : Two) : endB (fixT p) = endB p := by
  unfold endB
  rw [left_fix]
  cases h : left p with
  | false => rfl
  | true => unfold fixT; unfold left at h; cases hi : p.is <;> rw [hi] at h <;> simp_all
theorem ref_end {c : Int} {wide so : Bool} {a b : Bd} (hc : isCode c = true) : refA c wide so a b = endA (sideM c wide so a b) ∧ refB c wide so a b = endB (sideM c wide so a b) ∧ refIs c wide so a b = left (sideM c wide so a b) := by
  unfold refA refB refIs; rw [hc]; exact ⟨rfl, rfl, rfl⟩
end Go.Proofs.YtafpbibpahjnhaaGreat.L05
namespace Go.Proofs.YtafpbibpahjnhaaGreat.L05
open Go Go.RowKit Go.Proofs.YtafpbibpahjnhaaGreat.Sx
def is01 (n : Int) : Bool := decide (n = 0 ∨ n = 1)
theorem lowK_tm {t : P2} (h : TM t) : TM (lowK t) := by rw [lowK_eq h]; exact kT_tm h.1 false
theorem otherR_code {c : Int} (hc : isCode c = true) : isCode (otherR c) = true := by
  rcases code_cases hc with rfl | rfl | rfl | rfl | rfl | rfl | rfl | rfl | rfl | rfl | rfl | rfl <;> decide
theorem side_o {c : Int} {wide so : Bool} {a b : Bd} (na : bNone a = false) (nb : bNone b = false) (hs : so = false) (hc : isCode c = true) (h4 : ¬ c = 4) (h0 : ¬ c = 0) : sideM c wide so a b = holds (otherR c) wide a b := by
  have ho : (other c).2 = true := by
    cases e : (other c).2 with
    | true => rfl
    | false => rcases other_none hc e with h | h; exact absurd h h0; exact absurd h h4
  unfold sideM otherR
  rw [na, nb, hs, decide_eq_false h0, ho]; rfl
end Go.Proofs.YtafpbibpahjnhaaGreat.L05
