/- Layer 5: more of what its functions reckon, in plain Lean. A text of the session's own. -/
import Derived.Test.YtafpbibpahjnhaaGreatL06D
namespace Go.Proofs.YtafpbibpahjnhaaGreat.L05
open Go Go.RowKit Go.Proofs.YtafpbibpahjnhaaGreat.Sx
set_option linter.unusedVariables false

def oneIs (b : Bd) : Bool := decide (b.t.hi = 0) && bHas b b.t.lo
def oneV (b : Bd) : Int := match oneIs b with | true => b.t.lo | false => 0
def tAndM (a b : P2) : P2 := ⟨andU a.lo b.lo, notU (andU (orU a.lo a.hi) (orU b.lo b.hi)) (andU a.lo b.lo)⟩

/-! what the laws of single bounds say -/
theorem one_const {x : Int} (hx : isU x = true) : oneIs (bConst x) = true ∧ oneV (bConst x) = x := by
  obtain ⟨i, k⟩ := const_ok hx
  have h : oneIs (bConst x) = true := by
    unfold oneIs
    rw [Bool.and_eq_true, decide_eq_true_eq]
    exact ⟨rfl, (bHas_iff i.t.1 hx).2 k⟩
  exact ⟨h, by unfold oneV; rw [h]; rfl⟩
/-- A bound that knows all bits of its one number. -/
theorem one_of {a : Bd} {x : Int} (ha : Inv5 a) (hx : isU x = true) (ka : HasB a x) : (oneIs a = true ↔ a.t.hi = 0) ∧ (a.t.hi = 0 → a.t.lo = x) := by
  have el : a.t.hi = 0 → a.t.lo = x := fun h => tb_ext ha.t.1.1 hx fun i => by
    have := ka.t i
    rw [h, tb_zero] at this
    simpa using this.symm
  refine ⟨?_, el⟩
  unfold oneIs
  rw [Bool.and_eq_true, decide_eq_true_eq]
  exact ⟨fun h => h.1, fun h => ⟨h, by rw [el h]; exact (bHas_iff ha.t.1 hx).2 ka⟩⟩
theorem one_only {a : Bd} {x y : Int} (ha : Inv5 a) (hx : isU x = true) (hy : isU y = true) (ka : HasB a x) (kb : HasB a y) (h : a.t.hi = 0) : x = y := by
  rw [← (one_of ha hx ka).2 h, ← (one_of ha hy kb).2 h]
theorem any_inv : Inv5 anyB := by
  refine ⟨⟨⟨by decide, by decide⟩, fun i => by show (tb 0 i && tb 18446744073709551615 i) = false; rw [tb_zero]; rfl⟩, ⟨by decide, by decide⟩, by unfold II anyB; decide, by unfold WW anyB; decide, by unfold VV anyB; decide⟩
theorem any_has {x : Int} (hx : isU x = true) : HasB anyB x := by
  have x0 := isU_iff.1 hx
  have h1 := sgn_range hx
  have h2 := sg32_range x
  refine ⟨fun i => ?_, ?_, ?_, ?_, ?_⟩
  · show (tb x i && !tb 18446744073709551615 i) = tb 0 i
    have e := (ones_u (k := 64) (Nat.le_refl _)).2 i
    have e2 : ((2 : Int) ^ 64 - 1) = 18446744073709551615 := by decide
    rw [e2] at e
    rw [e, tb_zero]
    by_cases hi : i < 64
    · simp [hi]
    · rw [tb_big hx (by omega)]; rfl
  all_goals unfold Mid anyB; dsimp only; omega
theorem const_sub {x : Int} {b : Bd} (hx : isU x = true) (hb : Inv5 b) (k : HasB b x) : Sub (bConst x) b := by
  refine ⟨fun i => ⟨?_, ?_⟩, k.u, k.s, k.w, k.v⟩
  · show (tb 0 i && _) = false; rw [tb_zero]; rfl
  · exact k.t i
theorem const_in {x : Int} {b : Bd} (hx : isU x = true) (hb : Inv5 b) (k : HasB b x) : bIn (bConst x) b = true :=
  in_of_sub (const_ok hx).1.raw hb.raw fun _ => ⟨const_sub hx hb k, k.some⟩
theorem const_has {x y : Int} (hx : isU x = true) (hy : isU y = true) : bHas (bConst x) y = decide (x = y) := by
  obtain ⟨i, k⟩ := const_ok hx
  rw [Bool.eq_iff_iff, decide_eq_true_eq, bHas_iff i.t.1 hy]
  constructor
  · intro h; exact one_only i hx hy k h rfl
  · intro h; subst h; exact k
theorem in_refl {a : Bd} (ha : Inv5 a) : bIn a a = true := in_of_sub ha.raw ha.raw fun h => ⟨Sub.refl ha.t, h⟩
theorem in_trans {a b c : Bd} (ha : Raw5 a) (hb : Raw5 b) (hc : Raw5 c) (h : bIn a b = true) (k : bIn b c = true) : bIn a c = true := by
  refine in_of_sub ha hc fun hn => ?_
  obtain ⟨s1, n1⟩ := sub_of_in ha hb h hn
  obtain ⟨s2, n2⟩ := sub_of_in hb hc k n1
  exact ⟨s1.trans s2, n2⟩
theorem meet_in1 {a b : Bd} (ha : Inv5 a) (hb : Inv5 b) : bIn (meet5 a b) a = true := in_of_sub (meet5_inv ha hb).raw ha.raw fun h => (meet5_sub ha hb h).1
theorem meet_in2 {a b : Bd} (ha : Inv5 a) (hb : Inv5 b) : bIn (meet5 a b) b = true := in_of_sub (meet5_inv ha hb).raw hb.raw fun h => (meet5_sub ha hb h).2
theorem sync_in {a : Bd} (ha : Inv5 a) : bIn (sync a) a = true := in_of_sub (sync_ok ha.raw).1.raw ha.raw fun h => (sync_ok ha.raw).2.1 h
theorem sync_has_eq {a : Bd} {y : Int} (ha : Inv5 a) (hy : isU y = true) : bHas (sync a) y = bHas a y := by
  rw [Bool.eq_iff_iff, bHas_iff (sync_ok ha.raw).1.t.1 hy, bHas_iff ha.t.1 hy]
  exact ⟨fun h => sync_has' ha.raw h, fun h => sync_has ha hy h⟩
theorem meet_has_eq {a b : Bd} {y : Int} (ha : Inv5 a) (hb : Inv5 b) (hy : isU y = true) : bHas (meet5 a b) y = (bHas a y && bHas b y) := by
  rw [Bool.eq_iff_iff, Bool.and_eq_true, bHas_iff (meet5_inv ha hb).t.1 hy, bHas_iff ha.t.1 hy, bHas_iff hb.t.1 hy]
  constructor
  · intro h
    obtain ⟨⟨s1, _⟩, s2, _⟩ := meet5_sub ha hb h.some
    exact ⟨s1.has h, s2.has h⟩
  · intro h; exact meet5_has ha hb hy h.1 h.2
end Go.Proofs.YtafpbibpahjnhaaGreat.L05
