/- Layer 6: the plain laws of questions: soundness, what is known of two numbers alone, turning about; plain Lean. A text of the session's own. -/
import Derived.Test.YtafpbibpahjnhaaGreatL06C
namespace Go.Proofs.YtafpbibpahjnhaaGreat.L05
open Go Go.RowKit Go.Proofs.YtafpbibpahjnhaaGreat.Sx
set_option linter.unusedVariables false

theorem code_cases {c : Int} (h : isCode c = true) : c = 0 ∨ c = 1 ∨ c = 2 ∨ c = 3 ∨ c = 4 ∨ c = 5 ∨ c = 6 ∨ c = 7 ∨ c = 10 ∨ c = 11 ∨ c = 12 ∨ c = 13 := by simpa only [isCode, decide_eq_true_eq] using h
theorem codes_code {c : Int} (h : 0 ≤ c) : isCode (codesM c) = true := by
  unfold codesM
  split <;> (unfold isCode; rw [decide_eq_true_eq]; omega)

section
variable {wide : Bool} {x y : Int}
theorem asks0 : asks 0 wide x y = true := rfl
theorem asks1 : asks 1 wide x y = decide (lowM wide x = lowM wide y) := rfl
theorem asks2 : asks 2 wide x y = decide (lowM wide y < lowM wide x) := rfl
theorem asks3 : asks 3 wide x y = decide (lowM wide y ≤ lowM wide x) := rfl
theorem asks4 : asks 4 wide x y = decide (¬ andU (lowM wide x) (lowM wide y) = 0) := rfl
theorem asks5 : asks 5 wide x y = decide (¬ lowM wide x = lowM wide y) := rfl
theorem asks6 : asks 6 wide x y = decide (signM wide y < signM wide x) := rfl
theorem asks7 : asks 7 wide x y = decide (signM wide y ≤ signM wide x) := rfl
theorem asks10 : asks 10 wide x y = decide (lowM wide x < lowM wide y) := rfl
theorem asks11 : asks 11 wide x y = decide (lowM wide x ≤ lowM wide y) := rfl
theorem asks12 : asks 12 wide x y = decide (signM wide x < signM wide y) := rfl
theorem asks13 : asks 13 wide x y = decide (signM wide x ≤ signM wide y) := rfl

theorem asks_other {c : Int} (hc : isCode c = true) (h : (other c).2 = true) : asks (other c).1 wide x y = !asks c wide x y := by
  rcases code_cases hc with rfl | rfl | rfl | rfl | rfl | rfl | rfl | rfl | rfl | rfl | rfl | rfl
  · cases h
  · show asks 5 wide x y = !asks 1 wide x y
    rw [asks1, asks5, decide_not]
  · show asks 11 wide x y = !asks 2 wide x y
    rw [asks2, asks11, Bool.eq_iff_iff, Bool.not_eq_true', decide_eq_true_eq, decide_eq_false_iff_not]; omega
  · show asks 10 wide x y = !asks 3 wide x y
    rw [asks3, asks10, Bool.eq_iff_iff, Bool.not_eq_true', decide_eq_true_eq, decide_eq_false_iff_not]; omega
  · cases h
  · show asks 1 wide x y = !asks 5 wide x y
    rw [asks1, asks5, decide_not, Bool.not_not]
  · show asks 13 wide x y = !asks 6 wide x y
    rw [asks6, asks13, Bool.eq_iff_iff, Bool.not_eq_true', decide_eq_true_eq, decide_eq_false_iff_not]; omega
  · show asks 12 wide x y = !asks 7 wide x y
    rw [asks7, asks12, Bool.eq_iff_iff, Bool.not_eq_true', decide_eq_true_eq, decide_eq_false_iff_not]; omega
  · show asks 3 wide x y = !asks 10 wide x y
    rw [asks3, asks10, Bool.eq_iff_iff, Bool.not_eq_true', decide_eq_true_eq, decide_eq_false_iff_not]; omega
  · show asks 2 wide x y = !asks 11 wide x y
    rw [asks2, asks11, Bool.eq_iff_iff, Bool.not_eq_true', decide_eq_true_eq, decide_eq_false_iff_not]; omega
  · show asks 7 wide x y = !asks 12 wide x y
    rw [asks7, asks12, Bool.eq_iff_iff, Bool.not_eq_true', decide_eq_true_eq, decide_eq_false_iff_not]; omega
  · show asks 6 wide x y = !asks 13 wide x y
    rw [asks6, asks13, Bool.eq_iff_iff, Bool.not_eq_true', decide_eq_true_eq, decide_eq_false_iff_not]; omega
theorem other_code {c : Int} (hc : isCode c = true) (h : (other c).2 = true) : isCode (other c).1 = true ∧ (other (other c).1) = (c, true) ∧ ¬ c = 0 ∧ ¬ (other c).1 = 0 := by
  rcases code_cases hc with rfl | rfl | rfl | rfl | rfl | rfl | rfl | rfl | rfl | rfl | rfl | rfl <;> first | (cases h; done) | decide
theorem other_none {c : Int} (hc : isCode c = true) (h : (other c).2 = false) : c = 0 ∨ c = 4 := by
  rcases code_cases hc with rfl | rfl | rfl | rfl | rfl | rfl | rfl | rfl | rfl | rfl | rfl | rfl <;> first | (cases h; done) | decide

variable {a b : Bd}
theorem holds_keeps {c : Int} (hc : isCode c = true) (ha : Inv5 a) (hb : Inv5 b) (hx : isU x = true) (hy : isU y = true) (ka : HasB a x) (kb : HasB b y) (h : asks c wide x y = true) : Keeps a b (holds c wide a b) x y := by
  refine holds_ind (Q := fun p => Keeps a b p x y) (fun e => ?_) (fun e => ?_) (fun e => ?_) (fun e => ?_) (fun e => ?_) (fun e => ?_) (fun e => ?_) ?_ (fun e => ?_) (fun e => ?_) (fun e => ?_) (fun e => ?_) <;> first | subst e | skip
  · rw [asks1, decide_eq_true_eq] at h; exact equal_keeps ha hb hx hy ka kb wide h
  · rw [asks5, decide_eq_true_eq] at h; exact ⟨rfl, unlike_has ha hx hy ka kb wide h, unlike_has hb hy hx kb ka wide fun e => h e.symm⟩
  · rw [asks2, decide_eq_true_eq] at h; exact above_keeps ha hb hx ka kb wide (.inr rfl) (by omega)
  · rw [asks3, decide_eq_true_eq] at h; exact above_keeps ha hb hx ka kb wide (.inl rfl) (by omega)
  · rw [asks6, decide_eq_true_eq] at h; exact over_keeps ha hb hx hy ka kb wide (.inr rfl) (by omega)
  · rw [asks7, decide_eq_true_eq] at h; exact over_keeps ha hb hx hy ka kb wide (.inl rfl) (by omega)
  · rw [asks4, decide_eq_true_eq] at h; exact common_keeps ha hb hx hy ka kb wide h
  · exact ⟨rfl, ka, kb⟩
  · rw [asks10, decide_eq_true_eq] at h; exact (above_keeps hb ha hy kb ka wide (.inr rfl) (by omega)).turn
  · rw [asks11, decide_eq_true_eq] at h; exact (above_keeps hb ha hy kb ka wide (.inl rfl) (by omega)).turn
  · rw [asks12, decide_eq_true_eq] at h; exact (over_keeps hb ha hy hx kb ka wide (.inr rfl) (by omega)).turn
  · rw [asks13, decide_eq_true_eq] at h; exact (over_keeps hb ha hy hx kb ka wide (.inl rfl) (by omega)).turn
theorem holds_within (c : Int) (ha : Inv5 a) (hb : Inv5 b) (na : bNone a = false) (nb : bNone b = false) : Within a b (holds c wide a b) :=
  holds_ind (fun _ => equal_within ha hb wide) (fun _ _ => ⟨unlike_sub ha na wide, unlike_sub hb nb wide⟩) (fun _ => above_within ha hb wide 1) (fun _ => above_within ha hb wide 0) (fun _ => over_within ha hb wide 1) (fun _ => over_within ha hb wide 0)
    (fun _ => common_within ha hb wide) (fun _ => ⟨fun _ => Sub.refl ha.t, fun _ => Sub.refl hb.t⟩) (fun _ => (above_within hb ha wide 1).turn) (fun _ => (above_within hb ha wide 0).turn) (fun _ => (over_within hb ha wide 1).turn) (fun _ => (over_within hb ha wide 0).turn)

/-- Which side is told. -/
theorem side_is {c : Int} {so : Bool} {Q : Two → Prop} (hc : isCode c = true) (hz : Q twoZ) (ht : bNone a = false → bNone b = false → so = true → Q (holds c wide a b))
    (ho : bNone a = false → bNone b = false → so = false → (other c).2 = true → Q (holds (other c).1 wide a b)) (hp : bNone a = false → bNone b = false → so = false → c = 4 → Q (apartM wide a b)) : Q (sideM c wide so a b) := by
  unfold sideM
  split
  · exact hz
  · rename_i e
    simp only [Bool.or_eq_false_iff] at e
    obtain ⟨⟨e1, e2⟩, e3⟩ := e
    split
    · exact ht e1 e2 rfl
    · split
      · rename_i e4; exact ho e1 e2 rfl e4
      · rename_i e4
        refine hp e1 e2 rfl ?_
        rcases other_none hc e4 with h | h
        · subst h; cases e3
        · exact h
theorem side_keeps {c : Int} {so : Bool} (hc : isCode c = true) (ha : Inv5 a) (hb : Inv5 b) (hx : isU x = true) (hy : isU y = true) (ka : HasB a x) (kb : HasB b y) (h : asks c wide x y = so) : Keeps a b (sideM c wide so a b) x y := by
  have e : (bNone a || bNone b || (!so && decide (c = 0))) = false := by
    rw [ka.some, kb.some]
    cases so
    · simp only [Bool.false_or, Bool.not_false, Bool.true_and, decide_eq_false_iff_not]
      intro e; subst e; cases h
    · rfl
  unfold sideM
  rw [e]
  simp only
  cases so
  · simp only
    split
    · rename_i e4
      exact holds_keeps (other_code hc e4).1 ha hb hx hy ka kb (by rw [asks_other hc e4, h]; rfl)
    · rename_i e4
      have h4 : c = 4 := by
        rcases other_none hc e4 with e | e
        · subst e; cases h
        · exact e
      subst h4
      rw [asks4, decide_eq_false_iff_not, Classical.not_not] at h
      exact apart_keeps ha hb hx hy ka kb wide h
  · exact holds_keeps hc ha hb hx hy ka kb h
theorem side_within {c : Int} {so : Bool} (hc : isCode c = true) (ha : Inv5 a) (hb : Inv5 b) : Within a b (sideM c wide so a b) :=
  side_is hc (fun e => by cases e) (fun n1 n2 _ => holds_within c ha hb n1 n2) (fun n1 n2 _ _ => holds_within _ ha hb n1 n2) (fun _ _ _ _ => apart_within ha hb wide)

theorem inv_of_sub {p : Bd} (r : Raw5 p) (ha : Inv5 a) (hs : Sub p a) (hn : bNone p = false) (ht : TM p.t) : Inv5 p := by
  obtain ⟨n1, n2, n3, n4⟩ := none_f.1 hn
  have hw := ha.w; have hv := ha.v; have h1 := hs.w; have h2 := hs.v
  refine ⟨ht, r.u, r.s, ?_, ?_⟩
  · unfold WW Nar at *; omega
  · unfold VV Nar at *; omega

theorem refine_sound {c : Int} {so : Bool} (hc : isCode c = true) (ha : Inv5 a) (hb : Inv5 b) (hx : isU x = true) (hy : isU y = true) (ka : HasB a x) (kb : HasB b y) (h : asks c wide x y = so) :
    refIs c wide so a b = true ∧ HasB (refA c wide so a b) x ∧ HasB (refB c wide so a b) y := by
  obtain ⟨e, k1, k2⟩ := side_keeps hc ha hb hx hy ka kb h
  obtain ⟨w1, w2⟩ := side_within (wide := wide) (so := so) hc ha hb e
  obtain ⟨r1, r2⟩ := side_raw ha.raw hb.raw c wide so
  have i1 := inv_of_sub r1 ha (w1 k1.some) k1.some (k1.t.may r1.t)
  have i2 := inv_of_sub r2 hb (w2 k2.some) k2.some (k2.t.may r2.t)
  have s1 := sync_has i1 hx k1
  have s2 := sync_has i2 hy k2
  have el : left (sideM c wide so a b) = true := by simp only [left, e, s1.some, s2.some]; rfl
  unfold refIs refA refB
  rw [hc]
  simp only [el]
  exact ⟨trivial, s1, s2⟩
theorem refA_inv {c : Int} {so : Bool} (ha : Inv5 a) (hb : Inv5 b) (hc : isCode c = true) : Inv5 (refA c wide so a b) := by
  obtain ⟨r1, r2⟩ := side_raw ha.raw hb.raw c wide so
  unfold refA; rw [hc]; simp only
  split
  · exact (sync_ok r1).1
  · exact nothing_inv
theorem refB_inv {c : Int} {so : Bool} (ha : Inv5 a) (hb : Inv5 b) (hc : isCode c = true) : Inv5 (refB c wide so a b) := by
  obtain ⟨r1, r2⟩ := side_raw ha.raw hb.raw c wide so
  unfold refB; rw [hc]; simp only
  split
  · exact (sync_ok r2).1
  · exact nothing_inv
/-- What is left is known: of which it is a part. -/
theorem refine_sub {c : Int} {so : Bool} (hc : isCode c = true) (ha : Inv5 a) (hb : Inv5 b) (h : refIs c wide so a b = true) :
    (bNone (refA c wide so a b) = false ∧ Sub (refA c wide so a b) a ∧ bNone a = false) ∧ bNone (refB c wide so a b) = false ∧ Sub (refB c wide so a b) b ∧ bNone b = false := by
  obtain ⟨r1, r2⟩ := side_raw ha.raw hb.raw c wide so
  unfold refIs at h
  rw [hc] at h
  simp only at h
  have hl := h
  simp only [left, Bool.and_eq_true, Bool.not_eq_true'] at hl
  obtain ⟨⟨e, n1⟩, n2⟩ := hl
  obtain ⟨w1, w2⟩ := side_within (wide := wide) (so := so) hc ha hb e
  obtain ⟨s1, m1⟩ := (sync_ok r1).2.1 n1
  obtain ⟨s2, m2⟩ := (sync_ok r2).2.1 n2
  have hnn : bNone a = false ∧ bNone b = false := by
    have := e
    unfold sideM at this
    split at this
    · cases this
    · rename_i e'
      simp only [Bool.or_eq_false_iff] at e'
      exact e'.1
  unfold refA refB
  rw [hc]
  simp only [h]
  exact ⟨⟨n1, s1.trans (w1 m1), hnn.1⟩, n2, s2.trans (w2 m2), hnn.2⟩
theorem refine_in {c : Int} {so : Bool} (hc : isCode c = true) (ha : Inv5 a) (hb : Inv5 b) (h : refIs c wide so a b = true) : bIn (refA c wide so a b) a = true ∧ bIn (refB c wide so a b) b = true := by
  obtain ⟨⟨_, s1, n1⟩, _, s2, n2⟩ := refine_sub hc ha hb h
  exact ⟨in_of_sub (refA_inv ha hb hc).raw ha.raw fun _ => ⟨s1, n1⟩, in_of_sub (refB_inv ha hb hc).raw hb.raw fun _ => ⟨s2, n2⟩⟩
theorem refine_none {c : Int} {so : Bool} (hc : isCode c = true) (h : refIs c wide so a b = false) : refA c wide so a b = nothing ∧ refB c wide so a b = nothing := by
  unfold refIs at h
  rw [hc] at h
  simp only at h
  unfold refA refB
  rw [hc]
  simp only [h, and_self]
theorem sure_sound {c : Int} (hc : isCode c = true) (ha : Inv5 a) (hb : Inv5 b) (hx : isU x = true) (hy : isU y = true) (ka : HasB a x) (kb : HasB b y) (hk : sureIs c wide a b = true) : sureSo c wide a b = asks c wide x y := by
  have h := refine_sound (wide := wide) hc ha hb hx hy ka kb rfl
  unfold sureIs at hk
  unfold sureSo
  rw [hc, ka.some, kb.some] at *
  simp only [Bool.not_false, Bool.true_and, Bool.or_eq_true, Bool.not_eq_true'] at hk ⊢
  cases hs : asks c wide x y
  · rw [hs] at h; rw [h.1]; rfl
  · rw [hs] at h
    rcases hk with hk | hk
    · rw [hk]; rfl
    · rw [h.1] at hk; cases hk

end

/-! bounds about a number; one number alone -/
structure AbOK (w : Ab) : Prop where
  m : isU w.m = true
  d : isU w.d = true
  u : isU w.u = true
  l : isU w.l = true
  r : isU w.r = true
  h : isW w.h = true
  t : isW w.t = true

theorem aOf_ok {w : Ab} {x : Int} (hw : AbOK w) (hx : isU x = true) : Inv5 (aOf w x) ∧ HasB (aOf w x) x := by
  have x0 := isU_iff.1 hx
  have hd := isU_iff.1 hw.d; have hu := isU_iff.1 hw.u; have hl := isU_iff.1 hw.l; have hr := isU_iff.1 hw.r; have hh := isW_iff.1 hw.h; have ht := isW_iff.1 hw.t
  have er : iRem x 4294967296 = x % 4294967296 := Int.tmod_eq_emod_of_nonneg x0.1
  have hv := sg32_range x
  have htm := tOf_tm hx hw.m
  have key : UU (aOf w x).u ∧ II (aOf w x).s ∧ WW (aOf w x).w ∧ Mid (aOf w x).u x ∧ Mid (aOf w x).s (sgn x) ∧ Mid (aOf w x).w (x % 4294967296) := by
    unfold UU II WW Mid aOf lift
    simp only [isU_iff, er, min_d, add_u, sub_u, conv_u, conv_i]
    unfold sgn
    split <;> omega
  obtain ⟨k1, k2, k3, k4, k5, k6⟩ := key
  refine ⟨⟨htm, k1, k2, k3, ?_⟩, ⟨HT.tOf hx hw.m fun _ _ => rfl, k4, k5, k6, ?_⟩⟩
  · unfold VV aOf; dsimp only; omega
  · unfold Mid aOf; dsimp only; omega

theorem const_ok {x : Int} (hx : isU x = true) : Inv5 (bConst x) ∧ HasB (bConst x) x := by
  have h1 := sgn_range hx
  have h2 := sg32_range x
  refine ⟨⟨⟨⟨hx, isU01.2⟩, fun i => by show (tb x i && tb 0 i) = false; rw [tb_zero, Bool.and_false]⟩, ⟨hx, hx⟩, ?_, ?_, ?_⟩, ⟨fun i => by show (tb x i && !tb 0 i) = tb x i; rw [tb_zero]; simp, ⟨Int.le_refl _, Int.le_refl _⟩, ⟨Int.le_refl _, Int.le_refl _⟩, ⟨Int.le_refl _, Int.le_refl _⟩, ⟨Int.le_refl _, Int.le_refl _⟩⟩⟩
  · unfold II bConst; dsimp only; omega
  · unfold WW bConst; dsimp only; omega
  · unfold VV bConst; dsimp only; omega

theorem P2.ext' {p : P2} {x y : Int} (h1 : p.lo = x) (h2 : p.hi = y) : p = ⟨x, y⟩ := by cases p; simp only at *; rw [h1, h2]
theorem const_eq {q : Bd} {x : Int} (hx : isU x = true) (hq : Inv5 q) (hs : Sub q (bConst x)) (hn : bNone q = false) : q = bConst x := by
  obtain ⟨n1, n2, n3, n4⟩ := none_f.1 hn
  have h1 := hs.u; have h2 := hs.s; have h3 := hs.w; have h4 := hs.v
  unfold Nar bConst at h1 h2 h3 h4
  simp only at h1 h2 h3 h4
  have eh : q.t.hi = 0 := tb_ext hq.t.1.2 (by decide) fun i => by
    have := (hs.t i).1
    rw [show (bConst x).t.hi = 0 from rfl, tb_zero] at this
    rw [tb_zero]; simpa using this
  have el : q.t.lo = x := tb_ext hq.t.1.1 hx fun i => by
    have := (hs.t i).2
    rw [show (bConst x).t.hi = 0 from rfl, tb_zero, show (bConst x).t.lo = x from rfl] at this
    simpa using this
  have e1 := P2.ext' el eh
  have e2 : q.u = ⟨x, x⟩ := P2.ext' (by omega) (by omega)
  have e3 : q.s = ⟨sgn x, sgn x⟩ := P2.ext' (by omega) (by omega)
  have e4 : q.w = ⟨x % 4294967296, x % 4294967296⟩ := P2.ext' (by omega) (by omega)
  have e5 : q.v = ⟨sg32 x, sg32 x⟩ := P2.ext' (by omega) (by omega)
  cases q
  simp only at e1 e2 e3 e4 e5
  rw [e1, e2, e3, e4, e5]; rfl

section
variable {wide : Bool} {x y : Int}
theorem nar_mid {p q : P2} {z : Int} (h : Nar p q) (k : Mid p z) : Mid q z := h.mid k
theorem equal_exact (hx : isU x = true) (hy : isU y = true) (hi : (equalM wide (bConst x) (bConst y)).is = true) (h : HasB (equalM wide (bConst x) (bConst y)).a x) : lowM wide x = lowM wide y := by
  have ia := (const_ok hx).1; have ib := (const_ok hy).1
  cases wide
  · have k := h.w
    have hm : (pMeet (bConst x).w (bConst y).w).lo ≤ (pMeet (bConst x).w (bConst y).w).hi := Int.le_trans k.1 k.2
    have := (nar_of_meet hm).mid k
    show x % 4294967296 = y % 4294967296
    exact Int.le_antisymm this.2 this.1
  · have := (meet5_sub ia ib h.some).2.1.has h
    have k := this.u
    exact Int.le_antisymm k.2 k.1
theorem unlike_exact (hx : isU x = true) (hy : isU y = true) (h : HasB (unlikeM wide (bConst x) (bConst y)) x) : ¬ lowM wide x = lowM wide y := by
  intro e
  cases wide
  · replace e : x % 4294967296 = y % 4294967296 := e
    unfold unlikeM at h
    simp only at h
    rw [if_pos (show (bConst y).w.lo = (bConst y).w.hi from rfl)] at h
    have k := h.w
    simp only [bConst, plainM, e, and_self, if_true] at k
    exact absurd (Int.le_trans k.1 k.2) (by decide)
  · replace e : x = y := e
    subst e
    unfold unlikeM at h
    simp only at h
    rw [if_pos (show (bConst x).u.lo = (bConst x).u.hi from rfl)] at h
    have k := h.u
    simp only [bConst, plainM, and_self, if_true] at k
    exact absurd (Int.le_trans k.1 k.2) (by decide)
theorem above_exact {n : Int} (hx : isU x = true) (hy : isU y = true) (hn : n = 0 ∨ n = 1) (hi : (aboveM wide n (bConst x) (bConst y)).is = true) (h : HasB (aboveM wide n (bConst x) (bConst y)).a x) : lowM wide y + n ≤ lowM wide x := by
  have x0 := isU_iff.1 hx; have y0 := isU_iff.1 hy
  cases wide <;> unfold aboveM at * <;> simp only at * <;> split at hi <;> first | (cases hi; done) | (rename_i e; simp only [e] at h)
  · have k := h.w
    simp only [aboveIs, bConst, decide_eq_true_eq, add_u] at e
    unfold Mid at k
    simp only [aboveX, bConst, add_u] at k
    show y % 4294967296 + n ≤ x % 4294967296
    omega
  · have k := h.u
    simp only [aboveIs, bConst, decide_eq_true_eq, add_u] at e
    unfold Mid at k
    simp only [aboveX, bConst, add_u] at k
    show y + n ≤ x
    omega
theorem over_exact {n : Int} (hx : isU x = true) (hy : isU y = true) (hn : n = 0 ∨ n = 1) (hi : (overM wide n (bConst x) (bConst y)).is = true) (h : HasB (overM wide n (bConst x) (bConst y)).a x) : signM wide y + n ≤ signM wide x := by
  have r1 := sgn_range hx; have r2 := sgn_range hy; have r3 := sg32_range x; have r4 := sg32_range y
  cases wide <;> unfold overM at * <;> simp only at * <;> split at hi <;> first | (cases hi; done) | (rename_i e; simp only [e] at h)
  · have k := h.v
    simp only [overIs, bConst, decide_eq_true_eq, add_i, sub_i] at e
    unfold Mid at k
    simp only [overX, bConst, add_i] at k
    show sg32 y + n ≤ sg32 x
    omega
  · have k := h.s
    simp only [overIs, bConst, decide_eq_true_eq, add_i, sub_i] at e
    unfold Mid at k
    simp only [overX, bConst, add_i] at k
    show sgn y + n ≤ sgn x
    omega
theorem seen_const (hx : isU x = true) : (seenM (bConst x).t wide).lo = lowM wide x ∧ (seenM (bConst x).t wide).hi = 0 := by
  cases wide
  · exact ⟨and_low hx, show andU 0 4294967295 = 0 by decide⟩
  · exact ⟨rfl, rfl⟩
theorem common_exact (hx : isU x = true) (hy : isU y = true) (hi : (commonM wide (bConst x) (bConst y)).is = true) : ¬ andU (lowM wide x) (lowM wide y) = 0 := by
  obtain ⟨a1, a2⟩ := seen_const (wide := wide) hx
  obtain ⟨b1, b2⟩ := seen_const (wide := wide) hy
  unfold commonM at hi
  split at hi
  · rename_i e
    simp only [commonIs, decide_eq_true_eq, a1, a2, b1, b2] at e
    rw [show orU (lowM wide x) 0 = lowM wide x from or_zero (low_u hx), show orU (lowM wide y) 0 = lowM wide y from or_zero (low_u hy)] at e
    exact e
  · cases hi
theorem apart_exact (hx : isU x = true) (hy : isU y = true) (hi : (apartM wide (bConst x) (bConst y)).is = true) : andU (lowM wide x) (lowM wide y) = 0 := by
  obtain ⟨a1, a2⟩ := seen_const (wide := wide) hx
  obtain ⟨b1, b2⟩ := seen_const (wide := wide) hy
  unfold apartM at hi
  split at hi
  · rename_i e
    simpa only [apartIs, decide_eq_true_eq, a1, b1] using e
  · cases hi
theorem holds_exact {c : Int} (hc : isCode c = true) (hx : isU x = true) (hy : isU y = true) (hi : (holds c wide (bConst x) (bConst y)).is = true) (h1 : HasB (holds c wide (bConst x) (bConst y)).a x) (h2 : HasB (holds c wide (bConst x) (bConst y)).b y) : asks c wide x y = true := by
  rcases code_cases hc with rfl | rfl | rfl | rfl | rfl | rfl | rfl | rfl | rfl | rfl | rfl | rfl
  · rfl
  · rw [asks1, decide_eq_true_eq]; exact equal_exact hx hy hi h1
  · rw [asks2, decide_eq_true_eq]; have := above_exact (wide := wide) hx hy (.inr rfl) hi h1; omega
  · rw [asks3, decide_eq_true_eq]; have := above_exact (wide := wide) hx hy (.inl rfl) hi h1; omega
  · rw [asks4, decide_eq_true_eq]; exact common_exact hx hy hi
  · rw [asks5, decide_eq_true_eq]; exact unlike_exact hx hy h1
  · rw [asks6, decide_eq_true_eq]; have := over_exact (wide := wide) hx hy (.inr rfl) hi h1; omega
  · rw [asks7, decide_eq_true_eq]; have := over_exact (wide := wide) hx hy (.inl rfl) hi h1; omega
  · rw [asks10, decide_eq_true_eq]; have := above_exact (wide := wide) hy hx (.inr rfl) hi h2; omega
  · rw [asks11, decide_eq_true_eq]; have := above_exact (wide := wide) hy hx (.inl rfl) hi h2; omega
  · rw [asks12, decide_eq_true_eq]; have := over_exact (wide := wide) hy hx (.inr rfl) hi h2; omega
  · rw [asks13, decide_eq_true_eq]; have := over_exact (wide := wide) hy hx (.inl rfl) hi h2; omega

theorem side_exact {c : Int} {s : Bool} (hc : isCode c = true) (hx : isU x = true) (hy : isU y = true) : (sideM c wide s (bConst x) (bConst y)).is = true → HasB (sideM c wide s (bConst x) (bConst y)).a x → HasB (sideM c wide s (bConst x) (bConst y)).b y → asks c wide x y = s := by
  refine side_is (Q := fun p => p.is = true → HasB p.a x → HasB p.b y → asks c wide x y = s) hc (fun e => by cases e) (fun _ _ e h1 h2 h3 => ?_) (fun _ _ e o h1 h2 h3 => ?_) (fun _ _ e h4 h1 h2 h3 => ?_)
  · rw [e]; exact holds_exact hc hx hy h1 h2 h3
  · have := holds_exact (other_code hc o).1 hx hy h1 h2 h3
    rw [asks_other hc o] at this
    rw [e]; simpa using this
  · subst h4
    rw [e, asks4, decide_eq_false_iff_not, Classical.not_not]
    exact apart_exact hx hy h1

theorem alone_is {c : Int} (hc : isCode c = true) (hx : isU x = true) (hy : isU y = true) : refIs c wide (asks c wide x y) (bConst x) (bConst y) = true ∧ refA c wide (asks c wide x y) (bConst x) (bConst y) = bConst x ∧ refB c wide (asks c wide x y) (bConst x) (bConst y) = bConst y := by
  obtain ⟨ia, ka⟩ := const_ok hx
  obtain ⟨ib, kb⟩ := const_ok hy
  obtain ⟨e, _, _⟩ := refine_sound (wide := wide) hc ia ib hx hy ka kb rfl
  obtain ⟨⟨n1, s1, _⟩, n2, s2, _⟩ := refine_sub hc ia ib e
  exact ⟨e, const_eq hx (refA_inv ia ib hc) s1 n1, const_eq hy (refB_inv ia ib hc) s2 n2⟩
theorem alone_not {c : Int} (hc : isCode c = true) (hx : isU x = true) (hy : isU y = true) : refIs c wide (!asks c wide x y) (bConst x) (bConst y) = false := by
  obtain ⟨ia, ka⟩ := const_ok hx
  obtain ⟨ib, kb⟩ := const_ok hy
  cases e : refIs c wide (!asks c wide x y) (bConst x) (bConst y)
  · rfl
  · exfalso
    obtain ⟨⟨n1, s1, _⟩, n2, s2, _⟩ := refine_sub hc ia ib e
    have q1 := const_eq hx (refA_inv ia ib hc) s1 n1
    have q2 := const_eq hy (refB_inv ia ib hc) s2 n2
    obtain ⟨r1, r2⟩ := side_raw ia.raw ib.raw c wide (!asks c wide x y)
    unfold refIs at e
    unfold refA at q1
    unfold refB at q2
    rw [hc] at e q1 q2
    simp only at e
    simp only [e] at q1 q2
    have k1 := sync_has' r1 (by rw [q1]; exact ka)
    have k2 := sync_has' r2 (by rw [q2]; exact kb)
    simp only [left, Bool.and_eq_true] at e
    have := side_exact hc hx hy e.1.1 k1 k2
    cases h : asks c wide x y <;> rw [h] at this <;> cases this
theorem alone_sure {c : Int} (hc : isCode c = true) (hx : isU x = true) (hy : isU y = true) : sureIs c wide (bConst x) (bConst y) = true ∧ sureSo c wide (bConst x) (bConst y) = asks c wide x y := by
  obtain ⟨ia, ka⟩ := const_ok hx
  obtain ⟨ib, kb⟩ := const_ok hy
  have h := alone_not (wide := wide) hc hx hy
  have hk : sureIs c wide (bConst x) (bConst y) = true := by
    unfold sureIs
    rw [hc, ka.some, kb.some]
    cases e : asks c wide x y
    · rw [e] at h; rw [show refIs c wide true (bConst x) (bConst y) = false from h]; simp
    · rw [e] at h; rw [show refIs c wide false (bConst x) (bConst y) = false from h]; rfl
  exact ⟨hk, sure_sound hc ia ib hx hy ka kb hk⟩
end

/-! turned about -/
section
variable {wide : Bool} {a b : Bd}
theorem andU_comm (x y : Int) : andU x y = andU y x := by unfold andU iBit; simp only; rw [BitVec.and_comm]
theorem equal_turn (ha : UU a.t) (hb : UU b.t) : equalM wide b a = turnT (equalM wide a b) := by
  cases wide
  · unfold equalM turnT; simp only [pMeet_comm b.w a.w, pMeet_comm b.v a.v, Bool.and_comm]
  · unfold equalM turnT; simp only [meet5_comm hb ha]
theorem common_turn : commonM wide b a = turnT (commonM wide a b) := by
  have e : commonIs (seenM b.t wide) (seenM a.t wide) = commonIs (seenM a.t wide) (seenM b.t wide) := by unfold commonIs; rw [andU_comm]
  unfold commonM
  rw [e]
  split
  · unfold turnT; simp only [Bool.and_comm]
  · rfl
theorem apart_turn : apartM wide b a = turnT (apartM wide a b) := by
  have e : apartIs (seenM b.t wide) (seenM a.t wide) = apartIs (seenM a.t wide) (seenM b.t wide) := by unfold apartIs; rw [andU_comm]
  unfold apartM
  rw [e]
  split
  · unfold turnT; simp only [Bool.and_comm]
  · rfl
theorem turned_cases {c : Int} (hc : isCode c = true) (h : (turned c).2 = true) : ¬ c = 0 ∧ ¬ (turned c).1 = 0 ∧ isCode (turned c).1 = true ∧ (other (turned c).1).2 = (other c).2 ∧ ((other c).2 = true → (turned (other c).1).2 = true ∧ (other (turned c).1).1 = (turned (other c).1).1) := by
  rcases code_cases hc with rfl | rfl | rfl | rfl | rfl | rfl | rfl | rfl | rfl | rfl | rfl | rfl <;> first | (cases h; done) | decide
theorem turned_none {c : Int} (hc : isCode c = true) (h : (turned c).2 = false) : c = 0 := by
  rcases code_cases hc with rfl | rfl | rfl | rfl | rfl | rfl | rfl | rfl | rfl | rfl | rfl | rfl <;> first | (cases h; done) | decide
theorem holds_turn {c : Int} (hc : isCode c = true) (h : (turned c).2 = true) (ha : UU a.t) (hb : UU b.t) : holds (turned c).1 wide b a = turnT (holds c wide a b) := by
  rcases code_cases hc with rfl | rfl | rfl | rfl | rfl | rfl | rfl | rfl | rfl | rfl | rfl | rfl
  · cases h
  · exact equal_turn ha hb
  · rfl
  · rfl
  · exact common_turn
  · rfl
  · rfl
  · rfl
  · rfl
  · rfl
  · rfl
  · rfl
theorem side_turn {c : Int} {so : Bool} (hc : isCode c = true) (h : (turned c).2 = true) (ha : UU a.t) (hb : UU b.t) : sideM (turned c).1 wide so b a = turnT (sideM c wide so a b) := by
  obtain ⟨h1, h2, h3, h4, h5⟩ := turned_cases hc h
  unfold sideM
  rw [decide_eq_false h1, decide_eq_false h2, Bool.or_comm (bNone b) (bNone a)]
  split
  · rfl
  · cases so
    · simp only
      rw [h4]
      split
      · rename_i e
        obtain ⟨g1, g2⟩ := h5 e
        rw [g2]
        exact holds_turn (other_code hc e).1 g1 ha hb
      · exact apart_turn
    · exact holds_turn hc h ha hb
theorem left_turn (p : Two) : left (turnT p) = left p := by
  show (p.is && !bNone (sync p.b) && !bNone (sync p.a)) = (p.is && !bNone (sync p.a) && !bNone (sync p.b))
  cases p.is <;> cases bNone (sync p.a) <;> cases bNone (sync p.b) <;> rfl
theorem ref_turn {c : Int} {so : Bool} (hc : isCode c = true) (h : (turned c).2 = true) (ha : UU a.t) (hb : UU b.t) :
    refA (turned c).1 wide so b a = refB c wide so a b ∧ refB (turned c).1 wide so b a = refA c wide so a b ∧ refIs (turned c).1 wide so b a = refIs c wide so a b := by
  obtain ⟨_, _, h3, _, _⟩ := turned_cases hc h
  unfold refA refB refIs
  rw [hc, h3, side_turn hc h ha hb]
  simp only [left_turn]
  refine ⟨?_, ?_, trivial⟩ <;> split <;> rfl
theorem side_other {c : Int} {so : Bool} (hc : isCode c = true) (h : (other c).2 = true) : sideM (other c).1 wide (!so) a b = sideM c wide so a b := by
  obtain ⟨h1, h2, h3, h4⟩ := other_code hc h
  unfold sideM
  rw [decide_eq_false h3, decide_eq_false h4, Bool.and_false, Bool.and_false]
  split
  · rfl
  · cases so
    · simp only [Bool.not_false, h]
    · simp only [Bool.not_true, h2]
theorem ref_other {c : Int} {so : Bool} (hc : isCode c = true) (h : (other c).2 = true) :
    refA (other c).1 wide (!so) a b = refA c wide so a b ∧ refB (other c).1 wide (!so) a b = refB c wide so a b ∧ refIs (other c).1 wide (!so) a b = refIs c wide so a b := by
  unfold refA refB refIs
  rw [hc, (other_code hc h).1, side_other hc h]
  exact ⟨rfl, rfl, rfl⟩
end
end Go.Proofs.YtafpbibpahjnhaaGreat.L05
