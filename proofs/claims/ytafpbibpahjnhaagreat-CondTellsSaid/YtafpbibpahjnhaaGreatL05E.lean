/- Rounds, and what two bounds have in common (layer 5): no number is lost, nothing is wider; plain Lean. A text of the session's own. -/
import Derived.Test.YtafpbibpahjnhaaGreatL05D
namespace Go.Proofs.YtafpbibpahjnhaaGreat.L05
open Go Go.RowKit Go.Proofs.YtafpbibpahjnhaaGreat.Sx
set_option linter.unusedVariables false

/-- Steps, one behind another, as long as something is left. -/
def runs : List (Bd → Bd × Bool) → Bd → Bd × Bool
  | [], b => (b, true)
  | f :: r, b => match (f b).2 && !bNone (f b).1 with | true => runs r (f b).1 | false => ((f b).1, false)

theorem runs_ok : ∀ (l : List (Bd → Bd × Bool)), (∀ f ∈ l, StepOK f) → ∀ b, Inv5 b →
    Inv5 (runs l b).1 ∧ ((runs l b).2 = true → Sub (runs l b).1 b ∧ (bNone b = false → bNone (runs l b).1 = false)) ∧ ∀ x, isU x = true → HasB b x → (runs l b).2 = true ∧ HasB (runs l b).1 x := by
  intro l
  induction l with
  | nil => intro _ b h; exact ⟨h, fun _ => ⟨Sub.refl h.t, fun h => h⟩, fun x _ k => ⟨rfl, k⟩⟩
  | cons f r ih =>
    intro hl b h
    have hf := hl f (by simp)
    have hi := hf.inv b h
    obtain ⟨g1, g2, g3⟩ := ih (fun g hg => hl g (by simp [hg])) (f b).1 hi
    unfold runs
    refine ⟨?_, ?_, ?_⟩
    · split
      · exact g1
      · exact hi
    · intro ht
      split at ht
      · rename_i e
        simp only [Bool.and_eq_true, Bool.not_eq_true'] at e
        obtain ⟨s1, s2⟩ := g2 ht
        exact ⟨s1.trans (hf.sub b h e.2), fun _ => s2 e.2⟩
      · cases ht
    · intro x hx k
      obtain ⟨k1, k2⟩ := hf.has b x h hx k
      have e : ((f b).2 && !bNone (f b).1) = true := by rw [k1, k2.some]; rfl
      rw [e]
      exact g3 x hx k2

def steps : List (Bd → Bd × Bool) := [st1, st2, st3, st4, st5, st6, st7, st8]
def rnd (b : Bd) : Bd × Bool := runs steps b

theorem rnd_ok {b : Bd} (h : Inv5 b) : Inv5 (rnd b).1 ∧ ((rnd b).2 = true → Sub (rnd b).1 b ∧ (bNone b = false → bNone (rnd b).1 = false)) ∧ ∀ x, isU x = true → HasB b x → (rnd b).2 = true ∧ HasB (rnd b).1 x := by
  refine runs_ok steps (fun f hf => ?_) b h
  simp only [steps, List.mem_cons, List.not_mem_nil, or_false] at hf
  rcases hf with rfl | rfl | rfl | rfl | rfl | rfl | rfl | rfl
  · exact st1_ok
  · exact st2_ok
  · exact st3_ok
  · exact st4_ok
  · exact st5_ok
  · exact st6_ok
  · exact st7_ok
  · exact st8_ok

def nothing : Bd := ⟨⟨0, 0⟩, ⟨1, 0⟩, ⟨1, 0⟩, ⟨1, 0⟩, ⟨1, 0⟩⟩
def anyB : Bd := ⟨⟨0, 18446744073709551615⟩, ⟨0, 18446744073709551615⟩, ⟨-9223372036854775808, 9223372036854775807⟩, ⟨0, 4294967295⟩, ⟨-2147483648, 2147483647⟩⟩

theorem pIn_t {a b : P2} : pIn a b = true ↔ (a.hi < a.lo ∨ b.lo ≤ a.lo ∧ a.lo ≤ b.hi ∧ b.lo ≤ a.hi ∧ a.hi ≤ b.hi) := by simp only [pIn, decide_eq_true_eq]
theorem pBoth_t {a b : P2} : pBoth a b = true ↔ (b.lo ≤ a.lo ∧ a.lo ≤ b.hi ∧ b.lo ≤ a.hi ∧ a.hi ≤ b.hi) := by simp only [pBoth, decide_eq_true_eq]

/-- May its rounds be gone? -/
def mayB (b : Bd) : Bool := !bNone b && tMay b.t && pIn b.w anyB.w && pBoth b.v anyB.v

def sync (b : Bd) : Bd :=
  match mayB b with
  | false => nothing
  | true => match (rnd b).2 with
    | false => nothing
    | true => match (rnd (rnd b).1).2 with
      | false => nothing
      | true => match (rnd (rnd (rnd b).1).1).2 with
        | false => nothing
        | true => (rnd (rnd (rnd b).1).1).1

/-- The numbers are what their types may hold. -/
structure Raw5 (b : Bd) : Prop where
  t : UU b.t
  u : UU b.u
  s : II b.s
  w : UU b.w
  v : II b.v

theorem Inv5.raw {b : Bd} (h : Inv5 b) : Raw5 b := by
  refine ⟨h.t.1, h.u, h.s, ?_, ?_⟩
  · have := h.w; unfold WW at this; unfold UU; rw [isU_iff, isU_iff]; omega
  · have := h.v; unfold VV at this; unfold II; omega

theorem may_inv {b : Bd} (r : Raw5 b) (h : mayB b = true) : Inv5 b ∧ bNone b = false := by
  simp only [mayB, Bool.and_eq_true, Bool.not_eq_true'] at h
  obtain ⟨⟨⟨h1, h2⟩, h3⟩, h4⟩ := h
  have hn := none_f.1 h1
  refine ⟨⟨(tMay_iff r.t).1 h2, r.u, r.s, ?_, ?_⟩, h1⟩
  · rw [pIn_t] at h3; simp only [anyB] at h3; unfold WW; omega
  · rw [pBoth_t] at h4; simp only [anyB] at h4; unfold VV; omega

theorem inv_may {b : Bd} (h : Inv5 b) (hn : bNone b = false) : mayB b = true := by
  simp only [mayB, Bool.and_eq_true, Bool.not_eq_true']
  refine ⟨⟨⟨hn, (tMay_iff h.t.1).2 h.t⟩, ?_⟩, ?_⟩
  · have := h.w; unfold WW at this; rw [pIn_t]; simp only [anyB]; omega
  · have := h.v; unfold VV at this; rw [pBoth_t]; simp only [anyB]; omega

theorem nothing_none : bNone nothing = true := by decide
theorem nothing_inv : Inv5 nothing := by
  refine ⟨⟨⟨by decide, by decide⟩, fun i => by simp [nothing, tb_zero]⟩, ⟨by decide, by decide⟩, ?_, ?_, ?_⟩ <;> simp [II, WW, VV, nothing]

theorem sync_ok {b : Bd} (r : Raw5 b) : Inv5 (sync b) ∧ (bNone (sync b) = false → Sub (sync b) b ∧ bNone b = false) ∧ (sync b = nothing ∨ bNone (sync b) = false) := by
  unfold sync
  have bad : Inv5 nothing ∧ (bNone nothing = false → Sub nothing b ∧ bNone b = false) ∧ (nothing = nothing ∨ bNone nothing = false) := ⟨nothing_inv, (fun h => by rw [nothing_none] at h; cases h), .inl rfl⟩
  split
  · exact bad
  · rename_i hm
    obtain ⟨hi, hn⟩ := may_inv r hm
    obtain ⟨i1, s1, _⟩ := rnd_ok hi
    split
    · exact bad
    · rename_i e1
      obtain ⟨i2, s2, _⟩ := rnd_ok i1
      split
      · exact bad
      · rename_i e2
        obtain ⟨i3, s3, _⟩ := rnd_ok i2
        split
        · exact bad
        · rename_i e3
          have a1 := s1 e1
          have a2 := s2 e2
          have a3 := s3 e3
          exact ⟨i3, fun _ => ⟨a3.1.trans (a2.1.trans a1.1), hn⟩, .inr (a3.2 (a2.2 (a1.2 hn)))⟩

theorem sync_has {b : Bd} {x : Int} (h : Inv5 b) (hx : isU x = true) (k : HasB b x) : HasB (sync b) x := by
  unfold sync
  rw [inv_may h k.some]
  obtain ⟨i1, _, k1⟩ := rnd_ok h
  obtain ⟨e1, k1⟩ := k1 x hx k
  obtain ⟨i2, _, k2⟩ := rnd_ok i1
  obtain ⟨e2, k2⟩ := k2 x hx k1
  obtain ⟨i3, _, k3⟩ := rnd_ok i2
  obtain ⟨e3, k3⟩ := k3 x hx k2
  simp only [e1, e2, e3]
  exact k3

theorem none_has {b : Bd} {x : Int} (h : bNone b = true) : ¬ HasB b x := fun k => by rw [k.some] at h; cases h
theorem sync_has' {b : Bd} {x : Int} (r : Raw5 b) (k : HasB (sync b) x) : HasB b x := by
  obtain ⟨_, h2, _⟩ := sync_ok r
  exact (h2 k.some).1.has k

theorem bHas_iff {b : Bd} {x : Int} (h : UU b.t) (hx : isU x = true) : bHas b x = true ↔ HasB b x := by
  simp only [bHas, Bool.and_eq_true, decide_eq_true_eq, tHas_iff h hx]
  constructor
  · rintro ⟨h1, h2, h3, h4, h5⟩; exact ⟨h1, h2, h3, h4, h5⟩
  · rintro ⟨h1, h2, h3, h4, h5⟩; exact ⟨h1, h2, h3, h4, h5⟩

def bIn (a b : Bd) : Bool := bNone a || (!bNone b && (tIn a.t b.t && pIn a.u b.u && pBoth a.s b.s && pIn a.w b.w && pBoth a.v b.v))

theorem in_of_sub {a b : Bd} (ra : Raw5 a) (rb : Raw5 b) (h : bNone a = false → Sub a b ∧ bNone b = false) : bIn a b = true := by
  unfold bIn
  cases hn : bNone a
  · obtain ⟨hs, hb⟩ := h hn
    obtain ⟨n1, n2, n3, n4⟩ := none_f.1 hn
    obtain ⟨m1, m2, m3, m4⟩ := none_f.1 hb
    simp only [Bool.false_or, hb, Bool.not_false, Bool.true_and, Bool.and_eq_true]
    have h2 := hs.u; have h3 := hs.s; have h4 := hs.w; have h5 := hs.v
    unfold Nar at *
    refine ⟨⟨⟨⟨(tIn_iff ra.t rb.t).2 hs.t, ?_⟩, ?_⟩, ?_⟩, ?_⟩ <;> simp only [pIn, pBoth, decide_eq_true_eq] <;> omega
  · rfl

theorem sub_of_in {a b : Bd} (ra : Raw5 a) (rb : Raw5 b) (h : bIn a b = true) (hn : bNone a = false) : Sub a b ∧ bNone b = false := by
  unfold bIn at h
  simp only [hn, Bool.false_or, Bool.and_eq_true, Bool.not_eq_true'] at h
  obtain ⟨hb, ⟨⟨⟨h1, h2⟩, h3⟩, h4⟩, h5⟩ := h
  obtain ⟨n1, n2, n3, n4⟩ := none_f.1 hn
  refine ⟨⟨(tIn_iff ra.t rb.t).1 h1, ?_, ?_, ?_, ?_⟩, hb⟩ <;> unfold Nar <;> simp only [pIn, pBoth, decide_eq_true_eq] at * <;> omega

/-- What two bounds have in common. -/
def meet5 (a b : Bd) : Bd := match !bNone a && !bNone b && tMeetIs a.t b.t with
  | false => nothing
  | true => sync ⟨tMeet a.t b.t, pMeet a.u b.u, pMeet a.s b.s, pMeet a.w b.w, pMeet a.v b.v⟩

theorem meet5_comm {a b : Bd} (ra : UU a.t) (rb : UU b.t) : meet5 a b = meet5 b a := by
  unfold meet5
  obtain ⟨e1, e2⟩ := meet_comm ra rb
  rw [e1, e2, pMeet_comm a.u, pMeet_comm a.s, pMeet_comm a.w, pMeet_comm a.v, Bool.and_comm (!bNone a) (!bNone b)]

theorem meet5_inv {a b : Bd} (ha : Inv5 a) (hb : Inv5 b) : Inv5 (meet5 a b) := by
  unfold meet5
  split
  · exact nothing_inv
  · exact (sync_ok (Inv5.raw ⟨meet_tm ha.t.1 hb.t.1, meet_uu2 ha.u hb.u, meet_ii ha.s hb.s, meet_ww ha.w hb.w, meet_vv ha.v hb.v⟩)).1

theorem meet5_has {a b : Bd} {x : Int} (ha : Inv5 a) (hb : Inv5 b) (hx : isU x = true) (ka : HasB a x) (kb : HasB b x) : HasB (meet5 a b) x := by
  obtain ⟨e, kt⟩ := meet_has ha.t.1 hb.t.1 ka.t kb.t
  unfold meet5
  rw [ka.some, kb.some, e]
  exact sync_has ⟨meet_tm ha.t.1 hb.t.1, meet_uu2 ha.u hb.u, meet_ii ha.s hb.s, meet_ww ha.w hb.w, meet_vv ha.v hb.v⟩ hx ⟨kt, meet_mid ka.u kb.u, meet_mid ka.s kb.s, meet_mid ka.w kb.w, meet_mid ka.v kb.v⟩

theorem meet5_sub {a b : Bd} (ha : Inv5 a) (hb : Inv5 b) (hn : bNone (meet5 a b) = false) : (Sub (meet5 a b) a ∧ bNone a = false) ∧ Sub (meet5 a b) b ∧ bNone b = false := by
  unfold meet5 at hn ⊢
  cases hc : (!bNone a && !bNone b && tMeetIs a.t b.t)
  · rw [hc, nothing_none] at hn; cases hn
  · rw [hc] at hn
    simp only [Bool.and_eq_true, Bool.not_eq_true'] at hc
    obtain ⟨⟨n1, n2⟩, ht⟩ := hc
    have r : Raw5 ⟨tMeet a.t b.t, pMeet a.u b.u, pMeet a.s b.s, pMeet a.w b.w, pMeet a.v b.v⟩ := Inv5.raw ⟨meet_tm ha.t.1 hb.t.1, meet_uu2 ha.u hb.u, meet_ii ha.s hb.s, meet_ww ha.w hb.w, meet_vv ha.v hb.v⟩
    obtain ⟨s, hm⟩ := (sync_ok r).2.1 hn
    obtain ⟨m1, m2, m3, m4⟩ := none_f.1 hm
    have sa : Sub ⟨tMeet a.t b.t, pMeet a.u b.u, pMeet a.s b.s, pMeet a.w b.w, pMeet a.v b.v⟩ a := ⟨meet_ti1 ha.t hb.t ht, meet_nar m1, meet_nar m2, meet_nar m3, meet_nar m4⟩
    have sb : Sub ⟨tMeet a.t b.t, pMeet a.u b.u, pMeet a.s b.s, pMeet a.w b.w, pMeet a.v b.v⟩ b := by
      refine ⟨meet_ti2 ha.t hb.t ht, ?_, ?_, ?_, ?_⟩
      · have := meet_nar (a := b.u) (b := a.u) (by rw [pMeet_comm]; exact m1); rw [pMeet_comm] at this; exact this
      · have := meet_nar (a := b.s) (b := a.s) (by rw [pMeet_comm]; exact m2); rw [pMeet_comm] at this; exact this
      · have := meet_nar (a := b.w) (b := a.w) (by rw [pMeet_comm]; exact m3); rw [pMeet_comm] at this; exact this
      · have := meet_nar (a := b.v) (b := a.v) (by rw [pMeet_comm]; exact m4); rw [pMeet_comm] at this; exact this
    exact ⟨⟨s.trans sa, n1⟩, s.trans sb, n2⟩

end Go.Proofs.YtafpbibpahjnhaaGreat.L05
