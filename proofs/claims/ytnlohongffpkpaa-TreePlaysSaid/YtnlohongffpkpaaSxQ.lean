/- Summaries of functions over numbers, bools and structs of these, by models in plain Lean; and of functions that take a pointer to a struct. A text of the session's own. -/
import Derived.Test.YtnlohongffpkpaaSxP
namespace Go.Proofs.Ytnlohongffpkpaa.Sx
open Go Go.RowKit

/-- An argument's form: a number, a bool (none), a struct of these; a pointer is told by its summary. -/
inductive Fm where
  | s (k : Option IntKind)
  | a (ks : List (Option IntKind))

abbrev NB := List Int × List Bool

def deS (k : Option IntKind) (c : C) : Option NB :=
  match k with
  | some k => (match decI k c with | some n => some ([n], []) | none => none)
  | none => (match c.bool? with | some x => some ([], [x.2]) | none => none)

def cat (x y : NB) : NB := (x.1 ++ y.1, x.2 ++ y.2)

def deL : List (Option IntKind) → List C → Option NB
  | [], [] => some ([], [])
  | k :: ks, c :: cs => (match deS k c, deL ks cs with | some x, some y => some (cat x y) | _, _ => none)
  | _, _ => none

def deV : List Fm → List V → Option NB
  | [], [] => some ([], [])
  | .s k :: r, .u (.c c) :: vs => (match deS k c, deV r vs with | some x, some y => some (cat x y) | _, _ => none)
  | .a ks :: r, .u (.agg cs) :: vs => (match deL ks cs, deV r vs with | some x, some y => some (cat x y) | _, _ => none)
  | _, _ => none

/-- The values of a form, out of its numbers and bools; what is left of these. -/
def enS (k : Option IntKind) (x : NB) : Value × NB :=
  match k, x with
  | some k, (n :: ns, bs) => (.int k n, (ns, bs))
  | none, (ns, b :: bs) => (.bool b, (ns, bs))
  | _, x => (.bool false, x)

def enL : List (Option IntKind) → NB → List Value × NB
  | [], x => ([], x)
  | k :: ks, x => ((enS k x).1 :: (enL ks (enS k x).2).1, (enL ks (enS k x).2).2)

def enV : List Fm → NB → List Value
  | [], _ => []
  | .s k :: r, x => (enS k x).1 :: enV r (enS k x).2
  | .a ks :: r, x => .agg (enL ks x).1.toArray :: enV r (enL ks x).2

theorem deS_enS {k : Option IntKind} {c : C} {x : NB} (h : deS k c = some x) (y : NB) (ρ : Nat → Nat) : enS k (cat x y) = (c.den ρ, y) := by
  unfold deS at h
  split at h
  · rename_i k
    split at h
    · rename_i n hn
      cases h
      simp [enS, cat, decI_den hn ρ]
    · cases h
  · split at h
    · rename_i b hb
      cases h
      obtain ⟨l, b⟩ := b
      simp [enS, cat, C.bool_den hb ρ]
    · cases h

theorem cat_assoc (x y z : NB) : cat (cat x y) z = cat x (cat y z) := by simp [cat]
theorem cat_nil (y : NB) : cat ([], []) y = y := by simp [cat]

theorem deL_enL (ρ : Nat → Nat) : ∀ (ks : List (Option IntKind)) (cs : List C) (x y : NB), deL ks cs = some x → enL ks (cat x y) = (cs.map (C.den ρ), y)
  | [], [], x, y, h => by cases h; simp [enL, cat_nil]
  | [], _ :: _, x, y, h => by cases h
  | _ :: _, [], x, y, h => by cases h
  | k :: ks, c :: cs, x, y, h => by
    simp only [deL] at h
    split at h
    · rename_i x1 x2 h1 h2
      cases h
      rw [cat_assoc]
      simp only [enL, deS_enS h1 _ ρ, deL_enL ρ ks cs x2 y h2, List.map_cons]
    · cases h

theorem deV_enV (ρ : Nat → Nat) : ∀ (fs : List Fm) (vs : List V) (x : NB), deV fs vs = some x → vs.map (V.den ρ) = enV fs x := by
  suffices H : ∀ (fs : List Fm) (vs : List V) (x y : NB), deV fs vs = some x → vs.map (V.den ρ) = enV fs (cat x y) from fun fs vs x h => by
    have := H fs vs x ([], []) h
    simpa [cat] using this
  intro fs
  induction fs with
  | nil =>
    intro vs x y h
    cases vs with
    | nil => rfl
    | cons _ _ => cases h
  | cons f r ih =>
    intro vs x y h
    cases vs with
    | nil => cases f <;> cases h
    | cons v vs =>
      cases f with
      | s k =>
        match v, h with
        | .u (.c c), h =>
          simp only [deV] at h
          split at h
          · rename_i x1 x2 h1 h2
            cases h
            rw [cat_assoc]
            simp only [enV, deS_enS h1 _ ρ, List.map_cons, ih vs x2 y h2, V.den, U.den]
          · cases h
        | .u (.agg _), h => cases h
        | .tup _, h => cases h
      | a ks =>
        match v, h with
        | .u (.agg cs), h =>
          simp only [deV] at h
          split at h
          · rename_i x1 x2 h1 h2
            cases h
            rw [cat_assoc]
            simp only [enV, deL_enL ρ ks cs x1 _ h1, List.map_cons, ih vs x2 y h2, V.den, U.den, dens]
          · cases h
        | .u (.c _), h => cases h
        | .tup _, h => cases h

def bySum (f : FuncId) (fs : List Fm) (m : List Int → List Bool → Option (List Bool × V)) : Sum :=
  { f := f, s := fun args => match deV fs args with | some x => m x.1 x.2 | none => none }

theorem bySum_ok {P : Program} {f : FuncId} {fs : List Fm} {m : List Int → List Bool → Option (List Bool × V)} (hf : ∃ fn, P.funcs[f]? = some fn ∧ fn.body.isSome = true)
    (h : ∀ (ns : List Int) (os : List Bool) (bs : List Bool) (r : V), m ns os = some (bs, r) → (∀ b ∈ bs, b = true) → ∀ (ρ : Nat → Nat) (w : World), Calls P f (enV fs (ns, os)).toArray w fun e w' => e = .returned (r.den ρ) ∧ Below w.heap.size w w') :
    SumOK P (bySum f fs m) := by
  refine ⟨⟨(fun _ h => by cases h), (fun _ h => by cases h), (fun _ h => by cases h)⟩, .inr ⟨rfl, .inr ⟨rfl, .inr ⟨rfl, hf, fun args bs r ρ w hs hb => ?_⟩⟩⟩⟩
  simp only [bySum] at hs
  split at hs
  · rename_i x hx
    rw [deV_enV ρ fs args x hx]
    exact h x.1 x.2 bs r hs hb ρ w
  · cases hs

/-- A function whose first argument is a pointer to a block of the type ty, whose cells have the form fs' head. -/
def heapSum (f : FuncId) (ty : Nat) (ks : List (Option IntKind)) (fs : List Fm) (m : List Int → List Bool → Option (List Bool × V)) : Sum :=
  { f := f, s := fun args => match deV (.a ks :: fs) args with | some x => m x.1 x.2 | none => none, hp := some ty }

theorem heapSum_ok {P : Program} {f : FuncId} {ty : Nat} {ks : List (Option IntKind)} {fs : List Fm} {m : List Int → List Bool → Option (List Bool × V)} (hf : ∃ fn, P.funcs[f]? = some fn ∧ fn.body.isSome = true)
    (h : ∀ (ns : List Int) (os : List Bool) (bs : List Bool) (new : List C) (u : U), m ns os = some (bs, .tup [.agg new, u]) → (∀ b ∈ bs, b = true) → ∀ (ρ : Nat → Nat) (b : Nat) (w : World),
      w.heap[b]? = some (.cells (enL ks (ns, os)).1.toArray ty (0, 0)) →
      Calls P f (.pointer (some ⟨b, 0, none⟩) :: enV fs (enL ks (ns, os)).2).toArray w fun e w' => e = .returned (u.den ρ) ∧ Touch b w w' ∧ w'.heap[b]? = some (.cells (dens ρ new) ty (0, 0))) :
    SumOK P (heapSum f ty ks fs m) := by
  refine ⟨⟨(fun _ h => by cases h), (fun _ h => by cases h), (fun _ h => by cases h)⟩, .inr ⟨rfl, .inl ⟨ty, rfl, rfl, hf, fun cs rest bs new u ρ b w hs hb hw => ?_⟩⟩⟩
  simp only [heapSum] at hs
  split at hs
  · rename_i x hx
    have e := deV_enV ρ _ _ x hx
    simp only [List.map_cons, enV, List.cons.injEq] at e
    obtain ⟨e1, e2⟩ := e
    have e1' : dens ρ cs = (enL ks x).1.toArray := by
      simp only [V.den, U.den] at e1
      exact Value.agg.inj e1
    rw [e2]
    exact h x.1 x.2 bs new u hs hb ρ b w (by rw [← e1']; exact hw)
  · cases hs

/-- Likewise, of a function whose first argument is a pointer to a variable that holds such a pointer (what a function literal has captured). -/
def boxSum (f : FuncId) (ty bty : Nat) (ks : List (Option IntKind)) (fs : List Fm) (m : List Int → List Bool → Option (List Bool × V)) : Sum :=
  { f := f, s := fun args => match deV (.a ks :: fs) args with | some x => m x.1 x.2 | none => none, bx := some ty, bt := bty }

theorem boxSum_ok {P : Program} {f : FuncId} {ty bty : Nat} {ks : List (Option IntKind)} {fs : List Fm} {m : List Int → List Bool → Option (List Bool × V)} (hf : ∃ fn, P.funcs[f]? = some fn ∧ fn.body.isSome = true)
    (h : ∀ (ns : List Int) (os : List Bool) (bs : List Bool) (new : List C) (u : U), m ns os = some (bs, .tup [.agg new, u]) → (∀ b ∈ bs, b = true) → ∀ (ρ : Nat → Nat) (b x : Nat) (w : World),
      w.heap[b]? = some (.cells (enL ks (ns, os)).1.toArray ty (0, 0)) → w.heap[x]? = some (.cells #[.pointer (some ⟨b, 0, none⟩)] bty (0, 0)) → x ≠ b →
      Calls P f (.pointer (some ⟨x, 0, none⟩) :: enV fs (enL ks (ns, os)).2).toArray w fun e w' => e = .returned (u.den ρ) ∧ Touch b w w' ∧ w'.heap[b]? = some (.cells (dens ρ new) ty (0, 0))) :
    SumOK P (boxSum f ty bty ks fs m) := by
  refine ⟨⟨(fun _ h => by cases h), (fun _ h => by cases h), (fun _ h => by cases h)⟩, .inl ⟨ty, rfl, rfl, hf, fun cs rest bs new u ρ b x w hs hb hw hx hne => ?_⟩⟩
  simp only [boxSum] at hs
  split at hs
  · rename_i y hy
    have e := deV_enV ρ _ _ y hy
    simp only [List.map_cons, enV, List.cons.injEq] at e
    obtain ⟨e1, e2⟩ := e
    have e1' : dens ρ cs = (enL ks y).1.toArray := by
      simp only [V.den, U.den] at e1
      exact Value.agg.inj e1
    rw [e2]
    exact h y.1 y.2 bs new u hs hb ρ b x w (by rw [← e1']; exact hw) hx hne
  · cases hs

theorem heap_to {P : Program} {S : List Sum} {D : DrawX} (hN : NameOK P) (hS : ∀ q ∈ S, SumOK P q) (hD : DSnd P D) (fuel : Nat) {f : Nat} (cs : List C) (ty : Nat) (rest : List V) {T : Tr} (hT : runh P S D fuel f cs ty rest = T)
    {vs : List Value} {cells : Array Value} {new : List C} {u : U} (ρ : Nat → Nat) (he : vs = rest.map (V.den ρ)) (hc : cells = dens ρ cs) (h : T.all fun v => v.den ρ = V.den ρ (.tup [.agg new, u])) (b : Nat) (w : World)
    (hb : w.heap[b]? = some (.cells cells ty (0, 0))) :
    Calls P f (.pointer (some ⟨b, 0, none⟩) :: vs).toArray w fun e w' => e = .returned (u.den ρ) ∧ Touch b w w' ∧ w'.heap[b]? = some (.cells (dens ρ new) ty (0, 0)) := by
  subst he hc
  refine (heap_sound hN hS hD fuel cs ty rest hT h ρ b w hb).mono ?_
  rintro e w' ⟨new', u', hv, he, ht, hw⟩
  have h1 : (Value.tuple #[.agg (dens ρ new'), U.den ρ u']) = .tuple #[.agg (dens ρ new), U.den ρ u] := hv
  simp only [Value.tuple.injEq, Array.mk.injEq, List.cons.injEq, Value.agg.injEq, and_true] at h1
  exact ⟨by rw [he, h1.2], ht, by rw [hw, h1.1]⟩


theorem box_to {P : Program} {S : List Sum} {D : DrawX} (hN : NameOK P) (hS : ∀ q ∈ S, SumOK P q) (hD : DSnd P D) (fuel : Nat) {f : Nat} (cs : List C) (ty bty : Nat) (rest : List V) {T : Tr} (hT : runb P S D fuel f cs ty bty rest = T)
    {vs : List Value} {cells : Array Value} {new : List C} {u : U} (ρ : Nat → Nat) (he : vs = rest.map (V.den ρ)) (hc : cells = dens ρ cs) (h : T.all fun v => v.den ρ = V.den ρ (.tup [.agg new, u])) (b x : Nat) (w : World)
    (hb : w.heap[b]? = some (.cells cells ty (0, 0))) (hx : w.heap[x]? = some (.cells #[.pointer (some ⟨b, 0, none⟩)] bty (0, 0))) (hne : x ≠ b) :
    Calls P f (.pointer (some ⟨x, 0, none⟩) :: vs).toArray w fun e w' => e = .returned (u.den ρ) ∧ Touch b w w' ∧ w'.heap[b]? = some (.cells (dens ρ new) ty (0, 0)) := by
  subst he hc
  refine (box_sound hN hS hD fuel cs ty rest hT h ρ b x w hb hx hne).mono ?_
  rintro e w' ⟨new', u', hv, he, ht, hw⟩
  have h1 : (Value.tuple #[.agg (dens ρ new'), U.den ρ u']) = .tuple #[.agg (dens ρ new), U.den ρ u] := hv
  simp only [Value.tuple.injEq, Array.mk.injEq, List.cons.injEq, Value.agg.injEq, and_true] at h1
  exact ⟨by rw [he, h1.2], ht, by rw [hw, h1.1]⟩

end Go.Proofs.Ytnlohongffpkpaa.Sx
