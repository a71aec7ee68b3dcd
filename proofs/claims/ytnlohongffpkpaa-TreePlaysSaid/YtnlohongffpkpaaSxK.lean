/- The symbolic executor: the operations of a region that come in whatever order: whichever comes, it comes to the same. A text of the session's own. -/
import Derived.Test.YtnlohongffpkpaaSxJ
namespace Go.Proofs.Ytnlohongffpkpaa.Sx
open Go Go.RowKit

def distinctB : List Oper → Bool
  | [] => true
  | o :: l => match o.dst with
    | some d => (match srcIdx l d with | none => distinctB l | some _ => false)
    | none => distinctB l

def Ent.val (ρ β : Nat → Nat) : Ent → Value
  | .run x => x.den ρ
  | .skip => undef
  | .al q => .pointer (some ⟨β q, 0, none⟩)
  | .st _ _ => undef
  | .late => undef

/-- what a tmp holds in the text's order, with what was there: b -/
def tval (ρ : Nat → Nat) (b : Value) : Option Ent → Value
  | some (.run x) => x.den ρ
  | some .skip => undef
  | _ => b

theorem srcIdx_get {l : List Oper} {t : Tmp} {j : Nat} (h : srcIdx l t = some j) : ∃ o, l[j]? = some o ∧ o.dst = some t := by
  induction l generalizing j with
  | nil => cases h
  | cons o l ih =>
    simp only [srcIdx] at h
    split at h
    · rename_i d hd
      split at h
      · rename_i e
        cases h
        exact ⟨o, rfl, by rw [hd, Nat.eq_of_beq_eq_true e]⟩
      · split at h
        · rename_i j' hj
          cases h
          obtain ⟨o', h1, h2⟩ := ih hj
          exact ⟨o', by simpa using h1, h2⟩
        · cases h
    · split at h
      · rename_i j' hj
        cases h
        obtain ⟨o', h1, h2⟩ := ih hj
        exact ⟨o', by simpa using h1, h2⟩
      · cases h

theorem srcIdx_of {l : List Oper} (hd : distinctB l = true) {i : Nat} {o : Oper} {d : Tmp} (h : l[i]? = some o) (ho : o.dst = some d) : srcIdx l d = some i := by
  induction l generalizing i with
  | nil => cases h
  | cons p l ih =>
    simp only [distinctB] at hd
    split at hd
    · rename_i e he
      split at hd
      · rename_i hn
        cases i with
        | zero =>
          simp only [List.getElem?_cons_zero, Option.some.injEq] at h
          subst h
          rw [he] at ho
          cases ho
          simp [srcIdx, he]
        | succ i =>
          simp only [List.getElem?_cons_succ] at h
          have := ih hd h
          simp only [srcIdx, he]
          by_cases ed : e = d
          · subst ed; rw [hn] at this; cases this
          · rw [Nat.beq_eq_false_iff.2 ed, this]
      · cases hd
    · rename_i he
      cases i with
      | zero =>
        simp only [List.getElem?_cons_zero, Option.some.injEq] at h
        subst h
        rw [he] at ho
        cases ho
      | succ i =>
        simp only [List.getElem?_cons_succ] at h
        have := ih hd h
        simp only [srcIdx, he, this]

theorem srcIdx_take {l : List Oper} {t : Tmp} {i : Nat} : srcIdx (l.take i) t = match srcIdx l t with | some j => if j < i then some j else none | none => none := by
  induction l generalizing i with
  | nil => simp [srcIdx]
  | cons o l ih =>
    cases i with
    | zero =>
      simp only [List.take_zero, srcIdx]
      split <;> rfl
    | succ i =>
      simp only [List.take_succ_cons, srcIdx, ih (i := i)]
      split
      · rename_i d hd
        split
        · rfl
        · cases srcIdx l t with
          | none => rfl
          | some j => simp only; by_cases h : j < i <;> simp [h]
      · cases srcIdx l t with
        | none => rfl
        | some j => simp only; by_cases h : j < i <;> simp [h]

theorem distinctB_tail {o : Oper} {l : List Oper} (h : distinctB (o :: l) = true) : distinctB l = true ∧ ∀ d, o.dst = some d → srcIdx l d = none := by
  simp only [distinctB] at h
  split at h
  · rename_i d hd
    split at h
    · rename_i hn; exact ⟨h, fun d' e => by rw [hd] at e; cases e; exact hn⟩
    · cases h
  · rename_i hd
    exact ⟨h, fun d' e => by rw [hd] at e; cases e⟩

theorem distinctB_take {l : List Oper} (i : Nat) (h : distinctB l = true) : distinctB (l.take i) = true := by
  induction l generalizing i with
  | nil => simp [distinctB]
  | cons o l ih =>
    obtain ⟨h1, h2⟩ := distinctB_tail h
    cases i with
    | zero => simp [distinctB]
    | succ i =>
      simp only [List.take_succ_cons, distinctB]
      cases hd : o.dst with
      | none => exact ih i h1
      | some d =>
        have : srcIdx (l.take i) d = none := by rw [srcIdx_take, h2 d hd]
        simp only [this]
        exact ih i h1

section
variable {P : Program} {S : List Sum} {W : World} {n0 : NL} {ρ0 : Nat → Nat} {N : Nat} {ρ : Nat → Nat} {R : Leaf → Prop} {ops : Array Oper} {L : List Oper} {hp : Hp} {n : Nat}

theorem path_look : ∀ (l : List Oper) (al : Al) (σ : St) (fs : List Ent) (al' : Al) (σ' : St), PathP P ops L W n0 ρ0 N ρ hp n l al σ fs al' σ' → distinctB l = true → ∀ t,
    (look σ'.tm t).den ρ = match srcIdx l t with | some j => tval ρ ((look σ.tm t).den ρ) fs[j]? | none => (look σ.tm t).den ρ := by
  intro l
  induction l with
  | nil =>
    intro al σ fs al' σ' h _ t
    cases fs with
    | nil => obtain ⟨_, rfl⟩ := h; rfl
    | cons f fs => exact h.elim
  | cons o l ih =>
    intro al σ fs al' σ' h hd t
    cases fs with
    | nil => exact h.elim
    | cons f fs =>
      obtain ⟨al1, σ1, hs, _, hp'⟩ := h
      obtain ⟨hd1, hd3⟩ := distinctB_tail hd
      rw [ih al1 σ1 fs al' σ' hp' hd1 t]
      have hstep : (look σ1.tm t).den ρ = if o.dst = some t then tval ρ ((look σ.tm t).den ρ) (some f) else (look σ.tm t).den ρ := by
        cases f with
        | run x => have := hs.2.2.1 t; simpa [tval] using this
        | skip => have := hs.2.1 t; simpa [tval] using this
        | al q => have := hs.2.1 t; simpa [tval] using this
        | st q u => have := hs.2.1 t; simpa [tval] using this
        | late => have := hs.2.1 t; simpa [tval] using this
      cases hd2 : o.dst with
      | none =>
        rw [hd2] at hstep
        simp only [reduceCtorEq, if_false] at hstep
        simp only [srcIdx, hd2, hstep]
        cases srcIdx l t with
        | none => rfl
        | some j => simp
      | some d =>
        simp only [srcIdx, hd2]
        rw [hd2] at hstep
        simp only [Option.some.injEq] at hstep
        by_cases e : d = t
        · subst e
          rw [hd3 d hd2]
          simp only [Nat.beq_refl, List.getElem?_cons_zero]
          simpa using hstep
        · rw [Nat.beq_eq_false_iff.2 e]
          rw [if_neg e] at hstep
          rw [hstep]
          cases srcIdx l t with
          | none => rfl
          | some j => simp

theorem path_get : ∀ (l : List Oper) (al : Al) (σ : St) (fs : List Ent) (al' : Al) (σ' : St), PathP P ops L W n0 ρ0 N ρ hp n l al σ fs al' σ' → ∀ (i : Nat) (o : Oper), l[i]? = some o →
    ∃ f al_i σ_i al1 σ1, fs[i]? = some f ∧ PathP P ops L W n0 ρ0 N ρ hp n (l.take i) al σ (fs.take i) al_i σ_i ∧ StepP P ops W n0 ρ0 N ρ hp n o al_i σ_i f al1 σ1 := by
  intro l
  induction l with
  | nil => intro al σ fs al' σ' _ i o h; cases h
  | cons p l ih =>
    intro al σ fs al' σ' h i o hi
    cases fs with
    | nil => exact h.elim
    | cons f fs =>
      obtain ⟨al1, σ1, hs, hl, hp'⟩ := h
      cases i with
      | zero =>
        simp only [List.getElem?_cons_zero, Option.some.injEq] at hi
        subst hi
        exact ⟨f, al, σ, al1, σ1, rfl, ⟨rfl, rfl⟩, hs⟩
      | succ i =>
        simp only [List.getElem?_cons_succ] at hi
        obtain ⟨f', al_i, σ_i, al2, σ2, h1, h2, h3⟩ := ih al1 σ1 fs al' σ' hp' i o hi
        exact ⟨f', al_i, σ_i, al2, σ2, by simpa using h1, ⟨al1, σ1, hs, hl, h2⟩, h3⟩

theorem path_isL : ∀ (l : List Oper) (al : Al) (σ : St) (fs : List Ent) (al' : Al) (σ' : St), PathP P ops L W n0 ρ0 N ρ hp n l al σ fs al' σ' → ∀ (i : Nat) (o : Oper) (f : Ent), l[i]? = some o → fs[i]? = some f →
    f.isL = isLate L o ∧ (f = .late → o.dst = none) := by
  intro l
  induction l with
  | nil => intro al σ fs al' σ' _ i o f h; cases h
  | cons p l ih =>
    intro al σ fs al' σ' h i o f hi hf
    cases fs with
    | nil => exact h.elim
    | cons f0 fs =>
      obtain ⟨al1, σ1, hs, hl, hp'⟩ := h
      cases i with
      | zero =>
        simp only [List.getElem?_cons_zero, Option.some.injEq] at hi hf
        subst hi; subst hf
        refine ⟨hl, fun e => ?_⟩
        subst e
        exact hs.2.2.1
      | succ i => exact ih al1 σ1 fs al' σ' hp' i o f (by simpa using hi) (by simpa using hf)

def NoSt (fs : List Ent) (q : Nat) : Prop := ∀ (j : Nat) (u : U), fs[j]? ≠ some (.st q u)

theorem NoSt.tail {f : Ent} {fs : List Ent} {q : Nat} (h : NoSt (f :: fs) q) : NoSt fs q := fun j u e => h (j + 1) u (by simpa using e)

/-- the new blocks, in the text's order -/
theorem path_al : ∀ (l : List Oper) (al : Al) (σ : St) (fs : List Ent) (al' : Al) (σ' : St), PathP P ops L W n0 ρ0 N ρ hp n l al σ fs al' σ' →
    al.length ≤ al'.length ∧
    (∀ (i : Nat) (o : Oper) (q : Nat), l[i]? = some o → fs[i]? = some (.al q) → al.length ≤ q ∧ ∃ d cs ty cs', al'[q]? = some (d, (cs', ty)) ∧ o.dst = some d ∧ cs.all (C.wf 0) = true ∧ cs.length = cs'.length ∧ (NoSt fs q → cs = cs') ∧
        ∀ (a : Act) (w : World), (execOp a.eval o).run P w = .ok (.value (.pointer (some ⟨w.heap.size, 0, none⟩))) (w.alloc (.cells (dens ρ cs) ty))) ∧
    (∀ (i j q : Nat), fs[i]? = some (.al q) → fs[j]? = some (.al q) → i = j) ∧ (∀ q : Nat, al.length ≤ q → q < al'.length → ∃ i : Nat, fs[i]? = some (Ent.al q)) ∧ fs.length = l.length ∧
    (∀ (q : Nat) (d : Tmp) (cs : List C) (ty : Nat), al[q]? = some (d, (cs, ty)) → ∃ cs', al'[q]? = some (d, (cs', ty)) ∧ cs.length = cs'.length ∧ (NoSt fs q → cs = cs')) ∧
    (∀ (i : Nat) (o : Oper) (q : Nat) (u : U), l[i]? = some o → fs[i]? = some (.st q u) → ∃ d ty cs', al'[q]? = some (d, (cs', ty)) ∧ u.cells.length = cs'.length ∧ u.cells.all C.plain = true ∧ u.cells.all (C.wf 0) = true ∧ (∃ t y, o.op = .store t (.tmp d) y ∧ tsz P t = some u.cells.length) ∧ o.dst = none ∧
        ((∀ (j : Nat) (u' : U), fs[j]? = some (.st q u') → j = i) → u.cells = cs')) := by
  intro l
  induction l with
  | nil =>
    intro al σ fs al' σ' h
    cases fs with
    | nil =>
      obtain ⟨rfl, rfl⟩ := h
      exact ⟨Nat.le_refl _, (fun i o q hi => by cases hi), (fun i j q hi => by cases hi), (fun q h1 h2 => by omega), rfl, (fun q d cs ty h => ⟨cs, h, rfl, fun _ => rfl⟩), (fun i o q u hi => by cases hi)⟩
    | cons f fs => exact h.elim
  | cons p l ih =>
    intro al σ fs al' σ' h
    cases fs with
    | nil => exact h.elim
    | cons f fs =>
      obtain ⟨al1, σ1, hs, _, hp'⟩ := h
      obtain ⟨hlen, ih2, ih3, ih4, ih5, ih6, ih7⟩ := ih al1 σ1 fs al' σ' hp'
      -- what holds of whatever first entry that is no alloc and no store
      have plainCase : al1 = al → (∀ q, f ≠ .al q) → (∀ q u, f ≠ .st q u) → al.length ≤ al'.length ∧
    (∀ (i : Nat) (o : Oper) (q : Nat), (p :: l)[i]? = some o → (f :: fs)[i]? = some (.al q) → al.length ≤ q ∧ ∃ d cs ty cs', al'[q]? = some (d, (cs', ty)) ∧ o.dst = some d ∧ cs.all (C.wf 0) = true ∧ cs.length = cs'.length ∧ (NoSt (f :: fs) q → cs = cs') ∧
        ∀ (a : Act) (w : World), (execOp a.eval o).run P w = .ok (.value (.pointer (some ⟨w.heap.size, 0, none⟩))) (w.alloc (.cells (dens ρ cs) ty))) ∧
    (∀ (i j q : Nat), (f :: fs)[i]? = some (.al q) → (f :: fs)[j]? = some (.al q) → i = j) ∧ (∀ q : Nat, al.length ≤ q → q < al'.length → ∃ i : Nat, (f :: fs)[i]? = some (Ent.al q)) ∧ (f :: fs).length = (p :: l).length ∧
    (∀ (q : Nat) (d : Tmp) (cs : List C) (ty : Nat), al[q]? = some (d, (cs, ty)) → ∃ cs', al'[q]? = some (d, (cs', ty)) ∧ cs.length = cs'.length ∧ (NoSt (f :: fs) q → cs = cs')) ∧
    (∀ (i : Nat) (o : Oper) (q : Nat) (u : U), (p :: l)[i]? = some o → (f :: fs)[i]? = some (.st q u) → ∃ d ty cs', al'[q]? = some (d, (cs', ty)) ∧ u.cells.length = cs'.length ∧ u.cells.all C.plain = true ∧ u.cells.all (C.wf 0) = true ∧ (∃ t y, o.op = .store t (.tmp d) y ∧ tsz P t = some u.cells.length) ∧ o.dst = none ∧
        ((∀ (j : Nat) (u' : U), (f :: fs)[j]? = some (.st q u') → j = i) → u.cells = cs')) := by
        rintro rfl hna hns
        refine ⟨hlen, ?_, ?_, ?_, by simp [ih5], ?_, ?_⟩
        · intro i o q hi hf
          cases i with
          | zero => simp only [List.getElem?_cons_zero, Option.some.injEq] at hf; exact absurd hf (hna q)
          | succ i =>
            obtain ⟨g1, d, cs, ty, cs', g2, g3, g4, g5, g6, g7⟩ := ih2 i o q (by simpa using hi) (by simpa using hf)
            exact ⟨g1, d, cs, ty, cs', g2, g3, g4, g5, fun hno => g6 hno.tail, g7⟩
        · intro i j q hi hj
          cases i with
          | zero => simp only [List.getElem?_cons_zero, Option.some.injEq] at hi; exact absurd hi (hna q)
          | succ i => cases j with
            | zero => simp only [List.getElem?_cons_zero, Option.some.injEq] at hj; exact absurd hj (hna q)
            | succ j => rw [ih3 i j q (by simpa using hi) (by simpa using hj)]
        · intro q h1 h2
          obtain ⟨i, hi⟩ := ih4 q h1 h2
          exact ⟨i + 1, by simpa using hi⟩
        · intro q d cs ty hq
          obtain ⟨cs', g1, g2, g3⟩ := ih6 q d cs ty hq
          exact ⟨cs', g1, g2, fun hno => g3 hno.tail⟩
        · intro i o q u hi hf
          cases i with
          | zero => simp only [List.getElem?_cons_zero, Option.some.injEq] at hf; exact absurd hf (hns q u)
          | succ i =>
            obtain ⟨d, ty, cs', g1, g2, g3, g4, g5, g6, g7⟩ := ih7 i o q u (by simpa using hi) (by simpa using hf)
            exact ⟨d, ty, cs', g1, g2, g3, g4, g5, g6, fun hu => g7 fun j u' hj => by have := hu (j + 1) u' (by simpa using hj); omega⟩
      cases f with
      | run x => exact plainCase hs.1 (fun q e => by cases e) (fun q u e => by cases e)
      | skip => exact plainCase hs.1 (fun q e => by cases e) (fun q u e => by cases e)
      | late => exact plainCase hs.1 (fun q e => by cases e) (fun q u e => by cases e)
      | al q0 =>
        obtain ⟨⟨rfl, _⟩, _, _, d, cs, ty, hd, rfl, hw, hr1⟩ := hs
        simp only [List.length_append, List.length_singleton] at hlen
        refine ⟨by omega, ?_, ?_, ?_, by simp [ih5], ?_, ?_⟩
        · intro i o q hi hf
          cases i with
          | zero =>
            simp only [List.getElem?_cons_zero, Option.some.injEq] at hi hf
            subst hi
            cases hf
            obtain ⟨cs', g1, g2, g3⟩ := ih6 al.length d cs ty (by simp)
            exact ⟨Nat.le_refl _, d, cs, ty, cs', g1, hd, hw, g2, fun hno => g3 hno.tail, hr1⟩
          | succ i =>
            obtain ⟨g1, d', cs2, ty', cs', g2, g3, g4, g5, g6, g7⟩ := ih2 i o q (by simpa using hi) (by simpa using hf)
            simp only [List.length_append, List.length_singleton] at g1
            exact ⟨by omega, d', cs2, ty', cs', g2, g3, g4, g5, fun hno => g6 hno.tail, g7⟩
        · intro i j q hi hj
          cases i with
          | zero =>
            cases hi
            cases j with
            | zero => rfl
            | succ j =>
              exfalso
              have hj' : fs[j]? = some (.al al.length) := by simpa using hj
              have hlt : j < l.length := by rw [← ih5]; exact (List.getElem?_eq_some_iff.1 hj').1
              have := (ih2 j l[j] _ (by simp [hlt]) hj').1
              simp at this
              omega
          | succ i => cases j with
            | zero =>
              cases hj
              exfalso
              have hi' : fs[i]? = some (.al al.length) := by simpa using hi
              have hlt : i < l.length := by rw [← ih5]; exact (List.getElem?_eq_some_iff.1 hi').1
              have := (ih2 i l[i] _ (by simp [hlt]) hi').1
              simp at this
              omega
            | succ j => rw [ih3 i j q (by simpa using hi) (by simpa using hj)]
        · intro q h1 h2
          by_cases e : q = al.length
          · subst e; exact ⟨0, rfl⟩
          · obtain ⟨i, hi⟩ := ih4 q (by simp; omega) h2
            exact ⟨i + 1, by simpa using hi⟩
        · intro q d' cs2 ty' hq
          have hlt : q < al.length := (List.getElem?_eq_some_iff.1 hq).1
          obtain ⟨cs', g1, g2, g3⟩ := ih6 q d' cs2 ty' (by rw [List.getElem?_append_left hlt]; exact hq)
          exact ⟨cs', g1, g2, fun hno => g3 hno.tail⟩
        · intro i o q u hi hf
          cases i with
          | zero => cases hf
          | succ i =>
            obtain ⟨d', ty', cs', g1, g2, g3, g4, g5, g6, g7⟩ := ih7 i o q u (by simpa using hi) (by simpa using hf)
            exact ⟨d', ty', cs', g1, g2, g3, g4, g5, g6, fun hu => g7 fun j u' hj => by have := hu (j + 1) u' (by simpa using hj); omega⟩
      | st q0 u0 =>
        obtain ⟨⟨d, cs0, ty, hq0, rfl, hl0, t, y, hop, _, hz⟩, _, _, hdst, _, hpl, hwf⟩ := hs
        have hq0lt : q0 < al.length := (List.getElem?_eq_some_iff.1 hq0).1
        simp only [List.length_set] at hlen
        refine ⟨hlen, ?_, ?_, ?_, by simp [ih5], ?_, ?_⟩
        · intro i o q hi hf
          cases i with
          | zero => cases hf
          | succ i =>
            obtain ⟨g1, d', cs, ty', cs', g2, g3, g4, g5, g6, g7⟩ := ih2 i o q (by simpa using hi) (by simpa using hf)
            simp only [List.length_set] at g1
            exact ⟨g1, d', cs, ty', cs', g2, g3, g4, g5, fun hno => g6 hno.tail, g7⟩
        · intro i j q hi hj
          cases i with
          | zero => cases hi
          | succ i => cases j with
            | zero => cases hj
            | succ j => rw [ih3 i j q (by simpa using hi) (by simpa using hj)]
        · intro q h1 h2
          obtain ⟨i, hi⟩ := ih4 q (by simpa using h1) h2
          exact ⟨i + 1, by simpa using hi⟩
        · intro q d' cs ty' hq
          by_cases e : q0 = q
          · subst e
            rw [hq0] at hq
            cases hq
            obtain ⟨cs', g1, g2, g3⟩ := ih6 q0 d u0.cells ty (by simp [hq0lt])
            exact ⟨cs', g1, by omega, fun hno => absurd rfl (hno 0 u0)⟩
          · obtain ⟨cs', g1, g2, g3⟩ := ih6 q d' cs ty' (by rw [List.getElem?_set_ne e]; exact hq)
            exact ⟨cs', g1, g2, fun hno => g3 hno.tail⟩
        · intro i o q u hi hf
          cases i with
          | zero =>
            simp only [List.getElem?_cons_zero, Option.some.injEq] at hi hf
            subst hi
            cases hf
            obtain ⟨cs', g1, g2, g3⟩ := ih6 q0 d u0.cells ty (by simp [hq0lt])
            refine ⟨d, ty, cs', g1, g2, hpl, hwf, ⟨t, y, hop, hz⟩, hdst, fun hu => g3 fun j u' hj => ?_⟩
            have := hu (j + 1) u' (by simpa using hj)
            omega
          | succ i =>
            obtain ⟨d', ty', cs', g1, g2, g3, g4, g5, g6, g7⟩ := ih7 i o q u (by simpa using hi) (by simpa using hf)
            exact ⟨d', ty', cs', g1, g2, g3, g4, g5, g6, fun hu => g7 fun j u' hj => by have := hu (j + 1) u' (by simpa using hj); omega⟩

end
end Go.Proofs.Ytnlohongffpkpaa.Sx
