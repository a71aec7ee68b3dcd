/- The symbolic executor: the operations of a region that come in whatever order: whichever comes, it comes to the same. A text of the session's own. -/
import Derived.Test.YtepbofnkghbpcaaSxJ
namespace Go.Proofs.Ytepbofnkghbpcaa.Sx
open Go Go.RowKit

def srcIdx : List Oper → Tmp → Option Nat
  | [], _ => none
  | o :: l, t => match o.dst with
    | some d => (match Nat.beq d t with | true => some 0 | false => match srcIdx l t with | some j => some (j + 1) | none => none)
    | none => match srcIdx l t with | some j => some (j + 1) | none => none

def distinctB : List Oper → Bool
  | [] => true
  | o :: l => match o.dst with
    | some d => (match srcIdx l d with | none => distinctB l | some _ => false)
    | none => false

def Ent.val (ρ β : Nat → Nat) : Ent → Value
  | .run x => x.den ρ
  | .skip => undef
  | .al q => .pointer (some ⟨β q, 0, none⟩)

/-- what a tmp holds in the text's order, with what was there: b -/
def tval (ρ : Nat → Nat) (b : Value) : Option Ent → Value
  | some (.run x) => x.den ρ
  | some .skip => undef
  | _ => b

theorem srcIdx_get {l : List Oper} {t : Tmp} {j : Nat} (h : srcIdx l t = some j) : ∃ o, l[j]? = some o ∧ o.dst = some t := by
  induction l generalizing j with
  | nil => cases h
  | cons o l ih =>
    simp only [srcIdx] at h
    split at h
    · rename_i d hd
      split at h
      · rename_i e
        cases h
        exact ⟨o, rfl, by rw [hd, Nat.eq_of_beq_eq_true e]⟩
      · split at h
        · rename_i j' hj
          cases h
          obtain ⟨o', h1, h2⟩ := ih hj
          exact ⟨o', by simpa using h1, h2⟩
        · cases h
    · split at h
      · rename_i j' hj
        cases h
        obtain ⟨o', h1, h2⟩ := ih hj
        exact ⟨o', by simpa using h1, h2⟩
      · cases h

theorem srcIdx_of {l : List Oper} (hd : distinctB l = true) {i : Nat} {o : Oper} {d : Tmp} (h : l[i]? = some o) (ho : o.dst = some d) : srcIdx l d = some i := by
  induction l generalizing i with
  | nil => cases h
  | cons p l ih =>
    simp only [distinctB] at hd
    split at hd
    · rename_i e he
      split at hd
      · rename_i hn
        cases i with
        | zero =>
          simp only [List.getElem?_cons_zero, Option.some.injEq] at h
          subst h
          rw [he] at ho
          cases ho
          simp [srcIdx, he]
        | succ i =>
          simp only [List.getElem?_cons_succ] at h
          have := ih hd h
          simp only [srcIdx, he]
          by_cases ed : e = d
          · subst ed; rw [hn] at this; cases this
          · rw [Nat.beq_eq_false_iff.2 ed, this]
      · cases hd
    · cases hd

theorem srcIdx_take {l : List Oper} {t : Tmp} {i : Nat} : srcIdx (l.take i) t = match srcIdx l t with | some j => if j < i then some j else none | none => none := by
  induction l generalizing i with
  | nil => simp [srcIdx]
  | cons o l ih =>
    cases i with
    | zero =>
      simp only [List.take_zero, srcIdx]
      split <;> rfl
    | succ i =>
      simp only [List.take_succ_cons, srcIdx, ih (i := i)]
      split
      · rename_i d hd
        split
        · rfl
        · cases srcIdx l t with
          | none => rfl
          | some j => simp only; by_cases h : j < i <;> simp [h]
      · cases srcIdx l t with
        | none => rfl
        | some j => simp only; by_cases h : j < i <;> simp [h]

theorem distinctB_tail {o : Oper} {l : List Oper} (h : distinctB (o :: l) = true) : distinctB l = true ∧ ∃ d, o.dst = some d ∧ srcIdx l d = none := by
  simp only [distinctB] at h
  split at h
  · rename_i d hd
    split at h
    · rename_i hn; exact ⟨h, d, hd, hn⟩
    · cases h
  · cases h

theorem distinctB_take {l : List Oper} (i : Nat) (h : distinctB l = true) : distinctB (l.take i) = true := by
  induction l generalizing i with
  | nil => simp [distinctB]
  | cons o l ih =>
    obtain ⟨h1, d, h2, h3⟩ := distinctB_tail h
    cases i with
    | zero => simp [distinctB]
    | succ i =>
      simp only [List.take_succ_cons, distinctB, h2]
      have : srcIdx (l.take i) d = none := by rw [srcIdx_take, h3]
      rw [this]
      exact ih i h1

section
variable {P : Program} {S : List Sum} {W : World} {n0 : Nat} {ρ0 : Nat → Nat} {N : Nat} {ρ : Nat → Nat} {R : Leaf → Prop} {ops : Array Oper} {hp : List (Nat × Blk)} {n : Nat}

theorem path_look : ∀ (l : List Oper) (al : Al) (σ : St) (fs : List Ent) (al' : Al) (σ' : St), PathP P ops W n0 ρ0 N ρ hp n l al σ fs al' σ' → distinctB l = true → ∀ t,
    (look σ'.tm t).den ρ = match srcIdx l t with | some j => tval ρ ((look σ.tm t).den ρ) fs[j]? | none => (look σ.tm t).den ρ := by
  intro l
  induction l with
  | nil =>
    intro al σ fs al' σ' h _ t
    cases fs with
    | nil => obtain ⟨_, rfl⟩ := h; rfl
    | cons f fs => exact h.elim
  | cons o l ih =>
    intro al σ fs al' σ' h hd t
    cases fs with
    | nil => exact h.elim
    | cons f fs =>
      obtain ⟨al1, σ1, hs, hp'⟩ := h
      obtain ⟨hd1, d, hd2, hd3⟩ := distinctB_tail hd
      rw [ih al1 σ1 fs al' σ' hp' hd1 t]
      simp only [srcIdx, hd2]
      have hstep : (look σ1.tm t).den ρ = if d = t then tval ρ ((look σ.tm t).den ρ) (some f) else (look σ.tm t).den ρ := by
        cases f with
        | run x => have := hs.2.2.1 t; rw [hd2] at this; simpa [tval] using this
        | skip => have := hs.2.1 t; rw [hd2] at this; simpa [tval] using this
        | al q => have := hs.2.1 t; simpa [tval] using this
      by_cases e : d = t
      · subst e
        rw [hd3]
        simp only [Nat.beq_refl, List.getElem?_cons_zero]
        simpa using hstep
      · rw [Nat.beq_eq_false_iff.2 e]
        rw [if_neg e] at hstep
        rw [hstep]
        cases srcIdx l t with
        | none => rfl
        | some j => simp

theorem path_get : ∀ (l : List Oper) (al : Al) (σ : St) (fs : List Ent) (al' : Al) (σ' : St), PathP P ops W n0 ρ0 N ρ hp n l al σ fs al' σ' → ∀ (i : Nat) (o : Oper), l[i]? = some o →
    ∃ f al_i σ_i al1 σ1, fs[i]? = some f ∧ PathP P ops W n0 ρ0 N ρ hp n (l.take i) al σ (fs.take i) al_i σ_i ∧ StepP P ops W n0 ρ0 N ρ hp n o al_i σ_i f al1 σ1 := by
  intro l
  induction l with
  | nil => intro al σ fs al' σ' _ i o h; cases h
  | cons p l ih =>
    intro al σ fs al' σ' h i o hi
    cases fs with
    | nil => exact h.elim
    | cons f fs =>
      obtain ⟨al1, σ1, hs, hp'⟩ := h
      cases i with
      | zero =>
        simp only [List.getElem?_cons_zero, Option.some.injEq] at hi
        subst hi
        exact ⟨f, al, σ, al1, σ1, rfl, ⟨rfl, rfl⟩, hs⟩
      | succ i =>
        simp only [List.getElem?_cons_succ] at hi
        obtain ⟨f', al_i, σ_i, al2, σ2, h1, h2, h3⟩ := ih al1 σ1 fs al' σ' hp' i o hi
        exact ⟨f', al_i, σ_i, al2, σ2, by simpa using h1, ⟨al1, σ1, hs, h2⟩, h3⟩

/-- the new blocks, in the text's order -/
theorem path_al : ∀ (l : List Oper) (al : Al) (σ : St) (fs : List Ent) (al' : Al) (σ' : St), PathP P ops W n0 ρ0 N ρ hp n l al σ fs al' σ' →
    (∃ r, al' = al ++ r) ∧ (∀ (i : Nat) (o : Oper) (q : Nat), l[i]? = some o → fs[i]? = some (.al q) → al.length ≤ q ∧ ∃ d cs ty, al'[q]? = some (d, (cs, ty)) ∧ o.dst = some d ∧ cs.all (C.wf 0) = true ∧
        ∀ (a : Act) (w : World), (execOp a.eval o).run P w = .ok (.value (.pointer (some ⟨w.heap.size, 0, none⟩))) (w.alloc (.cells (dens ρ cs) ty))) ∧
    (∀ (i j q : Nat), fs[i]? = some (.al q) → fs[j]? = some (.al q) → i = j) ∧ (∀ q : Nat, al.length ≤ q → q < al'.length → ∃ i : Nat, fs[i]? = some (Ent.al q)) ∧ fs.length = l.length := by
  intro l
  induction l with
  | nil =>
    intro al σ fs al' σ' h
    cases fs with
    | nil =>
      obtain ⟨rfl, rfl⟩ := h
      exact ⟨⟨[], by simp⟩, (fun i o q hi => by cases hi), (fun i j q hi => by cases hi), (fun q h1 h2 => by omega), rfl⟩
    | cons f fs => exact h.elim
  | cons p l ih =>
    intro al σ fs al' σ' h
    cases fs with
    | nil => exact h.elim
    | cons f fs =>
      obtain ⟨al1, σ1, hs, hp'⟩ := h
      obtain ⟨⟨r, hr⟩, ih2, ih3, ih4, ih5⟩ := ih al1 σ1 fs al' σ' hp'
      cases f with
      | run x =>
        obtain ⟨rfl, _⟩ := hs
        refine ⟨⟨r, hr⟩, ?_, ?_, ?_, by simp [ih5]⟩
        · intro i o q hi hf
          cases i with
          | zero => cases hf
          | succ i => exact ih2 i o q (by simpa using hi) (by simpa using hf)
        · intro i j q hi hj
          cases i with
          | zero => cases hi
          | succ i => cases j with
            | zero => cases hj
            | succ j => rw [ih3 i j q (by simpa using hi) (by simpa using hj)]
        · intro q h1 h2
          obtain ⟨i, hi⟩ := ih4 q h1 h2
          exact ⟨i + 1, by simpa using hi⟩
      | skip =>
        obtain ⟨rfl, _⟩ := hs
        refine ⟨⟨r, hr⟩, ?_, ?_, ?_, by simp [ih5]⟩
        · intro i o q hi hf
          cases i with
          | zero => cases hf
          | succ i => exact ih2 i o q (by simpa using hi) (by simpa using hf)
        · intro i j q hi hj
          cases i with
          | zero => cases hi
          | succ i => cases j with
            | zero => cases hj
            | succ j => rw [ih3 i j q (by simpa using hi) (by simpa using hj)]
        · intro q h1 h2
          obtain ⟨i, hi⟩ := ih4 q h1 h2
          exact ⟨i + 1, by simpa using hi⟩
      | al q0 =>
        obtain ⟨⟨rfl, _⟩, _, _, d, cs, ty, hd, rfl, hw, hr1⟩ := hs
        refine ⟨⟨(d, (cs, ty)) :: r, by rw [hr]; simp⟩, ?_, ?_, ?_, by simp [ih5]⟩
        · intro i o q hi hf
          cases i with
          | zero =>
            simp only [List.getElem?_cons_zero, Option.some.injEq] at hi hf
            subst hi
            cases hf
            refine ⟨Nat.le_refl _, d, cs, ty, ?_, hd, hw, hr1⟩
            rw [hr]
            simp
          | succ i =>
            obtain ⟨g1, g2⟩ := ih2 i o q (by simpa using hi) (by simpa using hf)
            simp only [List.length_append, List.length_singleton] at g1
            exact ⟨by omega, g2⟩
        · intro i j q hi hj
          cases i with
          | zero =>
            cases hi
            cases j with
            | zero => rfl
            | succ j =>
              exfalso
              have hj' : fs[j]? = some (.al al.length) := by simpa using hj
              have hlt : j < l.length := by rw [← ih5]; exact (List.getElem?_eq_some_iff.1 hj').1
              have := (ih2 j l[j] _ (by simp [hlt]) hj').1
              simp at this
              omega
          | succ i => cases j with
            | zero =>
              cases hj
              exfalso
              have hi' : fs[i]? = some (.al al.length) := by simpa using hi
              have hlt : i < l.length := by rw [← ih5]; exact (List.getElem?_eq_some_iff.1 hi').1
              have := (ih2 i l[i] _ (by simp [hlt]) hi').1
              simp at this
              omega
            | succ j => rw [ih3 i j q (by simpa using hi) (by simpa using hj)]
        · intro q h1 h2
          by_cases e : q = al.length
          · subst e; exact ⟨0, rfl⟩
          · obtain ⟨i, hi⟩ := ih4 q (by simp; omega) h2
            exact ⟨i + 1, by simpa using hi⟩

end
end Go.Proofs.Ytepbofnkghbpcaa.Sx
