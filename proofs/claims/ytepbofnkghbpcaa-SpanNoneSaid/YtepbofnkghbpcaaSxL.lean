/- The symbolic executor: whichever operation of a region comes next. A text of the session's own. -/
import Derived.Test.YtepbofnkghbpcaaSxK
namespace Go.Proofs.Ytepbofnkghbpcaa.Sx
open Go Go.RowKit
set_option linter.unusedVariables false

structure Agree (l : List Oper) (fs : List Ent) (base : Tmp → Value) (N : Nat) (ρ : Nat → Nat) (E : Nat → Bool) (β : Nat → Nat) (a : Act) : Prop where
  defers : a.defers = []
  sz : a.tmps.size = N
  tm : ∀ t, a.tmps.getD t undef = match srcIdx l t with | some j => (match E j with | true => (match fs[j]? with | some f => f.val ρ β | none => undef) | false => base t) | none => base t

structure SW (W : World) (n0 : Nat) (ρ0 ρ : Nat → Nat) (hp : List (Nat × Blk)) (n : Nat) (fs : List Ent) (al' : Al) (E : Nat → Bool) (β : Nat → Nat) (w : World) : Prop where
  H : HInv W n0 ρ0 ρ hp n w
  blk : ∀ (i q : Nat), E i = true → fs[i]? = some (.al q) → ∃ d cs ty, al'[q]? = some (d, (cs, ty)) ∧ w.heap[β q]? = some (.cells (dens ρ cs) ty (0, 0)) ∧ W.heap.size ≤ β q ∧ β q < w.heap.size ∧ ∀ k, k < n → ρ k ≠ β q
  inj : ∀ (i j q r : Nat), E i = true → E j = true → fs[i]? = some (.al q) → fs[j]? = some (.al r) → q ≠ r → β q ≠ β r

section
variable {P : Program} {W : World} {n0 : Nat} {ρ0 : Nat → Nat} {N : Nat} {ρ : Nat → Nat} {ops : Array Oper} {hp : List (Nat × Blk)} {n : Nat}
  {l : List Oper} {fs : List Ent} {base : Tmp → Value} {al' : Al} {E : Nat → Bool} {β : Nat → Nat} {a : Act} {w : World}

theorem SW.below (h : SW W n0 ρ0 ρ hp n fs al' E β w) {w' : World} (hb : Below w.heap.size w w') : SW W n0 ρ0 ρ hp n fs al' E β w' := by
  refine ⟨h.H.below hb, ?_, h.inj⟩
  intro i q hi hf
  obtain ⟨d, cs, ty, h1, h2, h3, h4, h5⟩ := h.blk i q hi hf
  exact ⟨d, cs, ty, h1, (hb.block _ h4).trans h2, h3, Nat.lt_of_lt_of_le h4 hb.size, h5⟩

theorem Agree.put (h : Agree l fs base N ρ E β a) {i : Nat} {d : Tmp} {f : Ent} {β' : Nat → Nat} (hs : srcIdx l d = some i) (hd : d < N) (hf : fs[i]? = some f)
    (hβ : ∀ j q, E j = true → fs[j]? = some (.al q) → β' q = β q) : Agree l fs base N ρ (fun j => E j || Nat.beq j i) β' (a.put (some d) (f.val ρ β')) := by
  refine ⟨h.defers, by simp [Act.put, h.sz], ?_⟩
  intro t
  by_cases e : d = t
  · subst e
    rw [hs]
    have hlt : d < a.tmps.size := by rw [h.sz]; exact hd
    simp [Act.put, hlt, hf]
  · have e1 : (a.put (some d) (f.val ρ β')).tmps.getD t undef = a.tmps.getD t undef := by simp [Act.put, e]
    rw [e1, h.tm t]
    cases hj : srcIdx l t with
    | none => rfl
    | some j =>
      have hne : j ≠ i := by
        intro e2
        subst e2
        obtain ⟨o1, g1, g2⟩ := srcIdx_get hs
        obtain ⟨o2, g3, g4⟩ := srcIdx_get hj
        rw [g1] at g3
        cases g3
        rw [g2] at g4
        cases g4
        exact e rfl
      simp only [Nat.beq_eq_false_iff.2 hne, Bool.or_false]
      cases hE : E j with
      | false => rfl
      | true =>
        simp only
        cases hfj : fs[j]? with
        | none => rfl
        | some g =>
          cases g with
          | run x => rfl
          | skip => rfl
          | al q => simp only [Ent.val]; rw [hβ j q hE hfj]

theorem tmps_get {a b : Act} {N : Nat} (ha : a.tmps.size = N) (hb : b.tmps.size = N) {t : Nat} (h : a.tmps.getD t undef = b.tmps.getD t undef) : a.tmps[t]? = b.tmps[t]? := by
  by_cases ht : t < N
  · have h1 : t < a.tmps.size := by omega
    have h2 : t < b.tmps.size := by omega
    simp only [Array.getD_eq_getD_getElem?, Array.getElem?_eq_getElem h1, Array.getElem?_eq_getElem h2, Option.getD_some] at h
    rw [Array.getElem?_eq_getElem h1, Array.getElem?_eq_getElem h2, h]
  · rw [Array.getElem?_eq_none (by omega), Array.getElem?_eq_none (by omega)]

theorem looks_congr {o : Oper} (hs : ∀ cs b, o.op ≠ .select cs b) {a b : Act} (ha : a.tmps.size = N) (hb : b.tmps.size = N) (h : ∀ t ∈ o.looksAt ops, a.tmps.getD t undef = b.tmps.getD t undef) :
    execOp a.eval o = execOp b.eval o ∧ Region.wanted o (yielded ops a.tmps) = Region.wanted o (yielded ops b.tmps) := by
  constructor
  · refine execOp_congr o hs fun x hx => ?_
    cases x with
    | tmp t =>
      exact h t (List.mem_append_left _ (List.mem_filterMap.2 ⟨.tmp t, by simpa using hx, rfl⟩))
    | _ => rfl
  · unfold Region.wanted
    cases hg : o.guard with
    | none => rfl
    | some gw =>
      obtain ⟨g, want⟩ := gw
      have : yielded ops a.tmps g = yielded ops b.tmps g := by
        unfold yielded
        cases ht : (ops[g]?).bind (·.dst) with
        | none => rfl
        | some t =>
          have := tmps_get ha hb (h t (by simp [Oper.looksAt, hg, ht]))
          simp only [Option.bind_some, this]
      simp only [this]

/-- One operation, whichever comes. -/
theorem step_any {σ : St} {σ' : St} (hpath : PathP P ops W n0 ρ0 N ρ hp n l [] σ fs al' σ') (hdist : distinctB l = true) (hbase : ∀ t, base t = (look σ.tm t).den ρ) (hTM : ∀ t, N ≤ t → base t = undef)
    {i : Nat} {o : Oper} (hi : l[i]? = some o) (ho : ops[i]? = some o) {d : Tmp} (hd : o.dst = some d) (hdN : d < N) (hsel : ∀ cs b, o.op ≠ .select cs b)
    (hdep : ∀ t ∈ o.looksAt ops, ∀ j, srcIdx l t = some j → j < i ∧ E j = true ∧ ∀ q, fs[j]? ≠ some (.al q))
    (hA : Agree l fs base N ρ E β a) (hW : SW W n0 ρ0 ρ hp n fs al' E β w) {Q : Exit → Act → World → Prop} {K : Act → World → Prop}
    (hE : E i = false) (hK : ∀ β' a' w', Agree l fs base N ρ (fun j => E j || Nat.beq j i) β' a' → SW W n0 ρ0 ρ hp n fs al' (fun j => E j || Nat.beq j i) β' w' → K a' w') : wpOp P ops Q i K a w := by
  obtain ⟨f, al_i, σ_i, al1, σ1, hf, hpi, hstep⟩ := path_get l [] σ fs al' σ' hpath i o hi
  obtain ⟨_, hal2, hal3, _, hlen⟩ := path_al l [] σ fs al' σ' hpath
  have hsrc := srcIdx_of hdist hi hd
  have hfs : ∀ j, j < i → (fs.take i)[j]? = fs[j]? := fun j hj => by rw [List.getElem?_take, if_pos hj]
  have hlook := path_look (l.take i) [] σ (fs.take i) al_i σ_i hpi (distinctB_take i hdist)
  have hval : ∀ t ∈ o.looksAt ops, a.tmps.getD t undef = (virt N ρ σ_i).tmps.getD t undef := by
    intro t ht
    by_cases htN : t < N
    · have hv : (virt N ρ σ_i).tmps.getD t undef = (look σ_i.tm t).den ρ := by
        rw [Array.getD_eq_getD_getElem?, virt_get σ_i htN]; rfl
      rw [hv, hA.tm t, hlook t, srcIdx_take]
      cases hj : srcIdx l t with
      | none => exact hbase t
      | some j =>
        obtain ⟨h1, h2, h3⟩ := hdep t ht j hj
        simp only [h1, if_true, h2, hfs j h1]
        cases hfj : fs[j]? with
        | none =>
          exfalso
          obtain ⟨o2, g3, _⟩ := srcIdx_get hj
          have : j < l.length := (List.getElem?_eq_some_iff.1 g3).1
          have := List.getElem?_eq_none_iff.1 hfj
          omega
        | some g =>
          cases g with
          | run x => rfl
          | skip => rfl
          | al q => exact absurd hfj (h3 q)
    · have h1 : a.tmps[t]? = none := Array.getElem?_eq_none (by rw [hA.sz]; exact Nat.le_of_not_lt htN)
      have h2 : (virt N ρ σ_i).tmps[t]? = none := Array.getElem?_eq_none (by simp only [virt, List.size_toArray, List.length_map, List.length_range]; exact Nat.le_of_not_lt htN)
      rw [Array.getD_eq_getD_getElem?, Array.getD_eq_getD_getElem?, h1, h2]
  obtain ⟨hex, hwt⟩ := looks_congr (ops := ops) hsel hA.sz (by simp [virt] : (virt N ρ σ_i).tmps.size = N) hval
  have same : ∀ w', SW W n0 ρ0 ρ hp n fs al' E β w' → (∀ q, f ≠ .al q) → SW W n0 ρ0 ρ hp n fs al' (fun j => E j || Nat.beq j i) β w' := by
    intro w' hW' hne
    refine ⟨hW'.H, ?_, ?_⟩
    · intro j q hj hfj
      by_cases e : j = i
      · subst e; rw [hf] at hfj; cases hfj; exact absurd rfl (hne q)
      · rw [Nat.beq_eq_false_iff.2 e, Bool.or_false] at hj; exact hW'.blk j q hj hfj
    · intro j k q r hj hk hfj hfk hqr
      have e1 : j ≠ i := by intro e; subst e; rw [hf] at hfj; cases hfj; exact absurd rfl (hne q)
      have e2 : k ≠ i := by intro e; subst e; rw [hf] at hfk; cases hfk; exact absurd rfl (hne r)
      rw [Nat.beq_eq_false_iff.2 e1, Bool.or_false] at hj
      rw [Nat.beq_eq_false_iff.2 e2, Bool.or_false] at hk
      exact hW'.inj j k q r hj hk hfj hfk hqr
  unfold wpOp
  simp only [ho]
  rw [hwt]
  cases f with
  | run x =>
    obtain ⟨_, _, _, hw1, hst⟩ := hstep
    rw [if_pos hw1]
    refine .inl ?_
    have hA' := hA.put (β' := β) hsrc hdN hf (fun _ _ _ _ => rfl)
    unfold Oper.wp
    rw [hex]
    rcases hst w hW.H with hr | ⟨g, args, hr, hc⟩
    · rw [hr, Oper.upon_value, hd]
      exact hK β _ w hA' (same w hW (fun q e => by cases e))
    · rw [hr, Oper.upon_enter]
      refine hc.mono ?_
      rintro e w' ⟨rfl, hb⟩
      simp only [hd]
      exact hK β _ w' hA' (same w' (hW.below hb) (fun q e => by cases e))
  | skip =>
    obtain ⟨_, _, hw1⟩ := hstep
    rw [if_neg (by simp [hw1])]
    have hA' := hA.put (β' := β) hsrc hdN hf (fun _ _ _ _ => rfl)
    rw [hd]
    exact hK β _ w hA' (same w hW (fun q e => by cases e))
  | al q =>
    obtain ⟨_, _, hw1, _⟩ := hstep
    obtain ⟨_, d', cs, ty, g1, g2, g3, g4⟩ := hal2 i o q hi hf
    rw [if_pos hw1]
    refine .inl ?_
    have hβ : ∀ j r, E j = true → fs[j]? = some (.al r) → (if r = q then w.heap.size else β r) = β r := by
      intro j r hj hfj
      have : r ≠ q := by
        intro e
        subst e
        have := hal3 j i r hfj hf
        subst this
        rw [hE] at hj
        cases hj
      simp [this]
    have hA' := hA.put (β' := fun x => if x = q then w.heap.size else β x) hsrc hdN hf hβ
    unfold Oper.wp
    rw [g4 a w, Oper.upon_value, hd]
    have hval2 : (Ent.al q).val ρ (fun x => if x = q then w.heap.size else β x) = .pointer (some ⟨w.heap.size, 0, none⟩) := by simp [Ent.val]
    rw [← hval2]
    have hb : Below w.heap.size w (w.alloc (.cells (dens ρ cs) ty)) := (Below.refl _ _).alloc (Nat.le_refl _) _
    have hW1 := hW.below hb
    have hsz : (w.alloc (.cells (dens ρ cs) ty)).heap.size = w.heap.size + 1 := by rw [heap_alloc]; simp
    refine hK _ _ _ hA' ⟨hW1.H, ?_, ?_⟩
    · intro j r hj hfj
      by_cases e : j = i
      · subst e
        rw [hf] at hfj
        cases hfj
        refine ⟨d', cs, ty, g1, ?_, ?_, ?_, ?_⟩
        · simp only [if_true]; rw [heap_alloc]; simp
        · simp only [if_true]; exact hW.H.size
        · simp only [if_true]; omega
        · intro k hk; simp only [if_true]; exact Nat.ne_of_lt (hW.H.lt k hk)
      · rw [Nat.beq_eq_false_iff.2 e, Bool.or_false] at hj
        have := hW1.blk j r hj hfj
        simp only [hβ j r hj hfj]
        exact this
    · intro j k r s hj hk hfj hfk hrs
      by_cases e1 : j = i
      · subst e1
        rw [hf] at hfj
        cases hfj
        by_cases e2 : k = j
        · subst e2; rw [hf] at hfk; cases hfk; exact absurd rfl hrs
        · rw [Nat.beq_eq_false_iff.2 e2, Bool.or_false] at hk
          simp only [hβ k s hk hfk]
          obtain ⟨_, _, _, _, _, _, h4, _⟩ := hW.blk k s hk hfk
          simp only [if_true]
          omega
      · rw [Nat.beq_eq_false_iff.2 e1, Bool.or_false] at hj
        simp only [hβ j r hj hfj]
        by_cases e2 : k = i
        · subst e2
          rw [hf] at hfk
          cases hfk
          obtain ⟨_, _, _, _, _, _, h4, _⟩ := hW.blk j r hj hfj
          simp only [if_true]
          omega
        · rw [Nat.beq_eq_false_iff.2 e2, Bool.or_false] at hk
          simp only [hβ k s hk hfk]
          exact hW.inj j k r s hj hk hfj hfk hrs

end
end Go.Proofs.Ytepbofnkghbpcaa.Sx
