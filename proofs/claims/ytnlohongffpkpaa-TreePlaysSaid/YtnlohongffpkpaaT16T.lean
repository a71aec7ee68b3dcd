/- Layer 16: Remove: the map, the parts of its walk. A text of the session's own. -/
import Derived.Test.YtnlohongffpkpaaT16R
namespace Go.Proofs.Ytnlohongffpkpaa.T16
open Go Go.RowKit Go.Proofs.Ytnlohongffpkpaa.Sx
set_option linter.unusedVariables false
set_option linter.unusedSimpArgs false

section
variable {S : TS} {b : Mem} {t : T} {n : Nat}
theorem cnt_nodes (q : Int) : ∀ t : T, cnt q t = ((nodes t).map (·.1)).count q
  | .nil => rfl
  | .nd p s g c l r => by
    simp only [cnt, nodes, List.map_append, List.map_cons, List.count_append, List.count_cons, cnt_nodes q l, cnt_nodes q r]
    by_cases e : q = p
    · subst e; simp; omega
    · simp [e, Ne.symm e, beq_iff_eq]
theorem nodes_nodup (h : At S t []) : ((nodes t).map (·.1)).Nodup := by
  rw [List.nodup_iff_count]
  intro q
  have := h.dj q
  rw [cnt_nodes] at this
  simp only [ccnt] at this; omega
/-- an entry goes -/
theorem Ents.del {es : List MapEntry} {L : List (Int × Int × Int)} (h : Ents es L) (hn : (L.map (·.1)).Nodup) (h0 : ∀ x ∈ L, 0 ≤ x.1) {j : Nat} {p s g : Int} (hj : L[j]? = some (p, s, g)) :
    ∃ i, efind (hKey s g) es 0 = some (i, pv p 0) ∧ Ents (es.eraseIdx i) (L.eraseIdx j) := by
  obtain ⟨e, he, hk, hv⟩ := h.fro _ (List.mem_of_getElem? hj)
  obtain ⟨i, hi⟩ := List.getElem?_of_mem he
  refine ⟨i, by rw [efind_some rfl h.ap hi hk, hv, Nat.zero_add], ?_⟩
  have huniq : ∀ {a c : Nat} {x y : MapEntry}, es[a]? = some x → es[c]? = some y → x.key = y.key → a = c := by
    intro a c x y ha hc hxy
    rcases Nat.lt_trichotomy a c with h1 | h1 | h1
    · have := List.pairwise_iff_getElem.1 h.ap a c (List.getElem?_eq_some_iff.1 ha).1 (List.getElem?_eq_some_iff.1 hc).1 h1
      rw [(List.getElem?_eq_some_iff.1 ha).2, (List.getElem?_eq_some_iff.1 hc).2] at this
      exact absurd hxy this
    · exact h1
    · have := List.pairwise_iff_getElem.1 h.ap c a (List.getElem?_eq_some_iff.1 hc).1 (List.getElem?_eq_some_iff.1 ha).1 h1
      rw [(List.getElem?_eq_some_iff.1 ha).2, (List.getElem?_eq_some_iff.1 hc).2] at this
      exact absurd hxy.symm this
  have hLu : ∀ {a c : Nat} {x y : Int × Int × Int}, L[a]? = some x → L[c]? = some y → x.1 = y.1 → a = c := by
    intro a c x y ha hc hxy
    have ha' : (L.map (·.1))[a]? = some x.1 := by simp [ha]
    have hc' : (L.map (·.1))[c]? = some x.1 := by simp [hc, hxy]
    have la := (List.getElem?_eq_some_iff.1 ha').1
    exact (List.getElem?_inj la hn).1 (ha'.trans hc'.symm)
  refine ⟨h.ap.sublist (List.eraseIdx_sublist _ _), fun e' he' => ?_, fun x hx => ?_, fun x hx => h.rng x ((List.eraseIdx_sublist _ _).mem hx)⟩
  · obtain ⟨a, ha, hea⟩ := List.mem_eraseIdx_iff_getElem?.1 he'
    obtain ⟨x, hx, k1, k2⟩ := h.to e' (List.mem_of_getElem? hea)
    refine ⟨x, List.mem_eraseIdx_iff_getElem?.2 ?_, k1, k2⟩
    obtain ⟨c, hc⟩ := List.getElem?_of_mem hx
    refine ⟨c, ?_, hc⟩
    rintro rfl
    rw [hj] at hc; cases hc
    exact ha (huniq hea hi (k1.trans hk.symm))
  · obtain ⟨c, hc, hxc⟩ := List.mem_eraseIdx_iff_getElem?.1 hx
    obtain ⟨e', he', k1, k2⟩ := h.fro x (List.mem_of_getElem? hxc)
    obtain ⟨a, ha⟩ := List.getElem?_of_mem he'
    refine ⟨e', List.mem_eraseIdx_iff_getElem?.2 ⟨a, ?_, ha⟩, k1, k2⟩
    rintro rfl
    rw [hi] at ha; cases ha
    have : pv p 0 = pv x.1 0 := hv.symm.trans k2
    have hp := congrArg vP this
    rw [vP_pv (h0 _ (List.mem_of_getElem? hj)), vP_pv (h0 _ (List.mem_of_getElem? hxc))] at hp
    exact hc (hLu hxc hj hp.symm)
theorem nodes_nn (h : At S t []) : ∀ x ∈ nodes t, 0 ≤ x.1 := by
  rintro ⟨p, s, g⟩ hx
  obtain ⟨j, hj⟩ := List.getElem?_of_mem hx
  obtain ⟨c, l, r, k, hk, hl⟩ := split_at hj
  have hA : At S (mkT false p s g c l r) k := At.ins (by rw [show plug (mkT false p s g c l r) k = t from hk]; exact h)
  exact Int.le_of_lt (h.ok.nd p _ hA.get).1
theorem del_mem (hS : S.ok) {s g : Int} {i : Nat} {v : Value} (hf : efind (hKey s g) S.es.toList 0 = some (i, v)) :
    mdel (S.mem b) (.map (some S.q)) (.agg (.mk [(.int .i64 s), (.int .u64 g)])) = (S.put (S.es.eraseIdxIfInBounds i) S.k).mem b := by
  funext a
  simp only [mdel, mchg]
  by_cases e : a = S.q
  · subst e
    rw [if_pos rfl, mem_q hS]
    simp only [esDel]
    rw [show efind (.agg (.mk [(.int .i64 s), (.int .u64 g)])) S.es.toList 0 = some (i, v) from hf]
    simp [TS.mem, TS.put, Ne.symm hS.ne]
  · rw [if_neg e]
    simp [TS.mem, TS.put, e]
/-- a tree's colours, told at a hole -/
theorem RB_ins : ∀ {k : Ctx} {t : T} {n : Nat}, RB (plug t k) n → red (plug t k) = false → ∃ m, RB t m ∧ (red t = true → mayR k = true) ∧ RBC k m
  | [], t, n, h, h2 => ⟨n, h, fun e => (by have h2 : red t = false := h2; rw [h2] at e; cases e), trivial⟩
  | f :: k, t, n, h, h2 => by
    obtain ⟨m, g1, g2, g3⟩ := RB_ins (k := k) (t := f.mk' t) h h2
    exact RB_down (i := f.i) (p := f.p) (s := f.s) (g := f.g) (c := f.c) (x := t) (y := f.o) g1 (fun e => g2 (by rw [Fr.mk', red_mk]; exact e)) g3
end
end Go.Proofs.Ytnlohongffpkpaa.T16
