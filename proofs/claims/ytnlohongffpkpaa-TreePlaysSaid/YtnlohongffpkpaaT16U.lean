/- Layer 16: Remove: handles change places; a node with one child, or none, goes. A text of the session's own. -/
import Derived.Test.YtnlohongffpkpaaT16T
namespace Go.Proofs.Ytnlohongffpkpaa.T16
open Go Go.RowKit Go.Proofs.Ytnlohongffpkpaa.Sx
set_option linter.unusedVariables false
set_option linter.unusedSimpArgs false

section
variable {S : TS} {b : Mem} {t : T} {n : Nat}
/-- a handle is changed -/
theorem At.seth {i : Bool} {p s g : Int} {c : Bool} {x y : T} {k : Ctx} (h : At S (mkT i p s g c x y) k) (s' g' : Int) :
    At (S.set p { (Fr.mk i p s g c y).node x.ptr (topP k) x.size with s := s', g := g' }) (mkT i p s' g' c x y) k := by
  obtain ⟨k1, k2, k3⟩ := Rep.mk.1 h.rep
  have hd := h.dj
  have hdp := hd p
  rw [cnt_mk, if_pos rfl] at hdp
  have oth : ∀ q, 0 < cnt q x + cnt q y + ccnt q k → (S.set p { (Fr.mk i p s g c y).node x.ptr (topP k) x.size with s := s', g := g' }).H q = S.H q := by
    intro q hq
    rw [set_H, upd_ne]
    intro e; subst e; omega
  refine ⟨h.ok.wh k1 s' g', Rep.mk.2 ⟨?_, rep_congr (fun q hq => oth q (by omega)) k2, rep_congr (fun q hq => oth q (by omega)) k3⟩, ?_, fun q => ?_, ?_⟩
  · rw [set_H, upd_self]; cases i <;> rfl
  · have := h.ctx
    rw [ptr_mk, size_mk] at this ⊢
    exact repC_congr (fun q hq => oth q (by omega)) this
  · have := hd q; rw [cnt_mk] at this ⊢; exact this
  · have := h.sm; rw [size_mk] at this ⊢; exact this
theorem At.outK : ∀ {kd k : Ctx} {t : T}, At S t (kd ++ k) → At S (plug t kd) k
  | [], k, t, h => h
  | f :: kd, k, t, h => At.outK (kd := kd) (h : At S t (f :: (kd ++ k))).out
theorem At.inK : ∀ {kd k : Ctx} {t : T}, At S (plug t kd) k → At S t (kd ++ k)
  | [], k, t, h => h
  | f :: kd, k, t, h => (At.inK (kd := kd) (t := f.mk' t) h).into
theorem Ents.swap {es : List MapEntry} {L : List (Int × Int × Int)} (h : Ents es L) (hn : (L.map (·.1)).Nodup) (h0 : ∀ x ∈ L, 0 ≤ x.1) {j : Nat} {q s g : Int} (hj : L[j]? = some (q, s, g)) (p : Int) :
    ∃ i, efind (hKey s g) es 0 = some (i, pv q 0) ∧ Ents (es.modify i fun e => { e with key := hKey s g, val := pv p 0 }) (L.set j (p, s, g)) := by
  obtain ⟨e, he, hk, hv⟩ := h.fro _ (List.mem_of_getElem? hj)
  obtain ⟨i, hi⟩ := List.getElem?_of_mem he
  refine ⟨i, by rw [efind_some rfl h.ap hi hk, hv, Nat.zero_add], ?_⟩
  have hjl := (List.getElem?_eq_some_iff.1 hj).1
  have hLu : ∀ {a c : Nat} {x y : Int × Int × Int}, L[a]? = some x → L[c]? = some y → x.1 = y.1 → a = c := by
    intro a c x y ha hc hxy
    have ha' : (L.map (·.1))[a]? = some x.1 := by simp [ha]
    have hc' : (L.map (·.1))[c]? = some x.1 := by simp [hc, hxy]
    have la := (List.getElem?_eq_some_iff.1 ha').1
    exact (List.getElem?_inj la hn).1 (ha'.trans hc'.symm)
  have huniq : ∀ {a c : Nat} {x y : MapEntry}, es[a]? = some x → es[c]? = some y → x.key = y.key → a = c := by
    intro a c x y ha hc hxy
    rcases Nat.lt_trichotomy a c with h1 | h1 | h1
    · have := List.pairwise_iff_getElem.1 h.ap a c (List.getElem?_eq_some_iff.1 ha).1 (List.getElem?_eq_some_iff.1 hc).1 h1
      rw [(List.getElem?_eq_some_iff.1 ha).2, (List.getElem?_eq_some_iff.1 hc).2] at this
      exact absurd hxy this
    · exact h1
    · have := List.pairwise_iff_getElem.1 h.ap c a (List.getElem?_eq_some_iff.1 hc).1 (List.getElem?_eq_some_iff.1 ha).1 h1
      rw [(List.getElem?_eq_some_iff.1 ha).2, (List.getElem?_eq_some_iff.1 hc).2] at this
      exact absurd hxy.symm this
  have hkey : ∀ a e', (es.modify i fun e => { e with key := hKey s g, val := pv p 0 })[a]? = some e' → ∃ e0, es[a]? = some e0 ∧ e'.key = e0.key ∧ (a = i → e'.val = pv p 0) ∧ (a ≠ i → e' = e0) := by
    intro a e' ha
    rw [List.getElem?_modify] at ha
    cases hh : es[a]? with
    | none => rw [hh] at ha; cases ha
    | some e0 =>
      rw [hh] at ha
      by_cases hia : i = a
      · subst hia
        rw [hi] at hh; cases hh
        simp at ha
        exact ⟨e, rfl, by rw [← ha]; exact hk.symm, fun _ => by rw [← ha], fun hne => absurd rfl hne⟩
      · simp [hia] at ha
        exact ⟨e0, rfl, by rw [ha], fun e => absurd e.symm hia, fun _ => ha.symm⟩
  refine ⟨?_, fun e' he' => ?_, fun x hx => ?_, fun x hx => ?_⟩
  · rw [List.pairwise_iff_getElem]
    intro a c ha hc hac
    obtain ⟨ea, a1, a2, _⟩ := hkey a _ (List.getElem?_eq_getElem ha)
    obtain ⟨ec, c1, c2, _⟩ := hkey c _ (List.getElem?_eq_getElem hc)
    rw [a2, c2]
    intro hh
    have := huniq a1 c1 hh
    omega
  · obtain ⟨a, ha⟩ := List.getElem?_of_mem he'
    obtain ⟨e0, a1, a2, a3, a4⟩ := hkey a e' ha
    by_cases hai : a = i
    · subst hai
      rw [hi] at a1; cases a1
      refine ⟨(p, s, g), List.mem_of_getElem? (List.getElem?_set_self hjl), a2.trans hk, a3 rfl⟩
    · obtain ⟨x, hx, k1, k2⟩ := h.to e0 (List.mem_of_getElem? a1)
      obtain ⟨c, hc⟩ := List.getElem?_of_mem hx
      have hcj : j ≠ c := by
        rintro rfl
        rw [hj] at hc; cases hc
        exact hai (huniq a1 hi (k1.trans hk.symm))
      rw [a4 hai]
      exact ⟨x, List.mem_of_getElem? (by rw [List.getElem?_set_ne hcj]; exact hc), k1, k2⟩
  · obtain ⟨c, hc⟩ := List.getElem?_of_mem hx
    by_cases hcj : j = c
    · subst hcj
      rw [List.getElem?_set_self hjl] at hc; cases hc
      refine ⟨{ e with key := hKey s g, val := pv p 0 }, List.mem_of_getElem? (i := i) (by rw [List.getElem?_modify, hi]; simp), rfl, rfl⟩
    · rw [List.getElem?_set_ne hcj] at hc
      obtain ⟨e', he', k1, k2⟩ := h.fro x (List.mem_of_getElem? hc)
      obtain ⟨a, ha⟩ := List.getElem?_of_mem he'
      have hai : i ≠ a := by
        rintro rfl
        rw [hi] at ha; cases ha
        have hp := congrArg vP (hv.symm.trans k2)
        rw [vP_pv (h0 _ (List.mem_of_getElem? hj)), vP_pv (h0 _ (List.mem_of_getElem? hc))] at hp
        exact hcj (hLu hj hc hp)
      exact ⟨e', List.mem_of_getElem? (i := a) (by rw [List.getElem?_modify, ha]; simp [hai]), k1, k2⟩
  · obtain ⟨c, hc⟩ := List.getElem?_of_mem hx
    by_cases hcj : j = c
    · subst hcj
      rw [List.getElem?_set_self hjl] at hc; cases hc
      exact h.rng (q, s, g) (List.mem_of_getElem? hj)
    · rw [List.getElem?_set_ne hcj] at hc
      exact h.rng x (List.mem_of_getElem? hc)
theorem swap_mem (hS : S.ok) {s g : Int} {i : Nat} {v : Value} (hf : efind (hKey s g) S.es.toList 0 = some (i, v)) (p : Int) :
    mput (S.mem b) (.map (some S.q)) (.agg (.mk [(.int .i64 s), (.int .u64 g)])) (pv p 0) = (S.put (S.es.modify i fun e => { e with key := hKey s g, val := pv p 0 }) S.k).mem b := by
  funext a
  simp only [mput, mchg]
  by_cases e : a = S.q
  · subst e
    rw [if_pos rfl, mem_q hS]
    simp only [esPut]
    rw [show efind (.agg (.mk [(.int .i64 s), (.int .u64 g)])) S.es.toList 0 = some (i, v) from hf]
    simp [TS.mem, TS.put, Ne.symm hS.ne]
  · rw [if_neg e]
    simp [TS.mem, TS.put, e]
theorem At.put {es : Array MapEntry} {kk : Nat} {k : Ctx} (h : At S t k) : At (S.put es kk) t k := ⟨put_ok h.ok, h.rep, h.ctx, h.dj, h.sm⟩
/-- the way up, the hanging, the filling: all in one -/
theorem remT_walk {x xs xg : Int} {xc : Bool} {l r : T} {k : Ctx} {n : Nat} {i : Int} {W : Leaf → Leaf} {Q : Leaf → Prop} (h : At S (.nd x xs xg xc l r) k) (hj : l = .nil ∨ r = .nil)
    (h1 : RB (.nd x xs xg xc l r) n) (h2 : xc = true → mayR k = true) (h3 : RBC k n) (hQ : ∀ S', Settled S (cl k ++ (nodes l ++ nodes r) ++ cr k) S' → Q (W (.memo (.tup [(.c (.si .i64 i)), (.c (.lb true))]) (S'.mem b)))) :
    (T_remL (S.mem b) S.p x i W).sat Q := by
  refine remL_walk h hj fun S1 c j hl he hD => ?_
  refine remH_walk hl hD (by rw [← he]; exact h1) h2 h3 fun S' hs => hQ S' ?_
  have : nodes (plug c k) = cl k ++ (nodes l ++ nodes r) ++ cr k := by
    rw [nodes_plug]
    have hc : nodes c = nodes l ++ nodes r := by
      cases j
      · injection he with _ _ _ _ e1 e2
        subst e1 e2; rfl
      · injection he with _ _ _ _ e1 e2
        subst e1 e2; simp [nodes]
    rw [hc]
  rw [← this]; exact hs
end
end Go.Proofs.Ytnlohongffpkpaa.T16
