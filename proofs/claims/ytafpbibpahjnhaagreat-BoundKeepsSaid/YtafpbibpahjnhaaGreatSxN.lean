/- The symbolic executor: a region that leaves its order open tells what the machine does. A text of the session's own. -/
import Derived.Test.YtafpbibpahjnhaaGreatSxM
namespace Go.Proofs.YtafpbibpahjnhaaGreat.Sx
open Go Go.RowKit
set_option linter.unusedVariables false

section
variable {P : Program} {S : List Sum} {W : World} {n0 : Nat} {ρ0 : Nat → Nat} {N : Nat} {ops : Array Oper} {w : World}

/-- A block that is there already is taken into the local heap. -/
theorem HInv.adopt {ρ : Nat → Nat} {hp : Hp} {n : Nat} (h : HInv W n0 ρ0 ρ hp n w) {b : Nat} {cs : List C} {ty : Nat} (hc : cs.all (C.wf 0) = true) (hb : w.heap[b]? = some (.cells (dens ρ cs) ty (0, 0))) (hW : W.heap.size ≤ b) (hlt : b < w.heap.size)
    (hne : ∀ k, k < n → ρ k ≠ b) : HInv W n0 ρ0 (fun i => if i = n then b else ρ i) (hcons (n, (cs, ty)) hp) (n + 1) w := by
  have hE : Ext n ρ (fun i => if i = n then b else ρ i) := fun i hi => by simp [Nat.ne_of_lt hi]
  have hcn : cs.all (C.wf n) = true := by
    simp only [List.all_eq_true] at hc ⊢
    exact fun x hx => C.wf_mono (Nat.zero_le _) x (hc x hx)
  refine ⟨?_, ?_, ?_, by have := h.le; omega, ?_, ?_, h.os, h.tape, h.output, h.size, h.far, ?_⟩
  · intro i hi
    show (if i = n then b else ρ i) < _
    split
    · exact hlt
    · exact h.lt i (by omega)
  · intro i j hi hj he
    replace he : (if i = n then b else ρ i) = (if j = n then b else ρ j) := he
    split at he <;> split at he
    · omega
    · exact absurd he.symm (hne j (by omega))
    · exact absurd he (hne i (by omega))
    · exact h.inj i j (by omega) (by omega) he
  · intro i b' hb'
    simp only [lookH_hcons, lookH_hnil] at hb'
    by_cases e : n = i
    · subst e
      simp only [Nat.beq_refl] at hb'
      cases hb'
      refine ⟨by omega, ?_, ?_⟩
      · simp only [List.all_eq_true] at hc ⊢
        exact fun x hx => C.wf_mono (Nat.zero_le _) x (hc x hx)
      · simp only [if_true]
        rw [dens_ext hE cs hcn]
        exact hb
    · rw [Nat.beq_eq_false_iff.2 e] at hb'
      obtain ⟨h1, h2, h3⟩ := h.blk i b' hb'
      refine ⟨by omega, ?_, ?_⟩
      · simp only [List.all_eq_true] at h2 ⊢
        exact fun x hx => C.wf_mono (by omega) x (h2 x hx)
      · show w.heap[if i = n then b else ρ i]? = _
        rw [dens_ext hE b'.1 h2, if_neg (fun x => e x.symm)]
        exact h3
  · intro i hi
    have := h.le
    exact (hE i (by omega)).trans (h.old i hi)
  · intro i h1 h2
    show W.heap.size ≤ (if i = n then b else ρ i)
    split
    · exact hW
    · exact h.new i h1 (by omega)
  · intro i m hm
    rw [lookM_hcons] at hm
    obtain ⟨h1, h2, h3⟩ := h.mblk i m hm
    refine ⟨by omega, mwf_mono (by omega) _ h2, ?_⟩
    show w.heap[if i = n then b else ρ i]? = _
    rw [mden_ext hE m.1 h2, if_neg (by omega)]
    exact h3

/-- All new blocks of a region are taken into the local heap. -/
theorem adopt_inv : ∀ (r : Al) (σ : St) (ρ : Nat → Nat) (a : Act) (bs : List Nat) (val : Tmp → Value), bs.length = r.length → HInv W n0 ρ0 ρ σ.hp σ.n w → (∀ q ∈ σ.tm, q.2.wf σ.n = true) →
    (∀ (k : Nat) (d : Tmp) (cs : List C) (ty b : Nat), r[k]? = some (d, (cs, ty)) → bs[k]? = some b → cs.all (C.wf 0) = true ∧ w.heap[b]? = some (.cells (dens ρ cs) ty (0, 0)) ∧ W.heap.size ≤ b ∧ b < w.heap.size ∧ ∀ i, i < σ.n → ρ i ≠ b) → bs.Nodup →
    a.defers = [] → a.tmps.size = N → (∀ (k : Nat) (d : Tmp) (cs : List C) (ty b : Nat), r[k]? = some (d, (cs, ty)) → bs[k]? = some b → (∀ (j : Nat) (d' : Tmp) (x : Blk), k < j → r[j]? = some (d', x) → d' ≠ d) → a.tmps.getD d undef = .pointer (some ⟨b, 0, none⟩)) →
    (∀ t, (∀ (k : Nat) (d : Tmp) (x : Blk), r[k]? = some (d, x) → d ≠ t) → a.tmps.getD t undef = (look σ.tm t).den ρ) →
    ∃ ρ', Inv W n0 ρ0 N ρ' (adopt σ r) a w ∧ Ext σ.n ρ ρ' ∧ σ.n ≤ (adopt σ r).n := by
  intro r
  induction r with
  | nil =>
    intro σ ρ a bs val _ hH hwf _ _ h1 h2 _ h4
    exact ⟨ρ, ⟨h1, h2, fun t => h4 t (fun k d x h => by cases h), hwf, hH⟩, Ext.refl _ _, Nat.le_refl _⟩
  | cons p r ih =>
    obtain ⟨d, cs, ty⟩ := p
    intro σ ρ a bs val hlen hH hwf hb hnd h1 h2 h3 h4
    match bs, hlen, hnd with
    | b :: bs, hlen, hnd =>
      rw [List.nodup_cons] at hnd
      obtain ⟨g1, g2, g3, g4, g5⟩ := hb 0 d cs ty b rfl rfl
      have hH' := hH.adopt g1 g2 g3 g4 g5
      have hE : Ext σ.n ρ (fun i => if i = σ.n then b else ρ i) := fun i hi => by simp [Nat.ne_of_lt hi]
      have A1 : ∀ q ∈ (d, V.u (U.c (C.ptr σ.n 0))) :: σ.tm, q.2.wf (σ.n + 1) = true := by
        intro q hq
        simp only [List.mem_cons] at hq
        rcases hq with rfl | hq
        · simp [V.wf, U.wf, C.wf]
        · exact V.wf_mono (Nat.le_succ _) _ (hwf q hq)
      have A2 : ∀ (k : Nat) (d' : Tmp) (cs' : List C) (ty' b' : Nat), r[k]? = some (d', (cs', ty')) → bs[k]? = some b' → cs'.all (C.wf 0) = true ∧
          w.heap[b']? = some (.cells (dens (fun i => if i = σ.n then b else ρ i) cs') ty' (0, 0)) ∧ W.heap.size ≤ b' ∧ b' < w.heap.size ∧ ∀ i, i < σ.n + 1 → (fun i => if i = σ.n then b else ρ i) i ≠ b' := by
        intro k d' cs' ty' b' hk hbk
        obtain ⟨e1, e2, e3, e4, e5⟩ := hb (k + 1) d' cs' ty' b' (by simpa using hk) (by simpa using hbk)
        have hcn : cs'.all (C.wf σ.n) = true := by
          simp only [List.all_eq_true] at e1 ⊢
          exact fun x hx => C.wf_mono (Nat.zero_le _) x (e1 x hx)
        refine ⟨e1, ?_, e3, e4, ?_⟩
        · rw [dens_ext hE cs' hcn]; exact e2
        · intro i hi
          show (if i = σ.n then b else ρ i) ≠ b'
          split
          · intro e
            subst e
            exact hnd.1 (List.mem_of_getElem? hbk)
          · exact e5 i (by omega)
      have A3 : ∀ (k : Nat) (d' : Tmp) (cs' : List C) (ty' b' : Nat), r[k]? = some (d', (cs', ty')) → bs[k]? = some b' → (∀ (j : Nat) (d2 : Tmp) (x : Blk), k < j → r[j]? = some (d2, x) → d2 ≠ d') → a.tmps.getD d' undef = .pointer (some ⟨b', 0, none⟩) := by
        intro k d' cs' ty' b' hk hbk hl
        exact h3 (k + 1) d' cs' ty' b' (by simpa using hk) (by simpa using hbk) (fun j d2 x hj hjd => by
          cases j with
          | zero => omega
          | succ j => exact hl j d2 x (by omega) (by simpa using hjd))
      have A4 : ∀ t, (∀ (k : Nat) (d' : Tmp) (x : Blk), r[k]? = some (d', x) → d' ≠ t) → a.tmps.getD t undef = (look ((d, V.u (U.c (C.ptr σ.n 0))) :: σ.tm) t).den (fun i => if i = σ.n then b else ρ i) := by
        intro t ht
        simp only [look]
        by_cases e : d = t
        · subst e
          simp only [Nat.beq_refl]
          rw [h3 0 d cs ty b rfl rfl (fun j d' x hj hjd => by
            cases j with
            | zero => omega
            | succ j => exact ht j d' x (by simpa using hjd))]
          simp [V.den, U.den, C.den]
        · rw [Nat.beq_eq_false_iff.2 e]
          simp only
          rw [V.den_ext hE _ (look_wf hwf t)]
          refine h4 t fun k d' x hk => ?_
          cases k with
          | zero => simp only [List.getElem?_cons_zero, Option.some.injEq, Prod.mk.injEq] at hk; exact hk.1 ▸ e
          | succ k => exact ht k d' x (by simpa using hk)
      obtain ⟨ρ', k1, k2, k3⟩ := ih { tm := (d, .u (.c (.ptr σ.n 0))) :: σ.tm, hp := hcons (σ.n, (cs, ty)) σ.hp, n := σ.n + 1 } (fun i => if i = σ.n then b else ρ i) a bs val (by simpa using hlen) hH' A1 A2 hnd.2 h1 h2 A3 A4
      exact ⟨ρ', k1, hE.trans (Nat.le_succ _) k2, Nat.le_trans (Nat.le_succ _) k3⟩

theorem drawx_sound (hN : NameOK P) (hS : ∀ q ∈ S, SumOK P q) (hmix : P.follows .mixedOrders = true) : DSnd P (drawx P S) := by
  intro ih hih W n0 ρ0 N R id ops σ k ρ a w Q hI h hk
  unfold drawx at h
  simp only at h
  generalize hbf : befs ops.toList [] = bf at h
  generalize frontLen bf 0 0 = m at h
  split at h
  case h_2 => exact h.elim
  rename_i hok
  split at h
  case h_2 => exact h.elim
  rename_i ids hids
  simp only [drawOK, Bool.and_eq_true] at hok
  obtain ⟨⟨⟨⟨⟨⟨⟨⟨⟨hm, htail⟩, hdist⟩, hdeps⟩, hedges⟩, honce⟩, hsome⟩, hsel⟩, hdst⟩, hlates⟩ := hok
  simp only [latesOK, Bool.and_eq_true] at hlates
  obtain ⟨hchain, hlall⟩ := hlates
  have hm' := Nat.le_of_ble_eq_true hm
  have hedge : ∀ (i : Nat) (o : Oper), ops[i]? = some o → ∀ e ∈ o.after, Region.binds .any e = true → e.on < i := by
    intro i o ho e he hb
    have := edgesOK_spec _ 0 hedges i o (by simpa using ho) e he hb
    omega
  have hcov : ∀ t j, m ≤ t → t < ops.size → j < t → ∀ L, Closed ops L → (∀ o, ops[t]? = some o → ∀ e ∈ o.after, Region.binds .any e = true → L e.on) → L j := by
    intro t j h1 h2 h3 L hL hr
    simp only [tailOK, List.all_eq_true, List.mem_range, Bool.or_eq_true, Nat.blt_eq] at htail
    have hc := (htail t h2).resolve_left (by omega)
    have hb := covers_bit hc h3
    rw [← hbf] at hb
    refine befs_spec ops ops.toList [] (fun i o hi => by simpa using hi) (fun i j hj => by simp at hj) t j hb L hL hr
  have hT0 : TM N ρ ({ σ with hp := eraseAll ids σ.hp } : St) := hI.TM
  obtain ⟨fs, al', σ1, hs, e1, e2, hT1, hpath⟩ := frontx_path (ops := ops) hN hS (hI.H.sub (eraseAll_sub ids σ.hp)) (ops.toList.take m) [] { σ with hp := eraseAll ids σ.hp } rfl rfl hT0 h
  have hlenl : (ops.toList.take m).length = m := by simp; omega
  obtain ⟨σ', hlp, hs⟩ := laterx_path (S := S) _ _ hs
  obtain ⟨htm1, hn1⟩ := hlp.keeps
  replace htm1 : σ'.tm = σ1.tm := htm1
  replace hn1 : σ'.n = σ1.n := hn1
  have hT' : TM N ρ σ' := by
    refine ⟨fun q hq => ?_, fun t ht => ?_⟩
    · rw [hn1]; rw [htm1] at hq; exact hT1.1 q hq
    · rw [htm1]; exact hT1.2 t ht
  have e2' : σ'.n = σ.n := hn1.trans e2
  obtain ⟨_, hal2, hal3, hal4, hlenf, _, hal7⟩ := path_al _ _ _ _ _ _ hpath
  have hdsto : ∀ o ∈ ops.toList.take m, okDst N o.dst = true := by simpa only [List.all_eq_true] using hdst
  have hsomeo : ∀ o ∈ ops.toList.take m, (o.dst.isSome || storeOp o.op && o.guard.isNone) = true := by simpa only [List.all_eq_true] using hsome
  refine wp_region_any hmix ?_
  have hI' : Inv W n0 ρ0 N ρ σ a { w with drawn := w.drawn + 1 } := ⟨hI.defers, hI.sz, hI.tm, hI.tmwf, hI.H.drew _⟩
  refine front_any (σ := { σ with hp := eraseAll ids σ.hp }) (σ' := σ1) (fs := fs) (al' := al') (base := fun t => (look σ.tm t).den ρ) hm' hcov hedge hsel hpath hdist honce hsomeo e2 (fun _ => rfl) hI.TM.2 hdsto (fun k o hk => by
      have := depsOK_spec _ _ 0 hdeps k o hk
      rwa [Nat.zero_add] at this) hT1 (fun i o hi hl => by
      simp only [List.all_eq_true] at hlall
      have := hlall i (lateIdx_mem.2 ⟨o, hi, hl⟩)
      rw [hi] at this
      exact this) (σ2 := σ') ?_ ops.size (Array.replicate ops.size false) (fun _ => 0) a _ (lateIdx ops (ops.toList.take m)) { σ1 with hp := σ.hp } (by simp) ?_ ?_ ⟨hchain, lateIdx_nodup _ _⟩ ?_ (fun i o hi hl => .inr (lateIdx_mem.2 ⟨o, hi, hl⟩)) hlp rfl e2 (eraseAll_sub ids σ.hp) ⟨List.range ops.size, List.nodup_range, fun i hi _ => List.mem_range.2 hi, by simp⟩ ?_ ?_
  · intro β a' w' hA hW'
    have hqs : ∀ q, q < al'.length → ∃ (i : Nat) (o : Oper), (ops.toList.take m)[i]? = some o ∧ fs[i]? = some (Ent.al q) := by
      intro q hq
      obtain ⟨i, hi⟩ := hal4 q (by simp) hq
      have hlt : i < (ops.toList.take m).length := by rw [← hlenf]; exact (List.getElem?_eq_some_iff.1 hi).1
      exact ⟨i, (ops.toList.take m)[i], List.getElem?_eq_getElem hlt, hi⟩
    have H := adopt_inv (W := W) (n0 := n0) (ρ0 := ρ0) (N := N) (w := w') al' σ' ρ a' ((List.range al'.length).map β) (fun _ => undef) (by simp) (by rw [e2']; exact hW'.H) hT'.1
      (by
        intro q d cs ty b hq hb
        have hqlt : q < al'.length := (List.getElem?_eq_some_iff.1 hq).1
        have hb' : b = β q := by
          simp [hqlt] at hb
          exact hb.symm
        subst hb'
        obtain ⟨i, o, hi, hf⟩ := hqs q hqlt
        obtain ⟨d2, cs2, ty2, cs2', k1, k2, k3, k4, k5, k6, k7, k8⟩ := hW'.blk i q rfl hf
        rw [hq] at k1
        cases k1
        have e := k8 fun _ _ _ => rfl
        subst e
        exact ⟨k6, k2, k3, k4, fun j hj => k5 j (by rw [← e2']; exact hj)⟩)
      (by
        rw [List.nodup_iff_pairwise_ne, List.pairwise_map]
        refine List.Pairwise.imp_of_mem ?_ List.nodup_range
        intro q r hq hr hne
        rw [List.mem_range] at hq hr
        obtain ⟨i, o, hi, hf⟩ := hqs q hq
        obtain ⟨j, o2, hj, hg⟩ := hqs r hr
        exact hW'.inj i j q r rfl rfl hf hg hne)
      hA.defers hA.sz
      (by
        intro q d cs ty b hq hb _
        have hqlt : q < al'.length := (List.getElem?_eq_some_iff.1 hq).1
        have hb' : b = β q := by
          simp [hqlt] at hb
          exact hb.symm
        subst hb'
        obtain ⟨i, o, hi, hf⟩ := hqs q hqlt
        obtain ⟨_, d1, cs1, ty1, cs1', g1, g2, _, _⟩ := hal2 i o q hi hf
        rw [hq] at g1
        cases g1
        rw [hA.tm d, srcIdx_of hdist hi g2]
        simp only [hf]
        rfl)
      (by
        intro t ht
        rw [hA.tm t, htm1, path_look _ _ _ _ _ _ hpath hdist t]
        cases hj : srcIdx (ops.toList.take m) t with
        | none => rfl
        | some j =>
          simp only
          cases hf : fs[j]? with
          | none =>
            exfalso
            obtain ⟨o2, g3, _⟩ := srcIdx_get hj
            have : j < (ops.toList.take m).length := (List.getElem?_eq_some_iff.1 g3).1
            have := List.getElem?_eq_none_iff.1 hf
            omega
          | some f =>
            cases f with
            | run x => rfl
            | skip => rfl
            | late =>
              exfalso
              obtain ⟨o2, g3, g4⟩ := srcIdx_get hj
              have := (path_isL _ _ _ _ _ _ hpath j o2 _ g3 hf).2 rfl
              rw [this] at g4
              cases g4
            | st q u =>
              exfalso
              obtain ⟨o2, g3, g4⟩ := srcIdx_get hj
              obtain ⟨_, _, _, _, _, _, _, _, g5, _⟩ := hal7 j o2 q u g3 hf
              rw [g5] at g4
              cases g4
            | al q =>
              exfalso
              obtain ⟨o2, g3, g4⟩ := srcIdx_get hj
              obtain ⟨_, d1, cs1, ty1, cs1', g1, g2, _, _⟩ := hal2 j o2 q g3 hf
              rw [g4] at g2
              cases g2
              exact ht q _ _ g1 rfl)
    obtain ⟨ρ', hI2, hE2, hle2⟩ := H
    refine opsx_sound hN hS hih ops _ _ ρ' a' w' hI2 hs fun σ2 ρ2 a2 w2 g1 g2 g3 g4 => hk σ2 ρ2 a2 w2 g1 ?_ ?_ g4
    · rw [e2'] at hE2 hle2
      exact hE2.trans hle2 g2
    · rw [e2'] at hle2
      omega
  · intro i o hi
    exfalso
    have : (Array.replicate ops.size false).getD i false = false := by
      rw [Array.getD_eq_getD_getElem?, Array.getElem?_replicate]
      split <;> rfl
    rw [this] at hi
    cases hi
  · intro t _ ht
    simp [ht]
  · intro i hi
    obtain ⟨o, h1, h2⟩ := lateIdx_mem.1 hi
    refine ⟨o, h1, h2, ?_⟩
    rw [Array.getD_eq_getD_getElem?, Array.getElem?_replicate]
    split <;> rfl
  · refine ⟨hI.defers, hI.sz, fun t => ?_⟩
    rw [hI.tm t]
    cases srcIdx (ops.toList.take m) t with
    | none => rfl
    | some j =>
      simp only
      have : (Array.replicate ops.size false).getD j false = false := by
        rw [Array.getD_eq_getD_getElem?, Array.getElem?_replicate]
        split <;> rfl
      rw [this]
  · refine ⟨hI'.H, fun i q hi _ => ?_, fun i j q r hi _ _ _ _ => ?_⟩
    · have : (Array.replicate ops.size false).getD i false = false := by
        rw [Array.getD_eq_getD_getElem?, Array.getElem?_replicate]
        split <;> rfl
      rw [this] at hi
      cases hi
    · have : (Array.replicate ops.size false).getD i false = false := by
        rw [Array.getD_eq_getD_getElem?, Array.getElem?_replicate]
        split <;> rfl
      rw [this] at hi
      cases hi

end
end Go.Proofs.YtafpbibpahjnhaaGreat.Sx
