/- The symbolic executor: a region that leaves its order open tells what the machine does. A text of the session's own. -/
import Derived.Test.YtnlohongffpkpaaSxM
namespace Go.Proofs.Ytnlohongffpkpaa.Sx
open Go Go.RowKit
set_option linter.unusedVariables false

section
variable {P : Program} {S : List Sum} {W : World} {n0 : NL} {ρ0 : Nat → Nat} {N : Nat} {ops : Array Oper} {w : World}

/-- A block that is there already is taken into the local heap. -/
theorem HInv.adopt {ρ : Nat → Nat} {hp : Hp} {n : Nat} (h : HInv W n0 ρ0 ρ hp n w) {b : Nat} {cs : List C} {ty : Nat} (hc : cs.all (C.wf 0) = true) (hb : w.heap[b]? = some (.cells (dens ρ cs) ty (0, 0))) (hW : W.heap.size ≤ b) (hlt : b < w.heap.size)
    (hne : Sep ρ n hp b) : HInv W n0 ρ0 (fun i => if i = n then b else ρ i) (hcons (n, (cs, ty)) hp) (n + 1) w := by
  have hE : Ext n ρ (fun i => if i = n then b else ρ i) := fun i hi => by simp [Nat.ne_of_lt hi]
  have hcn : cs.all (C.wf n) = true := by
    simp only [List.all_eq_true] at hc ⊢
    exact fun x hx => C.wf_mono (Nat.zero_le _) x (hc x hx)
  refine ⟨?_, ?_, ?_, by have := h.le; omega, ?_, ?_, h.os, h.tape, h.output, h.size, h.far, ?_, h.lim, h.mem.adopt hne.2⟩
  · intro i hi
    show (if i = n then b else ρ i) < _
    split
    · exact hlt
    · exact h.lt i (by omega)
  · intro i j hi hj he
    replace he : (if i = n then b else ρ i) = (if j = n then b else ρ j) := he
    split at he <;> split at he
    · omega
    · exact absurd he.symm (hne.1 j (by omega))
    · exact absurd he (hne.1 i (by omega))
    · exact h.inj i j (by omega) (by omega) he
  · intro i b' hb'
    simp only [lookH_hcons, lookH_hnil] at hb'
    by_cases e : n = i
    · subst e
      simp only [Nat.beq_refl] at hb'
      cases hb'
      refine ⟨by omega, ?_, ?_⟩
      · simp only [List.all_eq_true] at hc ⊢
        exact fun x hx => C.wf_mono (Nat.zero_le _) x (hc x hx)
      · simp only [if_true]
        rw [dens_ext hE cs hcn]
        exact hb
    · rw [Nat.beq_eq_false_iff.2 e] at hb'
      obtain ⟨h1, h2, h3⟩ := h.blk i b' hb'
      refine ⟨by omega, ?_, ?_⟩
      · simp only [List.all_eq_true] at h2 ⊢
        exact fun x hx => C.wf_mono (by omega) x (h2 x hx)
      · show w.heap[if i = n then b else ρ i]? = _
        rw [dens_ext hE b'.1 h2, if_neg (fun x => e x.symm)]
        exact h3
  · intro i hi
    have := h.le
    exact (hE i (by omega)).trans (h.old i hi)
  · intro i h1 h2
    show W.heap.size ≤ (if i = n then b else ρ i)
    split
    · exact hW
    · exact h.new i h1 (by omega)
  · intro i m hm
    rw [lookM_hcons] at hm
    obtain ⟨h1, h2, h3⟩ := h.mblk i m hm
    refine ⟨by omega, mwf_mono (by omega) _ h2, ?_⟩
    show w.heap[if i = n then b else ρ i]? = _
    rw [mden_ext hE m.1 h2, if_neg (by omega)]
    exact h3

/-- All new blocks of a region are taken into the local heap. -/
theorem adopt_inv : ∀ (r : Al) (σ : St) (ρ : Nat → Nat) (a : Act) (bs : List Nat) (val : Tmp → Value), bs.length = r.length → HInv W n0 ρ0 ρ σ.hp σ.n w → (∀ q ∈ σ.tm, q.2.wf σ.n = true) →
    (∀ (k : Nat) (d : Tmp) (cs : List C) (ty b : Nat), r[k]? = some (d, (cs, ty)) → bs[k]? = some b → cs.all (C.wf 0) = true ∧ w.heap[b]? = some (.cells (dens ρ cs) ty (0, 0)) ∧ W.heap.size ≤ b ∧ b < w.heap.size ∧ Sep ρ σ.n σ.hp b) → bs.Nodup →
    a.defers = [] → a.tmps.size = N → (∀ (k : Nat) (d : Tmp) (cs : List C) (ty b : Nat), r[k]? = some (d, (cs, ty)) → bs[k]? = some b → (∀ (j : Nat) (d' : Tmp) (x : Blk), k < j → r[j]? = some (d', x) → d' ≠ d) → a.tmps.getD d undef = .pointer (some ⟨b, 0, none⟩)) →
    (∀ t, (∀ (k : Nat) (d : Tmp) (x : Blk), r[k]? = some (d, x) → d ≠ t) → a.tmps.getD t undef = (look σ.tm t).den ρ) →
    ∃ ρ', Inv W n0 ρ0 N ρ' (adopt σ r) a w ∧ Ext σ.n ρ ρ' ∧ σ.n ≤ (adopt σ r).n := by
  intro r
  induction r with
  | nil =>
    intro σ ρ a bs val _ hH hwf _ _ h1 h2 _ h4
    exact ⟨ρ, ⟨h1, h2, fun t => h4 t (fun k d x h => by cases h), hwf, hH⟩, Ext.refl _ _, Nat.le_refl _⟩
  | cons p r ih =>
    obtain ⟨d, cs, ty⟩ := p
    intro σ ρ a bs val hlen hH hwf hb hnd h1 h2 h3 h4
    match bs, hlen, hnd with
    | b :: bs, hlen, hnd =>
      rw [List.nodup_cons] at hnd
      obtain ⟨g1, g2, g3, g4, g5⟩ := hb 0 d cs ty b rfl rfl
      have hH' := hH.adopt g1 g2 g3 g4 g5
      have hE : Ext σ.n ρ (fun i => if i = σ.n then b else ρ i) := fun i hi => by simp [Nat.ne_of_lt hi]
      have A1 : ∀ q ∈ (d, V.u (U.c (C.ptr σ.n 0))) :: σ.tm, q.2.wf (σ.n + 1) = true := by
        intro q hq
        simp only [List.mem_cons] at hq
        rcases hq with rfl | hq
        · simp [V.wf, U.wf, C.wf]
        · exact V.wf_mono (Nat.le_succ _) _ (hwf q hq)
      have A2 : ∀ (k : Nat) (d' : Tmp) (cs' : List C) (ty' b' : Nat), r[k]? = some (d', (cs', ty')) → bs[k]? = some b' → cs'.all (C.wf 0) = true ∧
          w.heap[b']? = some (.cells (dens (fun i => if i = σ.n then b else ρ i) cs') ty' (0, 0)) ∧ W.heap.size ≤ b' ∧ b' < w.heap.size ∧ Sep (fun i => if i = σ.n then b else ρ i) (σ.n + 1) (hcons (σ.n, (cs, ty)) σ.hp) b' := by
        intro k d' cs' ty' b' hk hbk
        obtain ⟨e1, e2, e3, e4, e5⟩ := hb (k + 1) d' cs' ty' b' (by simpa using hk) (by simpa using hbk)
        have hcn : cs'.all (C.wf σ.n) = true := by
          simp only [List.all_eq_true] at e1 ⊢
          exact fun x hx => C.wf_mono (Nat.zero_le _) x (e1 x hx)
        refine ⟨e1, ?_, e3, e4, ?_⟩
        · rw [dens_ext hE cs' hcn]; exact e2
        · refine ⟨fun i hi => ?_, e5.2⟩
          show (if i = σ.n then b else ρ i) ≠ b'
          split
          · intro e
            subst e
            exact hnd.1 (List.mem_of_getElem? hbk)
          · exact e5.1 i (by omega)
      have A3 : ∀ (k : Nat) (d' : Tmp) (cs' : List C) (ty' b' : Nat), r[k]? = some (d', (cs', ty')) → bs[k]? = some b' → (∀ (j : Nat) (d2 : Tmp) (x : Blk), k < j → r[j]? = some (d2, x) → d2 ≠ d') → a.tmps.getD d' undef = .pointer (some ⟨b', 0, none⟩) := by
        intro k d' cs' ty' b' hk hbk hl
        exact h3 (k + 1) d' cs' ty' b' (by simpa using hk) (by simpa using hbk) (fun j d2 x hj hjd => by
          cases j with
          | zero => omega
          | succ j => exact hl j d2 x (by omega) (by simpa using hjd))
      have A4 : ∀ t, (∀ (k : Nat) (d' : Tmp) (x : Blk), r[k]? = some (d', x) → d' ≠ t) → a.tmps.getD t undef = (look ((d, V.u (U.c (C.ptr σ.n 0))) :: σ.tm) t).den (fun i => if i = σ.n then b else ρ i) := by
        intro t ht
        simp only [look]
        by_cases e : d = t
        · subst e
          simp only [Nat.beq_refl]
          rw [h3 0 d cs ty b rfl rfl (fun j d' x hj hjd => by
            cases j with
            | zero => omega
            | succ j => exact ht j d' x (by simpa using hjd))]
          simp [V.den, U.den, C.den]
        · rw [Nat.beq_eq_false_iff.2 e]
          simp only
          rw [V.den_ext hE _ (look_wf hwf t)]
          refine h4 t fun k d' x hk => ?_
          cases k with
          | zero => simp only [List.getElem?_cons_zero, Option.some.injEq, Prod.mk.injEq] at hk; exact hk.1 ▸ e
          | succ k => exact ht k d' x (by simpa using hk)
      obtain ⟨ρ', k1, k2, k3⟩ := ih { tm := (d, .u (.c (.ptr σ.n 0))) :: σ.tm, hp := hcons (σ.n, (cs, ty)) σ.hp, n := σ.n + 1 } (fun i => if i = σ.n then b else ρ i) a bs val (by simpa using hlen) hH' A1 A2 hnd.2 h1 h2 A3 A4
      exact ⟨ρ', k1, hE.trans (Nat.le_succ _) k2, Nat.le_trans (Nat.le_succ _) k3⟩

theorem clusx_any (hN : NameOK P) (hS : ∀ q ∈ S, SumOK P q) {ih : Nat → Code → St → K → Tr} (hih : Snd P ih) {R : Leaf → Prop} {s m : Nat} {bf : List Nat} (hbf : befs ops.toList [] = bf) (hE : edgesOK ops.toList 0 = true) (hsel : Region.noSelect ops = true)
    {σ : St} {ρ : Nat → Nat} {k : St → Tr} {a : Act} {Q : Exit → Act → World → Prop} (hI : Inv W n0 ρ0 N ρ σ a w) (h : (clusx P S ih N ops s m (segL ops s m) bf σ k).sat R)
    {fuel : Nat} {listed : Array Bool} (hls : listed.size = ops.size) (hlisted : ∀ i, i < ops.size → (listed.getD i false = true ↔ i < s)) (hfu : ops.size - s ≤ fuel)
    (hk : s < m → m ≤ ops.size → ∀ (σ' : St) (ρ' : Nat → Nat) (a' : Act) (w' : World), Inv W n0 ρ0 N ρ' σ' a' w' → Ext σ.n ρ ρ' → σ.n ≤ σ'.n → (k σ').sat R → ∀ (fuel : Nat) (listed : Array Bool), listed.size = ops.size → (∀ i, i < ops.size → (listed.getD i false = true ↔ i < m)) → ops.size - m ≤ fuel → wpAny P .any ops Q fuel listed a' w') :
    wpAny P .any ops Q fuel listed a w := by
  unfold clusx at h
  generalize hlL : segL ops s m = l at h
  split at h
  case h_2 => exact h.elim
  rename_i hok
  split at h
  case h_2 => exact h.elim
  rename_i ids hids
  simp only [drawOK, Bool.and_eq_true] at hok
  obtain ⟨⟨⟨⟨⟨⟨⟨⟨hsm, hm⟩, hcut⟩, hdist⟩, hdeps⟩, honce⟩, hsome⟩, hdst⟩, hlates⟩ := hok
  simp only [latesOK, Bool.and_eq_true] at hlates
  obtain ⟨hchain, hlall⟩ := hlates
  have hm' := Nat.le_of_ble_eq_true hm
  have hsm' : s < m := by simpa using hsm
  have hlenl : l.length = m := by rw [← hlL]; exact segL_length (by omega) hm'
  have hl : ∀ i, s ≤ i → i < m → l[i]? = ops[i]? := fun i h1 h2 => by rw [← hlL]; exact segL_get h1 h2
  have hlp : ∀ i, i < s → l[i]? = some nopO := fun i h1 => by rw [← hlL]; exact segL_pad h1
  have hlenb : bf.length = ops.size := by rw [← hbf, befs_length]; simp
  have hedge : ∀ (i : Nat) (o : Oper), ops[i]? = some o → ∀ e ∈ o.after, Region.binds .any e = true → e.on < i := by
    intro i o ho e he hb
    have := edgesOK_spec _ 0 hE i o (by simpa using ho) e he hb
    omega
  have hcov : ∀ t j, m ≤ t → t < ops.size → s ≤ j → j < m → ∀ L, Closed ops L → (∀ o, ops[t]? = some o → ∀ e ∈ o.after, Region.binds .any e = true → L e.on) → L j := by
    intro t j h1 h2 h4 h3 L hL hr
    have hb := cutOK_spec hcut h1 (by omega) h4 h3
    rw [← hbf] at hb
    refine befs_spec ops ops.toList [] (fun i o hi => by simpa using hi) (fun i j hj => by simp at hj) t j hb L hL hr
  have hT0 : TM N ρ ({ σ with hp := eraseAll ids σ.hp } : St) := hI.TM
  obtain ⟨fs, al', σ1, hs, e1, e2, hT1, hpath⟩ := frontx_path (ops := ops) (L := l) hN hS hih (hI.H.sub (eraseAll_sub ids σ.hp)) l [] { σ with hp := eraseAll ids σ.hp } rfl rfl hT0 h
  obtain ⟨σ', hlp', hs⟩ := laterx_path (S := S) _ _ hs
  obtain ⟨htm1, hn1⟩ := hlp'.keeps
  replace htm1 : σ'.tm = σ1.tm := htm1
  replace hn1 : σ'.n = σ1.n := hn1
  have hT' : TM N ρ σ' := by
    refine ⟨fun q hq => ?_, fun t ht => ?_⟩
    · rw [hn1]; rw [htm1] at hq; exact hT1.1 q hq
    · rw [htm1]; exact hT1.2 t ht
  have e2' : σ'.n = σ.n := hn1.trans e2
  obtain ⟨_, hal2, hal3, hal4, hlenf, _, hal7⟩ := path_al _ _ _ _ _ _ hpath
  have hdsto : ∀ o ∈ l, okDst N o.dst = true := by simpa only [List.all_eq_true] using hdst
  have hsomeo : ∀ o ∈ l, (o.dst.isSome || storeOp o.op && o.guard.isNone) = true := by simpa only [List.all_eq_true] using hsome
  have hpad : ∀ i, i < s → fs[i]? = some .late := by
    intro i hi
    have hlt : i < fs.length := by omega
    have hf : fs[i]? = some fs[i] := List.getElem?_eq_getElem hlt
    have := (path_isL _ _ _ _ _ _ hpath i nopO fs[i] (hlp i hi) hf).1
    rw [hf]
    cases hfi : fs[i] with
    | late => rfl
    | run x => rw [hfi] at this; cases this
    | skip => rw [hfi] at this; cases this
    | al q => rw [hfi] at this; cases this
    | st q u => rw [hfi] at this; cases this
  have hun : ∀ i, s ≤ i → i < ops.size → listed.getD i false = false := by
    intro i h1 h2
    cases h3 : listed.getD i false with
    | false => rfl
    | true => have := (hlisted i h2).1 h3; omega
  have hpre : ∀ i, i < s → listed.getD i false = true := fun i hi => (hlisted i (by omega)).2 hi
  -- whoever made something stands at s or behind
  have hge : ∀ (i : Nat) (f : Ent), fs[i]? = some f → f.isL = false → s ≤ i := by
    intro i f hf hL
    rcases Nat.lt_or_ge i s with hi | hi
    · rw [hpad i hi] at hf; cases hf; cases hL
    · exact hi
  have hal0 : ∀ (i q : Nat), listed.getD i false = true → fs[i]? = some (.al q) → False := by
    intro i q h1 h2
    have h3 := hge i _ h2 rfl
    have h4 : i < fs.length := (List.getElem?_eq_some_iff.1 h2).1
    rw [hun i h3 (by omega)] at h1
    cases h1
  refine front_any (s := s) (σ := { σ with hp := eraseAll ids σ.hp }) (σ' := σ1) (fs := fs) (al' := al') (base := fun t => (look σ.tm t).den ρ) hm' hlenl hl hcov hedge hsel hpath hpad hdist honce hsomeo e2 (fun _ => rfl) hI.TM.2 hdsto (fun k o hk => by
      have := depsOK_spec _ _ 0 hdeps k o hk
      rwa [Nat.zero_add] at this) hT1 (fun i o hi hL => by
      rcases Nat.lt_or_ge i s with his | his
      · rw [hlp i his] at hi
        cases hi
        rfl
      · simp only [List.all_eq_true] at hlall
        have := hlall i (lateIdx_mem.2 ⟨his, o, hi, hL⟩)
        rw [hi] at this
        exact this) (σ2 := σ') ?_ fuel listed (fun _ => 0) a _ (lateIdx l s) { σ1 with hp := σ.hp } hls hpre ?_ (fun t h1 h2 => hun t (by omega) h2) ⟨hchain, lateIdx_nodup _ _⟩ ?_ (fun i o hi hL => by
      rcases Nat.lt_or_ge i s with his | his
      · exact .inl (hpre i his)
      · exact .inr (lateIdx_mem.2 ⟨his, o, hi, hL⟩)) hlp' rfl e2 (eraseAll_sub ids σ.hp) ⟨List.range' s (ops.size - s), List.nodup_range', fun i hi hif => ?_, by simpa using hfu⟩ ?_ ?_
  · intro β a' w' fuel2 listed2 hls2 hl2 hf2 hA hW'
    have hqs : ∀ q, q < al'.length → ∃ (i : Nat) (o : Oper), l[i]? = some o ∧ fs[i]? = some (Ent.al q) := by
      intro q hq
      obtain ⟨i, hi⟩ := hal4 q (by simp) hq
      have hlt : i < l.length := by rw [← hlenf]; exact (List.getElem?_eq_some_iff.1 hi).1
      exact ⟨i, l[i], List.getElem?_eq_getElem hlt, hi⟩
    have H := adopt_inv (W := W) (n0 := n0) (ρ0 := ρ0) (N := N) (w := w') al' σ' ρ a' ((List.range al'.length).map β) (fun _ => undef) (by simp) (by rw [e2']; exact hW'.H) hT'.1
      (by
        intro q d cs ty b hq hb
        have hqlt : q < al'.length := (List.getElem?_eq_some_iff.1 hq).1
        have hb' : b = β q := by
          simp [hqlt] at hb
          exact hb.symm
        subst hb'
        obtain ⟨i, o, hi, hf⟩ := hqs q hqlt
        obtain ⟨d2, cs2, ty2, cs2', k1, k2, k3, k4, k5, k6, k7, k8⟩ := hW'.blk i q rfl hf
        rw [hq] at k1
        cases k1
        have e := k8 fun _ _ _ => rfl
        subst e
        exact ⟨k6, k2, k3, k4, fun j hj => k5.1 j (by rw [← e2']; exact hj), k5.2⟩)
      (by
        rw [List.nodup_iff_pairwise_ne, List.pairwise_map]
        refine List.Pairwise.imp_of_mem ?_ List.nodup_range
        intro q r hq hr hne
        rw [List.mem_range] at hq hr
        obtain ⟨i, o, hi, hf⟩ := hqs q hq
        obtain ⟨j, o2, hj, hg⟩ := hqs r hr
        exact hW'.inj i j q r rfl rfl hf hg hne)
      hA.defers hA.sz
      (by
        intro q d cs ty b hq hb _
        have hqlt : q < al'.length := (List.getElem?_eq_some_iff.1 hq).1
        have hb' : b = β q := by
          simp [hqlt] at hb
          exact hb.symm
        subst hb'
        obtain ⟨i, o, hi, hf⟩ := hqs q hqlt
        obtain ⟨_, d1, cs1, ty1, cs1', g1, g2, _, _⟩ := hal2 i o q hi hf
        rw [hq] at g1
        cases g1
        rw [hA.tm d, srcIdx_of hdist hi g2]
        simp only [hf]
        rfl)
      (by
        intro t ht
        rw [hA.tm t, htm1, path_look _ _ _ _ _ _ hpath hdist t]
        cases hj : srcIdx l t with
        | none => rfl
        | some j =>
          simp only
          cases hf : fs[j]? with
          | none =>
            exfalso
            obtain ⟨o2, g3, _⟩ := srcIdx_get hj
            have : j < l.length := (List.getElem?_eq_some_iff.1 g3).1
            have := List.getElem?_eq_none_iff.1 hf
            omega
          | some f =>
            cases f with
            | run x => rfl
            | skip => rfl
            | late =>
              exfalso
              obtain ⟨o2, g3, g4⟩ := srcIdx_get hj
              have := (path_isL _ _ _ _ _ _ hpath j o2 _ g3 hf).2 rfl
              rw [this] at g4
              cases g4
            | st q u =>
              exfalso
              obtain ⟨o2, g3, g4⟩ := srcIdx_get hj
              obtain ⟨_, _, _, _, _, _, _, _, g5, _⟩ := hal7 j o2 q u g3 hf
              rw [g5] at g4
              cases g4
            | al q =>
              exfalso
              obtain ⟨o2, g3, g4⟩ := srcIdx_get hj
              obtain ⟨_, d1, cs1, ty1, cs1', g1, g2, _, _⟩ := hal2 j o2 q g3 hf
              rw [g4] at g2
              cases g2
              exact ht q _ _ g1 rfl)
    obtain ⟨ρ', hI2, hE2, hle2⟩ := H
    refine hk hsm' hm' _ ρ' a' w' hI2 ?_ ?_ hs fuel2 listed2 hls2 hl2 hf2
    · rw [e2'] at hE2; exact hE2
    · rw [e2'] at hle2; exact hle2
  · intro i o hi ho e he hb
    have hlt := (Array.getElem?_eq_some_iff.1 ho).1
    have h1 := (hlisted i hlt).1 hi
    have h2 := hedge i o ho e he hb
    exact hpre e.on (by omega)
  · intro i hi
    obtain ⟨h0, o, h1, h2⟩ := lateIdx_mem.1 hi
    have := (List.getElem?_eq_some_iff.1 h1).1
    exact ⟨o, h1, h2, hun i h0 (by omega)⟩
  · rw [List.mem_range'_1]
    have : ¬ i < s := fun hlt => by rw [hpre i hlt] at hif; cases hif
    omega
  · refine ⟨hI.defers, hI.sz, fun t => ?_⟩
    rw [hI.tm t]
    cases hj : srcIdx l t with
    | none => rfl
    | some j =>
      simp only
      obtain ⟨o, h1, h2⟩ := srcIdx_get hj
      have hjs : s ≤ j := by
        rcases Nat.lt_or_ge j s with hi | hi
        · rw [hlp j hi] at h1; cases h1; cases h2
        · exact hi
      have := (List.getElem?_eq_some_iff.1 h1).1
      rw [hun j hjs (by omega)]
  · exact ⟨hI.H, fun i q hi hf => (hal0 i q hi hf).elim, fun i j q r hi _ hf _ _ => (hal0 i q hi hf).elim⟩

theorem segx_any (hN : NameOK P) (hS : ∀ q ∈ S, SumOK P q) {ih : Nat → Code → St → K → Tr} (hih : Snd P ih) {R : Leaf → Prop} {bf : List Nat} (hbf : befs ops.toList [] = bf) (hE : edgesOK ops.toList 0 = true) (hsel : Region.noSelect ops = true) {k : St → Tr} {Q : Exit → Act → World → Prop} (hQ : ∀ c a w, ¬ Q (.panic c) a w) :
    ∀ (f s : Nat) (σ : St) (ρ : Nat → Nat) (a : Act) (w : World), Inv W n0 ρ0 N ρ σ a w → (segx P S ih N ops bf f s σ k).sat R →
      (∀ σ' ρ' a' w', Inv W n0 ρ0 N ρ' σ' a' w' → Ext σ.n ρ ρ' → σ.n ≤ σ'.n → (k σ').sat R → Q .normal a' w') →
      ∀ (fuel : Nat) (listed : Array Bool), listed.size = ops.size → (∀ i, i < ops.size → (listed.getD i false = true ↔ i < s)) → ops.size - s ≤ fuel → wpAny P .any ops Q fuel listed a w := by
  intro f
  induction f with
  | zero => intro s σ ρ a w hI h; exact h.elim
  | succ f ihf =>
    intro s σ ρ a w hI h hk fuel listed hls hl hf
    simp only [segx] at h
    split at h
    · rename_i hsz
      have hsz := Nat.le_of_ble_eq_true hsz
      exact done_any hls (fun i hi => (hl i hi).2 (by omega)) (hk σ ρ a w hI (Ext.refl _ _) (Nat.le_refl _) h)
    · rename_i hsz
      have hlt : s < ops.size := by
        rcases Nat.lt_or_ge s ops.size with h1 | h1
        · exact h1
        · rw [Nat.ble_eq_true_of_le h1] at hsz; cases hsz
      have hedge : ∀ (i : Nat) (o : Oper), ops[i]? = some o → ∀ e ∈ o.after, Region.binds .any e = true → e.on < i := by
        intro i o ho e he hb
        have := edgesOK_spec _ 0 hE i o (by simpa using ho) e he hb
        omega
      split at h
      · exact h.elim
      · rename_i o ho
        split at h
        · rename_i hcut
          have hlenb : bf.length = ops.size := by rw [← hbf, befs_length]; simp
          refine one_any (Kc := fun a' w' => ∀ (fuel : Nat) (listed : Array Bool), listed.size = ops.size → (∀ i, i < ops.size → (listed.getD i false = true ↔ i < s + 1)) → ops.size - (s + 1) ≤ fuel → wpAny P .any ops Q fuel listed a' w') ?_ hedge ho hls hl hf ?_ (fun fuel listed a w h1 h2 h3 h4 => h4 fuel listed h1 h2 h3)
          · intro t j h1 h2 h4 h3 L hL hr
            have hb := cutOK_spec hcut h1 (by omega) h4 h3
            rw [← hbf] at hb
            exact befs_spec ops ops.toList [] (fun i o hi => by simpa using hi) (fun i j hj => by simp at hj) t j hb L hL hr
          · refine opsx_seq hN hS hih ops [o] σ ρ a w hI h fun σ' ρ' a' w' h1 h2 h3 h4 => ?_
            exact ihf (s + 1) σ' ρ' a' w' h1 h4 fun σ2 ρ2 a2 w2 g1 g2 g3 g4 => hk σ2 ρ2 a2 w2 g1 (h2.trans h3 g2) (Nat.le_trans h3 g3) g4
        · split at h
          · rename_i x htk
            obtain ⟨fuel, rfl⟩ : ∃ f, fuel = f + 1 := ⟨fuel - 1, by omega⟩
            unfold takeOK at htk
            split at htk
            · rename_i y hop hg
              split at htk
              · rename_i hok
                cases htk
                simp only [Bool.and_eq_true, List.all_eq_true] at hok
                obtain ⟨hd, hfr⟩ := hok
                have hI' : Inv W n0 ρ0 N ρ (σ.put o.dst (ev σ x)) (a.put o.dst ((ev σ x).den ρ)) w := hI.put o.dst (ev σ x) (okDst_lt hd) (ev_wf hI x)
                refine wpAny_first (v := (ev σ x).den ρ) ho (Region.noSelect_spec hsel) (fun c a w hq => (hQ c _ w hq).elim) fuel listed a w ?_ ?_ (.inl ⟨by simp [Region.wanted, hg], fun w => ?_⟩) ?_
                · intro j oj hj hne hun hno
                  have hjlt := (Array.getElem?_eq_some_iff.1 hj).1
                  have hjs : s < j := by
                    rcases Nat.lt_or_ge j s with h1 | h1
                    · have := (hl j hjlt).2 h1
                      simp only [Array.getD_eq_getD_getElem?, Array.getElem?_eq_getElem (show j < listed.size by omega), Option.getD_some] at hun this
                      rw [hun] at this; cases this
                    · omega
                  have hm := hfr oj (List.mem_iff_getElem?.2 ⟨j - (s + 1), by rw [List.getElem?_drop, show s + 1 + (j - (s + 1)) = j by omega, Array.getElem?_toList]; exact hj⟩)
                  rw [Bool.or_eq_true] at hm
                  rcases hm with hm | hm
                  · exfalso
                    simp only [edgeTo, List.any_eq_true, Bool.and_eq_true] at hm
                    obtain ⟨e, he, hb, hon⟩ := hm
                    exact hno e (by simpa using he) hb (Nat.eq_of_beq_eq_true hon)
                  · exact hm
                · rw [mem_ready]
                  refine ⟨?_, o, ho, fun e he hb => (hl e.on (by have := hedge s o ho e he hb; omega)).2 (hedge s o ho e he hb)⟩
                  have : ¬ listed.getD s false = true := fun h => Nat.lt_irrefl s ((hl s hlt).1 h)
                  simp only [Array.getD_eq_getD_getElem?, Array.getElem?_eq_getElem (show s < listed.size by omega), Option.getD_some] at this ⊢
                  simpa using this
                · obtain ⟨dst, op, type, pos, after, guard⟩ := o
                  simp only at hop
                  subst hop
                  simp [execOp, ev_den hI x]
                · refine ihf (s + 1) _ ρ _ w hI' h (fun σ2 ρ2 a2 w2 g1 g2 g3 g4 => hk σ2 ρ2 a2 w2 g1 (by rw [(put_hp _ _ _).2] at g2; exact g2) (by rw [(put_hp _ _ _).2] at g3; exact g3) g4) fuel _ (by simp [hls]) ?_ (by omega)
                  intro j hj
                  by_cases e : s = j
                  · subst e
                    simp [show s < listed.size by omega]
                  · rw [getD_set_ne false e, hl j hj]
                    omega
              · cases htk
            · cases htk
          · refine clusx_any hN hS hih hbf hE hsel hI h hls hl hf fun _ _ σ' ρ' a' w' h1 h2 h3 h4 => ?_
            exact ihf _ σ' ρ' a' w' h1 h4 fun σ2 ρ2 a2 w2 g1 g2 g3 g4 => hk σ2 ρ2 a2 w2 g1 (h2.trans h3 g2) (Nat.le_trans h3 g3) g4

theorem drawl_sound (hN : NameOK P) (hS : ∀ q ∈ S, SumOK P q) (hmix : P.follows .mixedOrders = true) (lv : Nat → Nat → Option LT) : DSnd P (drawl P S lv) := by
  intro ih hih W n0 ρ0 N R id ops σ k ρ a w Q hI h hk
  simp only [drawl, drawf] at h
  split at h
  case h_2 => exact h.elim
  rename_i hok
  rw [Bool.and_eq_true] at hok
  refine Code.wp_mono (Q := fun e a w => (∀ c, e ≠ .panic c) ∧ Q e a w) (fun e a w h => h.2) (wp_region_any hmix ?_)
  have hI' : Inv W n0 ρ0 N ρ σ a { w with drawn := w.drawn + 1 } := ⟨hI.defers, hI.sz, hI.tm, hI.tmwf, hI.H.drew _⟩
  refine segx_any hN hS hih rfl hok.1 hok.2 (fun c a w h => h.1 c rfl) _ 0 σ ρ a _ hI' h (fun σ' ρ' a' w' h1 h2 h3 h4 => ⟨(fun c e => by cases e), hk σ' ρ' a' w' h1 h2 h3 h4⟩) ops.size _ (by simp) (fun i hi => ⟨fun h => ?_, fun h => absurd h (Nat.not_lt_zero _)⟩) (by omega)
  have : (Array.replicate ops.size false).getD i false = false := by
    rw [Array.getD_eq_getD_getElem?, Array.getElem?_replicate]
    split <;> rfl
  rw [this] at h
  cases h

theorem drawc_sound (hN : NameOK P) (hS : ∀ q ∈ S, SumOK P q) (hmix : P.follows .mixedOrders = true) (lv : Nat → Nat → Option LT) (ct : Nat → Nat → Nat → Option CT) : DSnd P (drawc P S lv ct) := fun ih hih => drawl_sound hN hS hmix lv ih hih

theorem drawx_sound (hN : NameOK P) (hS : ∀ q ∈ S, SumOK P q) (hmix : P.follows .mixedOrders = true) : DSnd P (drawx P S) := drawl_sound hN hS hmix fun _ _ => none

end
end Go.Proofs.Ytnlohongffpkpaa.Sx
