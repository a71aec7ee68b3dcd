/- The symbolic executor: whichever operation of a region comes next. A text of the session's own. -/
import Derived.Test.YtnlohongffpkpaaSxK
namespace Go.Proofs.Ytnlohongffpkpaa.Sx
open Go Go.RowKit
set_option linter.unusedVariables false

structure Agree (l : List Oper) (fs : List Ent) (base : Tmp → Value) (N : Nat) (ρ : Nat → Nat) (E : Nat → Bool) (β : Nat → Nat) (a : Act) : Prop where
  defers : a.defers = []
  sz : a.tmps.size = N
  tm : ∀ t, a.tmps.getD t undef = match srcIdx l t with | some j => (match E j with | true => (match fs[j]? with | some f => f.val ρ β | none => undef) | false => base t) | none => base t

/-- a block that is neither a local one nor of the memory -/
def Sep (ρ : Nat → Nat) (n : Nat) (hp : Hp) (b : Nat) : Prop := (∀ k, k < n → ρ k ≠ b) ∧ hp.x b = none
structure SW (W : World) (n0 : NL) (ρ0 ρ : Nat → Nat) (hp : Hp) (n : Nat) (fs : List Ent) (al' : Al) (E : Nat → Bool) (β : Nat → Nat) (w : World) : Prop where
  H : HInv W n0 ρ0 ρ hp n w
  blk : ∀ (i q : Nat), E i = true → fs[i]? = some (.al q) → ∃ d cs ty cs', al'[q]? = some (d, (cs', ty)) ∧ w.heap[β q]? = some (.cells (dens ρ cs) ty (0, 0)) ∧ W.heap.size ≤ β q ∧ β q < w.heap.size ∧ Sep ρ n hp (β q) ∧
    cs.all (C.wf 0) = true ∧ cs.length = cs'.length ∧ ((∀ j u, fs[j]? = some (.st q u) → E j = true) → cs = cs')
  inj : ∀ (i j q r : Nat), E i = true → E j = true → fs[i]? = some (.al q) → fs[j]? = some (.al r) → q ≠ r → β q ≠ β r

section
variable {P : Program} {W : World} {n0 : NL} {ρ0 : Nat → Nat} {N : Nat} {ρ : Nat → Nat} {ops : Array Oper} {L : List Oper} {hp : Hp} {n : Nat}
  {l : List Oper} {fs : List Ent} {base : Tmp → Value} {al' : Al} {E : Nat → Bool} {β : Nat → Nat} {a : Act} {w : World}

theorem SW.below (h : SW W n0 ρ0 ρ hp n fs al' E β w) {w' : World} (hb : Below w.heap.size w w') : SW W n0 ρ0 ρ hp n fs al' E β w' := by
  refine ⟨h.H.below hb, ?_, h.inj⟩
  intro i q hi hf
  obtain ⟨d, cs, ty, cs', h1, h2, h3, h4, h5⟩ := h.blk i q hi hf
  exact ⟨d, cs, ty, cs', h1, (hb.block _ h4).trans h2, h3, Nat.lt_of_lt_of_le h4 hb.size, h5⟩

theorem Agree.put (h : Agree l fs base N ρ E β a) {i : Nat} {d : Tmp} {f : Ent} {β' : Nat → Nat} (hs : srcIdx l d = some i) (hd : d < N) (hf : fs[i]? = some f)
    (hβ : ∀ j q, E j = true → fs[j]? = some (.al q) → β' q = β q) : Agree l fs base N ρ (fun j => E j || Nat.beq j i) β' (a.put (some d) (f.val ρ β')) := by
  refine ⟨h.defers, by simp [Act.put, h.sz], ?_⟩
  intro t
  by_cases e : d = t
  · subst e
    rw [hs]
    have hlt : d < a.tmps.size := by rw [h.sz]; exact hd
    simp [Act.put, hlt, hf]
  · have e1 : (a.put (some d) (f.val ρ β')).tmps.getD t undef = a.tmps.getD t undef := by simp [Act.put, e]
    rw [e1, h.tm t]
    cases hj : srcIdx l t with
    | none => rfl
    | some j =>
      have hne : j ≠ i := by
        intro e2
        subst e2
        obtain ⟨o1, g1, g2⟩ := srcIdx_get hs
        obtain ⟨o2, g3, g4⟩ := srcIdx_get hj
        rw [g1] at g3
        cases g3
        rw [g2] at g4
        cases g4
        exact e rfl
      simp only [Nat.beq_eq_false_iff.2 hne, Bool.or_false]
      cases hE : E j with
      | false => rfl
      | true =>
        simp only
        cases hfj : fs[j]? with
        | none => rfl
        | some g =>
          cases g with
          | run x => rfl
          | skip => rfl
          | al q => simp only [Ent.val]; rw [hβ j q hE hfj]
          | st q u => rfl
          | late => rfl

/-- An operation that hands nothing over. -/
theorem Agree.none (h : Agree l fs base N ρ E β a) {i : Nat} {o : Oper} (hi : l[i]? = some o) (ho : o.dst = Option.none) : Agree l fs base N ρ (fun j => E j || Nat.beq j i) β a := by
  refine ⟨h.defers, h.sz, fun t => ?_⟩
  rw [h.tm t]
  cases hj : srcIdx l t with
  | none => rfl
  | some j =>
    have hne : j ≠ i := by
      intro e
      subst e
      obtain ⟨o2, g3, g4⟩ := srcIdx_get hj
      rw [hi] at g3
      cases g3
      rw [ho] at g4
      cases g4
    simp only [Nat.beq_eq_false_iff.2 hne, Bool.or_false]

theorem putC_whole : ∀ (l : List C) (p cs : List C), cs.length = l.length → putC (p ++ cs) p.length l = p ++ l
  | [], p, cs, h => by
    have : cs = [] := List.eq_nil_of_length_eq_zero (by simpa using h)
    subst this; simp [putC]
  | c :: r, p, [], h => by simp at h
  | c :: r, p, x :: cs, h => by
    have e1 : (p ++ x :: cs).set p.length c = (p ++ [c]) ++ cs := by simp
    have e2 : p.length + 1 = (p ++ [c]).length := by simp
    rw [putC, e1, e2, putC_whole r (p ++ [c]) cs (by simpa using h)]
    simp

/-- A store of a whole block: nothing else is touched. -/
theorem run_store_whole {ρ : Nat → Nat} {w : World} {b ty : Nat} {cs : List C} {t : TypeId} {u : U} (hb : w.heap[b]? = some (.cells (dens ρ cs) ty (0, 0))) (hw : cs.all (C.wf 0) = true) (hl : cs.length = u.cells.length) (hz : tsz P t = some u.cells.length)
    (hu : u.cells.all (C.wf 0) = true) (hp : u.cells.all C.plain = true) :
    ∃ w', (storeVar t ⟨b, 0, Option.none⟩ (u.den ρ)).run P w = .ok () w' ∧ Touch b w w' ∧ w'.heap[b]? = some (.cells (dens ρ u.cells) ty (0, 0)) := by
  have hlt : b < w.heap.size := by
    rcases Nat.lt_or_ge b w.heap.size with h1 | h1
    · exact h1
    · rw [Array.getElem?_eq_none h1] at hb; cases hb
  have hH0 : HInv w ⟨1, 0, noM⟩ (fun _ => b) (fun _ => b) (hcons (0, (cs, ty)) hnil) 1 w := by
    refine ⟨fun _ _ => hlt, fun i j hi hj _ => by omega, ?_, Nat.le_refl _, Ext.refl _ _, (fun i h1 h2 => absurd h2 (Nat.not_lt.2 h1)), rfl, rfl, rfl, Nat.le_refl _, fun _ _ _ _ => rfl, (fun i m hm => by cases hm), rfl, MR.none _ _ _ _ _ _⟩
    intro i b' hi
    simp only [lookH_hcons, lookH_hnil] at hi
    split at hi
    · rename_i e
      cases hi
      refine ⟨by have := Nat.eq_of_beq_eq_true e; omega, all_wf_mono hw 1, ?_⟩
      rw [dens_ext (n := 0) (ρ := ρ) (ρ' := fun _ => b) (fun i hi => by omega) cs hw]
      exact hb
    · cases hi
  have huw : u.wf 0 = true := by
    cases u with
    | c x => simpa [U.cells, U.wf] using hu
    | agg xs => exact hu
  have hb0 : lookH (hcons (0, (cs, ty)) hnil) 0 = some (cs, ty) := rfl
  obtain ⟨w', e1, e2⟩ := run_storeVar (P := P) (off := 0) hH0 hb0 (Nat.le_refl 0) hz (by simp [hl]) (U.wf_mono (Nat.zero_le _) u huw) hp
  have ed : U.den (fun _ => b) u = U.den ρ u := V.den_ext (n := 0) (ρ := ρ) (ρ' := fun _ => b) (fun i hi => by omega) (.u u) huw
  rw [ed] at e1
  obtain ⟨_, _, g3⟩ := e2.blk 0 (putC cs 0 u.cells, ty) rfl
  have ep : putC cs 0 u.cells = u.cells := by
    have := putC_whole u.cells [] cs hl
    simpa using this
  refine ⟨w', e1, ⟨e2.os, e2.tape, e2.output, e2.size, fun k hk hne => e2.far k hk rfl fun i _ hi => Ne.symm hne⟩, ?_⟩
  rw [g3, ep, dens_ext (n := 0) (ρ := ρ) (ρ' := fun _ => b) (fun i hi => by omega) u.cells hu]

/-- a block that is neither a local one nor of the memory -/
theorem HInv.touch_far {hp : Hp} {n : Nat} (h : HInv W n0 ρ0 ρ hp n w) {b : Nat} {w' : World} (ht : Touch b w w') (hb : W.heap.size ≤ b) (hne : Sep ρ n hp b) : HInv W n0 ρ0 ρ hp n w' := by
  refine ⟨fun i hi => Nat.lt_of_lt_of_le (h.lt i hi) ht.size, h.inj, ?_, h.le, h.old, h.new, ht.os.trans h.os, ht.tape.trans h.tape, ht.output.trans h.output, Nat.le_trans h.size ht.size, ?_, ?_, h.lim, h.mem.sub' fun a ha o e => ht.far a ha fun e' => by rw [e', hne.2] at e; cases e⟩
  · intro i b' hi
    obtain ⟨g1, g2, g3⟩ := h.blk i b' hi
    exact ⟨g1, g2, by rw [ht.far (ρ i) (h.lt i g1) (hne.1 i g1)]; exact g3⟩
  · intro k hk hx hk2
    rw [ht.far k (Nat.lt_of_lt_of_le hk h.size) (by omega)]
    exact h.far k hk hx hk2
  · intro i m hm
    obtain ⟨g1, g2, g3⟩ := h.mblk i m hm
    exact ⟨g1, g2, (ht.far _ (h.lt i g1) (hne.1 i g1)).trans g3⟩

/-- the tmp at which an operation without a guard stores -/
def isAddr (o : Oper) (t : Tmp) : Bool :=
  match o.op, o.guard with
  | .store _ (.tmp d) y, Option.none => Nat.beq d t && (match y with | .tmp s => !Nat.beq s t | _ => true)
  | _, _ => false

theorem tmps_get {a b : Act} {N : Nat} (ha : a.tmps.size = N) (hb : b.tmps.size = N) {t : Nat} (h : a.tmps.getD t undef = b.tmps.getD t undef) : a.tmps[t]? = b.tmps[t]? := by
  by_cases ht : t < N
  · have h1 : t < a.tmps.size := by omega
    have h2 : t < b.tmps.size := by omega
    simp only [Array.getD_eq_getD_getElem?, Array.getElem?_eq_getElem h1, Array.getElem?_eq_getElem h2, Option.getD_some] at h
    rw [Array.getElem?_eq_getElem h1, Array.getElem?_eq_getElem h2, h]
  · rw [Array.getElem?_eq_none (by omega), Array.getElem?_eq_none (by omega)]

theorem looks_congr {o : Oper} (hs : ∀ cs b, o.op ≠ .select cs b) {a b : Act} (ha : a.tmps.size = N) (hb : b.tmps.size = N) (h : ∀ t ∈ o.looksAt ops, a.tmps.getD t undef = b.tmps.getD t undef) :
    execOp a.eval o = execOp b.eval o ∧ Region.wanted o (yielded ops a.tmps) = Region.wanted o (yielded ops b.tmps) := by
  constructor
  · refine execOp_congr o hs fun x hx => ?_
    cases x with
    | tmp t =>
      exact h t (List.mem_append_left _ (List.mem_filterMap.2 ⟨.tmp t, by simpa using hx, rfl⟩))
    | _ => rfl
  · unfold Region.wanted
    cases hg : o.guard with
    | none => rfl
    | some gw =>
      obtain ⟨g, want⟩ := gw
      have : yielded ops a.tmps g = yielded ops b.tmps g := by
        unfold yielded
        cases ht : (ops[g]?).bind (·.dst) with
        | none => rfl
        | some t =>
          have := tmps_get ha hb (h t (by simp [Oper.looksAt, hg, ht]))
          simp only [Option.bind_some, this]
      simp only [this]

/-- One operation, whichever comes. -/
theorem step_any {hc : Hp} (hsub : ∀ w, HInv W n0 ρ0 ρ hc n w → HInv W n0 ρ0 ρ hp n w) {σ : St} {σ' : St} (hpath : PathP P ops L W n0 ρ0 N ρ hp n l [] σ fs al' σ') (hdist : distinctB l = true) (hbase : ∀ t, base t = (look σ.tm t).den ρ) (hTM : ∀ t, N ≤ t → base t = undef)
    {i : Nat} {o : Oper} (hi : l[i]? = some o) (ho : ops[i]? = some o) (hdN : okDst N o.dst = true) (hsel : ∀ cs b, o.op ≠ .select cs b)
    (hdep : ∀ t ∈ o.looksAt ops, ∀ j, srcIdx l t = some j → j < i ∧ E j = true ∧ (isAddr o t = true ∨ ∀ q, fs[j]? ≠ some (.al q)))
    (hst : ∀ (j q : Nat) (u : U), E j = true → fs[j]? = some (.st q u) → ∀ k, fs[k]? = some (.al q) → E k = true) (hone : ∀ (j k q : Nat) (u u' : U), fs[j]? = some (.st q u) → fs[k]? = some (.st q u') → j = k)
    (hdst : (∀ q u, fs[i]? ≠ some (.st q u)) → ∃ d, o.dst = some d)
    (hA : Agree l fs base N ρ E β a) (hW : SW W n0 ρ0 ρ hc n fs al' E β w) {Q : Exit → Act → World → Prop} {K : Act → World → Prop}
    (hE : E i = false) (hnl : fs[i]? ≠ some .late) (hK : ∀ β' a' w', Agree l fs base N ρ (fun j => E j || Nat.beq j i) β' a' → SW W n0 ρ0 ρ hc n fs al' (fun j => E j || Nat.beq j i) β' w' → K a' w') : wpOp P ops Q i K a w := by
  obtain ⟨f, al_i, σ_i, al1, σ1, hf, hpi, hstep⟩ := path_get l [] σ fs al' σ' hpath i o hi
  obtain ⟨_, hal2, hal3, _, hlen, _, hal7⟩ := path_al l [] σ fs al' σ' hpath
  obtain ⟨_, hpl2, _, hpl4, hpl5, _, _⟩ := path_al (l.take i) [] σ (fs.take i) al_i σ_i hpi
  have hfs : ∀ j, j < i → (fs.take i)[j]? = fs[j]? := fun j hj => by rw [List.getElem?_take, if_pos hj]
  have hlook := path_look (l.take i) [] σ (fs.take i) al_i σ_i hpi (distinctB_take i hdist)
  have hval : ∀ t ∈ o.looksAt ops, isAddr o t = false → a.tmps.getD t undef = (virt N ρ σ_i).tmps.getD t undef := by
    intro t ht hna
    by_cases htN : t < N
    · have hv : (virt N ρ σ_i).tmps.getD t undef = (look σ_i.tm t).den ρ := by
        rw [Array.getD_eq_getD_getElem?, virt_get σ_i htN]; rfl
      rw [hv, hA.tm t, hlook t, srcIdx_take]
      cases hj : srcIdx l t with
      | none => exact hbase t
      | some j =>
        obtain ⟨h1, h2, h3⟩ := hdep t ht j hj
        have h3 := h3.resolve_left (by rw [hna]; decide)
        simp only [h1, if_true, h2, hfs j h1]
        cases hfj : fs[j]? with
        | none =>
          exfalso
          obtain ⟨o2, g3, _⟩ := srcIdx_get hj
          have : j < l.length := (List.getElem?_eq_some_iff.1 g3).1
          have := List.getElem?_eq_none_iff.1 hfj
          omega
        | some g =>
          cases g with
          | run x => rfl
          | skip => rfl
          | al q => exact absurd hfj (h3 q)
          | late =>
            exfalso
            obtain ⟨o2, g3, g4⟩ := srcIdx_get hj
            have := (path_isL l [] σ fs al' σ' hpath j o2 _ g3 hfj).2 rfl
            rw [this] at g4
            cases g4
          | st q u =>
            exfalso
            obtain ⟨o2, g3, g4⟩ := srcIdx_get hj
            obtain ⟨_, _, _, _, _, _, _, _, g5, _⟩ := hal7 j o2 q u g3 hfj
            rw [g5] at g4
            cases g4
    · have h1 : a.tmps[t]? = none := Array.getElem?_eq_none (by rw [hA.sz]; exact Nat.le_of_not_lt htN)
      have h2 : (virt N ρ σ_i).tmps[t]? = none := Array.getElem?_eq_none (by simp only [virt, List.size_toArray, List.length_map, List.length_range]; exact Nat.le_of_not_lt htN)
      rw [Array.getD_eq_getD_getElem?, Array.getD_eq_getD_getElem?, h1, h2]
  have hcong : (∀ t, isAddr o t = false) → execOp a.eval o = execOp (virt N ρ σ_i).eval o ∧ Region.wanted o (yielded ops a.tmps) = Region.wanted o (yielded ops (virt N ρ σ_i).tmps) :=
    fun h => looks_congr (ops := ops) hsel hA.sz (by simp [virt] : (virt N ρ σ_i).tmps.size = N) fun t ht => hval t ht (h t)
  have same : ∀ w', SW W n0 ρ0 ρ hc n fs al' E β w' → (∀ q, f ≠ .al q) → (∀ q u, f ≠ .st q u) → SW W n0 ρ0 ρ hc n fs al' (fun j => E j || Nat.beq j i) β w' := by
    intro w' hW' hne hns
    refine ⟨hW'.H, ?_, ?_⟩
    · intro j q hj hfj
      by_cases e : j = i
      · subst e; rw [hf] at hfj; cases hfj; exact absurd rfl (hne q)
      · rw [Nat.beq_eq_false_iff.2 e, Bool.or_false] at hj
        obtain ⟨d, cs, ty, cs', g1, g2, g3, g4, g5, g6, g7, g8⟩ := hW'.blk j q hj hfj
        refine ⟨d, cs, ty, cs', g1, g2, g3, g4, g5, g6, g7, fun hall => g8 fun k u hk => ?_⟩
        have hki : k ≠ i := by intro e; subst e; rw [hf] at hk; cases hk; exact absurd rfl (hns q u)
        have := hall k u hk
        rwa [Nat.beq_eq_false_iff.2 hki, Bool.or_false] at this
    · intro j k q r hj hk hfj hfk hqr
      have e1 : j ≠ i := by intro e; subst e; rw [hf] at hfj; cases hfj; exact absurd rfl (hne q)
      have e2 : k ≠ i := by intro e; subst e; rw [hf] at hfk; cases hfk; exact absurd rfl (hne r)
      rw [Nat.beq_eq_false_iff.2 e1, Bool.or_false] at hj
      rw [Nat.beq_eq_false_iff.2 e2, Bool.or_false] at hk
      exact hW'.inj j k q r hj hk hfj hfk hqr
  unfold wpOp
  simp only [ho]
  cases f with
  | late => exact absurd hf hnl
  | run x =>
    obtain ⟨_, _, _, hw1, hst1, hso⟩ := hstep
    have hna : ∀ t, isAddr o t = false := fun t => by
      unfold isAddr
      split
      · rename_i hop _; rw [hop] at hso; cases hso
      · rfl
    obtain ⟨hex, hwt⟩ := hcong hna
    rw [hwt]
    obtain ⟨d, hd⟩ := hdst fun q u e => by rw [hf] at e; cases e
    have hsrc := srcIdx_of hdist hi hd
    rw [if_pos hw1]
    refine .inl ?_
    have hA' := hA.put (β' := β) hsrc (okDst_lt hdN d hd) hf (fun _ _ _ _ => rfl)
    unfold Oper.wp
    rw [hex]
    rcases hst1 w (hsub w hW.H) with hr | ⟨g, args, hr, hc⟩
    · rw [hr, Oper.upon_value, hd]
      exact hK β _ w hA' (same w hW (fun q e => by cases e) (fun q u e => by cases e))
    · rw [hr, Oper.upon_enter]
      refine hc.mono ?_
      rintro e w' ⟨rfl, hb⟩
      simp only [hd]
      exact hK β _ w' hA' (same w' (hW.below hb) (fun q e => by cases e) (fun q u e => by cases e))
  | skip =>
    obtain ⟨_, _, hw1, hgs⟩ := hstep
    have hna : ∀ t, isAddr o t = false := fun t => by
      unfold isAddr
      split
      · rename_i hg; rw [hg] at hgs; cases hgs
      · rfl
    obtain ⟨hex, hwt⟩ := hcong hna
    rw [hwt]
    obtain ⟨d, hd⟩ := hdst fun q u e => by rw [hf] at e; cases e
    have hsrc := srcIdx_of hdist hi hd
    rw [if_neg (by simp [hw1])]
    have hA' := hA.put (β' := β) hsrc (okDst_lt hdN d hd) hf (fun _ _ _ _ => rfl)
    rw [hd]
    exact hK β _ w hA' (same w hW (fun q e => by cases e) (fun q u e => by cases e))
  | st q u =>
    obtain ⟨⟨d, cs0, ty0, hq0, _, _, t, y, hop, hy, hz⟩, _, _, hd0, hg, hpl, hwf⟩ := hstep
    have hwt : Region.wanted o (yielded ops a.tmps) = true := by simp [Region.wanted, hg]
    rw [if_pos hwt]
    refine .inl ?_
    -- the block's own alloc
    have hqlt : q < al_i.length := (List.getElem?_eq_some_iff.1 hq0).1
    obtain ⟨j, hj⟩ := hpl4 q (by simp) hqlt
    have hjlt : j < (l.take i).length := by rw [← hpl5]; exact (List.getElem?_eq_some_iff.1 hj).1
    have hji : j < i := by simp at hjlt; omega
    obtain ⟨_, d1, cs1, ty1, cs1', k1, k2, _⟩ := hpl2 j (l.take i)[j] q (List.getElem?_eq_getElem hjlt) hj
    rw [hq0] at k1
    cases k1
    have hlj : l[j]? = some (l.take i)[j] := by
      have := List.getElem?_eq_getElem hjlt
      rw [List.getElem?_take, if_pos hji] at this
      exact this
    have hsrc := srcIdx_of hdist hlj k2
    have hfj : fs[j]? = some (.al q) := by rw [← hfs j hji]; exact hj
    have hdl : d ∈ o.looksAt ops := by
      unfold Oper.looksAt
      refine List.mem_append_left _ (List.mem_filterMap.2 ⟨.tmp d, ?_, rfl⟩)
      rw [hop]
      simp [Op.operands]
    obtain ⟨_, hEj, _⟩ := hdep d hdl j hsrc
    obtain ⟨d2, cs2, ty2, cs2', b1, b2, b3, b4, b5, b6, b7, b8⟩ := hW.blk j q hEj hfj
    obtain ⟨d3, ty3, cs3', m1, m2, _, _, _, _, m7⟩ := hal7 i o q u hi hf
    rw [b1] at m1
    cases m1
    obtain ⟨w', e1, ht, hnew⟩ := run_store_whole (P := P) b2 b6 (by omega) hz hwf hpl
    have hev : a.eval (.tmp d) = .pointer (some ⟨β q, 0, none⟩) := by
      show a.tmps.getD d undef = _
      rw [hA.tm d, hsrc]
      simp only [hEj, hfj, Ent.val]
    have hevy : a.eval y = u.den ρ := by
      rw [← hy]
      cases y with
      | tmp s =>
        refine hval s ?_ ?_
        · unfold Oper.looksAt
          refine List.mem_append_left _ (List.mem_filterMap.2 ⟨.tmp s, ?_, rfl⟩)
          rw [hop]
          simp [Op.operands]
        · simp [isAddr, hop, hg]
      | _ => rfl
    have hrun : (execOp a.eval o).run P w = .ok .skip w' := by
      unfold execOp
      rw [hop]
      refine run_u (s := Instr.storeAt t (a.eval (.tmp d)) (a.eval y)) ?_
      simp only [hev, hevy, Instr.storeAt, Instr.sureAddr, Sem.run_bind, Sem.run_pure, Result.andThen_ok]
      exact e1
    unfold Oper.wp
    rw [hrun, Oper.upon_skip, hd0]
    refine hK β _ w' (hA.none hi hd0) ⟨hW.H.touch_far ht b3 b5, ?_, ?_⟩
    · intro k r hk hfk
      have hki : k ≠ i := by intro e; subst e; rw [hf] at hfk; cases hfk
      rw [Nat.beq_eq_false_iff.2 hki, Bool.or_false] at hk
      by_cases hrq : r = q
      · subst hrq
        refine ⟨_, u.cells, _, _, b1, hnew, b3, Nat.lt_of_lt_of_le b4 ht.size, b5, hwf, m2, fun _ => m7 fun j' u' hj' => hone j' i r u' u hj' hf⟩
      · obtain ⟨d4, cs4, ty4, cs4', c1, c2, c3, c4, c5, c6, c7, c8⟩ := hW.blk k r hk hfk
        have hne := hW.inj k j r q hk hEj hfk hfj hrq
        refine ⟨d4, cs4, ty4, cs4', c1, by rw [ht.far _ c4 hne]; exact c2, c3, Nat.lt_of_lt_of_le c4 ht.size, c5, c6, c7, fun hall => c8 fun j' u' hj' => ?_⟩
        have hji' : j' ≠ i := by intro e; subst e; rw [hf] at hj'; cases hj'; exact hrq rfl
        have := hall j' u' hj'
        rwa [Nat.beq_eq_false_iff.2 hji', Bool.or_false] at this
    · intro k m r s hk hm hfk hfm hrs
      have e1 : k ≠ i := by intro e; subst e; rw [hf] at hfk; cases hfk
      have e2 : m ≠ i := by intro e; subst e; rw [hf] at hfm; cases hfm
      rw [Nat.beq_eq_false_iff.2 e1, Bool.or_false] at hk
      rw [Nat.beq_eq_false_iff.2 e2, Bool.or_false] at hm
      exact hW.inj k m r s hk hm hfk hfm hrs
  | al q =>
    obtain ⟨⟨_, hao⟩, _, hw1, _⟩ := hstep
    have hna : ∀ t, isAddr o t = false := fun t => by
      unfold isAddr
      split
      · rename_i hop _; rw [hop] at hao; cases hao
      · rfl
    obtain ⟨hex, hwt⟩ := hcong hna
    rw [hwt]
    obtain ⟨d, hd⟩ := hdst fun q u e => by rw [hf] at e; cases e
    have hsrc := srcIdx_of hdist hi hd
    obtain ⟨_, d', cs, ty, cs', g1, g2, g3, g5, g6, g4⟩ := hal2 i o q hi hf
    rw [if_pos hw1]
    refine .inl ?_
    have hβ : ∀ j r, E j = true → fs[j]? = some (.al r) → (if r = q then w.heap.size else β r) = β r := by
      intro j r hj hfj
      have : r ≠ q := by
        intro e
        subst e
        have := hal3 j i r hfj hf
        subst this
        rw [hE] at hj
        cases hj
      simp [this]
    have hA' := hA.put (β' := fun x => if x = q then w.heap.size else β x) hsrc (okDst_lt hdN d hd) hf hβ
    unfold Oper.wp
    rw [g4 a w, Oper.upon_value, hd]
    have hval2 : (Ent.al q).val ρ (fun x => if x = q then w.heap.size else β x) = .pointer (some ⟨w.heap.size, 0, none⟩) := by simp [Ent.val]
    rw [← hval2]
    have hb : Below w.heap.size w (w.alloc (.cells (dens ρ cs) ty)) := (Below.refl _ _).alloc (Nat.le_refl _) _
    have hW1 := hW.below hb
    have hsz : (w.alloc (.cells (dens ρ cs) ty)).heap.size = w.heap.size + 1 := by rw [heap_alloc]; simp
    refine hK _ _ _ hA' ⟨hW1.H, ?_, ?_⟩
    · intro j r hj hfj
      by_cases e : j = i
      · subst e
        rw [hf] at hfj
        cases hfj
        refine ⟨d', cs, ty, cs', g1, ?_, ?_, ?_, ?_, g3, g5, fun hall => g6 fun k u hk => ?_⟩
        · simp only [if_true]; rw [heap_alloc]; simp
        · simp only [if_true]; exact hW.H.size
        · simp only [if_true]; omega
        · simp only [if_true]
          exact ⟨fun k hk => Nat.ne_of_lt (hW.H.lt k hk), hW.H.mem.fresh⟩
        · have hkj : k ≠ j := by intro e; subst e; rw [hf] at hk; cases hk
          have := hall k u hk
          rw [Nat.beq_eq_false_iff.2 hkj, Bool.or_false] at this
          have := hst k q u this hk j hf
          rw [hE] at this
          cases this
      · rw [Nat.beq_eq_false_iff.2 e, Bool.or_false] at hj
        obtain ⟨d4, cs4, ty4, cs4', c1, c2, c3, c4, c5, c6, c7, c8⟩ := hW1.blk j r hj hfj
        simp only [hβ j r hj hfj]
        refine ⟨d4, cs4, ty4, cs4', c1, c2, c3, c4, c5, c6, c7, fun hall => c8 fun j' u' hj' => ?_⟩
        have hji' : j' ≠ i := by intro e; subst e; rw [hf] at hj'; cases hj'
        have := hall j' u' hj'
        rwa [Nat.beq_eq_false_iff.2 hji', Bool.or_false] at this
    · intro j k r s hj hk hfj hfk hrs
      by_cases e1 : j = i
      · subst e1
        rw [hf] at hfj
        cases hfj
        by_cases e2 : k = j
        · subst e2; rw [hf] at hfk; cases hfk; exact absurd rfl hrs
        · rw [Nat.beq_eq_false_iff.2 e2, Bool.or_false] at hk
          simp only [hβ k s hk hfk]
          obtain ⟨_, _, _, _, _, _, _, h4, _⟩ := hW.blk k s hk hfk
          simp only [if_true]
          omega
      · rw [Nat.beq_eq_false_iff.2 e1, Bool.or_false] at hj
        simp only [hβ j r hj hfj]
        by_cases e2 : k = i
        · subst e2
          rw [hf] at hfk
          cases hfk
          obtain ⟨_, _, _, _, _, _, _, h4, _⟩ := hW.blk j r hj hfj
          simp only [if_true]
          omega
        · rw [Nat.beq_eq_false_iff.2 e2, Bool.or_false] at hk
          simp only [hβ k s hk hfk]
          exact hW.inj j k r s hj hk hfj hfk hrs


/-! a store into a block that was there: it comes behind all whose values it needs; nothing of the front looks into that block -/
def eraseL (id : Nat) : List (Nat × Blk) → List (Nat × Blk)
  | [] => []
  | q :: r => match Nat.beq q.1 id with | true => eraseL id r | false => q :: eraseL id r
def eraseH (id : Nat) (h : Hp) : Hp := ⟨eraseL id h.c, h.m, h.lim, h.x, h.wr, h.mt⟩

theorem lookL_erase {id j : Nat} {b : Blk} : ∀ {h : List (Nat × Blk)}, lookL (eraseL id h) j = some b → lookL h j = some b ∧ j ≠ id
  | [], e => by cases e
  | q :: r, e => by
    obtain ⟨i, c⟩ := q
    simp only [eraseL] at e
    split at e
    · rename_i hq
      have hq := Nat.eq_of_beq_eq_true hq
      obtain ⟨h1, h2⟩ := lookL_erase e
      replace hq : i = id := hq
      refine ⟨?_, h2⟩
      simp only [lookL]
      rw [Nat.beq_eq_false_iff.2 (fun x => h2 (by rw [← x, hq]))]
      exact h1
    · rename_i hq
      have hq : i ≠ id := Nat.beq_eq_false_iff.1 hq
      simp only [lookL] at e ⊢
      split at e
      · rename_i hij
        have := Nat.eq_of_beq_eq_true hij
        exact ⟨e, fun x => hq (by rw [this, x])⟩
      · exact lookL_erase e
theorem lookH_erase {id j : Nat} {b : Blk} {h : Hp} (e : lookH (eraseH id h) j = some b) : lookH h j = some b ∧ j ≠ id := lookL_erase e

/-- Where a store goes, and the state behind it. -/
def stx (P : Program) (σ : St) (o : Op) : Option (Nat × St) :=
  match o with
  | .store t x y => match ev σ x, ev σ y with
    | .u (.c (.ptr id off)), .u u => match lookW σ.hp id, tsz P t with
      | some b, some sz => (match Nat.beq sz u.cells.length, Nat.ble (off + u.cells.length) b.1.length, u.cells.all C.plain with
        | true, true, true => some (id, { σ with hp := hcons (id, (putC b.1 off u.cells, b.2)) σ.hp })
        | _, _, _ => none)
      | _, _ => none
    | _, _ => none
  | _ => none

theorem HInv.own {hp : Hp} {n : Nat} (h : HInv W n0 ρ0 ρ hp n w) : HInv w ⟨n, hp.lim, hp.x⟩ ρ ρ hp n w :=
  ⟨h.lt, h.inj, h.blk, Nat.le_refl _, Ext.refl _ _, (fun i h1 h2 => absurd h2 (Nat.not_lt.2 h1)), rfl, rfl, rfl, Nat.le_refl _, fun _ _ _ _ => rfl, h.mblk, rfl, h.mem.sub, h.mem.sep, fun _ a o e => .inl (by show hp.x a ≠ Option.none; rw [e]; simp)⟩

theorem Below.of_run {s : Sem Unit} {w w1 w2 : World} (h : s.run P w = .ok () w1) (k : s.run P w = .ok () w2) : w1 = w2 := by
  rw [h] at k; cases k; rfl

theorem late_val {σ σ' : St} (hpath : PathP P ops L W n0 ρ0 N ρ hp n l [] σ fs al' σ') (hdist : distinctB l = true) (hbase : ∀ t, base t = (look σ.tm t).den ρ) (hA : Agree l fs base N ρ E β a) {t : Tmp}
    (hd : ∀ j, srcIdx l t = some j → E j = true ∧ ∀ q, fs[j]? ≠ some (.al q)) : a.tmps.getD t undef = (look σ'.tm t).den ρ := by
  obtain ⟨_, hal2, hal3, _, hlen, _, hal7⟩ := path_al l [] σ fs al' σ' hpath
  rw [hA.tm t, path_look l [] σ fs al' σ' hpath hdist t]
  cases hj : srcIdx l t with
  | none => exact hbase t
  | some j =>
    obtain ⟨h1, h2⟩ := hd j hj
    simp only [h1]
    cases hfj : fs[j]? with
    | none =>
      exfalso
      obtain ⟨o2, g3, _⟩ := srcIdx_get hj
      have : j < l.length := (List.getElem?_eq_some_iff.1 g3).1
      have := List.getElem?_eq_none_iff.1 hfj
      omega
    | some g =>
      cases g with
      | run x => rfl
      | skip => rfl
      | al q => exact absurd hfj (h2 q)
      | late =>
        exfalso
        obtain ⟨o2, g3, g4⟩ := srcIdx_get hj
        have := (path_isL l [] σ fs al' σ' hpath j o2 _ g3 hfj).2 rfl
        rw [this] at g4
        cases g4
      | st q u =>
        exfalso
        obtain ⟨o2, g3, g4⟩ := srcIdx_get hj
        obtain ⟨_, _, _, _, _, _, _, _, g5, _⟩ := hal7 j o2 q u g3 hfj
        rw [g5] at g4
        cases g4

theorem late_any {σ σ' σ1 σ2 : St} (hpath : PathP P ops L W n0 ρ0 N ρ hp n l [] σ fs al' σ') (hdist : distinctB l = true) (hbase : ∀ t, base t = (look σ.tm t).den ρ) (hTM : Sx.TM N ρ σ1) (htm : σ1.tm = σ'.tm) (hn : σ1.n = n)
    {i id : Nat} {o : Oper} (ho : ops[i]? = some o) (hg : o.guard = none) (hd0 : o.dst = none)
    (hdep : ∀ t ∈ o.looksAt ops, ∀ j, srcIdx l t = some j → E j = true ∧ ∀ q, fs[j]? ≠ some (.al q))
    (hst : stx P σ1 o.op = some (id, σ2))
    (hA : Agree l fs base N ρ E β a) (hW : SW W n0 ρ0 ρ σ1.hp n fs al' E β w) {Q : Exit → Act → World → Prop} {K : Act → World → Prop}
    (hK : ∀ w', SW W n0 ρ0 ρ σ2.hp n fs al' E β w' → K a w') : wpOp P ops Q i K a w := by
  subst hn
  unfold stx at hst
  split at hst
  · rename_i t x y hop
    split at hst
    · rename_i id' off u hx hy
      split at hst
      · rename_i b sz hb hz
        obtain ⟨hb, hlim⟩ := lookW_spec hb
        split at hst
        · rename_i c1 c2 c3
          cases hst
          have c1 := Nat.eq_of_beq_eq_true c1
          have c2 := Nat.le_of_ble_eq_true c2
          have hI := virt_inv hTM hW.H
          have hev : ∀ z : Operand, z ∈ o.op.operands → a.eval z = (ev σ1 z).den ρ := by
            intro z hz
            cases z with
            | tmp s =>
              show a.tmps.getD s undef = (look σ1.tm s).den ρ
              rw [htm]
              refine late_val hpath hdist hbase hA fun j hj => hdep s ?_ j hj
              unfold Oper.looksAt
              exact List.mem_append_left _ (List.mem_filterMap.2 ⟨.tmp s, by simpa using hz, rfl⟩)
            | const v => exact ev_den hI (.const v)
            | global g => exact ev_den hI (.global g)
            | func f => exact ev_den hI (.func f)
          have hevx : a.eval x = .pointer (some ⟨ρ id, off, none⟩) := by rw [hev x (by rw [hop]; simp [Op.operands]), hx]; rfl
          have hevy : a.eval y = u.den ρ := by rw [hev y (by rw [hop]; simp [Op.operands]), hy]; rfl
          have huw : u.wf σ1.n = true := by
            have := ev_wf hI y
            rw [hy] at this
            exact this
          obtain ⟨w1, e1, g1⟩ := run_storeVar (P := P) (t := t) hW.H hb hlim (by rw [hz, c1]) c2 huw c3
          obtain ⟨w2, e2, g2⟩ := run_storeVar (P := P) (t := t) hW.H.own hb hlim (by rw [hz, c1]) c2 huw c3
          have e := Below.of_run e1 e2
          subst e
          have hwt : Region.wanted o (yielded ops a.tmps) = true := by simp [Region.wanted, hg]
          unfold wpOp
          simp only [ho]
          rw [if_pos hwt]
          refine .inl ?_
          have hrun : (execOp a.eval o).run P w = .ok .skip w1 := by
            unfold execOp
            rw [hop]
            refine run_u (s := Instr.storeAt t (a.eval x) (a.eval y)) ?_
            simp only [hevx, hevy, Instr.storeAt, Instr.sureAddr, Sem.run_bind, Sem.run_pure, Result.andThen_ok]
            exact e1
          unfold Oper.wp
          rw [hrun, Oper.upon_skip, hd0]
          refine hK w1 ⟨g1, ?_, hW.inj⟩
          intro k r hk hfk
          obtain ⟨d4, cs4, ty4, cs4', a1, a2, a3, a4, a5, a6, a7, a8⟩ := hW.blk k r hk hfk
          exact ⟨d4, cs4, ty4, cs4', a1, by rw [g2.far _ a4 a5.2 fun k _ hk => a5.1 k hk]; exact a2, a3, Nat.lt_of_lt_of_le a4 g2.size, a5, a6, a7, a8⟩
        · cases hst
      · cases hst
    · cases hst
  · cases hst

end
end Go.Proofs.Ytnlohongffpkpaa.Sx
