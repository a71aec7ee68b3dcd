/- The symbolic executor: a region that leaves its order open: what comes first, in whatever order; what comes behind it all. A text of the session's own. -/
import Derived.Test.YtnlohongffpkpaaSxH
import Derived.Orders
namespace Go.Proofs.Ytnlohongffpkpaa.Sx
open Go Go.RowKit

section
variable {P : Program} {S : List Sum} {W : World} {n0 : NL} {ρ0 : Nat → Nat} {N : Nat} {ρ : Nat → Nat} {σ : St} {R : Leaf → Prop}

/-- What a state says of tmps alone. -/
def TM (N : Nat) (ρ : Nat → Nat) (σ : St) : Prop := (∀ q ∈ σ.tm, q.2.wf σ.n = true) ∧ ∀ t, N ≤ t → (look σ.tm t).den ρ = undef

def virt (N : Nat) (ρ : Nat → Nat) (σ : St) : Act := { tmps := ((List.range N).map fun t => (look σ.tm t).den ρ).toArray, defers := [] }

theorem virt_inv (h : TM N ρ σ) {w : World} (hH : HInv W n0 ρ0 ρ σ.hp σ.n w) : Inv W n0 ρ0 N ρ σ (virt N ρ σ) w := by
  refine ⟨rfl, by simp [virt], ?_, h.1, hH⟩
  intro t
  by_cases ht : t < N
  · simp [virt, ht]
  · rw [h.2 t (by omega)]
    simp [virt, ht]

theorem Inv.TM {a : Act} {w : World} (h : Inv W n0 ρ0 N ρ σ a w) : TM N ρ σ := by
  refine ⟨h.tmwf, fun t ht => ?_⟩
  rw [← h.tm t]
  have : ¬ t < a.tmps.size := by rw [h.sz]; omega
  simp [this]

/-- An operation that leaves the world as it is. -/
def OpA (P : Program) (W : World) (n0 : NL) (ρ0 : Nat → Nat) (N : Nat) (R : Leaf → Prop) (ρ : Nat → Nat) (σ : St) (o : Oper) (k : V → St → Tr) : Prop :=
  ∃ v σ', σ'.hp = σ.hp ∧ σ'.n = σ.n ∧ (k v σ').sat R ∧ ∀ a w, Inv W n0 ρ0 N ρ σ a w → Inv W n0 ρ0 N ρ σ' a w ∧ v.wf σ.n = true ∧ (execOp a.eval o).run P w = .ok (.value (v.den ρ)) w

theorem decB_path {x : Operand} {k : Bool → St → Tr} (h : (decB σ x k).sat R) :
    ∃ b σ', σ'.hp = σ.hp ∧ σ'.n = σ.n ∧ (k b σ').sat R ∧ ∀ a w, Inv W n0 ρ0 N ρ σ a w → Inv W n0 ρ0 N ρ σ' a w ∧ a.eval x = .bool b := by
  unfold decB at h
  split at h
  · rename_i v he
    have hd : ∀ a w, Inv W n0 ρ0 N ρ σ a w → a.eval x = .bool v := fun a w hI => by rw [ev_den hI x, he]; rfl
    split at h
    · exact ⟨true, σ, rfl, rfl, h, fun a w hI => ⟨hI, hd a w hI⟩⟩
    · exact ⟨false, σ, rfl, rfl, h, fun a w hI => ⟨hI, hd a w hI⟩⟩
  · rename_i v he
    refine ⟨v, retell σ x v, (retell_hp σ x v).1, (retell_hp σ x v).2, ?_, fun a w hI => ⟨?_, by rw [ev_den hI x, he]; rfl⟩⟩
    · cases v
      · exact h.2 rfl
      · exact h.1 rfl
    · unfold retell
      split
      · rename_i t
        exact hI.retell t _ rfl (by simp only [ev] at he; rw [he]; rfl)
      · exact hI
  · exact h.elim

/-- the operations that leave the world as it is -/
def pureOp : Op → Bool
  | .alloc _ => false
  | .box _ _ => false
  | .buildSlice _ _ _ => false
  | .store _ _ _ => false
  | .makeMap _ _ => false
  | .insert _ _ _ _ => false
  | .mapUpdate _ _ _ _ => false
  | _ => true

theorem OpA.mk' {o : Oper} {k : V → St → Tr} (v : V) (hk : (k v σ).sat R)
    (h : ∀ a w, Inv W n0 ρ0 N ρ σ a w → v.wf σ.n = true ∧ (execOp a.eval o).run P w = .ok (.value (v.den ρ)) w) : OpA P W n0 ρ0 N R ρ σ o k :=
  ⟨v, σ, rfl, rfl, hk, fun a w hI => ⟨hI, h a w hI⟩⟩

theorem opxA_sound {o : Oper} {k : V → St → Tr} (hp : pureOp o.op = true) (h : (opx P o.op σ k).sat R) : OpA P W n0 ρ0 N R ρ σ o k := by
  obtain ⟨dst, op, type, pos, after, guard⟩ := o
  simp only at h hp
  unfold opx at h
  split at h
  · rename_i x
    exact OpA.mk' _ h fun a w hI => ⟨ev_wf hI x, by simp [execOp, ev_den hI x]⟩
  · rename_i x
    exact OpA.mk' _ h fun a w hI => ⟨ev_wf hI x, by simp [execOp, ev_den hI x]⟩
  · rename_i c x y
    obtain ⟨b, σ', e1, e2, hs, hb⟩ := decB_path (W := W) (n0 := n0) (ρ0 := ρ0) (N := N) (ρ := ρ) h
    cases b
    · refine ⟨_, σ', e1, e2, hs, fun a w hI => ?_⟩
      obtain ⟨hI', hb⟩ := hb a w hI
      exact ⟨hI', by rw [← e2]; exact ev_wf hI' y, by simp [execOp, hb, asBool, ev_den hI' y]⟩
    · refine ⟨_, σ', e1, e2, hs, fun a w hI => ?_⟩
      obtain ⟨hI', hb⟩ := hb a w hI
      exact ⟨hI', by rw [← e2]; exact ev_wf hI' x, by simp [execOp, hb, asBool, ev_den hI' x]⟩
  · cases hp
  · cases hp
  · rename_i t parts
    obtain ⟨cs, hc, hs⟩ := kO_sat h
    split at hs
    · rename_i hw
      refine OpA.mk' _ hs fun a w hI => ⟨hw, ?_⟩
      refine run_v (s := Instr.build t (parts.map fun q => (q.1, a.eval q.2))) ?_
      have := buildC_built hI hc
      exact run_build w t _ _ (by simpa using this)
    · exact hs.elim
  · cases hp
  · rename_i t x
    split at h
    · rename_i id off hx
      obtain ⟨b, hb, hs⟩ := kO_sat h
      obtain ⟨u, hu, hs⟩ := kO_sat hs
      refine OpA.mk' _ hs fun a w hI => ?_
      obtain ⟨_, hw, _⟩ := hI.H.blk id b hb
      refine ⟨ldC_wf hw hu, ?_⟩
      refine run_v (s := Instr.loadAt t (a.eval x)) ?_
      have hd : a.eval x = .pointer (some ⟨ρ id, off, none⟩) := by rw [ev_den hI x, hx]; rfl
      simp only [hd, Instr.loadAt, Instr.sureAddr, Sem.run_bind, Sem.run_pure, Result.andThen_ok]
      exact run_loadVar hI.H hb hu
    · exact h.elim
  · cases hp
  · rename_i x
    split at h
    · rename_i id off hx
      refine OpA.mk' _ h fun a w hI => ?_
      have hd : a.eval x = .pointer (some ⟨ρ id, off, none⟩) := by rw [ev_den hI x, hx]; rfl
      have hw := ev_wf hI x
      rw [hx] at hw
      exact ⟨hw, by simp [execOp, hd, V.den, U.den, C.den]⟩
    · rename_i f cs hx
      refine OpA.mk' _ h fun a w hI => ?_
      have hd : a.eval x = .func (.func f) #[] (cs.map (ptrV ρ)).toArray := by rw [ev_den hI x, hx]; rfl
      have hw := ev_wf hI x
      rw [hx] at hw
      exact ⟨hw, by simp [execOp, hd, V.den, U.den, C.den]⟩
    · exact h.elim
  · rename_i op t x y ty
    split at h
    · rename_i ux uy hx hy
      have hdx : ∀ a w, Inv W n0 ρ0 N ρ σ a w → a.eval x = ux.den ρ := fun a w hI => by rw [ev_den hI x, hx]; rfl
      have hdy : ∀ a w, Inv W n0 ρ0 N ρ σ a w → a.eval y = uy.den ρ := fun a w hI => by rw [ev_den hI y, hy]; rfl
      have gen : (kO (eqV P op t ux uy) fun c => k (.u (.c c)) σ).sat R → OpA P W n0 ρ0 N R ρ σ ⟨dst, .binOp op t x y ty, type, pos, after, guard⟩ k := by
        intro hg
        obtain ⟨c, hc, hs⟩ := kO_sat hg
        refine OpA.mk' _ hs fun a w hI => ?_
        obtain ⟨e1, e2⟩ := eqV_run hc x y ρ w
        refine ⟨e2 _, run_v (s := (do eqGuard op t x y (a.eval x) (a.eval y); binOp op t (a.eval x) (a.eval y))) ?_⟩
        rw [hdx a w hI, hdy a w hI]
        exact e1
      split at h
      · rename_i cx cy
        split at h
        · rename_i lx kx nx ly ky ny hcx hcy
          have ht := fun w => binI_tells P w op t lx kx nx ly ky ny
          have fin : ∀ c, (∀ w, (binOp op t (.int kx nx) (.int ky ny)).run P w = .ok (c.den ρ) w) → (∀ n, c.wf n = true) → (k (.u (.c c)) σ).sat R →
              OpA P W n0 ρ0 N R ρ σ ⟨dst, .binOp op t x y ty, type, pos, after, guard⟩ k := by
            intro c hr hw hs
            refine OpA.mk' _ hs fun a w hI => ⟨hw _, ?_⟩
            have hg : (eqGuard op t x y (.int kx nx) (.int ky ny)).run P w = .ok () w := by
              unfold eqGuard
              split <;> simp
            refine run_v (s := (do eqGuard op t x y (a.eval x) (a.eval y); binOp op t (a.eval x) (a.eval y))) ?_
            rw [hdx a w hI, hdy a w hI]
            simp only [U.den, C.int_den hcx ρ, C.int_den hcy ρ, Sem.run_bind, hg, Result.andThen_ok]
            exact hr w
          split at h
          · rename_i c hb
            rw [hb] at ht
            exact fin c (fun w => (ht w).2 ρ) (ht W).1 h
          · rename_i b c hb
            rw [hb] at ht
            obtain ⟨h1, h2⟩ := h
            cases b
            · exact fin c (fun w => (ht w).2 rfl ρ) (ht W).1 (h2 rfl)
            · exact (h1 rfl).elim
          · exact h.elim
        · split at h
          · rename_i b hb
            obtain ⟨c, hc, hs⟩ := kO_sat h
            refine OpA.mk' _ hs fun a w hI => ?_
            obtain ⟨e1, e2⟩ := refOp_run hb hc hI.H x y rfl
            refine ⟨e2 _, run_v (s := (do eqGuard op t x y (a.eval x) (a.eval y); binOp op t (a.eval x) (a.eval y))) ?_⟩
            rw [hdx a w hI, hdy a w hI]
            exact e1
          · exact gen h
      · exact gen h
    · exact h.elim
  · rename_i op t x
    split at h
    · rename_i c hx
      obtain ⟨c', hc, hs⟩ := kO_sat h
      refine OpA.mk' _ hs fun a w hI => ?_
      obtain ⟨e1, e2⟩ := run_unC hc ρ w
      have hd : a.eval x = c.den ρ := by rw [ev_den hI x, hx]; rfl
      exact ⟨e2 _, run_v (s := Op.unary op (a.eval x)) (by rw [hd]; exact e1)⟩
    · exact h.elim
  · rename_i src dst' x
    split at h
    · rename_i c hx
      obtain ⟨c', hc, hs⟩ := kO_sat h
      refine OpA.mk' _ hs fun a w hI => ?_
      obtain ⟨e1, e2⟩ := run_convC hc ρ w
      have hd : a.eval x = c.den ρ := by rw [ev_den hI x, hx]; rfl
      exact ⟨e2 _, run_v (s := convert src dst' (a.eval x)) (by rw [hd]; exact e1)⟩
    · exact h.elim
  · rename_i fn first caps
    split at h
    · rename_i f
      split at h
      · rename_i hf
        obtain ⟨ps, hc, hs⟩ := kO_sat h
        refine OpA.mk' _ hs fun a w hI => ?_
        obtain ⟨e1, e2⟩ := ptrsOf_spec hI _ _ hc
        refine ⟨e2, ?_⟩
        refine run_v (s := Instr.makeFunc (.func f) (first.map a.eval) (caps.map a.eval)) ?_
        have h0 : first = #[] := by simpa using hf
        subst h0
        have h1 : caps.map a.eval = (ps.map (ptrV ρ)).toArray := by
          apply Array.ext'
          simpa using e1
        rw [h1]
        simp [Instr.makeFunc, V.den, U.den, C.den]
      · exact h.elim
    · exact h.elim
  · rename_i s x f
    split at h
    · rename_i id off hx
      obtain ⟨d, hd0, hs⟩ := kO_sat h
      refine OpA.mk' _ hs fun a w hI => ?_
      have hd : a.eval x = .pointer (some ⟨ρ id, off, none⟩) := by rw [ev_den hI x, hx]; rfl
      have hw := ev_wf hI x
      rw [hx] at hw
      refine ⟨hw, run_v (s := Instr.fieldAt s (a.eval x) f) ?_⟩
      rw [hd]
      exact run_fieldOff hd0 _ _ _
    · exact h.elim
  · rename_i t x f
    split at h
    · rename_i xs hx
      obtain ⟨u, hu, hs⟩ := kO_sat h
      refine OpA.mk' _ hs fun a w hI => ?_
      have hd : a.eval x = .agg (dens ρ xs) := by rw [ev_den hI x, hx]; rfl
      have hw := ev_wf hI x
      rw [hx] at hw
      refine ⟨partC_wf hw hu, run_v (s := Instr.field t (a.eval x) f) ?_⟩
      rw [hd]
      exact run_partC hu ρ w
    · exact h.elim
  · rename_i t x ix
    split at h
    · rename_i cx ci hx hix
      obtain ⟨c, hc, hs⟩ := kO_sat h
      refine OpA.mk' _ hs fun a w hI => ?_
      have hd : a.eval x = cx.den ρ := by rw [ev_den hI x, hx]; rfl
      have hd2 : a.eval ix = ci.den ρ := by rw [ev_den hI ix, hix]; rfl
      have hw := ev_wf hI x
      rw [hx] at hw
      obtain ⟨e1, e2⟩ := run_idxC hc hw ρ w
      refine ⟨e2, run_v (s := Instr.indexAt t (a.eval x) (a.eval ix)) ?_⟩
      rw [hd, hd2]
      exact e1
    · exact h.elim
  · rename_i x i
    obtain ⟨u, hu, hs⟩ := kO_sat h
    unfold tupC at hu
    split at hu
    · rename_i xs hx
      have hx0 : ev σ x = .tup xs := hx
      refine OpA.mk' _ hs fun a w hI => ?_
      have hw := ev_wf hI x
      rw [hx0] at hw
      have hd : a.eval x = .tuple (xs.map (U.den ρ)).toArray := by rw [ev_den hI x, hx0]; rfl
      simp only [V.wf, List.all_eq_true] at hw
      refine ⟨hw u (List.mem_of_getElem? hu), run_v (s := Instr.extract (a.eval x) i) ?_⟩
      rw [hd]
      simp [Instr.extract, hu, V.den]
    · cases hu
  · cases hp
  · cases hp
  · cases hp
  · rename_i t x ix ok
    obtain ⟨v, hs, hv⟩ := lookup_path (W := W) (n0 := n0) (ρ0 := ρ0) (N := N) (ρ := ρ) h
    exact OpA.mk' v hs fun a w hI => ⟨(hv a w hI).1, run_v (s := Instr.lookup t (a.eval x) (a.eval ix) ok) (hv a w hI).2⟩
  · rename_i t x
    split at h
    · rename_i c hx
      obtain ⟨c', hc, hs⟩ := kO_sat h
      refine OpA.mk' _ hs fun a w hI => ?_
      have hw := ev_wf hI x
      rw [hx] at hw
      have hd : a.eval x = c.den ρ := by rw [ev_den hI x, hx]; rfl
      obtain ⟨e1, e2⟩ := run_ifaceC hc ρ w
      refine ⟨show V.wf σ.n (.u (.c c')) = true from e2 _ hw, run_v (s := Instr.makeInterface t (a.eval x)) ?_⟩
      rw [hd]
      exact e1
    · exact h.elim
  · rename_i x xt t ok
    split at h
    · rename_i c hx
      obtain ⟨v, hc, hs⟩ := kO_sat h
      refine OpA.mk' _ hs fun a w hI => ?_
      have hw := ev_wf hI x
      rw [hx] at hw
      have hd : a.eval x = c.den ρ := by rw [ev_den hI x, hx]; rfl
      obtain ⟨e1, e2⟩ := run_tassertC (xt := xt) hc ρ w
      refine ⟨e2 _ hw, run_v (s := Instr.typeAssert (a.eval x) xt t ok) ?_⟩
      rw [hd]
      exact e1
    · exact h.elim
  · exact h.elim


theorem br_no {b : Bool} {T : Tr} {n : Nat} (h : (Tr.br b T (.no n)).sat R) : b = true ∧ T.sat R := by
  cases b with
  | true => exact ⟨rfl, h.1 rfl⟩
  | false => exact (h.2 rfl).elim
theorem opxMA_sound {o : Oper} {k : V → St → Tr} (hp : pureOp o.op = true) (h : (opxM P o.op σ k).sat R) : OpA P W n0 ρ0 N R ρ σ o k := by
  obtain ⟨dst, op, type, pos, after, guard⟩ := o
  simp only at h hp
  unfold opxM at h
  split at h
  · rename_i t x
    split at h
    · rename_i p off hx
      obtain ⟨q, hq, hs⟩ := kO_sat h
      obtain ⟨hok, hs⟩ := br_no hs
      refine OpA.mk' _ hs fun a w hI => ?_
      obtain ⟨b, e1, e2, e3⟩ := run_loadM (P := P) (zs := q.1) (u := q.2) hI.H hq hok
      refine ⟨e3, ?_⟩
      refine run_v (s := Instr.loadAt t (a.eval x)) ?_
      have hd : a.eval x = .pointer (some ⟨b, off, none⟩) := by rw [ev_den hI x, hx]; exact pv_at e1
      simp only [hd, Instr.loadAt, Instr.sureAddr, Sem.run_bind, Sem.run_pure, Result.andThen_ok]
      exact e2
    · exact h.elim
  · cases hp
  · rename_i x
    split at h
    · rename_i p off hx
      obtain ⟨hok, hs⟩ := br_no h
      obtain ⟨b, e1⟩ := nz_at hok
      refine OpA.mk' _ hs fun a w hI => ⟨rfl, ?_⟩
      have hd : a.eval x = .pointer (some ⟨b, off, none⟩) := by rw [ev_den hI x, hx]; exact pv_at e1
      simp [execOp, hd, V.den, U.den, C.den, pv_at e1]
    · exact h.elim
  · rename_i s x f
    split at h
    · rename_i p off hx
      obtain ⟨d, hd0, hs⟩ := kO_sat h
      obtain ⟨hok, hs⟩ := br_no hs
      obtain ⟨b, e1⟩ := nz_at hok
      refine OpA.mk' _ hs fun a w hI => ⟨rfl, ?_⟩
      have hd : a.eval x = .pointer (some ⟨b, off, none⟩) := by rw [ev_den hI x, hx]; exact pv_at e1
      refine run_v (s := Instr.fieldAt s (a.eval x) f) ?_
      rw [hd]
      have e2 : V.den ρ (.u (.c (.np p (off + d)))) = .pointer (some ⟨b, off + d, none⟩) := pv_at e1
      rw [e2]
      exact run_fieldOff hd0 _ _ _
    · exact h.elim
  · rename_i op t x y ty
    obtain ⟨p, hx, hs⟩ := kO_sat h
    obtain ⟨q, hy, hs⟩ := kO_sat hs
    split at hs
    · rename_i hz
      obtain ⟨hok, hs⟩ := br_no hs
      have hd : ∀ a w, Inv W n0 ρ0 N ρ σ a w → a.eval x = pv p 0 ∧ a.eval y = pv q 0 := fun a w hI => ⟨by rw [ev_den hI x]; exact npOf_den hx ρ, by rw [ev_den hI y]; exact npOf_den hy ρ⟩
      split at hs
      · refine OpA.mk' _ hs fun a w hI => ⟨rfl, run_v (s := (do eqGuard .eql t x y (a.eval x) (a.eval y); binOp .eql t (a.eval x) (a.eval y))) ?_⟩
        obtain ⟨g1, g2, g3⟩ := cmp_run hz hI.H hok
        rw [(hd a w hI).1, (hd a w hI).2]
        simp only [Sem.run_bind, g3, Result.andThen_ok]
        exact g1
      · refine OpA.mk' _ hs fun a w hI => ⟨rfl, run_v (s := (do eqGuard .neq t x y (a.eval x) (a.eval y); binOp .neq t (a.eval x) (a.eval y))) ?_⟩
        obtain ⟨g1, g2, g3⟩ := cmp_run hz hI.H hok
        rw [(hd a w hI).1, (hd a w hI).2]
        simp only [Sem.run_bind, g3, Result.andThen_ok]
        rw [g2]; cases peq p q <;> rfl
      · exact hs.elim
    · exact hs.elim
  · cases hp
  · rename_i t x ix
    obtain ⟨p, off, c, d, hx, e1, hs, ci, hix, hr⟩ := opxM_index (P := P) (t := t) (x := x) (ix := ix) (k := k) h
    refine OpA.mk' _ hs fun a w hI => ⟨rfl, run_v (s := Instr.indexAt t (a.eval x) (a.eval ix)) ?_⟩
    have hd : a.eval x = .pointer (some ⟨c, off, none⟩) := by rw [ev_den hI x, hx]; exact pv_at e1
    have hd2 : a.eval ix = ci.den ρ := by rw [ev_den hI ix, hix]; rfl
    have e2 : V.den ρ (.u (.c (.np p d))) = .pointer (some ⟨c, d, none⟩) := pv_at e1
    rw [hd, hd2, e2]
    exact hr ρ w
  · exact h.elim
theorem opxRA_sound {o : Oper} {k : V → St → Tr} (hp : pureOp o.op = true) (h : (opxR P o.op σ k).sat R) : OpA P W n0 ρ0 N R ρ σ o k := by
  cases hr : pureR o.op with
  | true =>
    obtain ⟨v, hs, hv⟩ := opxR_path (W := W) (n0 := n0) (ρ0 := ρ0) (N := N) (ρ := ρ) hr h
    exact OpA.mk' v hs fun a w hI => hv a w hI
  | false =>
    unfold opxR at h
    split at h
    · rename_i e; rw [e] at hr; cases hr
    · rename_i e; rw [e] at hp; cases hp
    · rename_i e; rw [e] at hr; cases hr
    · rename_i e; rw [e] at hr; cases hr
    · rename_i e; rw [e] at hr; cases hr
    · rename_i e; rw [e] at hp; cases hp
    · rename_i e; rw [e] at hp; cases hp
    · exact h.elim
theorem opXA_sound {o : Oper} {k : V → St → Tr} (hp : pureOp o.op = true) (h : (opX P o.op σ k).sat R) : OpA P W n0 ρ0 N R ρ σ o k := by
  unfold opX at h
  split at h
  · exact opxRA_sound hp h
  · split at h
    · exact opxMA_sound hp h
    · exact opxA_sound hp h
end
end Go.Proofs.Ytnlohongffpkpaa.Sx
