/- The symbolic executor's memory: what is read and written through pointers that are numbers. A text of the session's own. -/
import Derived.Test.YtnlohongffpkpaaSxC
namespace Go.Proofs.Ytnlohongffpkpaa.Sx
open Go

/-- The cells of the object at a pointer. -/
def mget (m : Mem) (p : Int) : Option (Array Value) :=
  match p.toNat with
  | 0 => none
  | a + 1 => match m a with | some (.cells cs _ _) => some cs | _ => none
/-- .. that may be written. -/
def mgetW (m : Mem) (p : Int) : Option (Array Value) :=
  match p.toNat with
  | 0 => none
  | a + 1 => match m a with | some (.cells cs _ (0, 0)) => some cs | _ => none
def mcell (m : Mem) (p : Int) (k : Nat) : Value := match mget m p with | some cs => (cs[k]?).getD undef | none => undef
def vI : Value → Int
  | .int _ n => n
  | _ => 0
def vB : Value → Bool
  | .bool b => b
  | _ => false
def vP : Value → Int
  | .pointer (some ⟨a, 0, none⟩) => (a : Int) + 1
  | _ => 0
def gI (m : Mem) (p : Int) (k : Nat) : Int := vI (mcell m p k)
def gB (m : Mem) (p : Int) (k : Nat) : Bool := vB (mcell m p k)
def gP (m : Mem) (p : Int) (k : Nat) : Int := vP (mcell m p k)
def rdC (z : C) (m : Mem) (p : Int) (k : Nat) : C :=
  match z with
  | .lb _ => .sb (gB m p k)
  | .li kd _ => .si kd (gI m p k)
  | .nilp => .np (gP m p k) 0
  | _ => .sv (mcell m p k)
def rdL (m : Mem) (p : Int) : Nat → List C → List C
  | _, [] => []
  | k, z :: r => rdC z m p k :: rdL m p (k + 1) r
def isK : IntKind → Value → Bool
  | kd, .int kd' _ => decide (kd = kd')
  | _, _ => false
def isB : Value → Bool
  | .bool _ => true
  | _ => false
def isP : Value → Bool
  | .pointer none => true
  | .pointer (some ⟨_, 0, none⟩) => true
  | _ => false
def isPlain : Value → Bool
  | .agg _ => false
  | .tuple _ => false
  | _ => true
def okC (z : C) (v : Value) : Bool :=
  match z with
  | .lb _ => isB v
  | .li kd _ => isK kd v
  | .nilp => isP v
  | _ => isPlain v
def okR (cs : Array Value) : Nat → List C → Bool
  | _, [] => true
  | k, z :: r => (match cs[k]? with | some v => okC z v | none => false) && okR cs (k + 1) r
/-- Does the object at the pointer hold such cells from off on? -/
def okL (m : Mem) (p : Int) (off : Nat) (zs : List C) : Bool := match mget m p with | some cs => okR cs off zs | none => false
/-- May so many cells be written there? -/
def okS (m : Mem) (p : Int) (off sz : Nat) : Bool := match mgetW m p with | some cs => Nat.ble (off + sz) cs.size | none => false
def putV (cs : Array Value) (k : Nat) : List Value → Array Value
  | [] => cs
  | v :: r => putV (cs.setIfInBounds k v) (k + 1) r
/-- The memory with cells written. -/
def wrL (m : Mem) (p : Int) (off : Nat) (vs : List Value) : Mem := fun a =>
  if a + 1 = p.toNat then (match m a with | some (.cells cs ty q) => some (.cells (putV cs off vs) ty q) | o => o) else m a

theorem mget_at {m : Mem} {p : Int} {cs : Array Value} (h : mget m p = some cs) : ∃ a ty q, p.toNat = a + 1 ∧ m a = some (.cells cs ty q) := by
  unfold mget at h
  split at h
  · cases h
  · rename_i a e
    split at h
    · rename_i cs' ty q e2; cases h; exact ⟨a, ty, q, e, e2⟩
    · cases h
theorem mgetW_at {m : Mem} {p : Int} {cs : Array Value} (h : mgetW m p = some cs) : ∃ a ty, p.toNat = a + 1 ∧ m a = some (.cells cs ty (0, 0)) := by
  unfold mgetW at h
  split at h
  · cases h
  · rename_i a e
    split at h
    · rename_i cs' ty e2; cases h; exact ⟨a, ty, e, e2⟩
    · cases h
theorem mgetW_get {m : Mem} {p : Int} {cs : Array Value} (h : mgetW m p = some cs) : mget m p = some cs := by
  obtain ⟨a, ty, e1, e2⟩ := mgetW_at h
  unfold mget; rw [e1]; simp [e2]
theorem rdC_den (ρ : Nat → Nat) {z : C} {m : Mem} {p : Int} {k : Nat} {v : Value} (hv : mcell m p k = v) (h : okC z v = true) : (rdC z m p k).den ρ = v := by
  cases z with
  | lb b => cases v <;> simp [okC, isB] at h; simp [rdC, gB, hv, C.den, vB]
  | li kd n => cases v <;> simp [okC, isK] at h; simp [rdC, gI, hv, C.den, vI, h]
  | nilp =>
    simp only [rdC, C.den, gP, hv]
    replace h : isP v = true := h
    unfold isP at h
    split at h
    · rfl
    · rename_i a
      simp only [vP, pv]
      rw [show ((a : Int) + 1).toNat = a + 1 by omega]
    · cases h
  | _ => simp only [rdC, C.den, hv]; cases v <;> first | rfl | (cases h; done)
theorem rdC_wf (z : C) (m : Mem) (p : Int) (k n : Nat) : (rdC z m p k).wf n = true := by cases z <;> rfl
theorem rdL_wf (m : Mem) (p : Int) (n : Nat) : ∀ (zs : List C) (k : Nat), (rdL m p k zs).all (C.wf n) = true
  | [], _ => rfl
  | z :: r, k => by simp [rdL, rdC_wf, rdL_wf m p n r]
theorem rdL_length (m : Mem) (p : Int) : ∀ (zs : List C) (k : Nat), (rdL m p k zs).length = zs.length
  | [], _ => rfl
  | z :: r, k => by simp [rdL, rdL_length m p r]
theorem rdL_get (ρ : Nat → Nat) {m : Mem} {p : Int} {cs : Array Value} (hm : mget m p = some cs) : ∀ {zs : List C} {k : Nat}, okR cs k zs = true → ∀ {j : Nat} {v : Value}, ((rdL m p k zs).map (C.den ρ))[j]? = some v → cs[k + j]? = some v
  | [], k, _, j, v, h => by cases h
  | z :: r, k, hok, j, v, h => by
    simp only [okR, Bool.and_eq_true] at hok
    obtain ⟨h1, h2⟩ := hok
    cases j with
    | zero =>
      split at h1
      · rename_i v' e
        have : mcell m p k = v' := by unfold mcell; rw [hm]; simp [e]
        have := rdC_den ρ this h1
        simp [rdL, this] at h
        rw [Nat.add_zero, e, h]
      · cases h1
    | succ j =>
      have := rdL_get ρ hm h2 (j := j) (v := v) (by simpa [rdL] using h)
      rw [show k + (j + 1) = k + 1 + j by omega]
      exact this

section
variable {P : Program} {W : World} {n0 : NL} {ρ0 ρ : Nat → Nat} {hp : Hp} {n : Nat} {w : World}

/-- A load through a pointer into the memory. -/
def ldM (P : Program) (t : TypeId) (m : Mem) (p : Int) (off : Nat) : Option (List C × U) :=
  match tzero P t, tagg P t with
  | some (.c z), some false => some ([z], .c (rdC z m p off))
  | some (.agg zs), some true => match tsz P t with
    | some sz => (match Nat.beq sz zs.length with | true => some (zs, .agg (rdL m p off zs)) | false => none)
    | none => none
  | _, _ => none

theorem run_loadM {t : TypeId} {p : Int} {off : Nat} {zs : List C} {u : U} (h : HInv W n0 ρ0 ρ hp n w) (hu : ldM P t hp.x p off = some (zs, u)) (hok : okL hp.x p off zs = true) :
    ∃ a, p.toNat = a + 1 ∧ (loadVar t ⟨a, off, none⟩).run P w = .ok (u.den ρ) w ∧ u.wf n = true := by
  unfold okL at hok
  split at hok
  rotate_left
  · cases hok
  rename_i cs hm
  obtain ⟨a, ty, q, e1, e2⟩ := mget_at hm
  have hb := h.mem.sub a _ e2
  have hcell : ∀ j, w.cell? ⟨a, j, none⟩ = cs[j]? := fun j => by simp [World.cell?, hb]
  refine ⟨a, e1, ?_⟩
  unfold ldM at hu
  split at hu
  · rename_i z hz ha
    cases hu
    refine ⟨?_, rdC_wf _ _ _ _ _⟩
    simp only [loadVar, Sem.run_bind, run_isAgg ha, Result.andThen_ok]
    refine run_load ?_
    rw [hcell]
    exact rdL_get ρ hm hok (j := 0) (by simp [rdL]; rfl)
  · rename_i zs' hz ha
    split at hu
    · rename_i sz hs
      split at hu
      · rename_i hl
        cases hu
        have hl := Nat.eq_of_beq_eq_true hl
        subst hl
        refine ⟨?_, rdL_wf _ _ _ _ _⟩
        simp only [loadVar, Sem.run_bind, run_isAgg ha, Result.andThen_ok, if_true, run_sizeOf hs]
        have := run_loadCellsFrom (P := P) (w := w) ⟨a, off, none⟩ ((rdL hp.x p off zs).map (C.den ρ)) 0 #[] (by
          intro j v hj
          rw [add_at, hcell, Nat.zero_add]
          exact rdL_get ρ hm hok hj)
        simp only [List.length_map, rdL_length, Array.empty_append] at this
        simp only [loadCells, this, Result.andThen_ok, Sem.run_pure]
        rfl
      · cases hu
    · cases hu
  · cases hu

/-- What the memory is known to hold at a place is written anew. -/
theorem HInv.write (h : HInv W n0 ρ0 ρ hp n w) {a : Nat} {o o' : Obj} (ha : hp.x a = some o) (hwr : hp.wr = true) {w' : World} (ht : Touch a w w') (hw : w'.heap[a]? = some o') {x' : Mem} (hx' : ∀ b, x' b = if b = a then some o' else hp.x b) :
    HInv W n0 ρ0 ρ { hp with x := x' } n w' := by
  have hne := h.mem.sep a o ha
  refine ⟨fun i hi => Nat.lt_of_lt_of_le (h.lt i hi) ht.size, h.inj, fun i b hb => ?_, h.le, h.old, h.new, ht.os.trans h.os, ht.tape.trans h.tape, ht.output.trans h.output, Nat.le_trans h.size ht.size, fun k hk hx hf => ?_, fun i m hm => ?_, h.lim, ⟨fun b q e => ?_, fun b q e i hi => ?_, fun e0 b q e => ?_⟩⟩
  · obtain ⟨g1, g2, g3⟩ := h.blk i b hb
    exact ⟨g1, g2, (ht.far _ (h.lt i g1) (hne i g1)).trans g3⟩
  · rw [ht.far k (Nat.lt_of_lt_of_le hk h.size) ?_]
    · exact h.far k hk hx hf
    · intro e
      subst e
      rcases h.mem.dom hwr k o ha with h1 | h1
      · exact h1 hx
      · omega
  · obtain ⟨g1, g2, g3⟩ := h.mblk i m hm
    exact ⟨g1, g2, (ht.far _ (h.lt i g1) (hne i g1)).trans g3⟩
  · replace e : x' b = some q := e
    rw [hx'] at e
    split at e
    · rename_i eb; subst eb; cases e; exact hw
    · rename_i eb; exact (ht.far b (h.mem.lt e) eb).trans (h.mem.sub b q e)
  · replace e : x' b = some q := e
    rw [hx'] at e
    split at e
    · rename_i eb; subst eb; exact hne i hi
    · exact h.mem.sep b q e i hi
  · replace e : x' b = some q := e
    rw [hx'] at e
    split at e
    · rename_i eb; subst eb; exact h.mem.dom e0 b o ha
    · exact h.mem.dom e0 b q e

theorem putC_putV (ρ : Nat → Nat) : ∀ (us : List C) (cs : List C) (off : Nat), dens ρ (putC cs off us) = putV (dens ρ cs) off (us.map (C.den ρ))
  | [], cs, off => rfl
  | u :: us, cs, off => by
    simp only [putC, List.map_cons, putV]
    rw [putC_putV ρ us, dens_set]

theorem run_storeM {t : TypeId} {p : Int} {off : Nat} {u : U} (h : HInv W n0 ρ0 ρ hp n w) (hs : tsz P t = some u.cells.length) (hpl : u.cells.all C.plain = true) (huw : u.wf 0 = true) (hwr : hp.wr = true) (hok : okS hp.x p off u.cells.length = true) :
    ∃ a w', p.toNat = a + 1 ∧ (storeVar t ⟨a, off, none⟩ (u.den ρ)).run P w = .ok () w' ∧ HInv W n0 ρ0 ρ { hp with x := wrL hp.x p off (u.cells.map (C.den fun _ => 0)) } n w' := by
  unfold okS at hok
  split at hok
  rotate_left
  · cases hok
  rename_i cs hm
  have hok := Nat.le_of_ble_eq_true hok
  obtain ⟨a, ty, e1, e2⟩ := mgetW_at hm
  have hb := h.mem.sub a _ e2
  have hlt := h.mem.lt e2
  have ecs : dens (fun _ => a) (cs.toList.map C.raw) = cs := by
    simp only [dens, List.map_map]
    have : (C.den (fun _ => a) ∘ C.raw) = id := funext fun v => rfl
    simp [this]
  have hH0 : HInv w ⟨1, 0, noM⟩ (fun _ => a) (fun _ => a) (hcons (0, (cs.toList.map C.raw, ty)) hnil) 1 w := by
    refine ⟨fun _ _ => hlt, fun i j hi hj _ => by omega, ?_, Nat.le_refl _, Ext.refl _ _, (fun i h1 h2 => absurd h2 (Nat.not_lt.2 h1)), rfl, rfl, rfl, Nat.le_refl _, fun _ _ _ _ => rfl, (fun i m hm => by cases hm), rfl, MR.none _ _ _ _ _ _⟩
    intro i b' hi
    simp only [lookH_hcons, lookH_hnil] at hi
    split at hi
    · rename_i e
      cases hi
      refine ⟨by have := Nat.eq_of_beq_eq_true e; omega, ?_, ?_⟩
      · simp only [List.all_map, List.all_eq_true]; exact fun _ _ => rfl
      · rw [ecs]; exact hb
    · cases hi
  obtain ⟨w', r1, r2⟩ := run_storeVar (P := P) (t := t) (off := off) hH0 (id := 0) (b := (cs.toList.map C.raw, ty)) rfl (Nat.le_refl 0) hs (by simpa using hok) (U.wf_mono (Nat.zero_le _) u huw) hpl
  have ed : U.den (fun _ => a) u = U.den ρ u := V.den_ext (n := 0) (ρ := ρ) (ρ' := fun _ => a) (fun i hi => by omega) (.u u) huw
  rw [ed] at r1
  obtain ⟨_, _, g3⟩ := r2.blk 0 (putC (cs.toList.map C.raw) off u.cells, ty) rfl
  refine ⟨a, w', e1, r1, h.write e2 hwr ⟨r2.os, r2.tape, r2.output, r2.size, fun k hk hne => r2.far k hk rfl fun i _ hi => Ne.symm hne⟩ g3 fun b => ?_⟩
  show (if b + 1 = p.toNat then _ else _) = _
  rw [e1]
  by_cases e : b = a
  · subst e
    rw [if_pos rfl, if_pos rfl, e2, putC_putV, ecs]
    have : u.cells.map (C.den fun _ => 0) = u.cells.map (C.den fun _ => b) := by
      have := U.cells_wf u huw
      simp only [List.all_eq_true] at this
      exact List.map_congr_left fun x hx => C.den_ext (n := 0) (fun i hi => by omega) x (this x hx)
    rw [this]
  · rw [if_neg (by omega), if_neg e]

/-- The memory with a new object. -/
def alM (m : Mem) (p : Int) (vs : Array Value) (ty : Nat) : Mem := fun a => if a + 1 = p.toNat then some (.cells vs ty (0, 0)) else m a
/-- What is told of a new object: its pointer is new to the memory. -/
def newQ (m : Mem) (vs : Array Value) (ty : Nat) : Vars → Prop := fun y => ∃ a : Nat, y.i = [(a : Int) + 1] ∧ m a = none ∧ y.m = alM m ((a : Int) + 1) vs ty
theorem HInv.fresh (h : HInv W n0 ρ0 ρ hp n w) (vs : Array Value) (ty : Nat) : HInv W n0 ρ0 ρ { hp with x := alM hp.x ((w.heap.size : Int) + 1) vs ty } n (w.alloc (.cells vs ty)) := by
  have hsz : (w.alloc (.cells vs ty)).heap.size = w.heap.size + 1 := by rw [heap_alloc, Array.size_push]
  have hget : ∀ k, k < w.heap.size → (w.alloc (.cells vs ty)).heap[k]? = w.heap[k]? := fun k hk => by rw [heap_alloc, Array.getElem?_push, if_neg (Nat.ne_of_lt hk)]
  have ex : ∀ b, alM hp.x ((w.heap.size : Int) + 1) vs ty b = if b = w.heap.size then some (.cells vs ty (0, 0)) else hp.x b := by
    intro b
    unfold alM
    rw [show ((w.heap.size : Int) + 1).toNat = w.heap.size + 1 by omega]
    by_cases e : b = w.heap.size
    · rw [if_pos (by omega), if_pos e]
    · rw [if_neg (by omega), if_neg e]
  refine ⟨fun i hi => by have := h.lt i hi; omega, h.inj, fun i b hb => ?_, h.le, h.old, h.new, h.os, h.tape, h.output, by have := h.size; omega, fun k hk hx hf => ?_, fun i m hm => ?_, h.lim, ⟨fun b q e => ?_, fun b q e i hi => ?_, fun e0 b q e => ?_⟩⟩
  · obtain ⟨g1, g2, g3⟩ := h.blk i b hb
    exact ⟨g1, g2, (hget _ (h.lt i g1)).trans g3⟩
  · have := h.size
    rw [hget k (by omega)]
    exact h.far k hk hx hf
  · obtain ⟨g1, g2, g3⟩ := h.mblk i m hm
    exact ⟨g1, g2, (hget _ (h.lt i g1)).trans g3⟩
  · replace e := (ex b).symm.trans e
    split at e
    · rename_i eb; subst eb; cases e
      rw [heap_alloc, Array.getElem?_push, if_pos rfl]
    · exact (hget b (h.mem.lt e)).trans (h.mem.sub b q e)
  · replace e := (ex b).symm.trans e
    split at e
    · rename_i eb; subst eb; exact Nat.ne_of_lt (h.lt i hi)
    · exact h.mem.sep b q e i hi
  · replace e := (ex b).symm.trans e
    split at e
    · rename_i eb; subst eb; exact .inr h.size
    · exact h.mem.dom e0 b q e

/-- The memory goes over into another, and nothing else is touched. -/
structure MemTo (m m' : Mem) (w w' : World) : Prop where
  os : w'.os = w.os
  tape : w'.tape = w.tape
  output : w'.output = w.output
  size : w.heap.size ≤ w'.heap.size
  sub : ∀ a o, m' a = some o → w'.heap[a]? = some o
  far : ∀ k, k < w.heap.size → m k = none → w'.heap[k]? = w.heap[k]?
  dom : ∀ a o, m' a = some o → m a ≠ none ∨ w.heap.size ≤ a
theorem HInv.memTo (h : HInv W n0 ρ0 ρ hp n w) (hwr : hp.wr = true) {m' : Mem} {w' : World} (ht : MemTo hp.x m' w w') : HInv W n0 ρ0 ρ { hp with x := m' } n w' := by
  have hloc : ∀ i, i < n → hp.x (ρ i) = none := fun i hi => by
    cases e : hp.x (ρ i) with
    | none => rfl
    | some o => exact absurd rfl (h.mem.sep _ o e i hi)
  refine ⟨fun i hi => Nat.lt_of_lt_of_le (h.lt i hi) ht.size, h.inj, fun i b hb => ?_, h.le, h.old, h.new, ht.os.trans h.os, ht.tape.trans h.tape, ht.output.trans h.output, Nat.le_trans h.size ht.size, fun k hk hx hf => ?_, fun i m hm => ?_, h.lim, ⟨ht.sub, fun b q e i hi => ?_, fun _ b q e => ?_⟩⟩
  · obtain ⟨g1, g2, g3⟩ := h.blk i b hb
    exact ⟨g1, g2, (ht.far _ (h.lt i g1) (hloc i g1)).trans g3⟩
  · rw [ht.far k (Nat.lt_of_lt_of_le hk h.size) ?_]
    · exact h.far k hk hx hf
    · cases e : hp.x k with
      | none => rfl
      | some o =>
        rcases h.mem.dom hwr k o e with h1 | h1
        · exact absurd hx h1
        · omega
  · obtain ⟨g1, g2, g3⟩ := h.mblk i m hm
    exact ⟨g1, g2, (ht.far _ (h.lt i g1) (hloc i g1)).trans g3⟩
  · intro e1
    rcases ht.dom b q e with h1 | h1
    · rw [← e1] at h1; exact h1 (hloc i hi)
    · have := h.lt i hi; omega
  · rcases ht.dom b q e with h1 | h1
    · cases e1 : hp.x b with
      | none => exact absurd e1 h1
      | some o => exact h.mem.dom hwr b o e1
    · exact .inr (Nat.le_trans h.size h1)
end
end Go.Proofs.Ytnlohongffpkpaa.Sx
