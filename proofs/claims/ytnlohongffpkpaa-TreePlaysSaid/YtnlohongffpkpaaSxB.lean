/- The symbolic executor: what the world does under loads, stores and new blocks, told of the local heap. A text of the session's own. -/
import Derived.Test.YtnlohongffpkpaaSxA
namespace Go.Proofs.Ytnlohongffpkpaa.Sx
open Go

def tsz (P : Program) (t : TypeId) : Option Nat := (P.info? t).map (·.size)
def tagg (P : Program) (t : TypeId) : Option Bool :=
  match P.underlying t with
  | some (.struct _) => some true
  | some (.array _ _) => some true
  | some _ => some false
  | none => none
def tzero (P : Program) (t : TypeId) : Option U :=
  match P.info? t with
  | some i => match i.zero with | some v => some (U.ofValue v) | none => none
  | none => none

def U.cells : U → List C
  | .c x => [x]
  | .agg xs => xs

def C.plain : C → Bool
  | .raw (.agg _) => false
  | .raw (.tuple _) => false
  | _ => true

theorem dens_size (ρ : Nat → Nat) (xs : List C) : (dens ρ xs).size = xs.length := by simp [dens]
theorem dens_get (ρ : Nat → Nat) (xs : List C) (i : Nat) : (dens ρ xs)[i]? = (xs[i]?).map (C.den ρ) := by simp [dens]
theorem dens_set (ρ : Nat → Nat) (xs : List C) (i : Nat) (c : C) : dens ρ (xs.set i c) = (dens ρ xs).setIfInBounds i (c.den ρ) := by
  simp [dens, List.map_set]
theorem dens_toList (ρ : Nat → Nat) (xs : List C) : (dens ρ xs).toList = xs.map (C.den ρ) := by simp [dens]

theorem U.den_cells (ρ : Nat → Nat) (u : U) (h : ∀ c, u = .c c → c.plain = true) : (u.den ρ).cells = dens ρ u.cells := by
  cases u with
  | agg xs => rfl
  | c x =>
    have hp := h x rfl
    simp only [U.den, U.cells, dens, List.map_cons, List.map_nil]
    cases x with
    | raw v => cases v <;> first | rfl | simp [C.plain] at hp
    | np p off => simp only [C.den, pv]; split <;> rfl
    | sv v => cases v <;> rfl
    | _ => rfl

theorem U.cells_wf {n : Nat} (u : U) (h : u.wf n = true) : u.cells.all (C.wf n) = true := by
  cases u with
  | c x => simpa [U.cells, U.wf] using h
  | agg xs => exact h

section
variable {P : Program} {W : World} {n0 : NL} {ρ0 ρ : Nat → Nat} {hp : Hp} {n : Nat} {w : World}

theorem run_isAgg {t : TypeId} {b : Bool} (h : tagg P t = some b) (w : World) : (isAgg t).run P w = .ok b w := by
  unfold tagg at h
  simp only [isAgg, Sem.run_bind]
  cases hu : P.underlying t with
  | none => rw [hu] at h; cases h
  | some d =>
    rw [hu] at h
    rw [run_underlying hu]
    cases d <;> cases h <;> simp [Result.andThen]

theorem run_sizeOf {t : TypeId} {k : Nat} (h : tsz P t = some k) (w : World) : (sizeOf t).run P w = .ok k w := by
  unfold tsz at h
  simp only [sizeOf, typeInfo, Sem.run_bind, run_program, Result.andThen_ok]
  cases hi : P.info? t with
  | none => rw [hi] at h; cases h
  | some i => rw [hi] at h; cases h; simp

theorem run_zeroValue {t : TypeId} {u : U} (h : tzero P t = some u) (ρ : Nat → Nat) (w : World) : (zeroValue t).run P w = .ok (u.den ρ) w := by
  unfold tzero at h
  simp only [zeroValue, typeInfo, Sem.run_bind, run_program, Result.andThen_ok]
  cases hi : P.info? t with
  | none => rw [hi] at h; cases h
  | some i =>
    rw [hi] at h
    simp only [Sem.run_pure, Result.andThen_ok]
    cases hz : i.zero with
    | none => simp [hz] at h
    | some v =>
      simp only [hz] at h
      cases h
      simp [U.den_ofValue]

theorem heap_alloc (w : World) (o : Obj) : (w.alloc o).heap = w.heap.push o := rfl

/-- A map's block is no block of cells. -/
theorem HInv.mne (h : HInv W n0 ρ0 ρ hp n w) {id j : Nat} {b : Blk} {m : MBlk} (hb : lookH hp id = some b) (hm : lookM hp j = some m) : ρ j ≠ ρ id := by
  obtain ⟨_, _, h1⟩ := h.blk id b hb
  obtain ⟨_, _, h2⟩ := h.mblk j m hm
  intro e
  rw [e, h1] at h2
  cases h2

/-- A new block. -/
theorem HInv.alloc (h : HInv W n0 ρ0 ρ hp n w) (cs : List C) (ty : Nat) (hc : cs.all (C.wf n) = true) :
    HInv W n0 ρ0 (fun i => if i = n then w.heap.size else ρ i) (hcons (n, (cs, ty)) hp) (n + 1) (w.alloc (.cells (dens ρ cs) ty)) := by
  have hE : Ext n ρ (fun i => if i = n then w.heap.size else ρ i) := fun i hi => by simp [Nat.ne_of_lt hi]
  refine ⟨?_, ?_, ?_, by have := h.le; omega, ?_, ?_, h.os, h.tape, h.output, by have := h.size; rw [heap_alloc, Array.size_push]; omega, ?_, ?_, h.lim, h.mem.alloc _⟩
  · intro i hi
    rw [heap_alloc, Array.size_push]
    show (if i = n then w.heap.size else ρ i) < _
    split
    · omega
    · have := h.lt i (by omega); omega
  · intro i j hi hj he
    replace he : (if i = n then w.heap.size else ρ i) = (if j = n then w.heap.size else ρ j) := he
    split at he <;> split at he
    · omega
    · have := h.lt j (by omega); omega
    · have := h.lt i (by omega); omega
    · exact h.inj i j (by omega) (by omega) he
  · intro i b hb
    simp only [lookH_hcons, lookH_hnil] at hb
    by_cases e : n = i
    · subst e
      simp only [Nat.beq_refl] at hb
      cases hb
      refine ⟨by omega, ?_, ?_⟩
      · simp only [List.all_eq_true] at hc ⊢
        exact fun x hx => C.wf_mono (by omega) x (hc x hx)
      · simp only [if_true]
        rw [dens_ext hE cs hc, heap_alloc]
        simp
    · rw [Nat.beq_eq_false_iff.2 e] at hb
      obtain ⟨h1, h2, h3⟩ := h.blk i b hb
      refine ⟨by omega, ?_, ?_⟩
      · simp only [List.all_eq_true] at h2 ⊢
        exact fun x hx => C.wf_mono (by omega) x (h2 x hx)
      · show (w.alloc _).heap[if i = n then w.heap.size else ρ i]? = _
        rw [dens_ext hE b.1 h2, if_neg (fun x => e x.symm), heap_alloc]
        rw [Array.getElem?_push, if_neg (by have := h.lt i h1; omega)]
        exact h3
  · intro i hi
    have := h.le
    exact (hE i (by omega)).trans (h.old i hi)
  · intro i h1 h2
    show W.heap.size ≤ (if i = n then w.heap.size else ρ i)
    split
    · exact h.size
    · exact h.new i h1 (by omega)
  · intro k hk hx hf
    rw [heap_alloc, Array.getElem?_push, if_neg (by have := h.size; omega)]
    exact h.far k hk hx hf
  · intro i b hb
    rw [lookM_hcons] at hb
    obtain ⟨h1, h2, h3⟩ := h.mblk i b hb
    refine ⟨by omega, mwf_mono (by omega) _ h2, ?_⟩
    show (w.alloc _).heap[if i = n then w.heap.size else ρ i]? = _
    rw [mden_ext hE b.1 h2, if_neg (by omega), heap_alloc]
    rw [Array.getElem?_push, if_neg (by have := h.lt i h1; omega)]
    exact h3

/-- A new map. -/
theorem HInv.allocM (h : HInv W n0 ρ0 ρ hp n w) : HInv W n0 ρ0 (fun i => if i = n then w.heap.size else ρ i) (mcons (n, ([], 0)) hp) (n + 1) (w.alloc (.map #[] 0)) := by
  have hE : Ext n ρ (fun i => if i = n then w.heap.size else ρ i) := fun i hi => by simp [Nat.ne_of_lt hi]
  refine ⟨?_, ?_, ?_, by have := h.le; omega, ?_, ?_, h.os, h.tape, h.output, by have := h.size; rw [heap_alloc, Array.size_push]; omega, ?_, ?_, h.lim, h.mem.alloc _⟩
  · intro i hi
    rw [heap_alloc, Array.size_push]
    show (if i = n then w.heap.size else ρ i) < _
    split
    · omega
    · have := h.lt i (by omega); omega
  · intro i j hi hj he
    replace he : (if i = n then w.heap.size else ρ i) = (if j = n then w.heap.size else ρ j) := he
    split at he <;> split at he
    · omega
    · have := h.lt j (by omega); omega
    · have := h.lt i (by omega); omega
    · exact h.inj i j (by omega) (by omega) he
  · intro i b hb
    rw [lookH_mcons] at hb
    obtain ⟨h1, h2, h3⟩ := h.blk i b hb
    refine ⟨by omega, ?_, ?_⟩
    · simp only [List.all_eq_true] at h2 ⊢
      exact fun x hx => C.wf_mono (by omega) x (h2 x hx)
    · show (w.alloc _).heap[if i = n then w.heap.size else ρ i]? = _
      rw [dens_ext hE b.1 h2, if_neg (by omega), heap_alloc]
      rw [Array.getElem?_push, if_neg (by have := h.lt i h1; omega)]
      exact h3
  · intro i hi
    have := h.le
    exact (hE i (by omega)).trans (h.old i hi)
  · intro i h1 h2
    show W.heap.size ≤ (if i = n then w.heap.size else ρ i)
    split
    · exact h.size
    · exact h.new i h1 (by omega)
  · intro k hk hx hf
    rw [heap_alloc, Array.getElem?_push, if_neg (by have := h.size; omega)]
    exact h.far k hk hx hf
  · intro i b hb
    rw [lookM_mcons] at hb
    by_cases e : n = i
    · subst e
      simp only [Nat.beq_refl] at hb
      cases hb
      refine ⟨by omega, rfl, ?_⟩
      simp only [if_true]
      rw [heap_alloc]
      simp [mden]
    · rw [Nat.beq_eq_false_iff.2 e] at hb
      obtain ⟨h1, h2, h3⟩ := h.mblk i b hb
      refine ⟨by omega, mwf_mono (by omega) _ h2, ?_⟩
      show (w.alloc _).heap[if i = n then w.heap.size else ρ i]? = _
      rw [mden_ext hE b.1 h2, if_neg (fun x => e x.symm), heap_alloc]
      rw [Array.getElem?_push, if_neg (by have := h.lt i h1; omega)]
      exact h3

/-- A map is set. -/
theorem HInv.setM (h : HInv W n0 ρ0 ρ hp n w) {id : Nat} {b : MBlk} (hb : lookM hp id = some b) (hlim : hp.lim ≤ id) (new : MBlk) (hw : mwf n new.1 = true) :
    HInv W n0 ρ0 ρ (mcons (id, new) hp) n { w with heap := w.heap.setIfInBounds (ρ id) (.map (mden ρ new.1) new.2) } := by
  obtain ⟨hid, _, hbh⟩ := h.mblk id b hb
  refine ⟨fun i hi => by simpa using h.lt i hi, h.inj, ?_, h.le, h.old, h.new, h.os, h.tape, h.output, by simpa using h.size, ?_, ?_, h.lim, h.mem.keep fun a ha hf => by show (w.heap.setIfInBounds (ρ id) _)[a]? = _; rw [Array.getElem?_setIfInBounds_ne (hf id hid)]⟩
  · intro i c hc
    rw [lookH_mcons] at hc
    obtain ⟨h1, h2, h3⟩ := h.blk i c hc
    refine ⟨h1, h2, ?_⟩
    show (w.heap.setIfInBounds (ρ id) _)[ρ i]? = _
    rw [Array.getElem?_setIfInBounds_ne (h.mne hc hb)]
    exact h3
  · intro k hk hx hf
    show (w.heap.setIfInBounds (ρ id) _)[k]? = _
    rw [Array.getElem?_setIfInBounds_ne ?_]
    · exact h.far k hk hx hf
    · intro he
      by_cases hlt : id < n0.n
      · exact hf id (h.lim ▸ hlim) hlt (by rw [← h.old id hlt]; exact he)
      · have := h.new id (by omega) hid; omega
  · intro i c hc
    rw [lookM_mcons] at hc
    by_cases e : id = i
    · subst e
      simp only [Nat.beq_refl] at hc
      cases hc
      refine ⟨hid, hw, ?_⟩
      show (w.heap.setIfInBounds (ρ id) _)[ρ id]? = _
      rw [Array.getElem?_setIfInBounds_self_of_lt (h.lt id hid)]
    · rw [Nat.beq_eq_false_iff.2 e] at hc
      obtain ⟨h1, h2, h3⟩ := h.mblk i c hc
      refine ⟨h1, h2, ?_⟩
      show (w.heap.setIfInBounds (ρ id) _)[ρ i]? = _
      rw [Array.getElem?_setIfInBounds_ne (fun he => e (h.inj id i hid h1 he))]
      exact h3

/-- One cell of a local block is written. -/
theorem HInv.setCell (h : HInv W n0 ρ0 ρ hp n w) {id : Nat} {b : Blk} (hb : lookH hp id = some b) (hlim : hp.lim ≤ id) (off : Nat) (c : C) (hc : c.wf n = true) :
    HInv W n0 ρ0 ρ (hcons (id, (b.1.set off c, b.2)) hp) n (w.setCell ⟨ρ id, off, none⟩ (c.den ρ)) := by
  obtain ⟨hid, hbw, hbh⟩ := h.blk id b hb
  have hsz : (w.setCell ⟨ρ id, off, none⟩ (c.den ρ)).heap.size = w.heap.size := by simp [World.setCell]
  refine ⟨?_, h.inj, ?_, h.le, h.old, h.new, h.os, h.tape, h.output, by rw [hsz]; exact h.size, ?_, ?_, h.lim, h.mem.keep fun a ha hf => by simp only [World.setCell, Array.getElem?_modify]; rw [if_neg (hf id hid)]⟩
  · intro i hi; rw [hsz]; exact h.lt i hi
  · intro i b' hb'
    simp only [lookH_hcons, lookH_hnil] at hb'
    by_cases e : id = i
    · subst e
      simp only [Nat.beq_refl] at hb'
      cases hb'
      refine ⟨hid, ?_, ?_⟩
      · simp only [List.all_eq_true] at hbw ⊢
        intro x hx
        rcases List.mem_or_eq_of_mem_set hx with hx | rfl
        · exact hbw x hx
        · exact hc
      · simp only [World.setCell, Array.getElem?_modify, hbh]
        simp [dens_set]
    · rw [Nat.beq_eq_false_iff.2 e] at hb'
      obtain ⟨h1, h2, h3⟩ := h.blk i b' hb'
      refine ⟨h1, h2, ?_⟩
      simp only [World.setCell, Array.getElem?_modify]
      rw [if_neg (fun he => e (h.inj id i hid h1 he))]
      exact h3
  · intro k hk hx hf
    simp only [World.setCell, Array.getElem?_modify]
    rw [if_neg ?_]
    · exact h.far k hk hx hf
    · intro he
      by_cases hlt : id < n0.n
      · exact hf id (h.lim ▸ hlim) hlt (by rw [← h.old id hlt]; exact he)
      · have := h.new id (by omega) hid; omega
  · intro i m hm
    rw [lookM_hcons] at hm
    obtain ⟨h1, h2, h3⟩ := h.mblk i m hm
    refine ⟨h1, h2, ?_⟩
    simp only [World.setCell, Array.getElem?_modify]
    rw [if_neg (fun he => h.mne hb hm he.symm)]
    exact h3

/-- A call that leaves alone what was there. -/
theorem HInv.below (h : HInv W n0 ρ0 ρ hp n w) {w' : World} (hb : Go.RowKit.Below w.heap.size w w') : HInv W n0 ρ0 ρ hp n w' := by
  refine ⟨fun i hi => Nat.lt_of_lt_of_le (h.lt i hi) hb.size, h.inj, ?_, h.le, h.old, h.new, hb.os.trans h.os, hb.tape.trans h.tape, hb.output.trans h.output, Nat.le_trans h.size hb.size, ?_, ?_, h.lim, h.mem.keep fun a ha _ => hb.block a ha⟩
  · intro i b hi
    obtain ⟨h1, h2, h3⟩ := h.blk i b hi
    exact ⟨h1, h2, (hb.block _ (h.lt i h1)).trans h3⟩
  · intro k hk hx hf
    rw [hb.block k (Nat.lt_of_lt_of_le hk h.size)]
    exact h.far k hk hx hf
  · intro i m hm
    obtain ⟨h1, h2, h3⟩ := h.mblk i m hm
    exact ⟨h1, h2, (hb.block _ (h.lt i h1)).trans h3⟩

theorem HInv.drew (h : HInv W n0 ρ0 ρ hp n w) (d : Nat) : HInv W n0 ρ0 ρ hp n { w with drawn := d } :=
  ⟨h.lt, h.inj, h.blk, h.le, h.old, h.new, h.os, h.tape, h.output, h.size, h.far, h.mblk, h.lim, h.mem.keep fun _ _ _ => rfl⟩

theorem HInv.cell (h : HInv W n0 ρ0 ρ hp n w) {id : Nat} {b : Blk} (hb : lookH hp id = some b) (off : Nat) : w.cell? ⟨ρ id, off, none⟩ = (b.1[off]?).map (C.den ρ) := by
  obtain ⟨_, _, h3⟩ := h.blk id b hb
  simp [World.cell?, h3, dens_get]

theorem HInv.frozen (h : HInv W n0 ρ0 ρ hp n w) {id : Nat} {b : Blk} (hb : lookH hp id = some b) (off : Nat) : w.frozen? ⟨ρ id, off, none⟩ = false := by
  obtain ⟨_, _, h3⟩ := h.blk id b hb
  simp [World.frozen?, h3]

theorem add_at (b off k : Nat) : (Addr.add ⟨b, off, none⟩ k) = ⟨b, off + k, none⟩ := by
  unfold Addr.add
  split
  · rename_i h; simp [h]
  · rfl

theorem run_load {a : Addr} {v : Value} (h : w.cell? a = some v) : (load a).run P w = .ok v w := by
  simp [load, Sem.run, h]

theorem run_loadCellsFrom (a : Addr) (vs : List Value) : ∀ (i : Nat) (acc : Array Value), (∀ j v, vs[j]? = some v → w.cell? (a.add (i + j)) = some v) →
    (loadCellsFrom a i vs.length acc).run P w = .ok (acc ++ vs.toArray) w := by
  induction vs with
  | nil => intro i acc _; simp [loadCellsFrom]
  | cons v vs ih =>
    intro i acc h
    simp only [List.length_cons, loadCellsFrom, Sem.run_bind]
    rw [run_load (by have := h 0 v rfl; rwa [Nat.add_zero] at this)]
    simp only [Result.andThen_ok]
    rw [ih (i + 1) (acc.push v) (fun j v' hj => by have := h (j + 1) v' (by simpa using hj); rw [show i + 1 + j = i + (j + 1) by omega]; exact this)]
    simp

def takeC (cs : List C) (off sz : Nat) : Option (List C) :=
  let l := (cs.drop off).take sz
  match Nat.beq l.length sz with | true => some l | false => none

theorem run_loadVar {t : TypeId} {id off : Nat} {b : Blk} {u : U} (h : HInv W n0 ρ0 ρ hp n w) (hb : lookH hp id = some b)
    (hu : (match tagg P t with
      | some false => (b.1[off]?).map U.c
      | some true => match tsz P t with | some sz => (takeC b.1 off sz).map U.agg | none => none
      | none => none) = some u) : (loadVar t ⟨ρ id, off, none⟩).run P w = .ok (u.den ρ) w := by
  split at hu
  · rename_i ha
    simp only [loadVar, Sem.run_bind, run_isAgg ha, Result.andThen_ok]
    cases hc : b.1[off]? with
    | none => rw [hc] at hu; cases hu
    | some c =>
      rw [hc] at hu; cases hu
      exact run_load (by rw [h.cell hb, hc]; rfl)
  · rename_i ha
    split at hu
    · rename_i sz hs
      simp only [loadVar, Sem.run_bind, run_isAgg ha, Result.andThen_ok, if_true, run_sizeOf hs]
      unfold takeC at hu
      simp only at hu
      split at hu
      · rename_i hl
        cases hu
        have hl' := Nat.eq_of_beq_eq_true hl
        have := run_loadCellsFrom (P := P) (w := w) ⟨ρ id, off, none⟩ (((b.1.drop off).take sz).map (C.den ρ)) 0 #[] (by
          intro j v hj
          rw [add_at, h.cell hb]
          simp only [List.getElem?_map] at hj
          cases hx : ((b.1.drop off).take sz)[j]? with
          | none => rw [hx] at hj; cases hj
          | some c =>
            rw [hx] at hj
            have hjl : j < sz := by
              have := (List.getElem?_eq_some_iff.1 hx).1
              omega
            rw [List.getElem?_take, if_pos hjl, List.getElem?_drop] at hx
            rw [Nat.zero_add, hx]
            exact hj)
        simp only [List.length_map, hl', Array.empty_append] at this
        simp only [loadCells, this, Result.andThen_ok, Sem.run_pure]
        rfl
      · cases hu
    · cases hu
  · cases hu

theorem wf_loadVar {t : TypeId} {id off : Nat} {b : Blk} {u : U} (h : HInv W n0 ρ0 ρ hp n w) (hb : lookH hp id = some b)
    (hu : (match tagg P t with
      | some false => (b.1[off]?).map U.c
      | some true => match tsz P t with | some sz => (takeC b.1 off sz).map U.agg | none => none
      | none => none) = some u) : u.wf n = true := by
  obtain ⟨_, hw, _⟩ := h.blk id b hb
  simp only [List.all_eq_true] at hw
  split at hu
  · cases hc : b.1[off]? with
    | none => rw [hc] at hu; cases hu
    | some c => rw [hc] at hu; cases hu; exact hw c (List.mem_of_getElem? hc)
  · split at hu
    · unfold takeC at hu
      simp only at hu
      split at hu
      · cases hu
        simp only [U.wf, List.all_eq_true]
        exact fun x hx => hw x (List.mem_of_mem_drop (List.mem_of_mem_take hx))
      · cases hu
    · cases hu
  · cases hu

theorem C.den_plain (ρ : Nat → Nat) (c : C) (h : c.plain = true) : (∀ xs, c.den ρ ≠ .agg xs) ∧ (∀ xs, c.den ρ ≠ .tuple xs) := by
  cases c with
  | raw v => cases v <;> simp_all [C.plain, C.den]
  | np p off => simp only [C.den, pv]; split <;> simp
  | sv v => cases v <;> simp [C.den, pl]
  | _ => simp [C.den]

theorem run_store1 {a : Addr} {c : C} (hp : c.plain = true) {v : Value} (hv : w.cell? a = some v) (hf : w.frozen? a = false) : (store a (c.den ρ)).run P w = .ok () (w.setCell a (c.den ρ)) := by
  obtain ⟨h1, h2⟩ := C.den_plain ρ c hp
  unfold store
  cases hd : c.den ρ with
  | agg xs => exact absurd hd (h1 xs)
  | tuple xs => exact absurd hd (h2 xs)
  | _ => simp [Sem.run, hv, hf]

/-- The cells from off on, written one by one. -/
def putC (cs : List C) (off : Nat) : List C → List C
  | [] => cs
  | c :: r => putC (cs.set off c) (off + 1) r

theorem putC_length (cs : List C) (off : Nat) (l : List C) : (putC cs off l).length = cs.length := by
  induction l generalizing cs off with
  | nil => rfl
  | cons c r ih => simp [putC, ih]

theorem run_storeCells {id : Nat} (l : List C) : ∀ (hp : Hp) (w : World) (b : Blk) (off i : Nat), HInv W n0 ρ0 ρ hp n w → lookH hp id = some b → hp.lim ≤ id → off + i + l.length ≤ b.1.length → l.all (C.wf n) = true → l.all C.plain = true →
    ∃ w' hp', (storeCells ⟨ρ id, off, none⟩ (l.map (C.den ρ)) i).run P w = .ok () w' ∧ HInv W n0 ρ0 ρ hp' n w' ∧ (∀ j, lookH hp' j = lookH (hcons (id, (putC b.1 (off + i) l, b.2)) hp) j) ∧ (∀ j, lookM hp' j = lookM hp j) ∧ hp'.lim = hp.lim ∧ hp'.x = hp.x ∧ hp'.wr = hp.wr := by
  induction l with
  | nil =>
    intro hp w b off i h hb _ _ _ _
    refine ⟨w, hp, by simp [storeCells], h, fun j => ?_, fun _ => rfl, rfl, rfl, rfl⟩
    simp only [lookH_hcons, putC]
    by_cases e : id = j
    · subst e; simp [hb]
    · rw [Nat.beq_eq_false_iff.2 e]
  | cons c r ih =>
    intro hp w b off i h hb hlim hl hw hpl
    simp only [List.all_cons, Bool.and_eq_true, List.length_cons] at hw hpl hl
    have hlt : off + i < b.1.length := by omega
    obtain ⟨c0, hc0⟩ : ∃ c0, b.1[off + i]? = some c0 := ⟨b.1[off + i], by simp [hlt]⟩
    have hcell : w.cell? ⟨ρ id, off + i, none⟩ = some (c0.den ρ) := by rw [h.cell hb, hc0]; rfl
    have h1 := run_store1 (P := P) (ρ := ρ) hpl.1 hcell (h.frozen hb _)
    have h2 := h.setCell hb hlim (off + i) c hw.1
    obtain ⟨w', hp', e1, e2, e3, e4, e5, e6, e7⟩ := ih _ _ (b.1.set (off + i) c, b.2) off (i + 1) h2 (by simp [lookH_hcons]) hlim (by simp; omega) hw.2 hpl.2
    refine ⟨w', hp', ?_, e2, fun j => ?_, fun j => (e4 j).trans (lookM_hcons _ _ j), e5, e6, e7⟩
    · simp only [List.map_cons, storeCells, Sem.run_bind, add_at, h1, Result.andThen_ok]
      exact e1
    · rw [e3 j]
      simp only [lookH_hcons, putC]
      by_cases e : id = j
      · subst e; simp [Nat.add_assoc]
      · rw [Nat.beq_eq_false_iff.2 e]

theorem HInv.congr {hp' : Hp} (h : HInv W n0 ρ0 ρ hp n w) (he : ∀ j, lookH hp j = lookH hp' j) (hm : ∀ j, lookM hp j = lookM hp' j) (hl : hp.lim = hp'.lim) (hx : hp.x = hp'.x) (hy : hp.wr = hp'.wr) : HInv W n0 ρ0 ρ hp' n w :=
  ⟨h.lt, h.inj, fun i b hb => h.blk i b (by rw [he]; exact hb), h.le, h.old, h.new, h.os, h.tape, h.output, h.size, h.far, fun i b hb => h.mblk i b (by rw [hm]; exact hb), hl ▸ h.lim, hy ▸ hx ▸ h.mem⟩

theorem run_storeVar {t : TypeId} {id off : Nat} {b : Blk} {u : U} (h : HInv W n0 ρ0 ρ hp n w) (hb : lookH hp id = some b) (hlim : hp.lim ≤ id) (hs : tsz P t = some u.cells.length)
    (hl : off + u.cells.length ≤ b.1.length) (hw : u.wf n = true) (hpl : u.cells.all C.plain = true) :
    ∃ w', (storeVar t ⟨ρ id, off, none⟩ (u.den ρ)).run P w = .ok () w' ∧ HInv W n0 ρ0 ρ (hcons (id, (putC b.1 off u.cells, b.2)) hp) n w' := by
  have hcells : (u.den ρ).cells = dens ρ u.cells := U.den_cells ρ u (fun c hc => by subst hc; simpa [U.cells] using hpl)
  obtain ⟨w', hp', e1, e2, e3, e4, e5, e6, e7⟩ := run_storeCells (P := P) u.cells hp w b off 0 h hb hlim (by omega) (U.cells_wf u hw) hpl
  refine ⟨w', ?_, e2.congr (fun j => by rw [e3 j]; simp) (fun j => by rw [e4 j, lookM_hcons]) e5 e6 e7⟩
  simp only [storeVar, Sem.run_bind, run_sizeOf hs, Result.andThen_ok, hcells, dens_size, ne_eq, not_true_eq_false, if_false, Sem.run_pure, dens_toList, Sem.run_ite]
  simpa using e1

end
/-- The world but for one block. -/
structure Touch (b : Nat) (w w' : World) : Prop where
  os : w'.os = w.os
  tape : w'.tape = w.tape
  output : w'.output = w.output
  size : w.heap.size ≤ w'.heap.size
  far : ∀ k, k < w.heap.size → k ≠ b → w'.heap[k]? = w.heap[k]?

end Go.Proofs.Ytnlohongffpkpaa.Sx
