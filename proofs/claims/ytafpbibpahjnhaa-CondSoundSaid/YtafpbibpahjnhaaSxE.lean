/- The symbolic executor: each operation tells what the machine's does. A text of the session's own. -/
import Derived.Test.YtafpbibpahjnhaaSxD
namespace Go.Proofs.Ytafpbibpahjnhaa.Sx
open Go

section
variable {P : Program} {W : World} {n0 : Nat} {ρ0 : Nat → Nat} {N : Nat} {ρ : Nat → Nat} {σ : St} {a : Act} {w : World} {R : Leaf → Prop}

theorem run_v {s : Sem Value} {v : Value} {w w' : World} (h : s.run P w = .ok v w') : (do pure (Next.value (← s)) : Sem Next).run P w = .ok (.value v) w' := by
  simp [h]
theorem run_u {s : Sem Unit} {w w' : World} (h : s.run P w = .ok () w') : (do s; pure Next.skip : Sem Next).run P w = .ok .skip w' := by
  simp [h]

theorem rowC_den {e : TypeId} {len sz : Nat} {zs : List C} (h : rowC P e len sz = some zs) (ρ : Nat → Nat) :
    (len * sz = 0 ∧ zs = []) ∨ (len * sz ≠ 0 ∧ ∃ u, tzero P e = some u ∧ u.cells.all C.plain = true ∧
      (Array.range (len * sz)).map (fun x => (dens ρ u.cells)[x % (dens ρ u.cells).size]!) = dens ρ zs) := by
  unfold rowC at h
  split at h
  · rename_i hz
    have hz := Nat.eq_of_beq_eq_true hz
    cases h
    exact .inl ⟨hz, rfl⟩
  · rename_i hz
    have hz := Nat.beq_eq_false_iff.1 hz
    split at h
    · rename_i u hu
      split at h
      · rename_i hl hp
        cases h
        have hl := Nat.eq_of_beq_eq_true hl
        refine .inr ⟨hz, u, hu, hp, ?_⟩
        apply Array.ext
        · simp [dens]
        · intro i h1 h2
          have hpos : 0 < sz := by
            cases sz with
            | zero => simp at hz
            | succ n => omega
          have hm : i % sz < u.cells.length := by rw [hl]; exact Nat.mod_lt _ hpos
          simp [dens, hl, List.getElem?_eq_getElem hm]
      · cases h
    · cases h

theorem run_buildSlice {t : TypeId} {len : Nat} {parts : List (Nat × Operand)} {q : List C × Nat} (hI : Inv W n0 ρ0 N ρ σ a w) (h : slC P σ t len parts = some q) :
    (Instr.buildSlice t len (parts.map fun q => (q.1, a.eval q.2)).toArray).run P w = .ok (.slice (some ⟨w.heap.size, 0, none⟩) len len) (w.alloc (.cells (dens ρ q.1) q.2)) := by
  unfold slC at h
  split at h
  · rename_i e hu
    split at h
    · rename_i sz hz
      split at h
      · rename_i zs us hb hr hus
        split at h
        · rename_i cs hf
          cases h
          have hb := Nat.le_of_ble_eq_true hb
          have hfill := fillC_fill ρ _ _ _ _ hf
          have hrow := rowC_den hr ρ
          unfold Instr.buildSlice
          simp only [Sem.run_bind, run_underlying hu, run_sizeOf hz, Result.andThen_ok]
          rw [if_neg (by omega)]
          rcases hrow with ⟨h0, rfl⟩ | ⟨h0, u, hu', hp, hmap⟩
          · rw [if_pos h0]
            have e0 : ∀ g : Nat → Value, (Array.range (len * sz)).map g = dens ρ [] := fun g => by rw [h0]; simp [dens]
            simp only [Sem.run_pure, Sem.run_bind, Result.andThen_ok, e0]
            rw [unitsOf_spec hI _ _ hus, hfill]
            simp only [newRow, Sem.run_bind, run_newObj, Result.andThen_ok, Sem.run_pure]
            simp [World.alloc_eq]
          · rw [if_neg h0]
            simp only [Sem.run_pure, Sem.run_bind, Result.andThen_ok, run_zeroValue hu' ρ, U.den_cells ρ u (plain_of_all hp), hmap]
            rw [unitsOf_spec hI _ _ hus, hfill]
            simp only [newRow, Sem.run_bind, run_newObj, Result.andThen_ok, Sem.run_pure]
            simp [World.alloc_eq]
        · cases h
      · cases h
    · cases h
  · cases h

theorem opx_sound {o : Oper} {k : V → St → Tr} (hI : Inv W n0 ρ0 N ρ σ a w) (h : (opx P o.op σ k).sat R) : OpS P W n0 ρ0 N R ρ σ a w (execOp a.eval o) k := by
  obtain ⟨dst, op, type, pos, after, guard⟩ := o
  simp only at h
  unfold opx at h
  split at h
  · rename_i x
    exact OpS.pure hI (ev_wf hI x) h (by simp [execOp, ev_den hI x])
  · rename_i x
    exact OpS.pure hI (ev_wf hI x) h (by simp [execOp, ev_den hI x])
  · rename_i c x y
    obtain ⟨b, σ', hb, hI', e1, e2, hs⟩ := decB_sound hI h
    cases b
    · exact ⟨_, σ', ρ, w, hI', Ext.refl _ _, Nat.le_of_eq e2.symm, ev_wf hI' y, hs, .inl (by simp [execOp, hb, asBool, ev_den hI' y])⟩
    · exact ⟨_, σ', ρ, w, hI', Ext.refl _ _, Nat.le_of_eq e2.symm, ev_wf hI' x, hs, .inl (by simp [execOp, hb, asBool, ev_den hI' x])⟩
  · rename_i t
    obtain ⟨u, hu, hs⟩ := kO_sat h
    split at hs
    · rename_i hp
      refine newx_sound hI hs (by simp [C.wf]) ?_
      refine run_v (s := Instr.alloc t true (.tuple #[])) ?_
      simp only [Instr.alloc, Sem.run_bind, run_zeroValue hu ρ, Result.andThen_ok, newVar, newRow, U.den_cells ρ u (plain_of_all hp), run_newObj, Sem.run_pure]
      simp [C.den, World.alloc_eq]
    · exact hs.elim
  · rename_i t x
    split at h
    · rename_i u hu
      split at h
      · rename_i hp
        refine newx_sound hI h (by simp [C.wf]) ?_
        refine run_v (s := Instr.box t (a.eval x)) ?_
        have hd : a.eval x = u.den ρ := by rw [ev_den hI x, hu]; rfl
        rw [hd]
        simp only [Instr.box, Sem.run_bind, newVar, newRow, U.den_cells ρ u (plain_of_all hp), run_newObj, Result.andThen_ok, Sem.run_pure]
        simp [C.den, World.alloc_eq]
      · exact h.elim
    · exact h.elim
  · rename_i t parts
    obtain ⟨cs, hc, hs⟩ := kO_sat h
    split at hs
    · rename_i hw
      refine OpS.pure hI (show V.wf σ.n (.u (.agg cs)) = true from hw) hs ?_
      refine run_v (s := Instr.build t (parts.map fun q => (q.1, a.eval q.2))) ?_
      have := buildC_built hI hc
      exact run_build w t _ _ (by simpa using this)
    · exact hs.elim
  · rename_i t len parts
    obtain ⟨q, hq, hs⟩ := kO_sat h
    refine newx_sound hI hs (by simp [C.wf]) ?_
    have e := run_buildSlice hI hq
    have e2 : (parts.toList.map fun q => (q.1, a.eval q.2)).toArray = parts.map fun q => (q.1, a.eval q.2) := by
      apply Array.ext'; simp
    rw [e2] at e
    have e3 := run_v e
    have e4 : C.den (fun i => if i = σ.n then w.heap.size else ρ i) (.sl σ.n 0 len len) = .slice (some ⟨w.heap.size, 0, none⟩) len len := by simp [C.den]
    rw [e4]
    exact e3
  · rename_i t x
    split at h
    · rename_i id off hx
      obtain ⟨b, hb, hs⟩ := kO_sat h
      obtain ⟨u, hu, hs⟩ := kO_sat hs
      obtain ⟨_, hw, _⟩ := hI.H.blk id b hb
      refine OpS.pure hI (show V.wf σ.n (.u u) = true from ldC_wf hw hu) hs ?_
      refine run_v (s := Instr.loadAt t (a.eval x)) ?_
      have hd : a.eval x = .pointer (some ⟨ρ id, off, none⟩) := by rw [ev_den hI x, hx]; rfl
      simp only [hd, Instr.loadAt, Instr.sureAddr, Sem.run_bind, Sem.run_pure, Result.andThen_ok]
      exact run_loadVar hI.H hb hu
    · exact h.elim
  · rename_i t x y
    split at h
    · rename_i id off u hx hy
      obtain ⟨b, hb, hs⟩ := kO_sat h
      obtain ⟨sz, hz, hs⟩ := kO_sat hs
      split at hs
      · rename_i h1 h2 h3
        have h1' := Nat.eq_of_beq_eq_true h1
        have h2' := Nat.le_of_ble_eq_true h2
        have hwu : u.wf σ.n = true := by have := ev_wf hI y; rw [hy] at this; exact this
        subst h1'
        obtain ⟨w', e1, e2⟩ := run_storeVar (P := P) hI.H hb hz h2' hwu h3
        have hd : a.eval x = .pointer (some ⟨ρ id, off, none⟩) := by rw [ev_den hI x, hx]; rfl
        have hd2 : a.eval y = u.den ρ := by rw [ev_den hI y, hy]; rfl
        refine ⟨_, _, ρ, w', hI.later (Ext.refl _ _) (Nat.le_refl _) e2, Ext.refl _ _, Nat.le_refl _, rfl, hs, .inr ⟨?_, rfl⟩⟩
        refine run_u (s := Instr.storeAt t (a.eval x) (a.eval y)) ?_
        simp only [hd, hd2, Instr.storeAt, Instr.sureAddr, Sem.run_bind, Sem.run_pure, Result.andThen_ok]
        exact e1
      · exact hs.elim
    · exact h.elim
  · rename_i x
    split at h
    · rename_i id off hx
      have hd : a.eval x = .pointer (some ⟨ρ id, off, none⟩) := by rw [ev_den hI x, hx]; rfl
      have hw := ev_wf hI x
      rw [hx] at hw
      exact OpS.pure hI hw h (by simp [execOp, hd, V.den, U.den, C.den])
    · rename_i f cs hx
      have hd : a.eval x = .func (.func f) #[] (cs.map (ptrV ρ)).toArray := by rw [ev_den hI x, hx]; rfl
      have hw := ev_wf hI x
      rw [hx] at hw
      exact OpS.pure hI hw h (by simp [execOp, hd, V.den, U.den, C.den])
    · exact h.elim
  · rename_i op t x y ty
    split at h
    · rename_i ux uy hx hy
      have hdx : a.eval x = ux.den ρ := by rw [ev_den hI x, hx]; rfl
      have hdy : a.eval y = uy.den ρ := by rw [ev_den hI y, hy]; rfl
      have gen : (kO (eqV P op t ux uy) fun c => k (.u (.c c)) σ).sat R → OpS P W n0 ρ0 N R ρ σ a w (execOp a.eval ⟨dst, .binOp op t x y ty, type, pos, after, guard⟩) k := by
        intro hg
        obtain ⟨c, hc, hs⟩ := kO_sat hg
        obtain ⟨e1, e2⟩ := eqV_run hc x y ρ w
        refine OpS.pure hI (show V.wf σ.n (.u (.c c)) = true from e2 _) hs ?_
        refine run_v (s := (do eqGuard op t x y (a.eval x) (a.eval y); binOp op t (a.eval x) (a.eval y))) ?_
        rw [hdx, hdy]
        exact e1
      split at h
      · rename_i cx cy
        split at h
        · rename_i lx kx nx ly ky ny hcx hcy
          have ht := binI_tells P w op t lx kx nx ly ky ny
          have hg : (eqGuard op t x y (.int kx nx) (.int ky ny)).run P w = .ok () w := by
            unfold eqGuard
            split <;> simp
          have fin : ∀ c, (binOp op t (.int kx nx) (.int ky ny)).run P w = .ok (c.den ρ) w → (∀ n, c.wf n = true) → (k (.u (.c c)) σ).sat R →
              OpS P W n0 ρ0 N R ρ σ a w (execOp a.eval ⟨dst, .binOp op t x y ty, type, pos, after, guard⟩) k := by
            intro c hr hw hs
            refine OpS.pure hI (show V.wf σ.n (.u (.c c)) = true from hw _) hs ?_
            refine run_v (s := (do eqGuard op t x y (a.eval x) (a.eval y); binOp op t (a.eval x) (a.eval y))) ?_
            rw [hdx, hdy]
            simp only [U.den, C.int_den hcx ρ, C.int_den hcy ρ, Sem.run_bind, hg, Result.andThen_ok]
            exact hr
          split at h
          · rename_i c hb
            rw [hb] at ht
            exact fin c (ht.2 ρ) ht.1 h
          · rename_i b c hb
            rw [hb] at ht
            obtain ⟨h1, h2⟩ := h
            cases b
            · exact fin c (ht.2 rfl ρ) ht.1 (h2 rfl)
            · exact (h1 rfl).elim
          · exact h.elim
        · exact gen h
      · exact gen h
    · exact h.elim
  · rename_i op t x
    split at h
    · rename_i c hx
      obtain ⟨c', hc, hs⟩ := kO_sat h
      obtain ⟨e1, e2⟩ := run_unC hc ρ w
      have hd : a.eval x = c.den ρ := by rw [ev_den hI x, hx]; rfl
      exact OpS.pure hI (show V.wf σ.n (.u (.c c')) = true from e2 _) hs (run_v (s := Op.unary op (a.eval x)) (by rw [hd]; exact e1))
    · exact h.elim
  · rename_i src dst' x
    split at h
    · rename_i c hx
      obtain ⟨c', hc, hs⟩ := kO_sat h
      obtain ⟨e1, e2⟩ := run_convC hc ρ w
      have hd : a.eval x = c.den ρ := by rw [ev_den hI x, hx]; rfl
      exact OpS.pure hI (show V.wf σ.n (.u (.c c')) = true from e2 _) hs (run_v (s := convert src dst' (a.eval x)) (by rw [hd]; exact e1))
    · exact h.elim
  · rename_i fn first caps
    split at h
    · rename_i f
      split at h
      · rename_i hf
        obtain ⟨ps, hc, hs⟩ := kO_sat h
        obtain ⟨e1, e2⟩ := ptrsOf_spec hI _ _ hc
        refine OpS.pure hI (show V.wf σ.n (.u (.c (.fn f ps))) = true from e2) hs ?_
        refine run_v (s := Instr.makeFunc (.func f) (first.map a.eval) (caps.map a.eval)) ?_
        have h0 : first = #[] := by simpa using hf
        subst h0
        have h1 : caps.map a.eval = (ps.map (ptrV ρ)).toArray := by
          apply Array.ext'
          simpa using e1
        rw [h1]
        simp [Instr.makeFunc, V.den, U.den, C.den]
      · exact h.elim
    · exact h.elim
  · rename_i s x f
    split at h
    · rename_i id off hx
      obtain ⟨d, hd0, hs⟩ := kO_sat h
      have hd : a.eval x = .pointer (some ⟨ρ id, off, none⟩) := by rw [ev_den hI x, hx]; rfl
      have hw := ev_wf hI x
      rw [hx] at hw
      refine OpS.pure hI (show V.wf σ.n (.u (.c (.ptr id (off + d)))) = true from hw) hs ?_
      refine run_v (s := Instr.fieldAt s (a.eval x) f) ?_
      rw [hd]
      exact run_fieldOff hd0 _ _ _
    · exact h.elim
  · rename_i t x f
    split at h
    · rename_i xs hx
      obtain ⟨u, hu, hs⟩ := kO_sat h
      have hd : a.eval x = .agg (dens ρ xs) := by rw [ev_den hI x, hx]; rfl
      have hw := ev_wf hI x
      rw [hx] at hw
      refine OpS.pure hI (show V.wf σ.n (.u u) = true from partC_wf hw hu) hs ?_
      refine run_v (s := Instr.field t (a.eval x) f) ?_
      rw [hd]
      exact run_partC hu ρ w
    · exact h.elim
  · rename_i t x ix
    split at h
    · rename_i cx ci hx hix
      obtain ⟨c, hc, hs⟩ := kO_sat h
      have hd : a.eval x = cx.den ρ := by rw [ev_den hI x, hx]; rfl
      have hd2 : a.eval ix = ci.den ρ := by rw [ev_den hI ix, hix]; rfl
      have hw := ev_wf hI x
      rw [hx] at hw
      obtain ⟨e1, e2⟩ := run_idxC hc hw ρ w
      refine OpS.pure hI (show V.wf σ.n (.u (.c c)) = true from e2) hs ?_
      refine run_v (s := Instr.indexAt t (a.eval x) (a.eval ix)) ?_
      rw [hd, hd2]
      exact e1
    · exact h.elim
  · rename_i x i
    obtain ⟨u, hu, hs⟩ := kO_sat h
    have hw := ev_wf hI x
    unfold tupC at hu
    split at hu
    · rename_i xs hx
      have hx0 : ev σ x = .tup xs := hx
      rw [hx0] at hw
      have hd : a.eval x = .tuple (xs.map (U.den ρ)).toArray := by rw [ev_den hI x, hx0]; rfl
      simp only [V.wf, List.all_eq_true] at hw
      refine OpS.pure hI (show V.wf σ.n (.u u) = true from hw u (List.mem_of_getElem? hu)) hs ?_
      refine run_v (s := Instr.extract (a.eval x) i) ?_
      rw [hd]
      simp [Instr.extract, hu, V.den]
    · cases hu
  · exact h.elim

end
end Go.Proofs.Ytafpbibpahjnhaa.Sx
