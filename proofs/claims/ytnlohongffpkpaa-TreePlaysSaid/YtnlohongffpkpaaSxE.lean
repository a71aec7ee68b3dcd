/- The symbolic executor: each operation tells what the machine's does. A text of the session's own. -/
import Derived.Test.YtnlohongffpkpaaSxD
import Derived.Maps.Keyed
namespace Go.Proofs.Ytnlohongffpkpaa.Sx
open Go

section
variable {P : Program} {W : World} {n0 : NL} {ρ0 : Nat → Nat} {N : Nat} {ρ : Nat → Nat} {σ : St} {a : Act} {w : World} {R : Leaf → Prop}

theorem run_v {s : Sem Value} {v : Value} {w w' : World} (h : s.run P w = .ok v w') : (do pure (Next.value (← s)) : Sem Next).run P w = .ok (.value v) w' := by
  simp [h]
theorem run_u {s : Sem Unit} {w w' : World} (h : s.run P w = .ok () w') : (do s; pure Next.skip : Sem Next).run P w = .ok .skip w' := by
  simp [h]

theorem rowC_den {e : TypeId} {len sz : Nat} {zs : List C} (h : rowC P e len sz = some zs) (ρ : Nat → Nat) :
    (len * sz = 0 ∧ zs = []) ∨ (len * sz ≠ 0 ∧ ∃ u, tzero P e = some u ∧ u.cells.all C.plain = true ∧
      (Array.range (len * sz)).map (fun x => (dens ρ u.cells)[x % (dens ρ u.cells).size]!) = dens ρ zs) := by
  unfold rowC at h
  split at h
  · rename_i hz
    have hz := Nat.eq_of_beq_eq_true hz
    cases h
    exact .inl ⟨hz, rfl⟩
  · rename_i hz
    have hz := Nat.beq_eq_false_iff.1 hz
    split at h
    · rename_i u hu
      split at h
      · rename_i hl hp
        cases h
        have hl := Nat.eq_of_beq_eq_true hl
        refine .inr ⟨hz, u, hu, hp, ?_⟩
        apply Array.ext
        · simp [dens]
        · intro i h1 h2
          have hpos : 0 < sz := by
            cases sz with
            | zero => simp at hz
            | succ n => omega
          have hm : i % sz < u.cells.length := by rw [hl]; exact Nat.mod_lt _ hpos
          simp [dens, hl, List.getElem?_eq_getElem hm]
      · cases h
    · cases h

theorem run_buildSlice {t : TypeId} {len : Nat} {parts : List (Nat × Operand)} {q : List C × Nat} (hI : Inv W n0 ρ0 N ρ σ a w) (h : slC P σ t len parts = some q) :
    (Instr.buildSlice t len (parts.map fun q => (q.1, a.eval q.2)).toArray).run P w = .ok (.slice (some ⟨w.heap.size, 0, none⟩) len len) (w.alloc (.cells (dens ρ q.1) q.2)) := by
  unfold slC at h
  split at h
  · rename_i e hu
    split at h
    · rename_i sz hz
      split at h
      · rename_i zs us hb hr hus
        split at h
        · rename_i cs hf
          cases h
          have hb := Nat.le_of_ble_eq_true hb
          have hfill := fillC_fill ρ _ _ _ _ hf
          have hrow := rowC_den hr ρ
          unfold Instr.buildSlice
          simp only [Sem.run_bind, run_underlying hu, run_sizeOf hz, Result.andThen_ok]
          rw [if_neg (by omega)]
          rcases hrow with ⟨h0, rfl⟩ | ⟨h0, u, hu', hp, hmap⟩
          · rw [if_pos h0]
            have e0 : ∀ g : Nat → Value, (Array.range (len * sz)).map g = dens ρ [] := fun g => by rw [h0]; simp [dens]
            simp only [Sem.run_pure, Sem.run_bind, Result.andThen_ok, e0]
            rw [unitsOf_spec hI _ _ hus, hfill]
            simp only [newRow, Sem.run_bind, run_newObj, Result.andThen_ok, Sem.run_pure]
            simp [World.alloc_eq]
          · rw [if_neg h0]
            simp only [Sem.run_pure, Sem.run_bind, Result.andThen_ok, run_zeroValue hu' ρ, U.den_cells ρ u (plain_of_all hp), hmap]
            rw [unitsOf_spec hI _ _ hus, hfill]
            simp only [newRow, Sem.run_bind, run_newObj, Result.andThen_ok, Sem.run_pure]
            simp [World.alloc_eq]
        · cases h
      · cases h
    · cases h
  · cases h

/-! references -/
theorem refEq_run {t : TypeId} {x y : C} {b cst : Bool} (h : refEq P σ cst t x y = some b) (hH : HInv W n0 ρ0 ρ σ.hp σ.n w) :
    (binOp .eql t (x.den ρ) (y.den ρ)).run P w = .ok (.bool b) w ∧ (binOp .neq t (x.den ρ) (y.den ρ)).run P w = .ok (.bool (notb b)) w ∧
      ∀ (op : BinOp) (ox oy : Operand), cst = (isCst ox || isCst oy) → (eqGuard op t ox oy (x.den ρ) (y.den ρ)).run P w = .ok () w := by
  have key : ∀ vx vy : Value, (∀ k n, vx ≠ .int k n) → (∀ k n, vx ≠ .float k n) → (∀ k n m, vx ≠ .complex k n m) → (∀ s, vx ≠ .string s) → (∀ d, (Op.equalIn (d + 1) t vx vy).run P w = .ok b w) →
      (binOp .eql t vx vy).run P w = .ok (.bool b) w ∧ (binOp .neq t vx vy).run P w = .ok (.bool (notb b)) w := by
    intro vx vy h1 h2 h3 h4 hr
    have e := hr 9999
    constructor
    · cases vx <;> first | exact absurd rfl (h1 _ _) | exact absurd rfl (h2 _ _) | exact absurd rfl (h3 _ _ _) | exact absurd rfl (h4 _) | simp [binOp, Op.equal, Op.maxDepth, e]
    · cases vx <;> first | exact absurd rfl (h1 _ _) | exact absurd rfl (h2 _ _) | exact absurd rfl (h3 _ _ _) | exact absurd rfl (h4 _) | (simp only [binOp, Op.equal, Op.maxDepth, Sem.run_bind, e, Result.andThen_ok, Sem.run_pure]; cases b <;> rfl)
  have grdP : ∀ (p : Option Addr) (vy : Value) (op : BinOp) (ox oy : Operand), cst = (isCst ox || isCst oy) → (eqGuard op t ox oy (.pointer p) vy).run P w = .ok () w := by
    intro p vy op ox oy _
    unfold eqGuard
    split <;> simp
  have grdM : ∀ (p : Option Nat) (vy : Value) (op : BinOp) (ox oy : Operand), cst = (isCst ox || isCst oy) → (eqGuard op t ox oy (.map p) vy).run P w = .ok () w := by
    intro p vy op ox oy _
    unfold eqGuard
    split <;> simp
  unfold refEq at h
  split at h
  · rename_i e hu
    split at h
    · cases h
      obtain ⟨g1, g2⟩ := key (.pointer none) (.pointer none) (fun _ _ h => by cases h) (fun _ _ h => by cases h) (fun _ _ _ h => by cases h) (fun _ h => by cases h) (fun d => by simp [Op.equalIn, run_underlying hu])
      exact ⟨g1, g2, grdP _ _⟩
    · rename_i i o
      cases h
      obtain ⟨g1, g2⟩ := key (.pointer none) (.pointer (some ⟨ρ i, o, none⟩)) (fun _ _ h => by cases h) (fun _ _ h => by cases h) (fun _ _ _ h => by cases h) (fun _ h => by cases h) (fun d => by simp [Op.equalIn, run_underlying hu])
      exact ⟨g1, g2, grdP _ _⟩
    · rename_i i o
      cases h
      obtain ⟨g1, g2⟩ := key (.pointer (some ⟨ρ i, o, none⟩)) (.pointer none) (fun _ _ h => by cases h) (fun _ _ h => by cases h) (fun _ _ _ h => by cases h) (fun _ h => by cases h) (fun d => by simp [Op.equalIn, run_underlying hu])
      exact ⟨g1, g2, grdP _ _⟩
    · rename_i i o j q
      split at h
      · rename_i ie b1 b2 hie hb1 hb2
        split at h
        · cases h
        · rename_i hz
          have hz := Nat.beq_eq_false_iff.1 hz
          cases h
          obtain ⟨i1, _, i3⟩ := hH.blk i b1 hb1
          obtain ⟨j1, _, j3⟩ := hH.blk j b2 hb2
          have main : (binOp .eql t (.pointer (some ⟨ρ i, o, none⟩)) (.pointer (some ⟨ρ j, q, none⟩))).run P w = .ok (.bool (Nat.beq i j && Nat.beq o q)) w ∧
              (binOp .neq t (.pointer (some ⟨ρ i, o, none⟩)) (.pointer (some ⟨ρ j, q, none⟩))).run P w = .ok (.bool (notb (Nat.beq i j && Nat.beq o q))) w := by
            refine key _ _ (fun _ _ h => by cases h) (fun _ _ h => by cases h) (fun _ _ _ h => by cases h) (fun _ h => by cases h) (fun d => ?_)
            by_cases hij : i = j ∧ o = q
            · obtain ⟨rfl, rfl⟩ := hij
              simp [Op.equalIn, run_underlying hu, sizeOf, typeInfo, hie, run_sameAddr_same]
            · have hne : (⟨ρ i, o, none⟩ : Addr) ≠ ⟨ρ j, q, none⟩ := by
                intro e
                simp only [Addr.mk.injEq, and_true] at e
                exact hij ⟨hH.inj i j i1 j1 e.1, e.2⟩
              have hf : (Nat.beq i j && Nat.beq o q) = false := by
                cases e1 : Nat.beq i j
                · rfl
                · cases e2 : Nat.beq o q
                  · rfl
                  · exact absurd ⟨Nat.eq_of_beq_eq_true e1, Nat.eq_of_beq_eq_true e2⟩ hij
              rw [hf]
              simp [Op.equalIn, run_underlying hu, sizeOf, typeInfo, hie, hz, run_sameAddr_other w hne i3 j3]
          exact ⟨main.1, main.2, grdP _ _⟩
      · cases h
    · cases h
  · rename_i k e hu
    split at h
    · rename_i i
      cases h
      obtain ⟨g1, g2⟩ := key (.map (some (ρ i))) (.map none) (fun _ _ h => by cases h) (fun _ _ h => by cases h) (fun _ _ _ h => by cases h) (fun _ h => by cases h) (fun d => by simp [Op.equalIn, run_underlying hu])
      exact ⟨g1, g2, grdM _ _⟩
    · rename_i i
      cases h
      obtain ⟨g1, g2⟩ := key (.map none) (.map (some (ρ i))) (fun _ _ h => by cases h) (fun _ _ h => by cases h) (fun _ _ _ h => by cases h) (fun _ h => by cases h) (fun d => by simp [Op.equalIn, run_underlying hu])
      exact ⟨g1, g2, grdM _ _⟩
    · cases h
      obtain ⟨g1, g2⟩ := key (.map none) (.map none) (fun _ _ h => by cases h) (fun _ _ h => by cases h) (fun _ _ _ h => by cases h) (fun _ h => by cases h) (fun d => by simp [Op.equalIn, run_underlying hu])
      exact ⟨g1, g2, grdM _ _⟩
    · cases h
  · rename_i ms hu
    split at h
    · rename_i t' i o
      cases h
      obtain ⟨g1, g2⟩ := key (.iface t' (.pointer (some ⟨ρ i, o, none⟩))) .nilIface (fun _ _ h => by cases h) (fun _ _ h => by cases h) (fun _ _ _ h => by cases h) (fun _ h => by cases h) (fun d => by simp [Op.equalIn, run_underlying hu])
      exact ⟨g1, g2, fun op ox oy _ => by unfold eqGuard; split <;> simp [C.den]⟩
    · rename_i t' i o
      cases h
      obtain ⟨g1, g2⟩ := key .nilIface (.iface t' (.pointer (some ⟨ρ i, o, none⟩))) (fun _ _ h => by cases h) (fun _ _ h => by cases h) (fun _ _ _ h => by cases h) (fun _ h => by cases h) (fun d => by simp [Op.equalIn, run_underlying hu])
      exact ⟨g1, g2, fun op ox oy _ => by unfold eqGuard; split <;> simp [C.den]⟩
    · split at h
      · cases h
        obtain ⟨g1, g2⟩ := key .nilIface .nilIface (fun _ _ h => by cases h) (fun _ _ h => by cases h) (fun _ _ _ h => by cases h) (fun _ h => by cases h) (fun d => by simp [Op.equalIn, run_underlying hu])
        refine ⟨g1, g2, fun op ox oy hc => ?_⟩
        simp only [C.den, eqGuard]
        cases op <;> cases ox <;> cases oy <;> first | (simp [isCst] at hc; done) | simp
      · cases h
    · cases h
  · cases h
theorem refOp_run {op : BinOp} {t : TypeId} {x y : C} {b cst : Bool} {c : C} (h : refEq P σ cst t x y = some b) (hc : refOp op b = some c) (hH : HInv W n0 ρ0 ρ σ.hp σ.n w) (ox oy : Operand) (hcst : cst = (isCst ox || isCst oy)) :
    ((do eqGuard op t ox oy (x.den ρ) (y.den ρ); binOp op t (x.den ρ) (y.den ρ)) : Sem Value).run P w = .ok (c.den ρ) w ∧ ∀ n, c.wf n = true := by
  obtain ⟨e1, e2, e3⟩ := refEq_run h hH
  unfold refOp at hc
  split at hc
  · cases hc
    exact ⟨by simp only [Sem.run_bind, e3 _ ox oy hcst, Result.andThen_ok, e1]; rfl, fun _ => rfl⟩
  · cases hc
    exact ⟨by simp only [Sem.run_bind, e3 _ ox oy hcst, Result.andThen_ok, e2]; rfl, fun _ => rfl⟩
  · cases hc

/-! maps -/
theorem litI_den {u : U} {q : IntKind × Int} (h : litI u = some q) (ρ : Nat → Nat) : u.den ρ = .int q.1 q.2 := by
  unfold litI at h
  split at h
  · cases h; rfl
  · cases h
theorem litI_wf {u : U} {q : IntKind × Int} (h : litI u = some q) (n : Nat) : u.wf n = true := by
  unfold litI at h
  split at h
  · rfl
  · cases h
theorem tzero_wf {t : TypeId} {u : U} (h : tzero P t = some u) (n : Nat) : u.wf n = true := by
  unfold tzero at h
  split at h
  · split at h
    · cases h; exact U.wf_ofValue n _
    · cases h
  · cases h
def ment (ρ : Nat → Nat) (e : U × U × Nat) : MapEntry := { key := e.1.den ρ, val := e.2.1.den ρ, born := e.2.2 }
theorem mden_list (ρ : Nat → Nat) (es : List (U × U × Nat)) : (mden ρ es).toList = es.map (ment ρ) := rfl
theorem run_checkKey_int {kt : TypeId} {kk : IntKind} (hk : P.underlying kt = some (.int kk)) (e : Bool) (m : Nat) (kd : IntKind) (n : Int) (w : World) : (Instr.checkKey e (m + 1) kt (.int kd n)).run P w = .ok () w := by
  simp only [Instr.checkKey, Sem.run_bind, run_underlying hk, Result.andThen_ok, Sem.run_pure]
theorem fresh_find (kk kd : IntKind) (n : Int) (ρ : Nat → Nat) : ∀ (es : List (U × U × Nat)) (i : Nat), keysFresh kd n es = true → Instr.findNow (.int kk) (.int kd n) (es.map (ment ρ)) i = some none
  | [], i, _ => rfl
  | e :: r, i, h => by
    simp only [keysFresh] at h
    split at h
    · rename_i q hq
      simp only [Bool.and_eq_true, decide_eq_true_eq, Bool.not_eq_true', decide_eq_false_iff_not] at h
      obtain ⟨⟨h1, h2⟩, h3⟩ := h
      have hk : (ment ρ e).key = .int kd q.2 := by show e.1.den ρ = _; rw [litI_den hq ρ, h1]
      have hb : (n == q.2) = false := by simpa using h2
      simp only [List.map_cons, Instr.findNow, hk, Instr.sameNow, if_true, hb]
      exact fresh_find kk kd n ρ r (i + 1) h3
    · cases h
theorem lookx_find (kk kd : IntKind) (l : Bool) (x : Int) (ρ : Nat → Nat) (found : U → Tr) (gone : Tr) : ∀ (es : List (U × U × Nat)) (i : Nat), (lookx kd l x found gone es).sat R →
    (∃ (j : Nat) (e : U × U × Nat), e ∈ es ∧ Instr.findNow (.int kk) (.int kd x) (es.map (ment ρ)) i = some (some (j, e.2.1.den ρ)) ∧ (found e.2.1).sat R) ∨ (Instr.findNow (.int kk) (.int kd x) (es.map (ment ρ)) i = some none ∧ gone.sat R)
  | [], i, h => .inr ⟨rfl, h⟩
  | e :: r, i, h => by
    simp only [lookx] at h
    split at h
    · rename_i q hq
      split at h
      · rename_i hd
        have hd := of_decide_eq_true hd
        have hk : (ment ρ e).key = .int kd q.2 := by show e.1.den ρ = _; rw [litI_den hq ρ, hd]
        have hit : x = q.2 → (found e.2.1).sat R → (∃ (j : Nat) (e' : U × U × Nat), e' ∈ e :: r ∧ Instr.findNow (.int kk) (.int kd x) ((e :: r).map (ment ρ)) i = some (some (j, e'.2.1.den ρ)) ∧ (found e'.2.1).sat R) := by
          intro hx hs
          refine ⟨i, e, by simp, ?_, hs⟩
          have hb : (x == q.2) = true := by simpa using hx
          simp only [List.map_cons, Instr.findNow, hk, Instr.sameNow, if_true, hb]
          rfl
        have miss : ¬ x = q.2 → (lookx kd l x found gone r).sat R → (∃ (j : Nat) (e' : U × U × Nat), e' ∈ e :: r ∧ Instr.findNow (.int kk) (.int kd x) ((e :: r).map (ment ρ)) i = some (some (j, e'.2.1.den ρ)) ∧ (found e'.2.1).sat R) ∨ (Instr.findNow (.int kk) (.int kd x) ((e :: r).map (ment ρ)) i = some none ∧ gone.sat R) := by
          intro hx hs
          have hb : (x == q.2) = false := by simpa using hx
          simp only [List.map_cons, Instr.findNow, hk, Instr.sameNow, if_true, hb]
          rcases lookx_find kk kd l x ρ found gone r (i + 1) hs with ⟨j, e', h1, h2, h3⟩ | h3
          · exact .inl ⟨j, e', by simp [h1], h2, h3⟩
          · exact .inr h3
        split at h
        · split at h
          · rename_i hx; exact .inl (hit (of_decide_eq_true hx) h)
          · rename_i hx; exact miss (of_decide_eq_false hx) h
        · by_cases hx : x = q.2
          · exact .inl (hit hx (h.1 (by simpa [iEq] using hx)))
          · exact miss hx (h.2 (by simpa [iEq] using hx))
      · exact h.elim
    · exact h.elim

theorem run_makeMap (t : TypeId) (w : World) : (Instr.makeMap t none).run P w = .ok (.map (some w.heap.size)) (w.alloc (.map #[] 0)) := by
  simp only [Instr.makeMap, Sem.run_bind, run_newObj, Result.andThen_ok, Sem.run_pure]
  simp [World.alloc_eq]

theorem run_insx {σ' : St} {t : TypeId} {m x v : Operand} (hI : Inv W n0 ρ0 N ρ σ a w) (h : insx P σ t m x v = some σ') :
    ∃ w', (Instr.mapUpdate t (a.eval m) (a.eval x) (a.eval v)).run P w = .ok () w' ∧ Inv W n0 ρ0 N ρ σ' a w' ∧ σ'.n = σ.n := by
  unfold insx at h
  split at h
  · rename_i kt et hu
    split at h
    · rename_i kk hk
      split at h
      · rename_i id ux uv hm hx hv
        split at h
        · rename_i q b hq hb
          split at h
          · rename_i hf
            cases h
            obtain ⟨hb, hlim⟩ := lookMW_spec hb
            obtain ⟨hid, hbw, hbh⟩ := hI.H.mblk id b hb
            have d1 : a.eval m = .map (some (ρ id)) := by rw [ev_den hI m, hm]; rfl
            have d2 : a.eval x = .int q.1 q.2 := by rw [ev_den hI x, hx]; exact litI_den hq ρ
            have d3 : a.eval v = uv.den ρ := by rw [ev_den hI v, hv]; rfl
            have hvw : uv.wf σ.n = true := by have := ev_wf hI v; rw [hv] at this; exact this
            have hnew : mwf σ.n (b.1 ++ [(ux, uv, b.2)]) = true := by
              simp only [mwf, List.all_append, List.all_cons, List.all_nil, Bool.and_true, Bool.and_eq_true] at hbw ⊢
              exact ⟨hbw, litI_wf hq _, hvw⟩
            have hH := hI.H.setM hb hlim (b.1 ++ [(ux, uv, b.2)], b.2 + 1) hnew
            refine ⟨_, ?_, hI.later (Ext.refl _ _) (Nat.le_refl _) hH, rfl⟩
            have hfind := fresh_find kk q.1 q.2 ρ b.1 0 hf
            have hmden : mden ρ (b.1 ++ [(ux, uv, b.2)]) = (mden ρ b.1).push { key := .int q.1 q.2, val := uv.den ρ, born := b.2 } := by
              apply Array.ext'
              rw [Array.toList_push, mden_list, mden_list, List.map_append]
              simp only [List.map_cons, List.map_nil, ment, litI_den hq ρ]
            rw [d1, d2, d3]
            simp only [Instr.mapUpdate, Sem.run_bind, run_underlying hu, Result.andThen_ok, MapKept.run_getObj_map hbh]
            rw [show (10000 : Nat) = 9999 + 1 from rfl, run_checkKey_int hk]
            simp only [Instr.findKey, Sem.run_bind, run_underlying hk, Result.andThen_ok, Sem.run_pure, mden_list, hfind]
            rw [MapKept.run_setObj_map _ hbh, hmden]
          · cases h
        · cases h
      · cases h
    · cases h
  · cases h

theorem litV_den {u : U} {v : Value} (h : litV u = some v) (ρ : Nat → Nat) : u.den ρ = v := by
  unfold litV at h
  split at h
  · cases h; rfl
  · rename_i xs
    split at h
    · rename_i hall
      cases h
      have hw : xs.all (C.wf 0) = true := by
        simp only [List.all_eq_true] at hall ⊢
        intro c hc
        have := hall c hc
        cases c <;> first | rfl | cases this
      show Value.agg (dens ρ xs) = _
      rw [dens_ext (n := 0) (ρ := fun _ => 0) (ρ' := ρ) (fun i hi => by omega) xs hw]
    · cases h
  · cases h
theorem litV_wf {u : U} {v : Value} (h : litV u = some v) (n : Nat) : u.wf n = true := by
  unfold litV at h
  split at h
  · rfl
  · rename_i xs
    split at h
    · rename_i hall
      simp only [U.wf, List.all_eq_true] at hall ⊢
      intro c hc
      have := hall c hc
      cases c <;> first | rfl | cases this
    · cases h
  · cases h
theorem run_checkKeyS {kt : TypeId} {v : Value} (h : keyOKc P kt v = true) (e : Bool) (w : World) : (Instr.checkKey e 10000 kt v).run P w = .ok () w := by
  simp only [keyOKc, Bool.and_eq_true] at h
  obtain ⟨⟨h1, h2⟩, h3⟩ := h
  obtain ⟨la, hla⟩ := Option.isSome_iff_exists.1 h3
  exact run_checkKey_deep e 9992 8 kt h1 w 10 v la h2 hla
theorem scan_find {kt : TypeId} (x : List C) (ha : tagg P kt = some true) : ∀ (es : List (U × U × Nat)) (i : Nat) (r : Option (Nat × U × U)), scanS P kt x i es = some r → ∀ w,
    (r = none → (Instr.findAsking kt (.agg (dens ρ x)) (es.map (ment ρ)) i).run P w = .ok none w) ∧
    (∀ q, r = some q → ∃ e, e ∈ es ∧ i ≤ q.1 ∧ es[q.1 - i]? = some e ∧ e.1 = q.2.1 ∧ e.2.1 = q.2.2 ∧ (Instr.findAsking kt (.agg (dens ρ x)) (es.map (ment ρ)) i).run P w = .ok (some (q.1, q.2.2.den ρ)) w)
  | [], i, r, h, w => by
    cases h
    exact ⟨fun _ => by simp [Instr.findAsking], fun u hu => by cases hu⟩
  | e :: es, i, r, h, w => by
    simp only [scanS] at h
    split at h
    · rename_i ys hy
      have hk : (ment ρ e).key = .agg (dens ρ ys) := by show e.1.den ρ = _; rw [hy]; rfl
      split at h
      · rename_i hc
        cases h
        obtain ⟨b, ⟨l, hb⟩, hr⟩ := eqT_run P _ _ _ _ _ hc
        simp only [C.bool?, Option.some.injEq, Prod.mk.injEq] at hb
        have := hr ρ w (.agg (dens ρ x)) (.agg (dens ρ ys)) (.inl ⟨ha, rfl⟩) (.inl ⟨ha, rfl⟩)
        rw [← hb.2] at this
        refine ⟨fun hn => (by cases hn), fun u hu => ⟨e, by simp, by cases hu; exact Nat.le_refl _, by cases hu; simp, by cases hu; rfl, by cases hu; rfl, ?_⟩⟩
        cases hu
        simp only [List.map_cons, Instr.findAsking, Sem.run_bind, hk, Op.equal, Op.maxDepth, this, Result.andThen_ok, if_true, Sem.run_pure]
        rfl
      · rename_i hc
        obtain ⟨b, ⟨l, hb⟩, hr⟩ := eqT_run P _ _ _ _ _ hc
        simp only [C.bool?, Option.some.injEq, Prod.mk.injEq] at hb
        have := hr ρ w (.agg (dens ρ x)) (.agg (dens ρ ys)) (.inl ⟨ha, rfl⟩) (.inl ⟨ha, rfl⟩)
        rw [← hb.2] at this
        obtain ⟨g1, g2⟩ := scan_find x ha es (i + 1) r h w
        have step : (Instr.findAsking kt (.agg (dens ρ x)) ((e :: es).map (ment ρ)) i).run P w = (Instr.findAsking kt (.agg (dens ρ x)) (es.map (ment ρ)) (i + 1)).run P w := by
          simp only [List.map_cons, Instr.findAsking, Sem.run_bind, hk, Op.equal, Op.maxDepth, this, Result.andThen_ok, Bool.false_eq_true, if_false]
        rw [step]
        refine ⟨g1, fun u hu => ?_⟩
        obtain ⟨e', a1, a0, a5, a4, a2, a3⟩ := g2 u hu
        refine ⟨e', by simp [a1], by omega, ?_, a4, a2, a3⟩
        rw [show u.1 - i = (u.1 - (i + 1)) + 1 by omega, List.getElem?_cons_succ]
        exact a5
      · cases h
    · cases h
theorem mden_setE (ρ : Nat → Nat) (k v : U) : ∀ (i : Nat) (es : List (U × U × Nat)), mden ρ (setE k v i es) = (mden ρ es).modify i fun e => { e with key := k.den ρ, val := v.den ρ } := by
  have : ∀ (i : Nat) (es : List (U × U × Nat)), (setE k v i es).map (fun e => ({ key := e.1.den ρ, val := e.2.1.den ρ, born := e.2.2 } : MapEntry)) =
      (es.map (fun e => ({ key := e.1.den ρ, val := e.2.1.den ρ, born := e.2.2 } : MapEntry))).modify i fun e => { e with key := k.den ρ, val := v.den ρ } := by
    intro i es
    induction es generalizing i with
    | nil => cases i <;> simp [setE]
    | cons e r ih => cases i <;> simp [setE, ih]
  intro i es
  apply Array.ext'
  simp only [mden, this, Array.toList_modify]
theorem mden_delE (ρ : Nat → Nat) : ∀ (i : Nat) (es : List (U × U × Nat)), mden ρ (delE i es) = (mden ρ es).eraseIdxIfInBounds i := by
  have : ∀ (i : Nat) (es : List (U × U × Nat)), (delE i es).map (fun e => ({ key := e.1.den ρ, val := e.2.1.den ρ, born := e.2.2 } : MapEntry)) =
      (es.map (fun e => ({ key := e.1.den ρ, val := e.2.1.den ρ, born := e.2.2 } : MapEntry))).eraseIdx i := by
    intro i es
    induction es generalizing i with
    | nil => cases i <;> simp [delE]
    | cons e r ih => cases i <;> simp [delE, ih]
  intro i es
  apply Array.ext'
  simp only [mden, this, Array.toList_eraseIdxIfInBounds]
theorem setE_wf {n : Nat} {k v : U} (hk : k.wf n = true) (hv : v.wf n = true) : ∀ (i : Nat) (es : List (U × U × Nat)), mwf n es = true → mwf n (setE k v i es) = true := by
  intro i es
  induction es generalizing i with
  | nil => intro h; cases i <;> exact h
  | cons e r ih =>
    intro h
    simp only [mwf, List.all_cons, Bool.and_eq_true] at h
    cases i with
    | zero => simp only [setE, mwf, List.all_cons, Bool.and_eq_true, hk, hv]; exact ⟨⟨trivial, trivial⟩, h.2⟩
    | succ i => simp only [setE, mwf, List.all_cons, Bool.and_eq_true]; exact ⟨h.1, ih i h.2⟩
theorem delE_wf {n : Nat} : ∀ (i : Nat) (es : List (U × U × Nat)), mwf n es = true → mwf n (delE i es) = true := by
  intro i es
  induction es generalizing i with
  | nil => intro h; cases i <;> exact h
  | cons e r ih =>
    intro h
    simp only [mwf, List.all_cons, Bool.and_eq_true] at h
    cases i with
    | zero => exact h.2
    | succ i => simp only [delE, mwf, List.all_cons, Bool.and_eq_true]; exact ⟨h.1, ih i h.2⟩
theorem run_findS {kt : TypeId} {fs : Array Field} (hk : P.underlying kt = some (.struct fs)) (x : List C) (es : List (U × U × Nat)) (w : World) :
    (Instr.findKey kt (.agg (dens ρ x)) (es.map (ment ρ))).run P w = (Instr.findAsking kt (.agg (dens ρ x)) (es.map (ment ρ)) 0).run P w := by
  cases es with
  | nil => simp [Instr.findKey, run_underlying hk, Instr.findNow, Instr.findAsking]
  | cons e r =>
    have : Instr.findNow (.struct fs) (.agg (dens ρ x)) ((e :: r).map (ment ρ)) 0 = none := by
      simp only [List.map_cons, Instr.findNow, Instr.sameNow]
    simp only [Instr.findKey, Sem.run_bind, run_underlying hk, Result.andThen_ok, this]

theorem run_insS {σ' : St} {t : TypeId} {m x v : Operand} (hI : Inv W n0 ρ0 N ρ σ a w) (h : insS P σ t m x v = some σ') :
    ∃ w', (Instr.mapUpdate t (a.eval m) (a.eval x) (a.eval v)).run P w = .ok () w' ∧ Inv W n0 ρ0 N ρ σ' a w' ∧ σ'.n = σ.n := by
  unfold insS at h
  split at h
  · rename_i q id xs uv hq hm hx hv
    split at h
    · rename_i lv b hlv hb
      split at h
      · rename_i hok hta hsc
        cases h
        unfold structT at hq
        split at hq
        · rename_i kt et hu
          split at hq
          · rename_i fs hk
            cases hq
            obtain ⟨hb, hlim⟩ := lookMW_spec hb
            obtain ⟨hid, hbw, hbh⟩ := hI.H.mblk id b hb
            have d1 : a.eval m = .map (some (ρ id)) := by rw [ev_den hI m, hm]; rfl
            have d2 : a.eval x = .agg (dens ρ xs) := by rw [ev_den hI x, hx]; rfl
            have d2' : Value.agg (dens ρ xs) = lv := litV_den hlv ρ
            have d3 : a.eval v = uv.den ρ := by rw [ev_den hI v, hv]; rfl
            have hvw : uv.wf σ.n = true := by have := ev_wf hI v; rw [hv] at this; exact this
            have hnew : mwf σ.n (b.1 ++ [(.agg xs, uv, b.2)]) = true := by
              simp only [mwf, List.all_append, List.all_cons, List.all_nil, Bool.and_true, Bool.and_eq_true] at hbw ⊢
              exact ⟨hbw, litV_wf hlv _, hvw⟩
            have hH := hI.H.setM hb hlim (b.1 ++ [(.agg xs, uv, b.2)], b.2 + 1) hnew
            refine ⟨_, ?_, hI.later (Ext.refl _ _) (Nat.le_refl _) hH, rfl⟩
            have hfind := (scan_find (ρ := ρ) xs hta b.1 0 none hsc w).1 rfl
            have hmden : mden ρ (b.1 ++ [(.agg xs, uv, b.2)]) = (mden ρ b.1).push { key := .agg (dens ρ xs), val := uv.den ρ, born := b.2 } := by
              apply Array.ext'
              rw [Array.toList_push, mden_list, mden_list, List.map_append]
              rfl
            rw [d1, d2, d3]
            simp only [Instr.mapUpdate, Sem.run_bind, run_underlying hu, Result.andThen_ok, MapKept.run_getObj_map hbh]
            have hck : (Instr.checkKey false 10000 kt (.agg (dens ρ xs))).run P w = .ok () w := by rw [d2']; exact run_checkKeyS hok _ w
            rw [hck]
            simp only [Result.andThen_ok, mden_list, run_findS hk, hfind]
            rw [MapKept.run_setObj_map _ hbh, hmden]
          · cases hq
        · cases hq
      · rename_i r hok hta hsc
        split at h
        · rename_i ov hov
          split at h
          · rename_i hsame
            cases h
            unfold structT at hq
            split at hq
            · rename_i kt et hu
              split at hq
              · rename_i fs hk
                cases hq
                obtain ⟨hb, hlim⟩ := lookMW_spec hb
                obtain ⟨hid, hbw, hbh⟩ := hI.H.mblk id b hb
                have d1 : a.eval m = .map (some (ρ id)) := by rw [ev_den hI m, hm]; rfl
                have d2 : a.eval x = .agg (dens ρ xs) := by rw [ev_den hI x, hx]; rfl
                have d2' : Value.agg (dens ρ xs) = lv := litV_den hlv ρ
                have d3 : a.eval v = uv.den ρ := by rw [ev_den hI v, hv]; rfl
                have hvw : uv.wf σ.n = true := by have := ev_wf hI v; rw [hv] at this; exact this
                have hH := hI.H.setM hb hlim (setE (.agg xs) uv r.1 b.1, b.2) (setE_wf (litV_wf hlv _) hvw _ _ hbw)
                refine ⟨_, ?_, hI.later (Ext.refl _ _) (Nat.le_refl _) hH, rfl⟩
                obtain ⟨e, _, _, he, hek, hev, hfind⟩ := (scan_find (ρ := ρ) xs hta b.1 0 (some r) hsc w).2 r rfl
                rw [Nat.sub_zero] at he
                rw [d1, d2, d3]
                simp only [Instr.mapUpdate, Sem.run_bind, run_underlying hu, Result.andThen_ok, MapKept.run_getObj_map hbh]
                have hck : (Instr.checkKey false 10000 kt (.agg (dens ρ xs))).run P w = .ok () w := by rw [d2']; exact run_checkKeyS hok _ w
                rw [hck]
                have hold : (((mden ρ b.1)[r.1]?).map (·.key)).getD (.agg (dens ρ xs)) = ov := by
                  simp only [mden, List.getElem?_toArray, List.getElem?_map, he, Option.map_some, Option.getD_some]
                  rw [hek]
                  exact litV_den hov ρ
                simp only [Result.andThen_ok, mden_list, run_findS hk, hfind, Sem.run_bind, hold, Instr.keyThatStays]
                rw [d2', if_pos hsame]
                simp only [Sem.run_pure, Result.andThen_ok]
                rw [MapKept.run_setObj_map _ hbh, mden_setE]
                simp only [U.den, d2']
              · cases hq
            · cases hq
          · cases h
        · cases h
      · cases h
    · cases h
  · cases h

theorem run_delS {σ' : St} {t : TypeId} {m x : Operand} {ts : Array TypeId} {ty : TypeId} (hI : Inv W n0 ρ0 N ρ σ a w) (ht : ts[0]? = some t) (h : delS P σ t m x = some σ') :
    ∃ w', (Builtin.delete_ ts ty #[a.eval m, a.eval x]).run P w = .ok (.tuple #[]) w' ∧ Inv W n0 ρ0 N ρ σ' a w' ∧ σ'.n = σ.n := by
  unfold delS at h
  split at h
  · rename_i q id xs hq hm hx
    split at h
    · rename_i lv b hlv hb
      have key : ∀ (kt et : TypeId) (fs : Array Field) (new : MBlk) (hu : P.underlying t = some (.map kt et)) (hk : P.underlying kt = some (.struct fs)) (hok : keyOKc P kt lv = true), mwf σ.n new.1 = true →
          (∀ w, ∃ r, (Instr.findAsking kt (.agg (dens ρ xs)) (b.1.map (ment ρ)) 0).run P w = .ok r w ∧ (match r with | some (i, _) => (mden ρ b.1).eraseIdxIfInBounds i | none => mden ρ b.1) = mden ρ new.1) → new.2 = b.2 →
          ∃ w', (Builtin.delete_ ts ty #[a.eval m, a.eval x]).run P w = .ok (.tuple #[]) w' ∧ Inv W n0 ρ0 N ρ { σ with hp := mcons (id, new) σ.hp } a w' := by
        intro kt et fs new hu hk hok hnew hfind hclock
        obtain ⟨hb, hlim⟩ := lookMW_spec hb
        obtain ⟨hid, hbw, hbh⟩ := hI.H.mblk id b hb
        have d1 : a.eval m = .map (some (ρ id)) := by rw [ev_den hI m, hm]; rfl
        have d2 : a.eval x = .agg (dens ρ xs) := by rw [ev_den hI x, hx]; rfl
        have d2' : Value.agg (dens ρ xs) = lv := litV_den hlv ρ
        have hH := hI.H.setM hb hlim new hnew
        refine ⟨_, ?_, hI.later (Ext.refl _ _) (Nat.le_refl _) hH⟩
        obtain ⟨r, hr, hnd⟩ := hfind w
        rw [d1, d2]
        have hck : (Instr.checkKey (mden ρ b.1).isEmpty 10000 kt (.agg (dens ρ xs))).run P w = .ok () w := by rw [d2']; exact run_checkKeyS hok _ w
        simp only [Builtin.delete_, ht, List.getElem?_toArray, List.getElem?_cons_zero, List.getElem?_cons_succ, Sem.run_bind, run_underlying hu, Result.andThen_ok, MapKept.run_getObj_map hbh]
        rw [hck]
        simp only [Result.andThen_ok, mden_list, run_findS hk, hr]
        cases r with
        | none =>
          simp only at hnd ⊢
          rw [Sem.run_bind, MapKept.run_setObj_map _ hbh]
          simp only [Result.andThen_ok, Sem.run_pure, hnd, hclock]
        | some p =>
          simp only at hnd ⊢
          rw [Sem.run_bind, MapKept.run_setObj_map _ hbh]
          simp only [Result.andThen_ok, Sem.run_pure, hnd, hclock]
      unfold structT at hq
      split at hq
      · rename_i kt et hu
        split at hq
        · rename_i fs hk
          cases hq
          have hbw := (hI.H.mblk id b (lookMW_spec hb).1).2.1
          split at h
          · rename_i hok hta hsc
            cases h
            obtain ⟨w', e1, e2⟩ := key kt et fs b hu hk hok hbw (fun w => ⟨none, (scan_find (ρ := ρ) xs hta b.1 0 none hsc w).1 rfl, rfl⟩) rfl
            exact ⟨w', e1, e2, rfl⟩
          · rename_i r hok hta hsc
            cases h
            obtain ⟨w', e1, e2⟩ := key kt et fs (delE r.1 b.1, b.2) hu hk hok (delE_wf _ _ hbw) (fun w => by
              obtain ⟨e, _, _, _, _, _, hf⟩ := (scan_find (ρ := ρ) xs hta b.1 0 (some r) hsc w).2 r rfl
              exact ⟨_, hf, (mden_delE ρ _ _).symm⟩) rfl
            exact ⟨w', e1, e2, rfl⟩
          · cases h
        · cases hq
      · cases hq
    · cases h
  · cases h

theorem run_ifaceC {t : TypeId} {c c' : C} (h : ifaceC P t c = some c') (ρ : Nat → Nat) (w : World) : (Instr.makeInterface t (c.den ρ)).run P w = .ok (c'.den ρ) w ∧ ∀ n, c.wf n = true → c'.wf n = true := by
  unfold ifaceC at h
  split at h
  · rename_i e id off hu
    cases h
    exact ⟨by simp [Instr.makeInterface, run_underlying hu, C.den], fun n hn => hn⟩
  · cases h

theorem run_tassertC {t xt : TypeId} {c : C} {ok : Bool} {v : V} (h : tassertC P c t ok = some v) (ρ : Nat → Nat) (w : World) : (Instr.typeAssert (c.den ρ) xt t ok).run P w = .ok (v.den ρ) w ∧ ∀ n, c.wf n = true → v.wf n = true := by
  unfold tassertC at h
  split at h
  · rename_i e hu
    have fail : failC P t ok = some v → (do if ok then pure (Value.tuple #[← zeroValue t, .bool false]) else runtimePanic (.typeAssertion (some xt) none t "") : Sem Value).run P w = .ok (v.den ρ) w ∧ (∀ d, (do if ok then pure (Value.tuple #[← zeroValue t, .bool false]) else runtimePanic (.typeAssertion (some xt) (some d) t "") : Sem Value).run P w = .ok (v.den ρ) w) ∧ ∀ n, v.wf n = true := by
      intro hf
      unfold failC at hf
      split at hf
      · split at hf
        · rename_i z hz
          cases hf
          have e := run_zeroValue hz ρ w
          refine ⟨by simp [e, lookR, V.den]; rfl, fun d => by simp [e, lookR, V.den]; rfl, fun n => ?_⟩
          simp only [lookR, V.wf, List.all_cons, List.all_nil, tzero_wf hz n, Bool.true_and, Bool.and_true]; rfl
        · cases hf
      · cases hf
    split at h
    · rename_i t' id off
      split at h
      · rename_i ht
        have ht := Nat.eq_of_beq_eq_true ht
        subst ht
        cases h
        refine ⟨?_, fun n hn => ?_⟩
        · simp only [Instr.typeAssert, Sem.run_bind, run_underlying hu, Result.andThen_ok, C.den, if_true, Sem.run_pure]
          cases ok <;> simp [lookR, V.den, U.den, C.den]
        · cases ok
          · exact hn
          · simp only [lookR, V.wf, List.all_cons, List.all_nil, Bool.and_true]
            show (U.wf n (.c (.ptr id off)) && true) = true
            rw [Bool.and_true]; exact hn
      · rename_i ht
        have ht := Nat.beq_eq_false_iff.1 ht
        obtain ⟨_, f2, f3⟩ := fail h
        refine ⟨?_, fun n _ => f3 n⟩
        simp only [Instr.typeAssert, Sem.run_bind, run_underlying hu, Result.andThen_ok, C.den, if_neg ht]
        exact f2 t'
    · obtain ⟨f1, _, f3⟩ := fail h
      refine ⟨?_, fun n _ => f3 n⟩
      simp only [Instr.typeAssert, Sem.run_bind, run_underlying hu, Result.andThen_ok, C.den]
      exact f1
    · cases h
  · cases h


theorem run_lookup {id : Nat} {b : MBlk} {t et : TypeId} {kd : IntKind} {x : Int} {ok : Bool} {u : U} {is : Bool} {z : U} (hH : HInv W n0 ρ0 ρ σ.hp σ.n w) (hb : lookM σ.hp id = some b) (ht : mapT P t = some et) (hz : tzero P et = some z)
    (h : ∀ kk, (∃ j, Instr.findNow (.int kk) (.int kd x) (b.1.map (ment ρ)) 0 = some (some (j, u.den ρ)) ∧ is = true) ∨ (Instr.findNow (.int kk) (.int kd x) (b.1.map (ment ρ)) 0 = some none ∧ u = z ∧ is = false)) :
    (Instr.lookup t (.map (some (ρ id))) (.int kd x) ok).run P w = .ok ((lookR ok u is).den ρ) w := by
  obtain ⟨hid, hbw, hbh⟩ := hH.mblk id b hb
  unfold mapT at ht
  split at ht
  · rename_i kt et' hu
    split at ht
    · rename_i kk hk
      cases ht
      simp only [Instr.lookup, Sem.run_bind, run_underlying hu, Result.andThen_ok, MapKept.run_getObj_map hbh, Sem.run_pure]
      rw [show (10000 : Nat) = 9999 + 1 from rfl, run_checkKey_int hk]
      simp only [Instr.findKey, Sem.run_bind, run_underlying hk, Result.andThen_ok, Sem.run_pure, mden_list]
      rcases h kk with ⟨j, h1, rfl⟩ | ⟨h1, rfl, rfl⟩
      · simp only [h1, Sem.run_pure, Result.andThen_ok]
        cases ok <;> simp [lookR, V.den, U.den, C.den]
      · have e := run_zeroValue hz ρ w
        simp only [h1, Sem.run_pure, Sem.run_bind, Result.andThen_ok, e]
        cases ok
        · simp [lookR, V.den, e]
        · simp only [lookR, V.den, List.map_cons, List.map_nil]; simp [e]; rfl
    · cases ht
  · cases ht

theorem lookup_path {t : TypeId} {x ix : Operand} {ok : Bool} {k : V → St → Tr} (h : (opx P (.lookup t x ix ok) σ k).sat R) :
    ∃ v, (k v σ).sat R ∧ ∀ a w, Inv W n0 ρ0 N ρ σ a w → v.wf σ.n = true ∧ (Instr.lookup t (a.eval x) (a.eval ix) ok).run P w = .ok (v.den ρ) w := by
  simp only [opx] at h
  split at h
  · rename_i id ci hx hix
    obtain ⟨q, hq, hs⟩ := kO_sat h
    obtain ⟨b, hb, hs⟩ := kO_sat hs
    obtain ⟨et, ht, hs⟩ := kO_sat hs
    obtain ⟨z, hz, hs⟩ := kO_sat hs
    obtain ⟨l, kd, n⟩ := q
    have hfin : ∀ (u : U) (is : Bool), (∀ a w, Inv W n0 ρ0 N ρ σ a w → u.wf σ.n = true) → (k (lookR ok u is) σ).sat R → (∀ kk, (∃ j, Instr.findNow (.int kk) (.int kd n) (b.1.map (ment ρ)) 0 = some (some (j, u.den ρ)) ∧ is = true) ∨ (Instr.findNow (.int kk) (.int kd n) (b.1.map (ment ρ)) 0 = some none ∧ u = z ∧ is = false)) →
        ∃ v, (k v σ).sat R ∧ ∀ a w, Inv W n0 ρ0 N ρ σ a w → v.wf σ.n = true ∧ (Instr.lookup t (a.eval x) (a.eval ix) ok).run P w = .ok (v.den ρ) w := by
      intro u is hw hs hf
      refine ⟨_, hs, fun a w hI => ⟨?_, ?_⟩⟩
      · have hw := hw a w hI
        cases ok
        · exact hw
        · simp only [lookR, V.wf, List.all_cons, List.all_nil, hw, Bool.true_and, Bool.and_true]; rfl
      · have d1 : a.eval x = .map (some (ρ id)) := by rw [ev_den hI x, hx]; rfl
        have d2 : a.eval ix = .int kd n := by rw [ev_den hI ix, hix]; exact C.int_den hq ρ
        rw [d1, d2]
        exact run_lookup hI.H hb ht hz hf
    have kkind : ∀ kk kk' : IntKind, ∀ (es : List MapEntry) (i : Nat), Instr.findNow (.int kk) (.int kd n) es i = Instr.findNow (.int kk') (.int kd n) es i := by
      intro kk kk' es
      induction es with
      | nil => intro i; rfl
      | cons e r ih =>
        intro i
        simp only [Instr.findNow]
        have : Instr.sameNow (.int kk) (.int kd n) e.key = Instr.sameNow (.int kk') (.int kd n) e.key := by
          cases e.key <;> rfl
        rw [this, ih]
    rcases lookx_find kd kd l n ρ _ _ b.1 0 hs with ⟨j, e, he, h1, h2⟩ | ⟨h1, h2⟩
    · refine hfin e.2.1 true (fun a w hI => ?_) h2 fun kk => .inl ⟨j, by rw [kkind kk kd]; exact h1, rfl⟩
      obtain ⟨_, hbw, _⟩ := hI.H.mblk id b hb
      simp only [mwf, List.all_eq_true, Bool.and_eq_true] at hbw
      exact (hbw e he).2
    · exact hfin z false (fun _ _ _ => tzero_wf hz _) h2 fun kk => .inr ⟨by rw [kkind kk kd]; exact h1, rfl, rfl⟩
  · rename_i id xs hx hix
    obtain ⟨q, hq, hs⟩ := kO_sat h
    obtain ⟨lv, hlv, hs⟩ := kO_sat hs
    obtain ⟨b, hb, hs⟩ := kO_sat hs
    obtain ⟨z, hz, hs⟩ := kO_sat hs
    split at hs
    · rename_i hok hta
      obtain ⟨r, hr, hs⟩ := kO_sat hs
      unfold structT at hq
      split at hq
      · rename_i kt et hu
        split at hq
        · rename_i fs hk
          cases hq
          cases r with
          | none =>
            refine ⟨_, hs, fun a w hI => ?_⟩
            obtain ⟨_, hbw, hbh⟩ := hI.H.mblk id b hb
            have d1 : a.eval x = .map (some (ρ id)) := by rw [ev_den hI x, hx]; rfl
            have d2 : a.eval ix = .agg (dens ρ xs) := by rw [ev_den hI ix, hix]; rfl
            have hck : (Instr.checkKey (mden ρ b.1).isEmpty 10000 kt (.agg (dens ρ xs))).run P w = .ok () w := by rw [show Value.agg (dens ρ xs) = lv from litV_den hlv ρ]; exact run_checkKeyS hok _ w
            obtain ⟨g1, g2⟩ := scan_find (ρ := ρ) xs hta b.1 0 _ hr w
            refine ⟨?_, ?_⟩
            · have := tzero_wf hz σ.n
              cases ok
              · exact this
              · simp only [lookR, V.wf, List.all_cons, List.all_nil, this, Bool.true_and, Bool.and_true]; rfl
            · rw [d1, d2]
              have e := run_zeroValue hz ρ w
              simp only [Instr.lookup, Sem.run_bind, run_underlying hu, Result.andThen_ok, MapKept.run_getObj_map hbh, Sem.run_pure]
              rw [hck]
              simp only [Result.andThen_ok, mden_list, run_findS hk, g1 rfl, Sem.run_bind, e, Sem.run_pure]
              cases ok
              · simp [lookR, V.den, e]
              · simp only [lookR, V.den, List.map_cons, List.map_nil]; simp [e]; rfl
          | some u =>
            refine ⟨_, hs, fun a w hI => ?_⟩
            obtain ⟨_, hbw, hbh⟩ := hI.H.mblk id b hb
            have d1 : a.eval x = .map (some (ρ id)) := by rw [ev_den hI x, hx]; rfl
            have d2 : a.eval ix = .agg (dens ρ xs) := by rw [ev_den hI ix, hix]; rfl
            have hck : (Instr.checkKey (mden ρ b.1).isEmpty 10000 kt (.agg (dens ρ xs))).run P w = .ok () w := by rw [show Value.agg (dens ρ xs) = lv from litV_den hlv ρ]; exact run_checkKeyS hok _ w
            obtain ⟨g1, g2⟩ := scan_find (ρ := ρ) xs hta b.1 0 _ hr w
            obtain ⟨e', a1, _, _, _, a2, a3⟩ := g2 u rfl
            have hw : u.2.2.wf σ.n = true := by
              simp only [mwf, List.all_eq_true, Bool.and_eq_true] at hbw
              rw [← a2]; exact (hbw e' a1).2
            refine ⟨?_, ?_⟩
            · cases ok
              · exact hw
              · simp only [lookR, V.wf, List.all_cons, List.all_nil, hw, Bool.true_and, Bool.and_true]; rfl
            · rw [d1, d2]
              simp only [Instr.lookup, Sem.run_bind, run_underlying hu, Result.andThen_ok, MapKept.run_getObj_map hbh, Sem.run_pure]
              rw [hck]
              simp only [Result.andThen_ok, mden_list, run_findS hk, a3, Sem.run_pure]
              cases ok <;> simp [lookR, V.den, U.den, C.den]
        · cases hq
      · cases hq
    · exact hs.elim
  · exact h.elim

theorem opx_sound {o : Oper} {k : V → St → Tr} (hI : Inv W n0 ρ0 N ρ σ a w) (h : (opx P o.op σ k).sat R) : OpS P W n0 ρ0 N R ρ σ a w (execOp a.eval o) k := by
  obtain ⟨dst, op, type, pos, after, guard⟩ := o
  simp only at h
  unfold opx at h
  split at h
  · rename_i x
    exact OpS.pure hI (ev_wf hI x) h (by simp [execOp, ev_den hI x])
  · rename_i x
    exact OpS.pure hI (ev_wf hI x) h (by simp [execOp, ev_den hI x])
  · rename_i c x y
    obtain ⟨b, σ', hb, hI', e1, e2, hs⟩ := decB_sound hI h
    cases b
    · exact ⟨_, σ', ρ, w, hI', Ext.refl _ _, Nat.le_of_eq e2.symm, ev_wf hI' y, hs, .inl (by simp [execOp, hb, asBool, ev_den hI' y])⟩
    · exact ⟨_, σ', ρ, w, hI', Ext.refl _ _, Nat.le_of_eq e2.symm, ev_wf hI' x, hs, .inl (by simp [execOp, hb, asBool, ev_den hI' x])⟩
  · rename_i t
    obtain ⟨u, hu, hs⟩ := kO_sat h
    split at hs
    · rename_i hp
      refine newx_sound hI hs (by simp [C.wf]) ?_
      refine run_v (s := Instr.alloc t true (.tuple #[])) ?_
      simp only [Instr.alloc, Sem.run_bind, run_zeroValue hu ρ, Result.andThen_ok, newVar, newRow, U.den_cells ρ u (plain_of_all hp), run_newObj, Sem.run_pure]
      simp [C.den, World.alloc_eq]
    · exact hs.elim
  · rename_i t x
    split at h
    · rename_i u hu
      split at h
      · rename_i hp
        refine newx_sound hI h (by simp [C.wf]) ?_
        refine run_v (s := Instr.box t (a.eval x)) ?_
        have hd : a.eval x = u.den ρ := by rw [ev_den hI x, hu]; rfl
        rw [hd]
        simp only [Instr.box, Sem.run_bind, newVar, newRow, U.den_cells ρ u (plain_of_all hp), run_newObj, Result.andThen_ok, Sem.run_pure]
        simp [C.den, World.alloc_eq]
      · exact h.elim
    · exact h.elim
  · rename_i t parts
    obtain ⟨cs, hc, hs⟩ := kO_sat h
    split at hs
    · rename_i hw
      refine OpS.pure hI (show V.wf σ.n (.u (.agg cs)) = true from hw) hs ?_
      refine run_v (s := Instr.build t (parts.map fun q => (q.1, a.eval q.2))) ?_
      have := buildC_built hI hc
      exact run_build w t _ _ (by simpa using this)
    · exact hs.elim
  · rename_i t len parts
    obtain ⟨q, hq, hs⟩ := kO_sat h
    refine newx_sound hI hs (by simp [C.wf]) ?_
    have e := run_buildSlice hI hq
    have e2 : (parts.toList.map fun q => (q.1, a.eval q.2)).toArray = parts.map fun q => (q.1, a.eval q.2) := by
      apply Array.ext'; simp
    rw [e2] at e
    have e3 := run_v e
    have e4 : C.den (fun i => if i = σ.n then w.heap.size else ρ i) (.sl σ.n 0 len len) = .slice (some ⟨w.heap.size, 0, none⟩) len len := by simp [C.den]
    rw [e4]
    exact e3
  · rename_i t x
    split at h
    · rename_i id off hx
      obtain ⟨b, hb, hs⟩ := kO_sat h
      obtain ⟨u, hu, hs⟩ := kO_sat hs
      obtain ⟨_, hw, _⟩ := hI.H.blk id b hb
      refine OpS.pure hI (show V.wf σ.n (.u u) = true from ldC_wf hw hu) hs ?_
      refine run_v (s := Instr.loadAt t (a.eval x)) ?_
      have hd : a.eval x = .pointer (some ⟨ρ id, off, none⟩) := by rw [ev_den hI x, hx]; rfl
      simp only [hd, Instr.loadAt, Instr.sureAddr, Sem.run_bind, Sem.run_pure, Result.andThen_ok]
      exact run_loadVar hI.H hb hu
    · exact h.elim
  · rename_i t x y
    split at h
    · rename_i id off u hx hy
      obtain ⟨b, hb, hs⟩ := kO_sat h
      obtain ⟨hb, hlim⟩ := lookW_spec hb
      obtain ⟨sz, hz, hs⟩ := kO_sat hs
      split at hs
      · rename_i h1 h2 h3
        have h1' := Nat.eq_of_beq_eq_true h1
        have h2' := Nat.le_of_ble_eq_true h2
        have hwu : u.wf σ.n = true := by have := ev_wf hI y; rw [hy] at this; exact this
        subst h1'
        obtain ⟨w', e1, e2⟩ := run_storeVar (P := P) hI.H hb hlim hz h2' hwu h3
        have hd : a.eval x = .pointer (some ⟨ρ id, off, none⟩) := by rw [ev_den hI x, hx]; rfl
        have hd2 : a.eval y = u.den ρ := by rw [ev_den hI y, hy]; rfl
        refine ⟨_, _, ρ, w', hI.later (Ext.refl _ _) (Nat.le_refl _) e2, Ext.refl _ _, Nat.le_refl _, rfl, hs, .inr ⟨?_, rfl⟩⟩
        refine run_u (s := Instr.storeAt t (a.eval x) (a.eval y)) ?_
        simp only [hd, hd2, Instr.storeAt, Instr.sureAddr, Sem.run_bind, Sem.run_pure, Result.andThen_ok]
        exact e1
      · exact hs.elim
    · exact h.elim
  · rename_i x
    split at h
    · rename_i id off hx
      have hd : a.eval x = .pointer (some ⟨ρ id, off, none⟩) := by rw [ev_den hI x, hx]; rfl
      have hw := ev_wf hI x
      rw [hx] at hw
      exact OpS.pure hI hw h (by simp [execOp, hd, V.den, U.den, C.den])
    · rename_i f cs hx
      have hd : a.eval x = .func (.func f) #[] (cs.map (ptrV ρ)).toArray := by rw [ev_den hI x, hx]; rfl
      have hw := ev_wf hI x
      rw [hx] at hw
      exact OpS.pure hI hw h (by simp [execOp, hd, V.den, U.den, C.den])
    · exact h.elim
  · rename_i op t x y ty
    split at h
    · rename_i ux uy hx hy
      have hdx : a.eval x = ux.den ρ := by rw [ev_den hI x, hx]; rfl
      have hdy : a.eval y = uy.den ρ := by rw [ev_den hI y, hy]; rfl
      have gen : (kO (eqV P op t ux uy) fun c => k (.u (.c c)) σ).sat R → OpS P W n0 ρ0 N R ρ σ a w (execOp a.eval ⟨dst, .binOp op t x y ty, type, pos, after, guard⟩) k := by
        intro hg
        obtain ⟨c, hc, hs⟩ := kO_sat hg
        obtain ⟨e1, e2⟩ := eqV_run hc x y ρ w
        refine OpS.pure hI (show V.wf σ.n (.u (.c c)) = true from e2 _) hs ?_
        refine run_v (s := (do eqGuard op t x y (a.eval x) (a.eval y); binOp op t (a.eval x) (a.eval y))) ?_
        rw [hdx, hdy]
        exact e1
      split at h
      · rename_i cx cy
        split at h
        · rename_i lx kx nx ly ky ny hcx hcy
          have ht := binI_tells P w op t lx kx nx ly ky ny
          have hg : (eqGuard op t x y (.int kx nx) (.int ky ny)).run P w = .ok () w := by
            unfold eqGuard
            split <;> simp
          have fin : ∀ c, (binOp op t (.int kx nx) (.int ky ny)).run P w = .ok (c.den ρ) w → (∀ n, c.wf n = true) → (k (.u (.c c)) σ).sat R →
              OpS P W n0 ρ0 N R ρ σ a w (execOp a.eval ⟨dst, .binOp op t x y ty, type, pos, after, guard⟩) k := by
            intro c hr hw hs
            refine OpS.pure hI (show V.wf σ.n (.u (.c c)) = true from hw _) hs ?_
            refine run_v (s := (do eqGuard op t x y (a.eval x) (a.eval y); binOp op t (a.eval x) (a.eval y))) ?_
            rw [hdx, hdy]
            simp only [U.den, C.int_den hcx ρ, C.int_den hcy ρ, Sem.run_bind, hg, Result.andThen_ok]
            exact hr
          split at h
          · rename_i c hb
            rw [hb] at ht
            exact fin c (ht.2 ρ) ht.1 h
          · rename_i b c hb
            rw [hb] at ht
            obtain ⟨h1, h2⟩ := h
            cases b
            · exact fin c (ht.2 rfl ρ) ht.1 (h2 rfl)
            · exact (h1 rfl).elim
          · exact h.elim
        · split at h
          · rename_i b hb
            obtain ⟨c, hc, hs⟩ := kO_sat h
            obtain ⟨e1, e2⟩ := refOp_run hb hc hI.H x y rfl
            refine OpS.pure hI (show V.wf σ.n (.u (.c c)) = true from e2 _) hs ?_
            refine run_v (s := (do eqGuard op t x y (a.eval x) (a.eval y); binOp op t (a.eval x) (a.eval y))) ?_
            rw [hdx, hdy]
            exact e1
          · exact gen h
      · exact gen h
    · exact h.elim
  · rename_i op t x
    split at h
    · rename_i c hx
      obtain ⟨c', hc, hs⟩ := kO_sat h
      obtain ⟨e1, e2⟩ := run_unC hc ρ w
      have hd : a.eval x = c.den ρ := by rw [ev_den hI x, hx]; rfl
      exact OpS.pure hI (show V.wf σ.n (.u (.c c')) = true from e2 _) hs (run_v (s := Op.unary op (a.eval x)) (by rw [hd]; exact e1))
    · exact h.elim
  · rename_i src dst' x
    split at h
    · rename_i c hx
      obtain ⟨c', hc, hs⟩ := kO_sat h
      obtain ⟨e1, e2⟩ := run_convC hc ρ w
      have hd : a.eval x = c.den ρ := by rw [ev_den hI x, hx]; rfl
      exact OpS.pure hI (show V.wf σ.n (.u (.c c')) = true from e2 _) hs (run_v (s := convert src dst' (a.eval x)) (by rw [hd]; exact e1))
    · exact h.elim
  · rename_i fn first caps
    split at h
    · rename_i f
      split at h
      · rename_i hf
        obtain ⟨ps, hc, hs⟩ := kO_sat h
        obtain ⟨e1, e2⟩ := ptrsOf_spec hI _ _ hc
        refine OpS.pure hI (show V.wf σ.n (.u (.c (.fn f ps))) = true from e2) hs ?_
        refine run_v (s := Instr.makeFunc (.func f) (first.map a.eval) (caps.map a.eval)) ?_
        have h0 : first = #[] := by simpa using hf
        subst h0
        have h1 : caps.map a.eval = (ps.map (ptrV ρ)).toArray := by
          apply Array.ext'
          simpa using e1
        rw [h1]
        simp [Instr.makeFunc, V.den, U.den, C.den]
      · exact h.elim
    · exact h.elim
  · rename_i s x f
    split at h
    · rename_i id off hx
      obtain ⟨d, hd0, hs⟩ := kO_sat h
      have hd : a.eval x = .pointer (some ⟨ρ id, off, none⟩) := by rw [ev_den hI x, hx]; rfl
      have hw := ev_wf hI x
      rw [hx] at hw
      refine OpS.pure hI (show V.wf σ.n (.u (.c (.ptr id (off + d)))) = true from hw) hs ?_
      refine run_v (s := Instr.fieldAt s (a.eval x) f) ?_
      rw [hd]
      exact run_fieldOff hd0 _ _ _
    · exact h.elim
  · rename_i t x f
    split at h
    · rename_i xs hx
      obtain ⟨u, hu, hs⟩ := kO_sat h
      have hd : a.eval x = .agg (dens ρ xs) := by rw [ev_den hI x, hx]; rfl
      have hw := ev_wf hI x
      rw [hx] at hw
      refine OpS.pure hI (show V.wf σ.n (.u u) = true from partC_wf hw hu) hs ?_
      refine run_v (s := Instr.field t (a.eval x) f) ?_
      rw [hd]
      exact run_partC hu ρ w
    · exact h.elim
  · rename_i t x ix
    split at h
    · rename_i cx ci hx hix
      obtain ⟨c, hc, hs⟩ := kO_sat h
      have hd : a.eval x = cx.den ρ := by rw [ev_den hI x, hx]; rfl
      have hd2 : a.eval ix = ci.den ρ := by rw [ev_den hI ix, hix]; rfl
      have hw := ev_wf hI x
      rw [hx] at hw
      obtain ⟨e1, e2⟩ := run_idxC hc hw ρ w
      refine OpS.pure hI (show V.wf σ.n (.u (.c c)) = true from e2) hs ?_
      refine run_v (s := Instr.indexAt t (a.eval x) (a.eval ix)) ?_
      rw [hd, hd2]
      exact e1
    · exact h.elim
  · rename_i x i
    obtain ⟨u, hu, hs⟩ := kO_sat h
    have hw := ev_wf hI x
    unfold tupC at hu
    split at hu
    · rename_i xs hx
      have hx0 : ev σ x = .tup xs := hx
      rw [hx0] at hw
      have hd : a.eval x = .tuple (xs.map (U.den ρ)).toArray := by rw [ev_den hI x, hx0]; rfl
      simp only [V.wf, List.all_eq_true] at hw
      refine OpS.pure hI (show V.wf σ.n (.u u) = true from hw u (List.mem_of_getElem? hu)) hs ?_
      refine run_v (s := Instr.extract (a.eval x) i) ?_
      rw [hd]
      simp [Instr.extract, hu, V.den]
    · cases hu
  · rename_i t r
    split at h
    · have hE : Ext σ.n ρ (fun i => if i = σ.n then w.heap.size else ρ i) := fun i hi => by simp [Nat.ne_of_lt hi]
      refine ⟨.u (.c (.mp σ.n)), _, _, _, hI.later hE (Nat.le_succ _) hI.H.allocM, hE, Nat.le_succ _, by simp [V.wf, U.wf, C.wf], h, .inl ?_⟩
      have e : C.den (fun i => if i = σ.n then w.heap.size else ρ i) (.mp σ.n) = .map (some w.heap.size) := by simp [C.den]
      show (execOp a.eval _).run P w = .ok (.value (C.den (fun i => if i = σ.n then w.heap.size else ρ i) (.mp σ.n))) _
      rw [e]
      exact run_v (s := Instr.makeMap t none) (run_makeMap t w)
    · exact h.elim
  · rename_i t m x v
    obtain ⟨σ', hσ, hs⟩ := kO_sat h
    obtain ⟨w', e1, e2, e3⟩ := run_insx hI hσ
    exact ⟨_, σ', ρ, w', e2, Ext.refl _ _, Nat.le_of_eq e3.symm, rfl, hs, .inr ⟨run_u (s := Instr.mapUpdate t (a.eval m) (a.eval x) (a.eval v)) e1, rfl⟩⟩
  · rename_i t m x v
    split at h
    · obtain ⟨σ', hσ, hs⟩ := kO_sat h
      obtain ⟨w', e1, e2, e3⟩ := run_insS hI hσ
      exact ⟨_, σ', ρ, w', e2, Ext.refl _ _, Nat.le_of_eq e3.symm, rfl, hs, .inr ⟨run_u (s := Instr.mapUpdate t (a.eval m) (a.eval x) (a.eval v)) e1, rfl⟩⟩
    · obtain ⟨σ', hσ, hs⟩ := kO_sat h
      obtain ⟨w', e1, e2, e3⟩ := run_insx hI hσ
      exact ⟨_, σ', ρ, w', e2, Ext.refl _ _, Nat.le_of_eq e3.symm, rfl, hs, .inr ⟨run_u (s := Instr.mapUpdate t (a.eval m) (a.eval x) (a.eval v)) e1, rfl⟩⟩
  · rename_i t x ix ok
    obtain ⟨v, hs, hv⟩ := lookup_path (W := W) (n0 := n0) (ρ0 := ρ0) (N := N) (ρ := ρ) h
    obtain ⟨h1, h2⟩ := hv a w hI
    exact OpS.pure hI h1 hs (run_v (s := Instr.lookup t (a.eval x) (a.eval ix) ok) h2)
  · rename_i t x
    split at h
    · rename_i c hx
      obtain ⟨c', hc, hs⟩ := kO_sat h
      have hw := ev_wf hI x
      rw [hx] at hw
      have hd : a.eval x = c.den ρ := by rw [ev_den hI x, hx]; rfl
      obtain ⟨e1, e2⟩ := run_ifaceC hc ρ w
      refine OpS.pure hI (show V.wf σ.n (.u (.c c')) = true from e2 _ hw) hs (run_v (s := Instr.makeInterface t (a.eval x)) ?_)
      rw [hd]
      exact e1
    · exact h.elim
  · rename_i x xt t ok
    split at h
    · rename_i c hx
      obtain ⟨v, hc, hs⟩ := kO_sat h
      have hw := ev_wf hI x
      rw [hx] at hw
      have hd : a.eval x = c.den ρ := by rw [ev_den hI x, hx]; rfl
      obtain ⟨e1, e2⟩ := run_tassertC (xt := xt) hc ρ w
      refine OpS.pure hI (e2 _ hw) hs (run_v (s := Instr.typeAssert (a.eval x) xt t ok) ?_)
      rw [hd]
      exact e1
    · exact h.elim
  · exact h.elim

end
end Go.Proofs.Ytnlohongffpkpaa.Sx
