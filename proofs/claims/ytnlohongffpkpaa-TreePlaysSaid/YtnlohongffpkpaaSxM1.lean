/- The symbolic executor: operations through pointers into the memory, and that they tell what the machine's do. A text of the session's own. -/
import Derived.Test.YtnlohongffpkpaaSxE
import Derived.Test.YtnlohongffpkpaaSxM0
namespace Go.Proofs.Ytnlohongffpkpaa.Sx
open Go

def isNp : V → Bool
  | .u (.c (.np _ _)) => true
  | _ => false
/-- Does the operation go through a pointer into the memory? -/
def onM (o : Op) (σ : St) : Bool :=
  match o with
  | .load _ x => isNp (ev σ x)
  | .store _ x _ => isNp (ev σ x)
  | .nilCheck x => isNp (ev σ x)
  | .fieldAddr _ x _ => isNp (ev σ x)
  | .binOp _ _ x y _ => isNp (ev σ x) || isNp (ev σ y)
  | .alloc t => σ.hp.mt.any (Nat.beq t)
  | .indexAddr _ x _ => isNp (ev σ x)
  | _ => false
def nzp (p : Int) : Bool := Nat.blt 0 p.toNat
def npOf : V → Option Int
  | .u (.c (.np p 0)) => some p
  | .u (.c .nilp) => some 0
  | _ => none
/-- May two pointers be compared: is one of them nil, or do both lead into the memory? -/
def cmpOK (m : Mem) (p q : Int) : Bool := Nat.beq p.toNat 0 || (Nat.beq q.toNat 0 || ((mgetW m p).isSome && (mgetW m q).isSome))
def peq (p q : Int) : Bool := Nat.beq p.toNat q.toNat
def ptrSz (P : Program) (t : TypeId) : Bool :=
  match P.underlying t with
  | some (.pointer e) => (match P.info? e with | some ie => notb (Nat.beq ie.size 0) | none => false)
  | _ => false
def pI : List Int → Int
  | p :: _ => p
  | [] => 0
def idxM (P : Program) (t : TypeId) (p : Int) (off : Nat) (kd : IntKind) (n : Int) (k : V → Tr) : Tr :=
  kO (idxC P t (.ptr 0 off) (.li kd n)) fun c => match c with | .ptr _ d => .br (nzp p) (k (.u (.c (.np p d)))) (.no 81) | _ => .no 81
/-- An array's length, and its elements' size. -/
def arrE (P : Program) (t : TypeId) : Option (Nat × Nat) := match P.underlying t with | some (.array len e) => (match tsz P e with | some sz => some (len, sz) | none => none) | _ => none
/-- an element's place -/
def aOff (off : Nat) (n : Int) (sz : Nat) : Nat := off + n.toNat * sz
def inR (n : Int) (len : Nat) : Bool := decide (0 ≤ n ∧ n < (len : Int))
def opxM (P : Program) (o : Op) (σ : St) (k : V → St → Tr) : Tr :=
  match o with
  | .load t x => match ev σ x with
    | .u (.c (.np p off)) => kO (ldM P t σ.hp.x p off) fun q => .br (okL σ.hp.x p off q.1) (k (.u q.2) σ) (.no 70)
    | _ => .no 71
  | .store t x y => match ev σ x, ev σ y with
    | .u (.c (.np p off)), .u u => kO (tsz P t) fun sz => (match Nat.beq sz u.cells.length, u.cells.all C.plain, u.wf 0, σ.hp.wr with
      | true, true, true, true => .br (okS σ.hp.x p off u.cells.length) (.letm (wrL σ.hp.x p off (u.cells.map (C.den fun _ => 0))) fun m => k (.tup []) { σ with hp := { σ.hp with x := m } }) (.no 72)
      | _, _, _, _ => .no 73)
    | _, _ => .no 74
  | .nilCheck x => match ev σ x with
    | .u (.c (.np p off)) => .br (nzp p) (k (.u (.c (.np p off))) σ) (.no 75)
    | _ => .no 75
  | .fieldAddr s x f => match ev σ x with
    | .u (.c (.np p off)) => kO (fieldOff P s f) fun d => .br (nzp p) (k (.u (.c (.np p (off + d)))) σ) (.no 76)
    | _ => .no 76
  | .binOp op t x y _ => kO (npOf (ev σ x)) fun p => kO (npOf (ev σ y)) fun q => (match ptrSz P t with
    | true => .br (cmpOK σ.hp.x p q) (match op with
      | .eql => k (.u (.c (.sb (peq p q)))) σ
      | .neq => k (.u (.c (.sb (bNot (peq p q))))) σ
      | _ => .no 77) (.no 78)
    | false => .no 79)
  | .alloc t => kO (tzero P t) fun u => (match u.cells.all C.plain with
    | true => .any (newQ σ.hp.x (dens (fun _ => 0) u.cells) t) fun y => k (.u (.c (.np (pI y.i) 0))) { σ with hp := { σ.hp with x := y.m } }
    | false => .no 80)
  | .indexAddr t x ix => match ev σ x, ev σ ix with
    | .u (.c (.np p off)), .u (.c (.li kd n)) => idxM P t p off kd n fun v => k v σ
    | .u (.c (.np p off)), .u (.c (.si _ n)) => kO (arrE P t) fun q => .br (nzp p) (.br (inR n q.1) (k (.u (.c (.np p (aOff off n q.2)))) σ) (.no 82)) (.no 81)
    | _, _ => .no 82
  | _ => .no 71
section
variable {P : Program} {W : World} {n0 : NL} {ρ0 : Nat → Nat} {N : Nat} {ρ : Nat → Nat} {σ : St} {a : Act} {w : World} {R : Leaf → Prop}

theorem npOf_den {v : V} {p : Int} (h : npOf v = some p) (ρ : Nat → Nat) : v.den ρ = pv p 0 := by
  unfold npOf at h
  split at h
  · cases h; rfl
  · cases h; rfl
  · cases h
theorem nz_at {p : Int} (h : nzp p = true) : ∃ a, p.toNat = a + 1 := by
  have : 0 < p.toNat := by simpa [nzp, Nat.blt_eq] using h
  exact ⟨p.toNat - 1, by omega⟩
theorem pv_at {p : Int} {a off : Nat} (h : p.toNat = a + 1) : pv p off = .pointer (some ⟨a, off, none⟩) := by
  unfold pv; rw [h]
theorem cmp_run {t : TypeId} {p q : Int} {hp : Hp} {n : Nat} (hz : ptrSz P t = true) (hH : HInv W n0 ρ0 ρ hp n w) (hok : cmpOK hp.x p q = true) :
    (binOp .eql t (pv p 0) (pv q 0)).run P w = .ok (.bool (peq p q)) w ∧ (binOp .neq t (pv p 0) (pv q 0)).run P w = .ok (.bool (notb (peq p q))) w ∧
      ∀ (op : BinOp) (ox oy : Operand), (eqGuard op t ox oy (pv p 0) (pv q 0)).run P w = .ok () w := by
  have key : ∀ (x y : Option Addr) (b : Bool), (∀ d, (Op.equalIn (d + 1) t (.pointer x) (.pointer y)).run P w = .ok b w) →
      (binOp .eql t (.pointer x) (.pointer y)).run P w = .ok (.bool b) w ∧ (binOp .neq t (.pointer x) (.pointer y)).run P w = .ok (.bool (notb b)) w ∧
      ∀ (op : BinOp) (ox oy : Operand), (eqGuard op t ox oy (.pointer x) (.pointer y)).run P w = .ok () w := by
    intro x y b hr
    have e := hr 9999
    refine ⟨by simp [binOp, Op.equal, Op.maxDepth, e], ?_, fun op ox oy => by unfold eqGuard; split <;> simp⟩
    simp only [binOp, Op.equal, Op.maxDepth, Sem.run_bind, e, Result.andThen_ok, Sem.run_pure]; cases b <;> rfl
  unfold ptrSz at hz
  split at hz
  rotate_left
  · cases hz
  rename_i e hu
  split at hz
  rotate_left
  · cases hz
  rename_i ie hie
  have hz : ie.size ≠ 0 := by
    intro e0; rw [e0] at hz; cases hz
  unfold pv peq
  cases hp0 : p.toNat with
  | zero =>
    cases hq0 : q.toNat with
    | zero => exact key none none true (fun d => by simp [Op.equalIn, run_underlying hu])
    | succ b => exact key none (some ⟨b, 0, none⟩) false (fun d => by simp [Op.equalIn, run_underlying hu])
  | succ a0 =>
    cases hq0 : q.toNat with
    | zero => exact key (some ⟨a0, 0, none⟩) none false (fun d => by simp [Op.equalIn, run_underlying hu])
    | succ b =>
      refine key (some ⟨a0, 0, none⟩) (some ⟨b, 0, none⟩) _ (fun d => ?_)
      by_cases hab : a0 = b
      · subst hab
        simp [Op.equalIn, run_underlying hu, sizeOf, typeInfo, hie, run_sameAddr_same]
      · have hne : (⟨a0, 0, none⟩ : Addr) ≠ ⟨b, 0, none⟩ := by
          intro e; simp only [Addr.mk.injEq, and_true] at e; exact hab e
        have hf : Nat.beq (a0 + 1) (b + 1) = false := Nat.beq_eq_false_iff.2 (by omega)
        simp only [cmpOK, hp0, hq0, Nat.beq, Bool.false_or, Bool.and_eq_true] at hok
        obtain ⟨c1, g1⟩ := Option.isSome_iff_exists.1 hok.1
        obtain ⟨c2, g2⟩ := Option.isSome_iff_exists.1 hok.2
        obtain ⟨a1, ty1, f1, k1⟩ := mgetW_at g1
        obtain ⟨a2, ty2, f2, k2⟩ := mgetW_at g2
        obtain rfl : a1 = a0 := by omega
        obtain rfl : a2 = b := by omega
        rw [hf]
        simp [Op.equalIn, run_underlying hu, sizeOf, typeInfo, hie, hz, run_sameAddr_other w hne (hH.mem.sub _ _ k1) (hH.mem.sub _ _ k2)]

theorem idxM_run {t : TypeId} {p : Int} {off : Nat} {kd : IntKind} {n : Int} {k : V → Tr} (h : (idxM P t p off kd n k).sat R) :
    ∃ a d, p.toNat = a + 1 ∧ (k (.u (.c (.np p d)))).sat R ∧ ∀ w, (Instr.indexAt t (.pointer (some ⟨a, off, none⟩)) (.int kd n)).run P w = .ok (.pointer (some ⟨a, d, none⟩)) w := by
  unfold idxM at h
  obtain ⟨c, hc, h⟩ := kO_sat h
  split at h
  · rename_i i d
    have hok : nzp p = true := by
      cases e : nzp p with
      | true => rfl
      | false => exact (h.2 e).elim
    obtain ⟨a, e1⟩ := nz_at hok
    refine ⟨a, d, e1, h.1 hok, fun w => ?_⟩
    exact (run_idxC (n := 1) hc rfl (fun _ => a) w).1
  · exact h.elim

/-- What an index into the memory comes to, whatever the world. -/
theorem opxM_index {t : TypeId} {x ix : Operand} {k : V → St → Tr} (h : (opxM P (.indexAddr t x ix) σ k).sat R) :
    ∃ p off a d, ev σ x = .u (.c (.np p off)) ∧ p.toNat = a + 1 ∧ (k (.u (.c (.np p d))) σ).sat R ∧ ∃ ci, ev σ ix = .u (.c ci) ∧ ∀ ρ w, (Instr.indexAt t (.pointer (some ⟨a, off, none⟩)) (C.den ρ ci)).run P w = .ok (.pointer (some ⟨a, d, none⟩)) w := by
  unfold opxM at h
  simp only at h
  split at h
  · rename_i p off kd n hx hix
    obtain ⟨a, d, e1, hs, e2⟩ := idxM_run h
    exact ⟨p, off, a, d, hx, e1, hs, _, hix, fun ρ w => e2 w⟩
  · rename_i p off kd n hx hix
    obtain ⟨q, hq, h⟩ := kO_sat h
    have hok : nzp p = true := by
      cases e : nzp p with
      | true => rfl
      | false => exact (h.2 e).elim
    replace h := h.1 hok
    have hin : inR n q.1 = true := by
      cases e : inR n q.1 with
      | true => rfl
      | false => exact (h.2 e).elim
    replace h := h.1 hin
    obtain ⟨a, e1⟩ := nz_at hok
    refine ⟨p, off, a, aOff off n q.2, hx, e1, h, _, hix, fun ρ w => ?_⟩
    have hb := of_decide_eq_true hin
    unfold arrE at hq
    split at hq
    · rename_i len e hu
      split at hq
      · rename_i sz hs
        cases hq
        simp [C.den, Instr.indexAt, run_underlying hu, asIntOf, Instr.sureAddr, hb.1, hb.2, run_sizeOf hs, add_at, aOff]
      · cases hq
    · cases hq
  · exact h.elim

theorem opxM_sound {o : Oper} {k : V → St → Tr} (hI : Inv W n0 ρ0 N ρ σ a w) (h : (opxM P o.op σ k).sat R) : OpS P W n0 ρ0 N R ρ σ a w (execOp a.eval o) k := by
  obtain ⟨dst, op, type, pos, after, guard⟩ := o
  simp only at h
  unfold opxM at h
  split at h
  · rename_i t x
    split at h
    · rename_i p off hx
      obtain ⟨q, hq, hs⟩ := kO_sat h
      have hok : okL σ.hp.x p off q.1 = true := by
        cases e : okL σ.hp.x p off q.1 with
        | true => rfl
        | false => exact (hs.2 e).elim
      obtain ⟨b, e1, e2, e3⟩ := run_loadM (P := P) (zs := q.1) (u := q.2) hI.H hq hok
      refine OpS.pure hI (show V.wf σ.n (.u q.2) = true from e3) (hs.1 hok) ?_
      refine run_v (s := Instr.loadAt t (a.eval x)) ?_
      have hd : a.eval x = .pointer (some ⟨b, off, none⟩) := by rw [ev_den hI x, hx]; exact pv_at e1
      simp only [hd, Instr.loadAt, Instr.sureAddr, Sem.run_bind, Sem.run_pure, Result.andThen_ok]
      exact e2
    · exact h.elim
  · rename_i t x y
    split at h
    · rename_i p off u hx hy
      obtain ⟨sz, hz, hs⟩ := kO_sat h
      split at hs
      · rename_i h1 h2 h3 h4
        have h1' := Nat.eq_of_beq_eq_true h1
        subst h1'
        have hok : okS σ.hp.x p off u.cells.length = true := by
          cases e : okS σ.hp.x p off u.cells.length with
          | true => rfl
          | false => exact (hs.2 e).elim
        obtain ⟨b, w', e1, e2, e3⟩ := run_storeM (P := P) hI.H hz h2 h3 h4 hok
        have hd : a.eval x = .pointer (some ⟨b, off, none⟩) := by rw [ev_den hI x, hx]; exact pv_at e1
        have hd2 : a.eval y = u.den ρ := by rw [ev_den hI y, hy]; rfl
        refine ⟨_, _, ρ, w', hI.later (Ext.refl _ _) (Nat.le_refl _) e3, Ext.refl _ _, Nat.le_refl _, rfl, hs.1 hok, .inr ⟨?_, rfl⟩⟩
        refine run_u (s := Instr.storeAt t (a.eval x) (a.eval y)) ?_
        simp only [hd, hd2, Instr.storeAt, Instr.sureAddr, Sem.run_bind, Sem.run_pure, Result.andThen_ok]
        exact e2
      · exact hs.elim
    · exact h.elim
  · rename_i x
    split at h
    · rename_i p off hx
      have hok : nzp p = true := by
        cases e : nzp p with
        | true => rfl
        | false => exact (h.2 e).elim
      obtain ⟨b, e1⟩ := nz_at hok
      have hd : a.eval x = .pointer (some ⟨b, off, none⟩) := by rw [ev_den hI x, hx]; exact pv_at e1
      exact OpS.pure hI rfl (h.1 hok) (by simp [execOp, hd, V.den, U.den, C.den, pv_at e1])
    · exact h.elim
  · rename_i s x f
    split at h
    · rename_i p off hx
      obtain ⟨d, hd0, hs⟩ := kO_sat h
      have hok : nzp p = true := by
        cases e : nzp p with
        | true => rfl
        | false => exact (hs.2 e).elim
      obtain ⟨b, e1⟩ := nz_at hok
      have hd : a.eval x = .pointer (some ⟨b, off, none⟩) := by rw [ev_den hI x, hx]; exact pv_at e1
      refine OpS.pure hI rfl (hs.1 hok) ?_
      refine run_v (s := Instr.fieldAt s (a.eval x) f) ?_
      rw [hd]
      have e2 : V.den ρ (.u (.c (.np p (off + d)))) = .pointer (some ⟨b, off + d, none⟩) := pv_at e1
      rw [e2]
      exact run_fieldOff hd0 _ _ _
    · exact h.elim
  · rename_i op t x y ty
    obtain ⟨p, hx, hs⟩ := kO_sat h
    obtain ⟨q, hy, hs⟩ := kO_sat hs
    split at hs
    · rename_i hz
      have hok : cmpOK σ.hp.x p q = true := by
        cases e : cmpOK σ.hp.x p q with
        | true => rfl
        | false => exact (hs.2 e).elim
      obtain ⟨g1, g2, g3⟩ := cmp_run hz hI.H hok
      have hdx : a.eval x = pv p 0 := by rw [ev_den hI x]; exact npOf_den hx ρ
      have hdy : a.eval y = pv q 0 := by rw [ev_den hI y]; exact npOf_den hy ρ
      have hs := hs.1 hok
      split at hs
      · refine OpS.pure hI rfl hs (run_v (s := (do eqGuard .eql t x y (a.eval x) (a.eval y); binOp .eql t (a.eval x) (a.eval y))) ?_)
        rw [hdx, hdy]
        simp only [Sem.run_bind, g3, Result.andThen_ok]
        exact g1
      · refine OpS.pure hI rfl hs (run_v (s := (do eqGuard .neq t x y (a.eval x) (a.eval y); binOp .neq t (a.eval x) (a.eval y))) ?_)
        rw [hdx, hdy]
        simp only [Sem.run_bind, g3, Result.andThen_ok]
        rw [g2]; cases peq p q <;> rfl
      · exact hs.elim
    · exact hs.elim
  · rename_i t
    obtain ⟨u, hu, hs⟩ := kO_sat h
    split at hs
    · rename_i hp
      have hw := tzero_wf hu 0
      have hs := hs ⟨[(w.heap.size : Int) + 1], [], [], alM σ.hp.x ((w.heap.size : Int) + 1) (dens (fun _ => 0) u.cells) t⟩ ⟨w.heap.size, rfl, hI.H.mem.fresh, rfl⟩
      have ed : dens (fun _ => 0) u.cells = dens ρ u.cells := dens_ext (n := 0) (fun i hi => by omega) u.cells (U.cells_wf u hw)
      refine ⟨_, _, ρ, w.alloc (.cells (dens ρ u.cells) t), hI.later (Ext.refl _ _) (Nat.le_refl _) (hI.H.fresh _ _), Ext.refl _ _, Nat.le_refl _, rfl, (ed ▸ hs), .inl ?_⟩
      refine run_v (s := Instr.alloc t true (.tuple #[])) ?_
      simp only [Instr.alloc, Sem.run_bind, run_zeroValue hu ρ, Result.andThen_ok, newVar, newRow, U.den_cells ρ u (plain_of_all hp), run_newObj, Sem.run_pure]
      simp [C.den, V.den, U.den, pI, pv, World.alloc_eq]
    · exact hs.elim
  · rename_i t x ix
    obtain ⟨p, off, c, d, hx, e1, hs, ci, hix, hr⟩ := opxM_index (P := P) (t := t) (x := x) (ix := ix) (k := k) h
    refine OpS.pure hI rfl hs (run_v (s := Instr.indexAt t (a.eval x) (a.eval ix)) ?_)
    have hd : a.eval x = .pointer (some ⟨c, off, none⟩) := by rw [ev_den hI x, hx]; exact pv_at e1
    have hd2 : a.eval ix = ci.den ρ := by rw [ev_den hI ix, hix]; rfl
    have e2 : V.den ρ (.u (.c (.np p d))) = .pointer (some ⟨c, d, none⟩) := pv_at e1
    rw [hd, hd2, e2]
    exact hr ρ w
  · exact h.elim

end
end Go.Proofs.Ytnlohongffpkpaa.Sx
