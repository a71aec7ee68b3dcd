import Derived.Test.YtnlohongffpkpaaLawOnceW1
import Derived.Maps.RangeRun
import Derived.LoopN
import Derived.Scope
import Derived.Orders
set_option linter.unusedVariables false
set_option linter.unusedSimpArgs false
section
/- The symbolic executor: operations on maps and slices that lie in the memory. A text of the session's own. -/
namespace Go.Proofs.Ytnlohongffpkpaa.Sx
open Go

def hdV : List Value → Value
  | [] => undef
  | x :: _ => x
def tlV : List Value → List Value
  | [] => []
  | _ :: r => r
def isSv : V → Bool
  | .u (.c (.sv _)) => true
  | _ => false
def mapKT (P : Program) (t : TypeId) : Option (TypeId × TypeId) := match P.underlying t with | some (.map kt et) => some (kt, et) | _ => none
def slE (P : Program) (t : TypeId) : Option TypeId := match P.underlying t with | some (.slice e) => some e | _ => none
/-- A value, told by a zero value of its type. -/
def rdE (z : C) (w : Value) : C :=
  match z with
  | .lb _ => .sb (vB w)
  | .li kd _ => .si kd (vI w)
  | .nilp => .np (vP w) 0
  | _ => .sv w
def cellAt (w : Value) (k : Nat) : Value := match w with | .agg ws => (ws[k]?).getD undef | _ => undef
def rdEl (w : Value) : Nat → List C → List C
  | _, [] => []
  | k, z :: r => rdE z (cellAt w k) :: rdEl w (k + 1) r
def rdU (z : U) (w : Value) : U := match z with | .c c => .c (rdE c w) | .agg zs => .agg (rdEl w 0 zs)
def okU (z : U) (w : Value) : Bool :=
  match z with
  | .c c => okC c w
  | .agg zs => (match w with | .agg ws => Nat.beq ws.size zs.length && okR ws 0 zs | _ => false)
def den0 (u : U) : Value := u.den fun _ => 0
def lkZ (m : Mem) (v k z : Value) : Value := (mlook m v k).getD z
def lkR (ok : Bool) (u : U) (b : Bool) : V := match ok with | true => .tup [u, .c (.sb b)] | false => .u u
def svOf : V → Option Value
  | .u (.c (.sv v)) => some (pl v)
  | .u (.c (.raw (.slice none n c))) => some (.slice none n c)
  | _ => none
def bndOf (σ : St) (o : Option Operand) (d : Int) : Option Int :=
  match o with
  | none => some d
  | some x => match ev σ x with
    | .u (.c c) => (match c.int? with | some q => some q.2.2 | none => none)
    | _ => none
def isNilS : Value → Bool
  | .slice none _ _ => true
  | _ => false
def isSlV : Value → Bool
  | .slice _ _ _ => true
  | _ => false
/-! interface values whose dynamic value is a pointer -/
def isIfV : Value → Bool
  | .nilIface => true
  | .iface _ (.pointer none) => true
  | .iface _ (.pointer (some ⟨_, 0, none⟩)) => true
  | _ => false
def isNilIf : Value → Bool
  | .nilIface => true
  | _ => false
def ifIs (t : TypeId) : Value → Bool
  | .iface u _ => Nat.beq u t
  | _ => false
def ifP (t : TypeId) : Value → Int
  | .iface u (.pointer (some ⟨a, 0, none⟩)) => (match Nat.beq u t with | true => (a : Int) + 1 | false => 0)
  | _ => 0
def mkIf (t : TypeId) (p : Int) : Value := .iface t (pv p 0)
def isNpV : V → Bool
  | .u (.c (.np _ _)) => true
  | _ => false
/-- a new slice's value -/
def slOf (p : Int) (n : Nat) : Value := match p.toNat with | 0 => .slice none 0 0 | a + 1 => .slice (some ⟨a, 0, none⟩) n n
def ifaceTs : List TypeId := [112, 24]
/-- What a test for nil asks, and tells. -/
def constO : Operand → Bool
  | .const _ => true
  | _ => false
def nilQ (P : Program) (t : TypeId) (c : Bool) (x y : V) : Option (Bool × Bool) :=
  match P.underlying t with
  | some (.map _ _) => (match x, y with
    | .u (.c (.sv v)), .u (.c (.raw (.map none))) => some (isMpV (pl v), isNilM (pl v))
    | _, _ => none)
  | some (.slice _) => (match x, y with
    | .u (.c (.sv v)), .u (.c (.raw (.slice none 0 0))) => some (isSlV (pl v), isNilS (pl v))
    | _, _ => none)
  | some (.interface _) => (match c, x, y with
    | true, .u (.c (.sv v)), .u (.c (.raw .nilIface)) => some (isIfV (pl v), isNilIf (pl v))
    | _, _, _ => none)
  | _ => none
def bO (op : BinOp) (b : Bool) : Option C :=
  match op with
  | .eql => some (.sb b)
  | .neq => some (.sb (bNot b))
  | _ => none
def alO (m : Mem) (a : Nat) (o : Obj) : Mem := fun b => if b = a then some o else m b
def newMQ (m : Mem) (y : Vars) : Prop := ∃ a : Nat, m a = none ∧ y.v = [.map (some a)] ∧ y.m = alO m a (.map #[] 0)
/-- Does the operation take a value of the memory? -/
def onR (o : Op) (σ : St) : Bool :=
  match o with
  | .lookup _ x _ _ => isSv (ev σ x)
  | .mapUpdate _ x _ _ => isSv (ev σ x)
  | .indexAddr _ x _ => isSv (ev σ x)
  | .slice _ _ _ _ _ => true
  | .binOp _ _ x y _ => isSv (ev σ x) || isSv (ev σ y)
  | .makeMap t _ => σ.hp.mt.any (Nat.beq t)
  | .box t _ => σ.hp.mt.any (Nat.beq t)
  | .buildSlice t _ _ => σ.hp.mt.any (Nat.beq t)
  | .typeAssert x _ _ _ => isSv (ev σ x)
  | .makeInterface _ x => isNpV (ev σ x)
  | _ => false
def opxR (P : Program) (o : Op) (σ : St) (k : V → St → Tr) : Tr :=
  match o with
  | .lookup t x ix ok => (match ev σ x, ev σ ix with
    | .u (.c (.sv v)), .u uk => kO (mapKT P t) fun q => kO (tzero P q.2) fun z => (match uk.wf 0 with
      | true => .req (Go.Maps.Keyed P q.1 ∧ okM P q.1 σ.hp.x (pl v) ∧ okKey P q.1 (den0 uk) ∧ okU z (lkZ σ.hp.x (pl v) (den0 uk) (den0 z)) = true)
          (k (lkR ok (rdU z (lkZ σ.hp.x (pl v) (den0 uk) (den0 z))) (mhas σ.hp.x (pl v) (den0 uk))) σ)
      | false => .no 100)
    | _, _ => .no 101)
  | .mapUpdate t m x v => (match ev σ m, ev σ x, ev σ v with
    | .u (.c (.sv mv)), .u uk, .u uv => kO (mapKT P t) fun q => (match uk.wf 0, uv.wf 0, σ.hp.wr with
      | true, true, true => .req (Go.Maps.Keyed P q.1 ∧ okM P q.1 σ.hp.x (pl mv) ∧ isNilM (pl mv) = false ∧ okKey P q.1 (den0 uk))
          (.letm (mput σ.hp.x (pl mv) (den0 uk) (den0 uv)) fun m => k (.tup []) { σ with hp := { σ.hp with x := m } })
      | _, _, _ => .no 102)
    | _, _, _ => .no 103)
  | .indexAddr t x ix => (match ev σ x, ev σ ix with
    | .u (.c (.sv v)), .u (.c ci) => kO ci.int? fun q => kO (slE P t) fun e => kO (tsz P e) fun sz =>
        .br (inSl (pl v) q.2.2) (k (.u (.c (.np (slB (pl v)) (aOff (slO (pl v)) q.2.2 sz)))) σ) (.no 104)
    | _, _ => .no 106)
  | .slice t x lo hi mx => (match mx with
    | none => kO (svOf (ev σ x)) fun v => kO (slE P t) fun e => kO (tsz P e) fun sz => kO (bndOf σ lo 0) fun l => kO (bndOf σ hi (slN v)) fun h =>
        .br (cutSl v l h) (k (.u (.c (.sv (cutV v sz l h)))) σ) (.no 107)
    | some _ => .no 108)
  | .binOp op t x y _ => kO (nilQ P t (constO y) (ev σ x) (ev σ y)) fun q => .br q.1 (kO (bO op q.2) fun c => k (.u (.c c)) σ) (.no 109)
  | .makeMap _ r => (match r, σ.hp.wr with
    | none, true => .any (newMQ σ.hp.x) fun y => k (.u (.c (.sv (hdV y.v)))) { σ with hp := { σ.hp with x := y.m } }
    | _, _ => .no 110)
  | .box t x => (match ev σ x with
    | .u u => (match u.cells.all C.plain, u.wf 0, σ.hp.wr with
      | true, true, true => .any (newQ σ.hp.x (dens (fun _ => 0) u.cells) t) fun y => k (.u (.c (.np (pI y.i) 0))) { σ with hp := { σ.hp with x := y.m } }
      | _, _, _ => .no 111)
    | _ => .no 112)
  | .buildSlice t len parts => kO (slC P σ t len parts.toList) fun q => (match q.1.all C.plain, q.1.all (C.wf 0), σ.hp.wr with
    | true, true, true => .any (newQ σ.hp.x (dens (fun _ => 0) q.1) q.2) fun y => k (.u (.c (.sv (slOf (pI y.i) len)))) { σ with hp := { σ.hp with x := y.m } }
    | _, _, _ => .no 114)
  | .typeAssert x _ t ok => (match ev σ x, P.underlying t, tzero P t, ok with
    | .u (.c (.sv v)), some (.pointer _), some (.c .nilp), true => .br (isIfV (pl v)) (k (.tup [.c (.np (ifP t (pl v)) 0), .c (.sb (ifIs t (pl v)))]) σ) (.no 130)
    | _, _, _, _ => .no 131)
  | .makeInterface t x => (match ev σ x, P.underlying t with
    | .u (.c (.np p 0)), some (.pointer _) => k (.u (.c (.sv (mkIf t p)))) σ
    | _, _ => .no 132)
  | _ => .no 113
/-- An operation, through the memory or not. -/
def opX (P : Program) (o : Op) (σ : St) (k : V → St → Tr) : Tr :=
  match onR o σ with
  | true => opxR P o σ k
  | false => (match onM o σ with | true => opxM P o σ k | false => opx P o σ k)

section
variable {P : Program} {W : World} {n0 : NL} {ρ0 : Nat → Nat} {N : Nat} {ρ : Nat → Nat} {σ : St} {a : Act} {w : World} {R : Leaf → Prop}

theorem rdE_den (ρ : Nat → Nat) {z : C} {v : Value} (h : okC z v = true) : (rdE z v).den ρ = v := by
  cases z with
  | lb b => cases v <;> simp [okC, isB] at h; simp [rdE, C.den, vB]
  | li kd n => cases v <;> simp [okC, isK] at h; simp [rdE, C.den, vI, h]
  | nilp =>
    simp only [rdE, C.den]
    replace h : isP v = true := h
    unfold isP at h
    split at h
    · rfl
    · rename_i a
      simp only [vP, pv]
      rw [show ((a : Int) + 1).toNat = a + 1 by omega]
    · cases h
  | _ => simp only [rdE, C.den]; cases v <;> first | rfl | (cases h; done)
theorem rdE_wf (z : C) (v : Value) (n : Nat) : (rdE z v).wf n = true := by cases z <;> rfl
theorem rdEl_wf (v : Value) (n : Nat) : ∀ (zs : List C) (k : Nat), (rdEl v k zs).all (C.wf n) = true
  | [], _ => rfl
  | z :: r, k => by simp [rdEl, rdE_wf, rdEl_wf v n r]
theorem rdU_wf (z : U) (v : Value) (n : Nat) : (rdU z v).wf n = true := by
  cases z with
  | c c => exact rdE_wf c v n
  | agg zs => exact rdEl_wf v n zs 0
theorem rdEl_den (ρ : Nat → Nat) {ws : Array Value} : ∀ {zs : List C} {k : Nat}, okR ws k zs = true → k + zs.length = ws.size → (rdEl (.agg ws) k zs).map (C.den ρ) = ws.toList.drop k
  | [], k, _, hl => by
    simp only [rdEl, List.map_nil]
    rw [List.drop_eq_nil_of_le]
    rw [Array.length_toList]; simp at hl; omega
  | z :: r, k, h, hl => by
    simp only [okR, Bool.and_eq_true] at h
    obtain ⟨h1, h2⟩ := h
    simp only [List.length_cons] at hl
    split at h1
    · rename_i v e
      have ih := rdEl_den ρ h2 (by omega)
      have hk : k < ws.toList.length := by rw [Array.length_toList]; omega
      rw [List.drop_eq_getElem_cons hk]
      simp only [rdEl, List.map_cons, ih]
      have : cellAt (.agg ws) k = v := by simp [cellAt, e]
      rw [this, rdE_den ρ h1]
      have e2 : ws.toList[k] = v := by
        have := List.getElem?_eq_getElem hk
        rw [Array.getElem?_toList, e] at this
        exact (Option.some.inj this).symm
      rw [e2]
    · cases h1
theorem rdU_den (ρ : Nat → Nat) {z : U} {v : Value} (h : okU z v = true) : (rdU z v).den ρ = v := by
  cases z with
  | c c => exact rdE_den ρ h
  | agg zs =>
    simp only [okU] at h
    split at h
    · rename_i ws
      simp only [Bool.and_eq_true] at h
      have e := rdEl_den ρ h.2 (by have := Nat.eq_of_beq_eq_true h.1; omega)
      simp only [rdU, U.den, dens, e, List.drop_zero]
    · cases h
theorem den0_eq {u : U} (h : u.wf 0 = true) (ρ : Nat → Nat) : u.den ρ = den0 u := V.den_ext (n := 0) (ρ := fun _ => 0) (ρ' := ρ) (fun i hi => by omega) (.u u) h

theorem br_no' {b : Bool} {T : Tr} {n : Nat} (h : (Tr.br b T (.no n)).sat R) : b = true ∧ T.sat R := by
  cases b with
  | true => exact ⟨rfl, h.1 rfl⟩
  | false => exact (h.2 rfl).elim

theorem svOf_den {v : V} {x : Value} (h : svOf v = some x) (ρ : Nat → Nat) : v.den ρ = x := by
  unfold svOf at h
  split at h
  · cases h; rfl
  · cases h; rfl
  · cases h
theorem bnd_run {o : Option Operand} {d l : Int} (h : bndOf σ o d = some l) (hI : Inv W n0 ρ0 N ρ σ a w) : (o = none ∧ l = d) ∨ ∃ x k, o = some x ∧ a.eval x = .int k l := by
  cases o with
  | none => cases h; exact .inl ⟨rfl, rfl⟩
  | some x =>
    simp only [bndOf] at h
    split at h
    · rename_i c hc
      split at h
      · rename_i q hq
        cases h
        exact .inr ⟨x, q.2.1, rfl, by rw [ev_den hI x, hc]; exact C.int_den hq ρ⟩
      · cases h
    · cases h

theorem run_sliceBound {x : Value} {k : IntKind} {l : Int} {y : Nat} {code : BoundsCode} (hx : x = .int k l) (h0 : 0 ≤ l) (h1 : l ≤ y) (w : World) : (Instr.sliceBound x y code).run P w = .ok l.toNat w := by
  subst hx
  simp [Instr.sliceBound, asIntOf, h0, h1]

theorem cut_run {t e : TypeId} {sz : Nat} (hu : P.underlying t = some (.slice e)) (hz : tsz P e = some sz) {v : Value} {l h : Int} {lo hi : Option Value} (hok : cutSl v l h = true)
    (hl : (lo = none ∧ l = 0) ∨ ∃ k, lo = some (.int k l)) (hh : (hi = none ∧ h = (slN v : Int)) ∨ ∃ k, hi = some (.int k h)) (w : World) :
    (Instr.slice t v lo hi none).run P w = .ok (pl (cutV v sz l h)) w := by
  simp only [cutSl, Bool.and_eq_true, decide_eq_true_eq] at hok
  obtain ⟨h1, h2, h3, h4⟩ := hok
  cases v with
  | slice ad n c =>
    have hhb : (Instr.sliceBounds true n c lo hi none).run P w = .ok (l.toNat, h.toNat, c) w := by
      simp only [slK] at h4
      rcases hl with ⟨rfl, rfl⟩ | ⟨kl, rfl⟩ <;> rcases hh with ⟨rfl, rfl⟩ | ⟨kh, rfl⟩
      · simp [Instr.sliceBounds, slN]
      · simp [Instr.sliceBounds, run_sliceBound (P := P) (y := c) rfl (show (0 : Int) ≤ h by omega) h4]
      · simp [Instr.sliceBounds, slN, run_sliceBound (P := P) (y := n) rfl h2 (by simpa [slN] using h3)]
      · simp [Instr.sliceBounds, run_sliceBound (P := P) (y := c) rfl (show (0 : Int) ≤ h by omega) h4, run_sliceBound (P := P) (y := h.toNat) rfl h2 (by omega)]
    simp only [Instr.slice, Sem.run_bind, run_underlying hu, Result.andThen_ok, hhb, run_sizeOf hz, Sem.run_pure]
    cases ad with
    | none =>
      simp only [isSl, Bool.and_eq_true] at h1
      have e1 := Nat.eq_of_beq_eq_true h1.1
      have e2 := Nat.eq_of_beq_eq_true h1.2
      subst e1; subst e2
      simp only [slK] at h4
      have : l.toNat = 0 := by omega
      have : h.toNat = 0 := by omega
      simp [cutV, pl, *]
    | some ad =>
      obtain ⟨b, o, sp⟩ := ad
      cases sp with
      | some _ => cases h1
      | none =>
        simp only [cutV, pl]
        split
        · rfl
        · simp [add_at]
  | _ => cases h1

def pureR : Op → Bool
  | .lookup _ _ _ _ => true
  | .indexAddr _ _ _ => true
  | .slice _ _ _ _ _ => true
  | .binOp _ _ _ _ _ => true
  | .typeAssert _ _ _ _ => true
  | .makeInterface _ _ => true
  | _ => false
theorem nilQ_run {t : TypeId} {c : Bool} {x y : V} {q : Bool × Bool} (hq : nilQ P t c x y = some q) (hok : q.1 = true) (ρ : Nat → Nat) :
    ∃ vx vy, x.den ρ = vx ∧ y.den ρ = vy ∧ (∀ op ox oy, (c = true → constO oy = true) → (eqGuard op t ox oy vx vy).run P w = .ok () w) ∧ (binOp .eql t vx vy).run P w = .ok (.bool q.2) w ∧ (binOp .neq t vx vy).run P w = .ok (.bool (!q.2)) w := by
  unfold nilQ at hq
  split at hq
  · rename_i kt et hu
    split at hq
    · rename_i v
      cases hq
      refine ⟨pl v, .map none, rfl, rfl, ?_⟩
      simp only at hok
      generalize pl v = u at hok
      cases u with
      | map r =>
        have e : ∀ d, (Op.equalIn (d + 1) t (.map r) (.map none)).run P w = .ok (isNilM (.map r)) w := fun d => by cases r <;> simp [Op.equalIn, run_underlying hu, isNilM]
        have e := e 9999
        refine ⟨fun op ox oy _ => by unfold eqGuard; split <;> simp, ?_, ?_⟩
        · simp only [binOp, Op.equal, Op.maxDepth, Sem.run_bind, e, Result.andThen_ok, Sem.run_pure]
        · simp only [binOp, Op.equal, Op.maxDepth, Sem.run_bind, e, Result.andThen_ok, Sem.run_pure]
      | _ => cases hok
    · cases hq
  · rename_i et hu
    split at hq
    · rename_i v
      cases hq
      refine ⟨pl v, .slice none 0 0, rfl, rfl, ?_⟩
      simp only at hok
      generalize pl v = u at hok
      cases u with
      | slice r n c =>
        have e : ∀ d, (Op.equalIn (d + 1) t (.slice r n c) (.slice none 0 0)).run P w = .ok (isNilS (.slice r n c)) w := fun d => by cases r <;> simp [Op.equalIn, run_underlying hu, isNilS]
        have e := e 9999
        refine ⟨fun op ox oy _ => by unfold eqGuard; split <;> simp, ?_, ?_⟩
        · simp only [binOp, Op.equal, Op.maxDepth, Sem.run_bind, e, Result.andThen_ok, Sem.run_pure]
        · simp only [binOp, Op.equal, Op.maxDepth, Sem.run_bind, e, Result.andThen_ok, Sem.run_pure]
      | _ => cases hok
    · cases hq
  · rename_i it hu
    split at hq
    · rename_i v
      cases hq
      refine ⟨pl v, .nilIface, rfl, rfl, ?_⟩
      simp only at hok
      generalize pl v = u at hok
      have e : ∀ d, (Op.equalIn (d + 1) t u .nilIface).run P w = .ok (isNilIf u) w := fun d => by
        unfold isIfV at hok
        split at hok
        · simp [Op.equalIn, run_underlying hu, isNilIf]
        · simp [Op.equalIn, run_underlying hu, isNilIf]
        · simp [Op.equalIn, run_underlying hu, isNilIf]
        · cases hok
      have e := e 9999
      refine ⟨fun op ox oy hc => ?_, ?_, ?_⟩
      · have hc := hc rfl
        cases oy <;> simp [constO] at hc
        unfold isIfV at hok
        split at hok
        · unfold eqGuard; split <;> simp
        · unfold eqGuard; split <;> simp
        · unfold eqGuard; split <;> simp
        · cases hok
      · simp only [binOp, Op.equal, Op.maxDepth, Sem.run_bind, e, Result.andThen_ok, Sem.run_pure]
      · simp only [binOp, Op.equal, Op.maxDepth, Sem.run_bind, e, Result.andThen_ok, Sem.run_pure]
    · cases hq
  · cases hq

/-- What a single operation that leaves the world as it is comes to. -/
theorem opxR_path {o : Oper} {k : V → St → Tr} (hp : pureR o.op = true) (h : (opxR P o.op σ k).sat R) :
    ∃ v, (k v σ).sat R ∧ ∀ a w, Inv W n0 ρ0 N ρ σ a w → v.wf σ.n = true ∧ (execOp a.eval o).run P w = .ok (.value (v.den ρ)) w := by
  obtain ⟨dst, op, type, pos, after, guard⟩ := o
  simp only at h hp
  unfold opxR at h
  split at h
  · rename_i t x ix ok
    split at h
    · rename_i v uk hx hix
      obtain ⟨q, hq, h⟩ := kO_sat h
      obtain ⟨z, hz, h⟩ := kO_sat h
      split at h
      · rename_i hw
        obtain ⟨⟨r1, r2, r3, r4⟩, h⟩ := h
        refine ⟨_, h, fun a w hI => ⟨?_, ?_⟩⟩
        · cases ok
          · exact rdU_wf _ _ _
          · simp only [lkR, V.wf, List.all_cons, List.all_nil, rdU_wf, Bool.true_and, Bool.and_true]; rfl
        · obtain ⟨kt, et⟩ := q
          have hu : P.underlying t = some (.map kt et) := by
            unfold mapKT at hq; split at hq
            · rename_i hu; cases hq; exact hu
            · cases hq
          have hd1 : a.eval x = pl v := by rw [ev_den hI x, hx]; rfl
          have hd2 : a.eval ix = den0 uk := by rw [ev_den hI ix, hix]; exact den0_eq hw ρ
          refine run_v (s := Instr.lookup t (a.eval x) (a.eval ix) ok) ?_
          rw [hd1, hd2, run_lookupM r1 hu hI.H.mem.sub r2 r3 (run_zeroValue hz (fun _ => 0) w) ok]
          have e := rdU_den ρ r4
          cases ok
          · simp only [Bool.false_eq_true, if_false, lkR, V.den]
            rw [e]; rfl
          · simp only [if_true, lkR, V.den, List.map_cons, List.map_nil]
            rw [e]; rfl
      · exact h.elim
    · exact h.elim
  · cases hp
  · rename_i t x ix
    split at h
    · rename_i v ci hx hix
      obtain ⟨q, hq, h⟩ := kO_sat h
      obtain ⟨e, he, h⟩ := kO_sat h
      obtain ⟨sz, hz, h⟩ := kO_sat h
      obtain ⟨hok, h⟩ := br_no' h
      refine ⟨_, h, fun a w hI => ⟨rfl, ?_⟩⟩
      have hu : P.underlying t = some (.slice e) := by
        unfold slE at he; split at he
        · rename_i hu; cases he; exact hu
        · cases he
      obtain ⟨lx, kx, nx⟩ := q
      have hd1 : a.eval x = pl v := by rw [ev_den hI x, hx]; rfl
      have hd2 : a.eval ix = .int kx nx := by rw [ev_den hI ix, hix]; exact C.int_den hq ρ
      simp only [inSl, Bool.and_eq_true, decide_eq_true_eq] at hok
      obtain ⟨b, o, c, e1, e2, e3⟩ := slB_at hok.1 (by omega)
      refine run_v (s := Instr.indexAt t (a.eval x) (a.eval ix)) ?_
      have hden : V.den ρ (.u (.c (.np (slB (pl v)) (aOff (slO (pl v)) nx sz)))) = .pointer (some ⟨b, o + nx.toNat * sz, none⟩) := by
        rw [e3]
        exact pv_at (by omega)
      rw [hden, hd1, hd2, e1]
      generalize slN (pl v) = len at hok
      simp [Instr.indexAt, run_underlying hu, asIntOf, hok.2.1, hok.2.2, run_sizeOf hz, add_at]
    · exact h.elim
  · rename_i t x lo hi mx
    split at h
    · obtain ⟨v, hv, h⟩ := kO_sat h
      obtain ⟨e, he, h⟩ := kO_sat h
      obtain ⟨sz, hz, h⟩ := kO_sat h
      obtain ⟨l, hl, h⟩ := kO_sat h
      obtain ⟨hh, hhh, h⟩ := kO_sat h
      obtain ⟨hok, h⟩ := br_no' h
      refine ⟨_, h, fun a w hI => ⟨rfl, ?_⟩⟩
      have hu : P.underlying t = some (.slice e) := by
        unfold slE at he; split at he
        · rename_i hu; cases he; exact hu
        · cases he
      have hd1 : a.eval x = v := by rw [ev_den hI x]; exact svOf_den hv ρ
      refine run_v (s := Instr.sliceAt t (a.eval x) (lo.map a.eval) (hi.map a.eval) none) ?_
      rw [hd1]
      have esl : ∀ lo hi, (Instr.sliceAt t v lo hi none).run P w = (Instr.slice t v lo hi none).run P w := fun lo hi => by simp only [Instr.sliceAt, Sem.run_bind, run_underlying hu, Result.andThen_ok]
      rw [esl]
      refine cut_run hu hz hok ?_ ?_ w
      · rcases bnd_run hl hI with ⟨rfl, rfl⟩ | ⟨y, k, rfl, e1⟩
        · exact .inl ⟨rfl, rfl⟩
        · exact .inr ⟨k, by simp [e1]⟩
      · rcases bnd_run hhh hI with ⟨rfl, rfl⟩ | ⟨y, k, rfl, e1⟩
        · exact .inl ⟨rfl, rfl⟩
        · exact .inr ⟨k, by simp [e1]⟩
    · exact h.elim
  · rename_i op t x y ty
    obtain ⟨q, hq, h⟩ := kO_sat h
    obtain ⟨hok, h⟩ := br_no' h
    obtain ⟨c, hc, h⟩ := kO_sat h
    refine ⟨_, h, fun a w hI => ?_⟩
    obtain ⟨vx, vy, hx, hy, e1, e2, e3⟩ := nilQ_run (P := P) (w := w) hq hok ρ
    have hd1 : a.eval x = vx := by rw [ev_den hI x]; exact hx
    have hd2 : a.eval y = vy := by rw [ev_den hI y]; exact hy
    unfold bO at hc
    split at hc
    · cases hc
      refine ⟨rfl, run_v (s := (do eqGuard .eql t x y (a.eval x) (a.eval y); binOp .eql t (a.eval x) (a.eval y))) ?_⟩
      rw [hd1, hd2]
      simp only [Sem.run_bind, e1 _ _ _ (fun h => h), Result.andThen_ok]
      exact e2
    · cases hc
      refine ⟨rfl, run_v (s := (do eqGuard .neq t x y (a.eval x) (a.eval y); binOp .neq t (a.eval x) (a.eval y))) ?_⟩
      rw [hd1, hd2]
      simp only [Sem.run_bind, e1 _ _ _ (fun h => h), Result.andThen_ok]
      exact e3
    · cases hc
  · cases hp
  · cases hp
  · cases hp
  · rename_i x xt t ok
    split at h
    · rename_i v e hx hu hz
      obtain ⟨hok, h⟩ := br_no' h
      refine ⟨_, h, fun a w hI => ⟨rfl, ?_⟩⟩
      have hd1 : a.eval x = pl v := by rw [ev_den hI x, hx]; rfl
      refine run_v (s := Instr.typeAssert (a.eval x) xt t true) ?_
      rw [hd1]
      have ez := run_zeroValue hz (fun _ => 0) w
      generalize pl v = u at hok
      have fail : ∀ (d : Option TypeId), (do if true = true then pure (Value.tuple #[← zeroValue t, .bool false]) else runtimePanic (.typeAssertion (some xt) d t "") : Sem Value).run P w = .ok (.tuple #[.pointer none, .bool false]) w := fun d => by
        simp [ez]; rfl
      unfold isIfV at hok
      split at hok
      · simp only [Instr.typeAssert, Sem.run_bind, run_underlying hu, Result.andThen_ok]
        exact fail none
      · rename_i u'
        by_cases hut : u' = t
        · subst hut
          simp [Instr.typeAssert, run_underlying hu, V.den, U.den, C.den, ifP, ifIs, pv]
        · have hb : Nat.beq u' t = false := Nat.beq_eq_false_iff.2 hut
          simp only [Instr.typeAssert, Sem.run_bind, run_underlying hu, Result.andThen_ok, if_neg hut]
          refine (fail (some u')).trans ?_
          simp [V.den, U.den, C.den, ifP, ifIs, hb, pv]
      · rename_i u' b'
        by_cases hut : u' = t
        · subst hut
          have hp1 : ((b' : Int) + 1).toNat = b' + 1 := by omega
          simp [Instr.typeAssert, run_underlying hu, V.den, U.den, C.den, ifP, ifIs, pv, hp1]
        · have hb : Nat.beq u' t = false := Nat.beq_eq_false_iff.2 hut
          simp only [Instr.typeAssert, Sem.run_bind, run_underlying hu, Result.andThen_ok, if_neg hut]
          refine (fail (some u')).trans ?_
          simp [V.den, U.den, C.den, ifP, ifIs, hb, pv]
      · cases hok
    · exact h.elim
  · rename_i t x
    split at h
    · rename_i p e hx hu
      refine ⟨_, h, fun a w hI => ⟨rfl, ?_⟩⟩
      have hd1 : a.eval x = pv p 0 := by rw [ev_den hI x, hx]; rfl
      refine run_v (s := Instr.makeInterface t (a.eval x)) ?_
      rw [hd1]
      simp [Instr.makeInterface, run_underlying hu, V.den, U.den, C.den, mkIf, pl]
    · exact h.elim
  · exact h.elim

theorem opxR_sound {o : Oper} {k : V → St → Tr} (hI : Inv W n0 ρ0 N ρ σ a w) (h : (opxR P o.op σ k).sat R) : OpS P W n0 ρ0 N R ρ σ a w (execOp a.eval o) k := by
  cases hp : pureR o.op with
  | true =>
    obtain ⟨v, hs, hv⟩ := opxR_path (W := W) (n0 := n0) (ρ0 := ρ0) (N := N) (ρ := ρ) hp h
    obtain ⟨h1, h2⟩ := hv a w hI
    exact OpS.pure hI h1 hs h2
  | false =>
  obtain ⟨dst, op, type, pos, after, guard⟩ := o
  simp only at h hp
  unfold opxR at h
  split at h
  · cases hp
  · rename_i t m x v
    split at h
    · rename_i mv uk uv hm hx hv
      obtain ⟨q, hq, h⟩ := kO_sat h
      split at h
      · rename_i hw1 hw2 hwr
        obtain ⟨⟨r1, r2, r3, r4⟩, h⟩ := h
        obtain ⟨kt, et⟩ := q
        have hu : P.underlying t = some (.map kt et) := by
          unfold mapKT at hq; split at hq
          · rename_i hu; cases hq; exact hu
          · cases hq
        have hd1 : a.eval m = pl mv := by rw [ev_den hI m, hm]; rfl
        have hd2 : a.eval x = den0 uk := by rw [ev_den hI x, hx]; exact den0_eq hw1 ρ
        have hd3 : a.eval v = den0 uv := by rw [ev_den hI v, hv]; exact den0_eq hw2 ρ
        obtain ⟨w', e1, e2⟩ := run_updateM r1 hu hI.H hwr r2 r3 r4 (x := den0 uv)
        refine ⟨_, _, ρ, w', hI.later (Ext.refl _ _) (Nat.le_refl _) e2, Ext.refl _ _, Nat.le_refl _, rfl, h, .inr ⟨?_, rfl⟩⟩
        refine run_u (s := Instr.mapUpdate t (a.eval m) (a.eval x) (a.eval v)) ?_
        rw [hd1, hd2, hd3]
        exact e1
      · exact h.elim
    · exact h.elim
  · cases hp
  · cases hp
  · cases hp
  · rename_i t r
    split at h
    · rename_i hwr
      have hlt := hI.H.mem.fresh
      have hs := h ⟨[], [], [.map (some w.heap.size)], alO σ.hp.x w.heap.size (.map #[] 0)⟩ ⟨w.heap.size, hlt, rfl, rfl⟩
      refine ⟨_, _, ρ, w.alloc (.map #[] 0), hI.later (Ext.refl _ _) (Nat.le_refl _) (HInv.freshO hI.H (.map #[] 0)), Ext.refl _ _, Nat.le_refl _, rfl, hs, .inl ?_⟩
      exact run_v (s := Instr.makeMap t none) (run_makeMap t w)
    · exact h.elim
  · rename_i t x
    split at h
    · rename_i u hx
      split at h
      · rename_i hp1 hw1 hwr
        have hs := h ⟨[(w.heap.size : Int) + 1], [], [], alM σ.hp.x ((w.heap.size : Int) + 1) (dens (fun _ => 0) u.cells) t⟩ ⟨w.heap.size, rfl, hI.H.mem.fresh, rfl⟩
        have ed : dens (fun _ => 0) u.cells = dens ρ u.cells := dens_ext (n := 0) (fun i hi => by omega) u.cells (U.cells_wf u hw1)
        refine ⟨_, _, ρ, w.alloc (.cells (dens ρ u.cells) t), hI.later (Ext.refl _ _) (Nat.le_refl _) (hI.H.fresh _ _), Ext.refl _ _, Nat.le_refl _, rfl, (ed ▸ hs), .inl ?_⟩
        refine run_v (s := Instr.box t (a.eval x)) ?_
        have hd : a.eval x = u.den ρ := by rw [ev_den hI x, hx]; rfl
        rw [hd]
        simp only [Instr.box, Sem.run_bind, newVar, newRow, U.den_cells ρ u (plain_of_all hp1), run_newObj, Result.andThen_ok, Sem.run_pure]
        simp [C.den, V.den, U.den, pI, pv, World.alloc_eq]
      · exact h.elim
    · exact h.elim
  · rename_i t len parts
    obtain ⟨q, hq, h⟩ := kO_sat h
    split at h
    · rename_i hp1 hw1 hwr
      have hs := h ⟨[(w.heap.size : Int) + 1], [], [], alM σ.hp.x ((w.heap.size : Int) + 1) (dens (fun _ => 0) q.1) q.2⟩ ⟨w.heap.size, rfl, hI.H.mem.fresh, rfl⟩
      have ed : dens (fun _ => 0) q.1 = dens ρ q.1 := dens_ext (n := 0) (fun i hi => by omega) q.1 hw1
      refine ⟨_, _, ρ, w.alloc (.cells (dens ρ q.1) q.2), hI.later (Ext.refl _ _) (Nat.le_refl _) (hI.H.fresh _ _), Ext.refl _ _, Nat.le_refl _, rfl, (ed ▸ hs), .inl ?_⟩
      have e := run_buildSlice hI hq
      have e2 : (parts.toList.map fun q => (q.1, a.eval q.2)).toArray = parts.map fun q => (q.1, a.eval q.2) := by
        apply Array.ext'; simp
      rw [e2] at e
      have e4 : V.den ρ (.u (.c (.sv (slOf (pI [(w.heap.size : Int) + 1]) len)))) = .slice (some ⟨w.heap.size, 0, none⟩) len len := by
        show pl (slOf ((w.heap.size : Int) + 1) len) = _
        unfold slOf
        rw [show ((w.heap.size : Int) + 1).toNat = w.heap.size + 1 by omega]; rfl
      rw [e4]
      exact run_v e
    · exact h.elim
  · cases hp
  · cases hp
  · exact h.elim

theorem opX_sound {o : Oper} {k : V → St → Tr} (hI : Inv W n0 ρ0 N ρ σ a w) (h : (opX P o.op σ k).sat R) : OpS P W n0 ρ0 N R ρ σ a w (execOp a.eval o) k := by
  unfold opX at h
  split at h
  · exact opxR_sound hI h
  · split at h
    · exact opxM_sound hI h
    · exact opx_sound hI h

/-! builtins -/
def svIn : List V → Bool
  | v :: _ => isSv v
  | [] => false
/-- Is it a builtin over the memory? -/
def isBM (b : Builtin) (args : List V) : Bool :=
  match b with
  | .append => true
  | .len => svIn args
  | .cap => svIn args
  | .delete => svIn args
  | _ => false
/-- What an append's second argument has: how many elements, their cells; what is asked. -/
def srcOf (P : Program) (σ : St) (tx : TypeId) (sz : Nat) (v : V) : Option (Bool × Nat × List Value) :=
  match P.underlying tx with
  | some (.slice _) => (match v with
    | .u (.c (.sl id off len _)) => (match lookH σ.hp id with
      | some b => (match takeC b.1 off (len * sz) with
        | some cs => (match cs.all C.plain, cs.all (C.wf 0) with
          | true, true => some (true, len, cs.map (C.den fun _ => 0))
          | _, _ => none)
        | none => none)
      | none => none)
    | v => (match svOf v with
      | some x => some (okSl σ.hp.x x sz, slN x, rowL σ.hp.x x sz)
      | none => none))
  | _ => none
def bytesOf (P : Program) (e : TypeId) : Option Nat := (P.info? e).map (·.bytes)
def appX (P : Program) (t tx : TypeId) (x y : V) (σ : St) (k : V → St → Tr) : Tr :=
  kO (svOf x) fun v => kO (slE P t) fun e => kO (tsz P e) fun sz => kO (bytesOf P e) fun bytes => kO (tzero P e) fun z => kO (srcOf P σ tx sz y) fun q => (match σ.hp.wr with
    | true => .br q.1 (.br (appOK σ.hp.x v sz bytes q.2.1 q.2.2) (.any (appQ σ.hp.x v sz (den0 z).cells.toList e q.2.1 q.2.2) fun r => k (.u (.c (.sv (hdV r.v)))) { σ with hp := { σ.hp with x := r.m } }) (.no 120)) (.no 121)
    | false => .no 122)
def bltM (P : Program) (b : Builtin) (ts : List TypeId) (args : List V) (σ : St) (k : V → St → Tr) : Tr :=
  match b with
  | .len => (match ts, args with
    | [t], [.u (.c (.sv v))] => (match P.underlying t with
      | some (.slice _) => .br (isSlV (pl v)) (k (.u (.c (.si .i64 (slN (pl v))))) σ) (.no 123)
      | some (.map kt _) => .req (okM P kt σ.hp.x (pl v)) (k (.u (.c (.si .i64 (mlen σ.hp.x (pl v))))) σ)
      | _ => .no 124)
    | _, _ => .no 125)
  | .append => (match ts, args with
    | [t, tx], [x, y] => appX P t tx x y σ k
    | _, _ => .no 126)
  | .delete => (match ts, args with
    | t :: _, [.u (.c (.sv v)), .u uk] => kO (mapKT P t) fun q => (match uk.wf 0, σ.hp.wr with
      | true, true => .req (Go.Maps.Keyed P q.1 ∧ okM P q.1 σ.hp.x (pl v) ∧ okKey P q.1 (den0 uk)) (.letm (mdel σ.hp.x (pl v) (den0 uk)) fun m => k (.tup []) { σ with hp := { σ.hp with x := m } })
      | _, _ => .no 127)
    | _, _ => .no 128)
  | _ => .no 129

/-- What a builtin comes to. -/
def BltS (P : Program) (W : World) (n0 : NL) (ρ0 : Nat → Nat) (N : Nat) (R : Leaf → Prop) (ρ : Nat → Nat) (σ : St) (a : Act) (w : World) (s : Sem Next) (k : V → St → Tr) : Prop :=
  ∃ v σ' ρ' w', Inv W n0 ρ0 N ρ' σ' a w' ∧ Ext σ.n ρ ρ' ∧ σ.n ≤ σ'.n ∧ v.wf σ'.n = true ∧ (k v σ').sat R ∧ s.run P w = .ok (.value (v.den ρ')) w'

theorem src_run {tx : TypeId} {sz : Nat} {v : V} {q : Bool × Nat × List Value} (hq : srcOf P σ tx sz v = some q) (hok : q.1 = true) (hI : Inv W n0 ρ0 N ρ σ a w) (hv : v.wf σ.n = true) : Src P sz tx (v.den ρ) q.2.1 q.2.2 w := by
  unfold srcOf at hq
  split at hq
  · rename_i e' hu
    split at hq
    · rename_i id off len cap
      split at hq
      · rename_i b hb
        split at hq
        · rename_i cs hcs
          split at hq
          · rename_i h1 h2
            cases hq
            obtain ⟨rfl, hl⟩ := takeC_spec hcs
            have e0 : ((b.1.drop off).take (len * sz)).map (C.den fun _ => 0) = ((b.1.drop off).take (len * sz)).map (C.den ρ) := by
              simp only [List.all_eq_true] at h2
              exact List.map_congr_left fun x hx => (C.den_ext (n := 0) (ρ := fun _ => 0) (ρ' := ρ) (fun i hi => by omega) x (h2 x hx)).symm
            refine Src.ofSlice w hu ⟨ρ id, off, none⟩ len cap _ ?_ (fun j u hj => ?_) (fun u hu' => ?_)
            · rw [List.length_map]; exact hl
            · rw [add_at, hI.H.cell hb]
              have hjl : j < len * sz := by
                have := (List.getElem?_eq_some_iff.1 hj).1
                rw [List.length_map, List.length_take] at this; omega
              rw [e0, List.getElem?_map] at hj
              rw [List.getElem?_take_of_lt hjl, List.getElem?_drop] at hj
              exact hj
            · rw [e0] at hu'
              obtain ⟨c, hc, rfl⟩ := List.mem_map.1 hu'
              simp only [List.all_eq_true] at h1
              have := C.den_plain ρ c (h1 c hc)
              cases hd : C.den ρ c <;> first | rfl | exact absurd hd (this.1 _) | exact absurd hd (this.2 _)
          · cases hq
        · cases hq
      · cases hq
    · split at hq
      · rename_i x hx
        cases hq
        rw [svOf_den hx ρ]
        simp only at hok ⊢
        unfold okSl at hok
        split at hok
        · rename_i n c
          simp only [Bool.and_eq_true] at hok
          have e1 := Nat.eq_of_beq_eq_true hok.1
          have e2 := Nat.eq_of_beq_eq_true hok.2
          subst e1; subst e2
          exact Src.ofNil w hu 0
        · rename_i b o n c
          simp only [Bool.and_eq_true] at hok
          obtain ⟨h1, h2⟩ := hok
          have h1 := Nat.le_of_ble_eq_true h1
          split at h2
          · rename_i cs hcs
            simp only [Bool.and_eq_true, List.all_eq_true] at h2
            have h3 := Nat.le_of_ble_eq_true h2.1
            have hR : rowL σ.hp.x (.slice (some ⟨b, o, none⟩) n c) sz = (cs.toList.drop o).take (n * sz) := by
              simp only [rowL, slB, slO, slN, mgetW_get hcs]
            have hsz : n * sz ≤ c * sz := Nat.mul_le_mul_right _ h1
            rw [hR]
            refine Src.ofSlice w hu ⟨b, o, none⟩ n c _ ?_ (fun j u hj => ?_) (fun u hu' => ?_)
            · rw [List.length_take, List.length_drop, Array.length_toList]; omega
            · rw [add_at, (mget_cell hI.H.mem.sub hcs _).1]
              have hjl : j < n * sz := by
                have := (List.getElem?_eq_some_iff.1 hj).1
                rw [List.length_take] at this; omega
              rw [List.getElem?_take_of_lt hjl, List.getElem?_drop, Array.getElem?_toList] at hj
              exact hj
            · exact oneCell_of (h2.2 u (List.mem_of_mem_drop (List.mem_of_mem_take hu')))
          · cases h2
        · cases hok
      · cases hq
  · cases hq

theorem bltM_sound {b : Builtin} {ts : Array TypeId} {args : List V} {k : V → St → Tr} (hI : Inv W n0 ρ0 N ρ σ a w) (hargs : args.all (V.wf σ.n) = true) (h : (bltM P b ts.toList args σ k).sat R) (ty : TypeId) (ks : Array Bool) :
    BltS P W n0 ρ0 N R ρ σ a w (builtin b ts ty ks (args.map (V.den ρ)).toArray) k := by
  unfold bltM at h
  split at h
  · split at h
    · rename_i t v hts
      have hts' : ts[0]? = some t := by rw [← Array.getElem?_toList, hts]; rfl
      split at h
      · rename_i e hu
        obtain ⟨hok, h⟩ := br_no' h
        refine ⟨_, σ, ρ, w, hI, Ext.refl _ _, Nat.le_refl _, rfl, h, ?_⟩
        have : (builtin .len ts ty ks ([V.u (.c (.sv v))].map (V.den ρ)).toArray).run P w = ((do pure (Next.value (← Builtin.len_ ts ty #[pl v])) : Sem Next)).run P w := rfl
        rw [this]
        refine run_v (s := Builtin.len_ ts ty #[pl v]) ?_
        cases hv : pl v with
        | slice ad n c => simp [Builtin.len_, hts', run_underlying hu, goInt, V.den, U.den, C.den, slN]
        | _ => rw [hv] at hok; cases hok
      · rename_i kt et hu
        obtain ⟨hok, h⟩ := h
        refine ⟨_, σ, ρ, w, hI, Ext.refl _ _, Nat.le_refl _, rfl, h, ?_⟩
        have : (builtin .len ts ty ks ([V.u (.c (.sv v))].map (V.den ρ)).toArray).run P w = ((do pure (Next.value (← Builtin.len_ ts ty #[pl v])) : Sem Next)).run P w := rfl
        rw [this]
        exact run_v (s := Builtin.len_ ts ty #[pl v]) (run_lenM hts' hu hI.H.mem.sub hok)
      · exact h.elim
    · exact h.elim
  · split at h
    · rename_i t tx x y hts
      unfold appX at h
      obtain ⟨v, hv, h⟩ := kO_sat h
      obtain ⟨e, he, h⟩ := kO_sat h
      obtain ⟨sz, hz, h⟩ := kO_sat h
      obtain ⟨bytes, hb, h⟩ := kO_sat h
      obtain ⟨z, hzz, h⟩ := kO_sat h
      obtain ⟨q, hq, h⟩ := kO_sat h
      split at h
      · rename_i hwr
        obtain ⟨h1, hA⟩ := br_no' h
        clear h
        obtain ⟨h2, hB⟩ := br_no' hA
        clear hA
        have hu : P.underlying t = some (.slice e) := by
          unfold slE at he; split at he
          · rename_i hu; cases he; exact hu
          · cases he
        unfold tsz at hz
        unfold bytesOf at hb
        cases hi : P.info? e with
        | none => rw [hi] at hz; cases hz
        | some i =>
          rw [hi] at hz hb
          cases hz; cases hb
          have hzero : ∃ zv, i.zero = some zv ∧ den0 z = zv := by
            unfold tzero at hzz
            rw [hi] at hzz
            simp only at hzz
            split at hzz
            · rename_i zv hzv; cases hzz; exact ⟨zv, hzv, U.den_ofValue _ zv⟩
            · cases hzz
          obtain ⟨zv, hzv, ez⟩ := hzero
          have hywf : y.wf σ.n = true := by
            simp only [List.all_cons, Bool.and_eq_true] at hargs
            exact hargs.2.1
          have hs := src_run hq h1 hI hywf
          obtain ⟨w', r, g1, g2, g3⟩ := run_append_M (ty := ty) hu hi hzv hI.H hwr h2 hs
          rw [ez] at hB
          have hsat := hB r g2
          have htsA : ts = #[t, tx] := by apply Array.ext'; simpa using hts
          refine ⟨_, _, ρ, w', hI.later (Ext.refl _ _) (Nat.le_refl _) g3, Ext.refl _ _, Nat.le_refl _, rfl, hsat, ?_⟩
          have hden : V.den ρ (.u (.c (.sv (hdV r.v)))) = r.v.headD undef := by
            rcases g2 with ⟨_, e1, _⟩ | ⟨_, a', c', _, _, e1, _⟩
            · rw [e1]
              cases v with
              | slice a' n' c' => rfl
              | _ => simp [appOK, okSl] at h2
            · rw [e1]; rfl
          rw [hden]
          have : (builtin .append ts ty ks ([x, y].map (V.den ρ)).toArray).run P w = ((do pure (Next.value (← Builtin.append_ ts ty #[V.den ρ x, V.den ρ y])) : Sem Next)).run P w := rfl
          rw [this, htsA, svOf_den hv ρ]
          exact run_v (s := Builtin.append_ #[t, tx] ty #[v, V.den ρ y]) g1
      · exact h.elim
    · exact h.elim
  · split at h
    · rename_i t ts' v uk hts
      have hts' : ts[0]? = some t := by rw [← Array.getElem?_toList, hts]; rfl
      obtain ⟨q, hq, h⟩ := kO_sat h
      split at h
      · rename_i hw1 hwr
        obtain ⟨⟨r1, r2, r3⟩, h⟩ := h
        obtain ⟨kt, et⟩ := q
        have hu : P.underlying t = some (.map kt et) := by
          unfold mapKT at hq; split at hq
          · rename_i hu; cases hq; exact hu
          · cases hq
        obtain ⟨w', e1, e2⟩ := run_deleteM (ty := ty) hts' r1 hu hI.H hwr r2 r3
        refine ⟨_, _, ρ, w', hI.later (Ext.refl _ _) (Nat.le_refl _) e2, Ext.refl _ _, Nat.le_refl _, rfl, h, ?_⟩
        have : (builtin .delete ts ty ks ([V.u (.c (.sv v)), V.u uk].map (V.den ρ)).toArray).run P w = ((do pure (Next.value (← Builtin.delete_ ts ty #[pl v, uk.den ρ])) : Sem Next)).run P w := rfl
        rw [this, den0_eq hw1 ρ]
        exact run_v (s := Builtin.delete_ ts ty #[pl v, den0 uk]) e1
      · exact h.elim
    · exact h.elim
  · exact h.elim
end
end Go.Proofs.Ytnlohongffpkpaa.Sx
end

section
/- The symbolic executor: a range over a map of the memory. A text of the session's own. -/
namespace Go.Proofs.Ytnlohongffpkpaa.Sx
open Go

def hdB : List Bool → Bool
  | [] => false
  | x :: _ => x
/-- a new iterator of a map -/
def itNew (m : Mem) (v : Value) : Obj :=
  match v with
  | .map (some r) => (match m r with | some (.map _ c) => .mapIter (some r) c #[] c | _ => .mapIter none 0 #[] 0)
  | _ => .mapIter none 0 #[] 0
def rngOK (m : Mem) (v : Value) : Prop := ∃ r es c, v = .map (some r) ∧ m r = some (.map es c)
def newIQ (m : Mem) (v : Value) (y : Vars) : Prop := ∃ a : Nat, m a = none ∧ y.i = [(a : Int) + 1] ∧ y.m = alO m a (itNew m v)
/-- an iterator at p, over the map at r -/
def itAt (m : Mem) (p : Int) (r since : Nat) (seen : Array Nat) (last : Nat) (es : Array MapEntry) (c : Nat) : Prop :=
  ∃ a : Nat, p = (a : Int) + 1 ∧ m a = some (.mapIter (some r) since seen last) ∧ m r = some (.map es c)
def nxtOK (kz vz : U) (m : Mem) (p : Int) : Prop := ∃ r since seen last es c, itAt m p r since seen last es c ∧ since ≤ last ∧ ∀ e ∈ es.toList, e.born < since ∧ okU kz e.key = true ∧ okU vz e.val = true
def nxtQ (m : Mem) (p : Int) (y : Vars) : Prop := ∀ r since seen last es c, itAt m p r since seen last es c →
  (y.b = [false] ∧ y.m = m ∧ (leftOf es seen).size = 0) ∨
  (∃ e ∈ (leftOf es seen).toList, y.b = [true] ∧ y.v = [e.key, e.val] ∧ y.m = alO m (p.toNat - 1) (.mapIter (some r) since (seen.push e.born) c))
/-- the entry that an iterator stands at -/
def entAt (m : Mem) (p : Int) : Option MapEntry :=
  match p.toNat with
  | 0 => none
  | a + 1 => match m a with
    | some (.mapIter (some r) _ seen last) => (match m r, seen.back? with
      | some (.map es c), some b => (match Nat.beq c last with | true => es.find? (·.born == b) | false => none)
      | _, _ => none)
    | _ => none
def entK (m : Mem) (p : Int) : Value := match entAt m p with | some e => e.key | none => undef
def entV (m : Mem) (p : Int) : Value := match entAt m p with | some e => e.val | none => undef
def entOK (kz vz : U) (m : Mem) (p : Int) : Prop := (entAt m p).isSome = true ∧ okU kz (entK m p) = true ∧ okU vz (entV m p) = true
/-- which map's key and element a step tells: a hint, no matter of soundness -/
def rngT (P : Program) : List Nat → Option (TypeId × TypeId)
  | [] => none
  | t :: r => match Nat.ble 1000000 t with | true => mapKT P (t - 1000000) | false => rngT P r
def twoZ (P : Program) (k v : TypeId) : Option (U × U) := match tzero P k, tzero P v with | some kz, some vz => some (kz, vz) | _, _ => none
def isRng (o : Op) (σ : St) : Bool :=
  match o with
  | .range _ x => isSv (ev σ x)
  | .next x _ => isNp (ev σ x)
  | .entry x => isNp (ev σ x)
  | _ => false
def rngX (P : Program) (o : Op) (σ : St) (k : V → St → Tr) : Tr :=
  match o with
  | .range t x => (match ev σ x, σ.hp.wr with
    | .u (.c (.sv v)), true => kO (mapKT P t) fun _ => .req (rngOK σ.hp.x (pl v)) (.any (newIQ σ.hp.x (pl v)) fun y => k (.u (.c (.np (pI y.i) 0))) { σ with hp := { σ.hp with x := y.m } })
    | _, _ => .no 140)
  | .next x s => (match ev σ x, s, σ.hp.wr, rngT P σ.hp.mt with
    | .u (.c (.np p 0)), false, true, some (kt, vt) => kO (twoZ P kt vt) fun z => .req (nxtOK z.1 z.2 σ.hp.x p) (.any (nxtQ σ.hp.x p) fun y => .br ((hdB y.b))
        (k (.tup [.c (.lb true), rdU z.1 (hdV y.v), rdU z.2 (hdV (tlV y.v))]) { σ with hp := { σ.hp with x := y.m } }) (k (.tup [.c (.lb false)]) { σ with hp := { σ.hp with x := y.m } }))
    | _, _, _, _ => .no 141)
  | .entry x => (match ev σ x, rngT P σ.hp.mt with
    | .u (.c (.np p 0)), some (kt, vt) => kO (twoZ P kt vt) fun z => .req (entOK z.1 z.2 σ.hp.x p) (k (.tup [rdU z.1 (entK σ.hp.x p), rdU z.2 (entV σ.hp.x p)]) σ)
    | _, _ => .no 142)
  | _ => .no 143

section
variable {P : Program} {W : World} {n0 : NL} {ρ0 : Nat → Nat} {N : Nat} {R : Leaf → Prop} {ρ : Nat → Nat} {σ : St} {a : Act} {w : World}
theorem itAt_heap {hp : Hp} {n : Nat} {p : Int} {r since last c : Nat} {seen : Array Nat} {es : Array MapEntry} (h : HInv W n0 ρ0 ρ hp n w) (hi : itAt hp.x p r since seen last es c) :
    ∃ b : Nat, p = (b : Int) + 1 ∧ hp.x b = some (.mapIter (some r) since seen last) ∧ w.heap[b]? = some (.mapIter (some r) since seen last) ∧ w.heap[r]? = some (.map es c) := by
  obtain ⟨b, h1, h2, h3⟩ := hi
  exact ⟨b, h1, h2, h.mem.sub b _ h2, h.mem.sub r _ h3⟩
theorem pv_it {p : Int} {b : Nat} (h : p = (b : Int) + 1) : pv p 0 = .pointer (some ⟨b, 0, none⟩) := by
  subst h; unfold pv; rw [show (((b : Int) + 1).toNat) = b + 1 by omega]
theorem rngX_sound {o : Oper} {k : V → St → Tr} (hI : Inv W n0 ρ0 N ρ σ a w) (h : (rngX P o.op σ k).sat R) : OpS P W n0 ρ0 N R ρ σ a w (execOp a.eval o) k := by
  obtain ⟨dst, op, type, pos, after, guard⟩ := o
  simp only at h
  unfold rngX at h
  split at h
  · rename_i t x
    split at h
    · rename_i v hx hwr
      obtain ⟨q, hq, h⟩ := kO_sat h
      obtain ⟨⟨r, es, c, hv, hr⟩, h⟩ := h
      have hu : P.underlying t = some (.map q.1 q.2) := by
        unfold mapKT at hq; split at hq
        · rename_i hu; cases hq; exact hu
        · cases hq
      have hd : a.eval x = .map (some r) := by rw [ev_den hI x, hx]; exact hv
      have hb := hI.H.mem.sub r _ hr
      have hs := h ⟨[(w.heap.size : Int) + 1], [], [], alO σ.hp.x w.heap.size (itNew σ.hp.x (pl v))⟩ ⟨w.heap.size, hI.H.mem.fresh, rfl, rfl⟩
      have hin : itNew σ.hp.x (pl v) = .mapIter (some r) c #[] c := by simp only [itNew, hv, hr]
      refine ⟨_, _, ρ, w.alloc (itNew σ.hp.x (pl v)), hI.later (Ext.refl _ _) (Nat.le_refl _) (HInv.freshO hI.H (itNew σ.hp.x (pl v))), Ext.refl _ _, Nat.le_refl _, rfl, hs, .inl ?_⟩
      refine run_v (s := Instr.range t (a.eval x)) ?_
      rw [hd, hin, run_range_map w t q.1 q.2 r es c hu hb]
      simp [V.den, U.den, C.den, pI, pv]
    · exact h.elim
  · rename_i x s
    split at h
    · rename_i p kt vt hx hwr ht
      obtain ⟨z, hz, h⟩ := kO_sat h
      obtain ⟨⟨r, since, seen, last, es, c, hi, hsl, hes⟩, h⟩ := h
      obtain ⟨b, hpb, hxb, hwb, hwr'⟩ := itAt_heap hI.H hi
      have hd : a.eval x = .pointer (some ⟨b, 0, none⟩) := by rw [ev_den hI x, hx]; exact pv_it hpb
      have hlt : b < w.heap.size := (Array.getElem?_eq_some_iff.1 hwb).1
      rcases run_next_at (P := P) w type b r since last seen es c hwb hwr' (fun e he => (hes e he).1) hsl with ⟨h0, hrun⟩ | ⟨e, he, w1, hal, hrun⟩
      · have hs := h ⟨[], [false], [], σ.hp.x⟩ (fun r' since' seen' last' es' c' hi' => by
          obtain ⟨b', hpb', hxb', _, hwr2⟩ := itAt_heap hI.H hi'
          obtain rfl : b' = b := by omega
          rw [hxb] at hxb'; cases hxb'
          rw [hwr'] at hwr2; cases hwr2
          exact .inl ⟨rfl, rfl, h0⟩)
        have hs := hs.2 rfl
        refine ⟨_, _, ρ, w, hI, Ext.refl _ _, Nat.le_refl _, rfl, hs, .inl ?_⟩
        refine run_v (s := Instr.next (a.eval x) false type) ?_
        rw [hd, hrun]; rfl
      · have hs := h ⟨[], [true], [e.key, e.val], alO σ.hp.x (p.toNat - 1) (.mapIter (some r) since (seen.push e.born) c)⟩ (fun r' since' seen' last' es' c' hi' => by
          obtain ⟨b', hpb', hxb', _, hwr2⟩ := itAt_heap hI.H hi'
          obtain rfl : b' = b := by omega
          rw [hxb] at hxb'; cases hxb'
          rw [hwr'] at hwr2; cases hwr2
          exact .inr ⟨e, he, rfl, rfl, rfl⟩)
        have hs := hs.1 rfl
        have hpn : p.toNat - 1 = b := by omega
        rw [hpn] at hs
        have hem : e ∈ es.toList := by
          unfold leftOf at he
          simp at he ⊢; exact he.1
        obtain ⟨_, hk1, hv1⟩ := hes e hem
        have hh1 : w1.heap = w.heap ∧ w1.os = w.os ∧ w1.tape = w.tape ∧ w1.output = w.output := by rcases hal with rfl | rfl <;> exact ⟨rfl, rfl, rfl, rfl⟩
        have hT : Touch b w (ChangeMaps.setBlock w1 b (.mapIter (some r) since (seen.push e.born) c)) := by
          refine ⟨hh1.2.1, hh1.2.2.1, hh1.2.2.2, by simp [ChangeMaps.setBlock, hh1.1], fun j _ hj => ?_⟩
          simp only [ChangeMaps.setBlock, hh1.1]
          rw [Array.getElem?_setIfInBounds_ne (Ne.symm hj)]
        have hset : (ChangeMaps.setBlock w1 b (.mapIter (some r) since (seen.push e.born) c)).heap[b]? = some (.mapIter (some r) since (seen.push e.born) c) := by
          simp only [ChangeMaps.setBlock, hh1.1]
          rw [Array.getElem?_setIfInBounds_self_of_lt hlt]
        refine ⟨_, _, ρ, _, hI.later (Ext.refl _ _) (Nat.le_refl _) (hI.H.write hxb hwr hT hset (x' := alO σ.hp.x b (.mapIter (some r) since (seen.push e.born) c)) (fun j => rfl)), Ext.refl _ _, Nat.le_refl _, ?_, hs, .inl ?_⟩
        · have e1 := rdU_wf z.1 e.key σ.n
          have e2 := rdU_wf z.2 e.val σ.n
          simp only [V.wf, hdV, tlV, List.all_cons, List.all_nil, e1, e2, Bool.and_true]
          rfl
        · refine run_v (s := Instr.next (a.eval x) false type) ?_
          rw [hd, hrun]
          simp only [V.den, hdV, tlV, List.map_cons, List.map_nil, rdU_den ρ hk1, rdU_den ρ hv1]
          rfl
    · exact h.elim
  · rename_i x
    split at h
    · rename_i p kt vt hx ht
      obtain ⟨z, hz, h⟩ := kO_sat h
      obtain ⟨⟨h1, h2, h3⟩, h⟩ := h
      refine ⟨_, _, ρ, w, hI, Ext.refl _ _, Nat.le_refl _, ?_, h, .inl ?_⟩
      · have e1 := rdU_wf z.1 (entK σ.hp.x p) σ.n
        have e2 := rdU_wf z.2 (entV σ.hp.x p) σ.n
        simp [V.wf, e1, e2]
      · refine run_v (s := Instr.entry (a.eval x)) ?_
        obtain ⟨e, he⟩ := Option.isSome_iff_exists.1 h1
        have hk : entK σ.hp.x p = e.key := by unfold entK; rw [he]
        have hv : entV σ.hp.x p = e.val := by unfold entV; rw [he]
        rw [hk] at h2; rw [hv] at h3
        unfold entAt at he
        split at he
        · cases he
        · rename_i b hb
          have hd : a.eval x = .pointer (some ⟨b, 0, none⟩) := by rw [ev_den hI x, hx]; exact pv_it (by omega)
          split at he
          · rename_i r since seen last hxb
            split at he
            · rename_i es c bn hxr hbk
              split at he
              · rename_i hcl
                have hcl : c = last := Nat.eq_of_beq_eq_true hcl
                have g1 := hI.H.mem.sub b _ hxb
                have g2 := hI.H.mem.sub r _ hxr
                rw [hd]
                simp only [Instr.entry, getObj, Sem.run_bind, Sem.run, g1, g2, Result.andThen, hbk, hcl, bne_self_eq_false, Bool.false_eq_true, if_false, he]
                simp [V.den, hk, hv, rdU_den ρ h2, rdU_den ρ h3]
              · cases he
            · cases he
          · cases he
    · exact h.elim
  · exact h.elim
end
end Go.Proofs.Ytnlohongffpkpaa.Sx
end

section
/- The symbolic executor: regions, code, calls; and that it tells what the machine does. A text of the session's own. -/
namespace Go.Proofs.Ytnlohongffpkpaa.Sx
open Go Go.RowKit

/-- What a function over the memory asks, and does. -/
structure MSum where
  pre : Prop
  post : Vars → Prop
  ret : Vars → V
/-- A function that takes and hands back no local pointers and leaves the local heap as it is. -/
structure Sum where
  f : FuncId
  s : List V → Option (List Bool × V)
  ext : Bool := false
  /-- Some ty: the first argument is a pointer to a whole block of that type, whose cells are handed in, and handed back. -/
  hp : Option Nat := none
  /-- Some ty: the first argument is a pointer to a variable that holds a pointer to a whole block of that type; likewise. -/
  bx : Option Nat := none
  /-- That variable's type. -/
  bt : Nat := 0
  /-- A function over the memory. -/
  mm : Option (Mem → List V → Option MSum) := none
  /-- A function that reads the memory, and leaves all as it is. -/
  rd : Option (Mem → List V → Option (Prop × V)) := none
  /-- A function that comes to one memory, and one value. -/
  dm : Option (Mem → List V → Option (Prop × Mem × V)) := none

/-- A function without a text of its own, for which the model stands in. -/
def ExtOK (P : Program) (q : Sum) : Prop :=
  ∀ (args : List V) (bs : List Bool) (r : V) (ρ : Nat → Nat) (w : World), q.s args = some (bs, r) → (∀ b ∈ bs, b = true) → (callFunc q.f (args.map (V.den ρ)).toArray).run P w = .ok (.value (r.den ρ)) w

def HeapOK (P : Program) (q : Sum) (ty : Nat) : Prop :=
  ∀ (cs : List C) (rest : List V) (bs : List Bool) (new : List C) (u : U) (ρ : Nat → Nat) (b : Nat) (w : World), q.s (.u (.agg cs) :: rest) = some (bs, .tup [.agg new, u]) → (∀ b ∈ bs, b = true) →
    w.heap[b]? = some (.cells (dens ρ cs) ty (0, 0)) →
    Calls P q.f (.pointer (some ⟨b, 0, none⟩) :: rest.map (V.den ρ)).toArray w fun e w' => e = .returned (u.den ρ) ∧ Touch b w w' ∧ w'.heap[b]? = some (.cells (dens ρ new) ty (0, 0))

def BoxOK (P : Program) (q : Sum) (ty : Nat) : Prop :=
  ∀ (cs : List C) (rest : List V) (bs : List Bool) (new : List C) (u : U) (ρ : Nat → Nat) (b x : Nat) (w : World), q.s (.u (.agg cs) :: rest) = some (bs, .tup [.agg new, u]) → (∀ b ∈ bs, b = true) →
    w.heap[b]? = some (.cells (dens ρ cs) ty (0, 0)) → w.heap[x]? = some (.cells #[.pointer (some ⟨b, 0, none⟩)] q.bt (0, 0)) → x ≠ b →
    Calls P q.f (.pointer (some ⟨x, 0, none⟩) :: rest.map (V.den ρ)).toArray w fun e w' => e = .returned (u.den ρ) ∧ Touch b w w' ∧ w'.heap[b]? = some (.cells (dens ρ new) ty (0, 0))

def MemOK (P : Program) (q : Sum) (mm : Mem → List V → Option MSum) : Prop :=
  ∀ (m : Mem) (args : List V) (ms : MSum) (ρ : Nat → Nat) (w : World), mm m args = some ms → ms.pre → args.all (V.wf 0) = true → (∀ a o, m a = some o → w.heap[a]? = some o) →
    Calls P q.f (args.map (V.den ρ)).toArray w fun e w' => ∃ y, ms.post y ∧ e = .returned ((ms.ret y).den ρ) ∧ MemTo m y.m w w'

def RdOK (P : Program) (q : Sum) (rd : Mem → List V → Option (Prop × V)) : Prop :=
  ∀ (m : Mem) (args : List V) (pre : Prop) (v : V) (ρ : Nat → Nat) (w : World), rd m args = some (pre, v) → pre → args.all (V.wf 0) = true → (∀ a o, m a = some o → w.heap[a]? = some o) →
    Calls P q.f (args.map (V.den ρ)).toArray w fun e w' => e = .returned (v.den ρ) ∧ Below w.heap.size w w'

def DmOK (P : Program) (q : Sum) (dm : Mem → List V → Option (Prop × Mem × V)) : Prop :=
  ∀ (m : Mem) (args : List V) (pre : Prop) (M : Mem) (v : V) (ρ : Nat → Nat) (w : World), dm m args = some (pre, M, v) → pre → args.all (V.wf 0) = true → (∀ a o, m a = some o → w.heap[a]? = some o) →
    Calls P q.f (args.map (V.den ρ)).toArray w fun e w' => e = .returned (v.den ρ) ∧ MemTo m M w w'

def SumOK (P : Program) (q : Sum) : Prop := ((∀ mm, q.mm = some mm → (∃ fn, P.funcs[q.f]? = some fn ∧ fn.body.isSome = true) ∧ MemOK P q mm) ∧ (∀ rd, q.rd = some rd → (∃ fn, P.funcs[q.f]? = some fn ∧ fn.body.isSome = true) ∧ RdOK P q rd) ∧ (∀ dm, q.dm = some dm → (∃ fn, P.funcs[q.f]? = some fn ∧ fn.body.isSome = true) ∧ DmOK P q dm)) ∧ (
  (∃ ty, q.bx = some ty ∧ q.ext = false ∧ (∃ fn, P.funcs[q.f]? = some fn ∧ fn.body.isSome = true) ∧ BoxOK P q ty) ∨ q.bx = none ∧ (
  (∃ ty, q.hp = some ty ∧ q.ext = false ∧ (∃ fn, P.funcs[q.f]? = some fn ∧ fn.body.isSome = true) ∧ HeapOK P q ty) ∨ q.hp = none ∧ ((q.ext = true ∧ ExtOK P q) ∨ q.ext = false ∧ (∃ fn, P.funcs[q.f]? = some fn ∧ fn.body.isSome = true) ∧ ∀ (args : List V) (bs : List Bool) (r : V) (ρ : Nat → Nat) (w : World), q.s args = some (bs, r) → (∀ b ∈ bs, b = true) →
    Calls P q.f (args.map (V.den ρ)).toArray w fun e w' => e = .returned (r.den ρ) ∧ Below w.heap.size w w')))

/-- What a summary asks, ahead of what follows. -/
def brs : List Bool → Tr → Tr
  | [], t => t
  | b :: l, t => .br b (brs l t) (.no 98)

def kS (o : Option (List Bool × V)) (k : V → Tr) : Tr := match o with | some x => brs x.1 (k x.2) | none => .no 4

def lookS (l : List Sum) (f : Nat) : Option Sum :=
  match l with
  | [] => none
  | q :: r => match Nat.beq q.f f with | true => some q | false => lookS r f

abbrev K := E → St → Tr

/-- the call's arguments -/
def evs (σ : St) : List Operand → List V
  | [] => []
  | x :: r => ev σ x :: evs σ r

/-- the callee and what it has captured -/
def calleeOf (σ : St) (x : Operand) : Option (FuncId × List (Nat × Nat)) :=
  match ev σ x with
  | .u (.c (.fn f cs)) => some (f, cs)
  | _ => none

def ptrC (q : Nat × Nat) : V := .u (.c (.ptr q.1 q.2))

def number : Nat → List V → List (Nat × V)
  | _, [] => []
  | i, v :: r => (i, v) :: number (i + 1) r

/-- what the callee hands back -/
def resC (P : Program) (σ : St) : ResultVar → Option U
  | .tmp t => match look σ.tm t with | .u u => some u | _ => none
  | .cell a t => match look σ.tm a with
    | .u (.c (.ptr id off)) => match lookH σ.hp id with | some b => ldC P t b.1 off | none => none
    | _ => none

def resCs (P : Program) (σ : St) : List ResultVar → Option (List U)
  | [] => some []
  | r :: l => match resC P σ r, resCs P σ l with | some u, some us => some (u :: us) | _, _ => none

def resV (P : Program) (σ : St) (l : List ResultVar) : Option V :=
  match resCs P σ l with
  | some [u] => some (.u u)
  | some us => some (.tup us)
  | none => none

def builtinC (b : Builtin) (args : List V) : Option V :=
  match b, args with
  | .max, [.u (.c x), .u (.c y)] => match x.int?, y.int? with
    | some (lx, kx, nx), some (ly, _, ny) => some (.u (.c (mkI (lx && ly) kx (iMax2 nx ny))))
    | _, _ => none
  | .min, [.u (.c x), .u (.c y)] => match x.int?, y.int? with
    | some (lx, kx, nx), some (ly, _, ny) => some (.u (.c (mkI (lx && ly) kx (iMin2 nx ny))))
    | _, _ => none
  | .len, [.u (.c (.sl _ _ n _))] => some (.u (.c (.li .i64 n)))
  | .len, [.u (.c (.raw (.slice none n _)))] => some (.u (.c (.li .i64 n)))
  | _, _ => none

def isLen (b : Builtin) : Bool := match b with | .len => true | _ => false

/-- a call: by a summary, or by the callee's own text -/
def callx (P : Program) (S : List Sum) (ih : Nat → Code → St → K → Tr) (f : FuncId) (args : List V) (σ : St) (k : V → St → Tr) : Tr :=
  match lookS S f with
  | some q => match q.bx with
    | some ty => (match args with
      | .u (.c (.ptr x off)) :: rest => kO (lookH σ.hp x) fun bb => (match bb.1 with
        | [.ptr id 0] => kO (lookW σ.hp id) fun b => kS (q.s (.u (.agg b.1) :: rest)) fun r =>
          match r with
          | .tup [.agg new, u] => (match Nat.beq off 0, Nat.beq b.2 ty, new.all (C.wf 0), u.wf 0, Nat.beq x id, Nat.beq bb.2 q.bt with
            | true, true, true, true, false, true => k (.u u) { tm := σ.tm, hp := hcons (id, (new, ty)) σ.hp, n := σ.n }
            | _, _, _, _, _, _ => .no 37)
          | _ => .no 38
        | _ => .no 44)
      | _ => .no 39)
    | none => match q.hp with
    | none => kS (q.s args) fun r => match r.wf 0 with | true => k r σ | false => .no 30
    | some ty => match args with
      | .u (.c (.ptr id off)) :: rest => kO (lookW σ.hp id) fun b => kS (q.s (.u (.agg b.1) :: rest)) fun r =>
        match r with
        | .tup [.agg new, u] => match Nat.beq off 0, Nat.beq b.2 ty, new.all (C.wf 0), u.wf 0 with
          | true, true, true, true => k (.u u) { tm := σ.tm, hp := hcons (id, (new, ty)) σ.hp, n := σ.n }
          | _, _, _, _ => .no 37
        | _ => .no 38
      | _ => .no 39
  | none => kO (P.funcs[f]?) fun fn => kO fn.body fun c =>
    match Nat.ble args.length fn.ntmps, args.all (V.wf σ.n) with
    | true, true => ih fn.ntmps c { tm := number 0 args, hp := σ.hp, n := σ.n } fun e σ' =>
      match e with
      | .exit _ => .no 31
      | _ => kO (resV P σ' fn.results.toList) fun r => match r.wf σ'.n with
        | true => k r { tm := σ.tm, hp := σ'.hp, n := σ'.n }
        | false => .no 32
    | _, _ => .no 33

/-- a call, by a summary over the memory first -/
def callX (P : Program) (S : List Sum) (ih : Nat → Code → St → K → Tr) (f : FuncId) (args : List V) (σ : St) (k : V → St → Tr) : Tr :=
  match lookS S f with
  | some q => match q.mm with
    | some mm => kO (mm σ.hp.x args) fun ms => (match args.all (V.wf 0), σ.hp.wr with
      | true, true => .req ms.pre (.any ms.post fun y => (match (ms.ret y).wf 0 with | true => k (ms.ret y) { σ with hp := { σ.hp with x := y.m } } | false => .no 34))
      | _, _ => .no 35)
    | none => (match q.rd with
      | some rd => kO (rd σ.hp.x args) fun r => (match args.all (V.wf 0), r.2.wf 0 with
        | true, true => .req r.1 (k r.2 σ)
        | _, _ => .no 36)
      | none => (match q.dm with
        | some dm => kO (dm σ.hp.x args) fun r => (match args.all (V.wf 0), r.2.2.wf 0, σ.hp.wr with
          | true, true, true => .req r.1 (.letm r.2.1 fun m => k r.2.2 { σ with hp := { σ.hp with x := m } })
          | _, _, _ => .no 36)
        | none => callx P S ih f args σ k))
  | none => callx P S ih f args σ k

def okDst (N : Nat) (d : Option Tmp) : Bool := match d with | some d => Nat.blt d N | none => true

/-- The method of a pointer's type. -/
def methC (P : Program) (t : TypeId) (name : String) : Option FuncId :=
  match P.info? t, P.underlying t with
  | some it, some (.pointer _) => match it.methods.toList.find? (·.name == name) with
    | some m => (match m.path.toList, m.func with
      | [], some (f, true) => some f
      | _, _ => none)
    | none => none
  | _, _ => none

def lenM (σ : St) (args : List V) : Option V :=
  match args with
  | [.u (.c (.mp id))] => (match lookM σ.hp id with | some b => some (.u (.c (.li .i64 b.1.length))) | none => none)
  | _ => none

def ifX (P : Program) (S : List Sum) (ih : Nat → Code → St → K → Tr) (v : Value) (name : String) (args : List V) (σ : St) (k : V → St → Tr) : List TypeId → Tr
  | [] => .no 37
  | t :: r => .br (ifIs t v) (kO (methC P t name) fun f => callX P S ih f (.u (.c (.np (ifP t v) 0)) :: args) σ k) (ifX P S ih v name args σ k r)
def opAny (P : Program) (S : List Sum) (ih : Nat → Code → St → K → Tr) (o : Oper) (σ : St) (k : V → St → Tr) : Tr :=
  match o.op with
  | .call c => match c.callee with
    | .value x => kO (calleeOf σ x) fun q => callX P S ih q.1 (evs σ c.args.toList ++ q.2.map ptrC) σ k
    | .builtin b => (match isBM b (evs σ c.args.toList) with
      | true => (match (evs σ c.args.toList).all (V.wf σ.n) with | true => bltM P b c.argTypes.toList (evs σ c.args.toList) σ k | false => .no 46)
      | false => (match isLen b with
      | true => (match c.argTypes.toList with
        | [t] => (match P.underlying t with | some (.slice _) => kO (builtinC .len (evs σ c.args.toList)) fun v => k v σ | some (.map _ _) => kO (lenM σ (evs σ c.args.toList)) fun v => k v σ | _ => .no 34)
        | _ => .no 35)
      | false => (match isDel b with
        | true => (match c.argTypes.toList, c.args.toList with
          | t :: _, [m, x] => kO (delS P σ t m x) fun σ' => k (.tup []) σ'
          | _, _ => .no 45)
        | false => kO (builtinC b (evs σ c.args.toList)) fun v => k v σ)))
    | .invoke r name => match ev σ r with
      | .u (.c (.ifp t id off)) => kO (methC P t name) fun f => callX P S ih f (.u (.c (.ptr id off)) :: evs σ c.args.toList) σ k
      | .u (.c (.sv v)) => .br (isIfV (pl v)) (ifX P S ih (pl v) name (evs σ c.args.toList) σ k ifaceTs) (.no 38)
      | _ => .no 36
  | op => match isRng op σ with | true => rngX P op σ k | false => opX P op σ k

/-- the tmp that a guard asks -/
def guardTmp (ops : Array Oper) (j : Nat) : Option Tmp := match ops[j]? with | some o => o.dst | none => none

def opsx (P : Program) (S : List Sum) (ih : Nat → Code → St → K → Tr) (N : Nat) (ops : Array Oper) : List Oper → St → (St → Tr) → Tr
  | [], σ, k => k σ
  | o :: rest, σ, k =>
    match okDst N o.dst with
    | false => .no 40
    | true =>
      match o.guard with
      | none => opAny P S ih o σ fun v σ' => opsx P S ih N ops rest (σ'.put o.dst v) k
      | some (j, want) =>
        match guardTmp ops j with
        | none => .no 41
        | some t =>
          match Nat.blt t N with
          | false => .no 42
          | true => match look σ.tm t with
            | .u (.c (.lb b)) => (match b == want with
              | true => opAny P S ih o σ fun v σ' => opsx P S ih N ops rest (σ'.put o.dst v) k
              | false => opsx P S ih N ops rest (σ.put o.dst (.tup [])) k)
            | .u (.c (.sb b)) => .br b
                (let σ1 := retell σ (.tmp t) true
                 match true == want with
                 | true => opAny P S ih o σ1 fun v σ' => opsx P S ih N ops rest (σ'.put o.dst v) k
                 | false => opsx P S ih N ops rest (σ1.put o.dst (.tup [])) k)
                (let σ1 := retell σ (.tmp t) false
                 match false == want with
                 | true => opAny P S ih o σ1 fun v σ' => opsx P S ih N ops rest (σ'.put o.dst v) k
                 | false => opsx P S ih N ops rest (σ1.put o.dst (.tup [])) k)
            | .tup [] => opsx P S ih N ops rest (σ.put o.dst (.tup [])) k
            | _ => .no 43

/-- a loop, round by round -/
def loopx (ih : Nat → Code → St → K → Tr) (N : Nat) (x : Code) (k : K) : Nat → St → Tr
  | 0, _ => .no 51
  | m + 1, σ => ih N x σ fun e σ' => match e with
    | .normal => loopx ih N x k m σ'
    | .exit id => k (.exit id) σ'
    | .ret => k .ret σ'

/-- How regions that leave their order open are walked; and which tmps are alive at the heads of which loops (by the tmps' number and the first region's). -/
structure LT where
  /-- tmps and blocks whose cells are variables -/
  tv : List Tmp
  bv : List Nat
  /-- tmps and blocks that stay as they are -/
  tk : List Tmp
  bk : List Nat
/-- A tmp, or a block: which, and its cells. -/
inductive Slot where
  | t (t : Tmp) (agg : Bool)
  | b (id ty : Nat)
/-- What is told where paths meet: how many blocks there are more; what is variable there, with its kinds; what stays. -/
structure CT where
  d : Nat
  sl : List Slot
  cs : List (List C)
  tk : List Tmp
  bk : List Nat
structure DrawX where
  d : (Nat → Code → St → K → Tr) → Nat → Array Oper → St → (St → Tr) → Tr
  lv : Nat → Nat → Option LT
  /-- where paths meet: by the region behind, and how many blocks there are -/
  ct : Nat → Nat → Nat → Option CT

/-! a loop's rounds at once: its cells' numbers and bools are variables -/
def keyOf : Code → Nat
  | .region id _ _ => id
  | .seq x _ => keyOf x
  | .block _ x => keyOf x
  | .loop x => keyOf x
  | .cond _ t _ => 1000 + keyOf t
  | _ => 0
def hdI : List Int → Int
  | [] => 0
  | x :: _ => x
def tlI : List Int → List Int
  | [] => []
  | _ :: r => r
def tlB : List Bool → List Bool
  | [] => []
  | _ :: r => r
/-- What a cell is to a loop: a number or a pointer into the memory, a bool, a value, or what stays. -/
inductive Cls where
  | n (k : Option IntKind) (x : Int)
  | t (b : Bool)
  | v (x : Value)
  | f
def clsC : C → Cls
  | .li k n => .n (some k) n
  | .si k n => .n (some k) n
  | .np p off => (match Nat.beq off 0 with | true => .n none p | false => .f)
  | .nilp => .n none 0
  | .lb b => .t b
  | .sb b => .t b
  | .sv v => .v (pl v)
  | .raw (.slice none n c) => .v (.slice none n c)
  | .raw (.map none) => .v (.map none)
  | .raw .nilIface => .v .nilIface
  | .raw .nilFunc => .v .nilFunc
  | .raw (.string s) => .v (.string s)
  | _ => .f
def iC (c : C) (y : Vars) : C :=
  match clsC c with
  | .n (some k) _ => .si k (hdI y.i)
  | .n none _ => .np (hdI y.i) 0
  | .t _ => .sb (hdB y.b)
  | .v _ => .sv (hdV y.v)
  | .f => c
def rC (c : C) (y : Vars) : Vars :=
  match clsC c with
  | .n _ _ => ⟨tlI y.i, y.b, y.v, y.m⟩
  | .t _ => ⟨y.i, tlB y.b, y.v, y.m⟩
  | .v _ => ⟨y.i, y.b, tlV y.v, y.m⟩
  | .f => y
def samePtrs : List (Nat × Nat) → List (Nat × Nat) → Bool
  | [], [] => true
  | p :: r, q :: s => Nat.beq p.1 q.1 && Nat.beq p.2 q.2 && samePtrs r s
  | _, _ => false
/-- Two cells that are neither numbers nor bools are the same. -/
def eqP : C → C → Bool
  | .ptr i o, .ptr j q => Nat.beq i j && Nat.beq o q
  | .nilp, .nilp => true
  | .fn f l, .fn g r => Nat.beq f g && samePtrs l r
  | .sl i o n c, .sl j q m d => Nat.beq i j && Nat.beq o q && Nat.beq n m && Nat.beq c d
  | .mp i, .mp j => Nat.beq i j
  | .ifp t i o, .ifp u j q => Nat.beq t u && Nat.beq i j && Nat.beq o q
  | .raw .nilIface, .raw .nilIface => true
  | .raw (.map none), .raw (.map none) => true
  | .raw (.slice none n c), .raw (.slice none m d) => Nat.beq n m && Nat.beq c d
  | _, _ => false
def vcat (p q : Vars) : Vars := ⟨p.i ++ q.i, p.b ++ q.b, p.v ++ q.v, q.m⟩
def fitC (c c' : C) : Option Vars :=
  match clsC c, clsC c' with
  | .n k _, .n k' x => (match decide (k = k') with | true => some ⟨[x], [], [], noM⟩ | false => none)
  | .t _, .t b => some ⟨[], [b], [], noM⟩
  | .v _, .v x => some ⟨[], [], [x], noM⟩
  | .f, .f => (match eqP c c' with | true => some ⟨[], [], [], noM⟩ | false => none)
  | _, _ => none
def iL : List C → Vars → List C
  | [], _ => []
  | c :: r, y => iC c y :: iL r (rC c y)
def dL : List C → Vars → Vars
  | [], y => y
  | c :: r, y => dL r (rC c y)
def fitL : List C → List C → Option Vars
  | [], [] => some ⟨[], [], [], noM⟩
  | c :: r, c' :: r' => match fitC c c', fitL r r' with
    | some p, some q => some (vcat p q)
    | _, _ => none
  | _, _ => none
def slotC (σ : St) : Slot → Option (List C)
  | .t t ag => match look σ.tm t, ag with
    | .u (.c c), false => some [c]
    | .u (.agg cs), true => some cs
    | _, _ => none
  | .b id ty => match lookH σ.hp id with
    | some b => (match Nat.beq b.2 ty with | true => some b.1 | false => none)
    | none => none
def slotsC (σ : St) : List Slot → Option (List (List C))
  | [] => some []
  | s :: r => match slotC σ s, slotsC σ r with | some c, some l => some (c :: l) | _, _ => none
def iS : List (List C) → Vars → List (List C)
  | [], _ => []
  | c :: r, y => iL c y :: iS r (dL c y)
def fitS : List (List C) → List (List C) → Option Vars
  | [], [] => some ⟨[], [], [], noM⟩
  | c :: r, c' :: r' => match fitL c c', fitS r r' with
    | some p, some q => some (vcat p q)
    | _, _ => none
  | _, _ => none
def unitOf (ag : Bool) (cs : List C) : V :=
  match ag, cs with
  | false, [c] => .u (.c c)
  | _, cs => .u (.agg cs)
def canT : List Slot → List (List C) → List (Nat × V)
  | .t t ag :: r, c :: l => (t, unitOf ag c) :: canT r l
  | .b _ _ :: r, _ :: l => canT r l
  | _, _ => []
def canH (kb : List (Nat × Blk)) (lim : Nat) (x : Mem) (wr : Bool) (mt : List Nat) : List Slot → List (List C) → Hp
  | .b id ty :: r, c :: l => hcons (id, (c, ty)) (canH kb lim x wr mt r l)
  | .t _ _ :: r, _ :: l => canH kb lim x wr mt r l
  | _, _ => ⟨kb, [], lim, x, wr, mt⟩
def junk (N : Nat) (j : Nat → Value) : List (Nat × V) := (List.range N).map fun t => (t, .u (.c (.raw (j t))))
def beqB : Bool → Bool → Bool
  | true, true => true
  | false, false => true
  | _, _ => false
theorem beqB_eq : ∀ {a b : Bool}, beqB a b = true → a = b
  | true, true, _ => rfl
  | false, false, _ => rfl
  | true, false, h => by cases h
  | false, true, h => by cases h
/-- What stays over the rounds. -/
structure Kept where
  t : List (Nat × V)
  b : List (Nat × Blk)
def keptT (σ : St) : List Tmp → List (Nat × V)
  | [] => []
  | t :: r => (t, look σ.tm t) :: keptT σ r
def keptB (σ : St) : List Nat → List (Nat × Blk)
  | [] => []
  | i :: r => match lookH σ.hp i with | some b => (i, b) :: keptB σ r | none => keptB σ r
def isT (σ : St) : List (Nat × V) → Prop
  | [] => True
  | q :: r => look σ.tm q.1 = q.2 ∧ isT σ r
def isB' (σ : St) : List (Nat × Blk) → Prop
  | [] => True
  | q :: r => lookH σ.hp q.1 = some q.2 ∧ isB' σ r
/-- The state at a round's head. -/
def canon (N n lim : Nat) (x : Mem) (wr : Bool) (mt : List Nat) (kt : Kept) (sl : List Slot) (cs : List (List C)) (j : Nat → Value) : St := { tm := canT sl cs ++ (kt.t ++ junk N j), hp := canH kt.b lim x wr mt sl cs, n := n }
def tSlots (σ : St) : List Tmp → Option (List Slot)
  | [] => some []
  | t :: r => match look σ.tm t, tSlots σ r with
    | .u (.c _), some l => some (.t t false :: l)
    | .u (.agg _), some l => some (.t t true :: l)
    | _, _ => none
def bSlots (σ : St) : List Nat → List Slot
  | [] => []
  | i :: r => match lookH σ.hp i with | some b => .b i b.2 :: bSlots σ r | none => bSlots σ r
def wfS (n : Nat) (cs : List (List C)) : Bool := cs.all fun l => l.all (C.wf n)
def liveOK (N : Nat) : List Slot → Bool
  | [] => true
  | .t t _ :: r => Nat.blt t N && liveOK N r
  | .b _ _ :: r => liveOK N r

def lpx (ih : Nat → Code → St → K → Tr) (N : Nat) (x : Code) (lt : LT) (σ : St) (k : K) : Tr :=
  kO (tSlots σ lt.tv) fun ts => kO (slotsC σ (ts ++ bSlots σ lt.bv)) fun cs => kO (fitS cs cs) fun q =>
  match wfS σ.n cs, liveOK N ts with
  | true, true => .lp ⟨q.i, q.b, q.v, σ.hp.x⟩ fun y j => ih N x (canon N σ.n σ.hp.lim y.m σ.hp.wr σ.hp.mt ⟨keptT σ lt.tk, keptB σ lt.bk⟩ (ts ++ bSlots σ lt.bv) (iS cs y) j) fun e σ' => match e with
    | .normal => kO (slotsC σ' (ts ++ bSlots σ lt.bv)) fun cs' => kO (fitS cs cs') fun q' => (match wfS σ.n cs', beqB σ'.hp.wr σ.hp.wr with
      | true, true => .req (keptT σ' lt.tk = keptT σ lt.tk ∧ keptB σ' lt.bk = keptB σ lt.bk) (.leaf (.again ⟨q'.i, q'.b, q'.v, σ'.hp.x⟩))
      | _, _ => .no 52)
    | .exit id => (k (.exit id) σ').mapL .up
    | .ret => (k .ret σ').mapL .up
  | _, _ => .no 53

def slLt (n : Nat) : List Slot → Bool
  | [] => true
  | .t _ _ :: r => slLt n r
  | .b id _ :: r => Nat.blt id n && slLt n r
/-- Paths meet: told as a loop of two rounds. -/
def cutx (ih : Nat → Code → St → K → Tr) (N : Nat) (x y : Code) (c : CT) (σ : St) (k : K) : Tr :=
  match slLt (σ.n + c.d) c.sl with
  | true => .lp ⟨[0], [], [], σ.hp.x⟩ fun v j => .br (iZero? (hdI v.i))
    (ih N x σ fun e σ' => match e with
      | .normal => kO (slotsC σ' c.sl) fun cs' => kO (fitS c.cs cs') fun q => (match wfS (σ.n + c.d) cs', beqB σ'.hp.wr σ.hp.wr, Nat.ble (σ.n + c.d) σ'.n with
        | true, true, true => .req (keptT σ' c.tk = keptT σ c.tk ∧ keptB σ' c.bk = keptB σ c.bk) (.leaf (.again ⟨1 :: q.i, q.b, q.v, σ'.hp.x⟩))
        | _, _, _ => .no 54)
      | .exit id => (k (.exit id) σ').mapL .up
      | .ret => (k .ret σ').mapL .up)
    (ih N y (canon N (σ.n + c.d) σ.hp.lim v.m σ.hp.wr σ.hp.mt ⟨keptT σ c.tk, keptB σ c.bk⟩ c.sl (iS c.cs ⟨tlI v.i, v.b, v.v, v.m⟩) j) fun e σ' => (k e σ').mapL .up)
  | false => .no 55

def codex (P : Program) (S : List Sum) (D : DrawX) (ih : Nat → Code → St → K → Tr) (N : Nat) (c : Code) (σ : St) (k : K) : Tr :=
  match c with
  | .skip => k .normal σ
  | .label _ => k .normal σ
  | .region _ ops draw => match draw with
    | false => opsx P S ih N ops ops.toList σ (k .normal)
    | true => D.d ih N ops σ (k .normal)
  | .seq x y => match D.ct N (keyOf y) σ.n with
    | some c => cutx ih N x y c σ k
    | none => ih N x σ fun e σ' => match e with
      | .normal => ih N y σ' k
      | .exit id => k (.exit id) σ'
      | .ret => k .ret σ'
  | .cond x t e => decB σ x fun b σ' => match b with | true => ih N t σ' k | false => ih N e σ' k
  | .block id x => ih N x σ fun e σ' => match e with
    | .normal => k .normal σ'
    | .exit id' => (match Nat.beq id' id with | true => k .normal σ' | false => k (.exit id') σ')
    | .ret => k .ret σ'
  | .loop x => match D.lv N (keyOf x) with
    | some live => lpx ih N x live σ k
    | none => loopx ih N x k 5000 σ
  | .exit id => k (.exit id) σ
  | .ret => k .ret σ
  | .scope x => ih N x σ k
  | _ => .no 50


def ex (P : Program) (S : List Sum) (D : DrawX) : Nat → Nat → Code → St → K → Tr
  | 0 => fun _ _ _ _ => .no 60
  | n + 1 => codex P S D (ex P S D n)

end Go.Proofs.Ytnlohongffpkpaa.Sx
end

section
/- The symbolic executor tells what the machine does: regions, calls, code. A text of the session's own. -/
namespace Go.Proofs.Ytnlohongffpkpaa.Sx
open Go Go.RowKit

def Snd (P : Program) (ih : Nat → Code → St → K → Tr) : Prop :=
  ∀ (W : World) (n0 : NL) (ρ0 : Nat → Nat) (N : Nat) (R : Leaf → Prop) (c : Code) (σ : St) (k : K) (ρ : Nat → Nat) (a : Act) (w : World) (Q : Exit → Act → World → Prop),
    Inv W n0 ρ0 N ρ σ a w → (ih N c σ k).sat R →
    (∀ e σ' ρ' a' w', Inv W n0 ρ0 N ρ' σ' a' w' → Ext σ.n ρ ρ' → σ.n ≤ σ'.n → (k e σ').sat R → Q e.to a' w') → c.wp P Q a w

def DSnd (P : Program) (D : DrawX) : Prop :=
  ∀ (ih : Nat → Code → St → K → Tr), Snd P ih → ∀ (W : World) (n0 : NL) (ρ0 : Nat → Nat) (N : Nat) (R : Leaf → Prop) (id : Nat) (ops : Array Oper) (σ : St) (k : St → Tr) (ρ : Nat → Nat) (a : Act) (w : World) (Q : Exit → Act → World → Prop),
    Inv W n0 ρ0 N ρ σ a w → (D.d ih N ops σ k).sat R →
    (∀ σ' ρ' a' w', Inv W n0 ρ0 N ρ' σ' a' w' → Ext σ.n ρ ρ' → σ.n ≤ σ'.n → (k σ').sat R → Q .normal a' w') → (Code.region id ops true).wp P Q a w

def NameOK (P : Program) : Prop := ∀ (f : Nat) (fn : Func), P.funcs[f]? = some fn → (fn.name == "runtime.NumGoroutine") = false

theorem nameOK_of {P : Program} (h : (P.funcs.all fun fn => !(fn.name == "runtime.NumGoroutine")) = true) : NameOK P := by
  intro f fn hf
  rw [Array.all_eq_true_iff_forall_mem] at h
  simpa using h fn (Array.mem_of_getElem? hf)

section
variable {P : Program} {S : List Sum} {W : World} {n0 : NL} {ρ0 : Nat → Nat} {N : Nat} {ρ : Nat → Nat} {σ : St} {a : Act} {w : World} {R : Leaf → Prop}

theorem brs_sat : ∀ {l : List Bool} {t : Tr}, (brs l t).sat R → (∀ b ∈ l, b = true) ∧ t.sat R
  | [], _, h => ⟨(fun _ hx => nomatch hx), h⟩
  | b :: l, t, h => by
    have hb : b = true := by
      cases e : b
      · exact (h.2 e).elim
      · rfl
    obtain ⟨h1, h2⟩ := brs_sat (h.1 hb)
    exact ⟨fun c hc => by
      rcases List.mem_cons.1 hc with rfl | hc
      · exact hb
      · exact h1 c hc, h2⟩

theorem kS_sat {o : Option (List Bool × V)} {k : V → Tr} (h : (kS o k).sat R) : ∃ bs x, o = some (bs, x) ∧ (∀ b ∈ bs, b = true) ∧ (k x).sat R := by
  unfold kS at h
  split at h
  · rename_i x
    obtain ⟨h1, h2⟩ := brs_sat h
    exact ⟨x.1, x.2, rfl, h1, h2⟩
  · exact h.elim

theorem lookS_mem {l : List Sum} {f : Nat} {q : Sum} (h : lookS l f = some q) : q ∈ l ∧ q.f = f := by
  induction l with
  | nil => cases h
  | cons p r ih =>
    simp only [lookS] at h
    split at h
    · rename_i e
      cases h
      exact ⟨by simp, Nat.eq_of_beq_eq_true e⟩
    · obtain ⟨h1, h2⟩ := ih h
      exact ⟨by simp [h1], h2⟩

theorem evs_den (hI : Inv W n0 ρ0 N ρ σ a w) (l : List Operand) : l.map a.eval = (evs σ l).map (V.den ρ) := by
  induction l with
  | nil => rfl
  | cons x r ih => simp [evs, ih, ev_den hI x]

theorem ptrC_den (ρ : Nat → Nat) (l : List (Nat × Nat)) : (l.map ptrC).map (V.den ρ) = l.map (ptrV ρ) := by
  simp only [List.map_map]; rfl

theorem look_number (args : List V) : ∀ (i t : Nat), i ≤ t → look (number i args) t = (args[t - i]?).getD (.tup []) := by
  induction args with
  | nil => intro i t _; simp [number, look]
  | cons v r ih =>
    intro i t hit
    simp only [number, look]
    by_cases e : i = t
    · subst e; simp
    · rw [Nat.beq_eq_false_iff.2 e]
      simp only
      rw [ih (i + 1) t (by omega), show t - i = (t - (i + 1)) + 1 by omega]
      simp

theorem number_mem (args : List V) : ∀ (i : Nat) (q : Nat × V), q ∈ number i args → q.2 ∈ args := by
  induction args with
  | nil => intro i q h; cases h
  | cons v r ih =>
    intro i q h
    simp only [number, List.mem_cons] at h
    rcases h with rfl | h
    · simp
    · simp [ih _ _ h]

/-- The callee's frame as it begins. -/
theorem Inv.enter (hI : HInv W n0 ρ0 ρ σ.hp σ.n w) (args : List V) (M : Nat) (hl : args.length ≤ M) (hw : args.all (V.wf σ.n) = true) :
    Inv W n0 ρ0 M ρ { tm := number 0 args, hp := σ.hp, n := σ.n } { tmps := (args.map (V.den ρ)).toArray ++ Array.replicate (M - (args.map (V.den ρ)).toArray.size) undef, defers := [] } w := by
  refine ⟨rfl, by simp; omega, ?_, ?_, hI⟩
  · intro t
    rw [look_number args 0 t (by omega), Nat.sub_zero]
    by_cases h : t < args.length
    · have h1 : args[t]? = some args[t] := by simp [h]
      rw [h1]
      simp [Array.getElem?_append, h]
    · have h1 : args[t]? = none := by simp; omega
      rw [h1]
      simp only [Option.getD_none]
      rw [Array.getD_eq_getD_getElem?, Array.getElem?_append]
      simp only [List.size_toArray, List.length_map, h, if_false]
      rw [Array.getElem?_replicate]
      split <;> rfl
  · intro q hq
    have := number_mem args 0 q hq
    simp only [List.all_eq_true] at hw
    exact hw _ this

def resOne (tmps : Array Value) : ResultVar → Sem Value
  | .tmp t => pure (tmps.getD t undef)
  | .cell x t => do loadVar t (← asAddr (tmps.getD x undef))

theorem results_eq (fn : Func) (tmps : Array Value) : results fn tmps = (do let vs ← fn.results.mapM (resOne tmps); pure (if h : vs.size = 1 then vs[0] else .tuple vs)) := by
  unfold results
  congr 1

theorem resC_den {r : ResultVar} {u : U} (hI : Inv W n0 ρ0 N ρ σ a w) (h : resC P σ r = some u) :
    (resOne a.tmps r).run P w = .ok (u.den ρ) w := by
  cases r with
  | tmp t =>
    simp only [resC] at h
    split at h
    · rename_i u' hu
      cases h
      simp only [resOne, Sem.run_pure]
      rw [hI.tm t, hu]; rfl
    · cases h
  | cell x t =>
    simp only [resC] at h
    split at h
    · rename_i id off hx
      split at h
      · rename_i b hb
        have hd : a.tmps.getD x undef = .pointer (some ⟨ρ id, off, none⟩) := by rw [hI.tm x, hx]; rfl
        simp only [resOne, hd, asAddr, Sem.run_bind, Sem.run_pure, Result.andThen_ok]
        exact run_loadVar hI.H hb h
      · cases h
    · cases h

theorem resCs_den (hI : Inv W n0 ρ0 N ρ σ a w) : ∀ (l : List ResultVar) (us : List U), resCs P σ l = some us →
    (l.mapM (resOne a.tmps) : Sem (List Value)).run P w = .ok (us.map (U.den ρ)) w := by
  intro l
  induction l with
  | nil => intro us h; simp only [resCs, Option.some.injEq] at h; subst h; simp
  | cons r l ih =>
    intro us h
    simp only [resCs] at h
    split at h
    · rename_i u us' h1 h2
      cases h
      have e := resC_den hI h1
      simp only [List.mapM_cons, Sem.run_bind]
      rw [e]
      simp only [Result.andThen_ok, ih _ h2, Sem.run_pure, List.map_cons]
    · cases h

theorem resV_den {fn : Func} {v : V} (hI : Inv W n0 ρ0 N ρ σ a w) (h : resV P σ fn.results.toList = some v) : (results fn a.tmps).run P w = .ok (v.den ρ) w := by
  unfold resV at h
  have key : ∀ us, resCs P σ fn.results.toList = some us → (results fn a.tmps).run P w = .ok (if h : (us.map (U.den ρ)).toArray.size = 1 then (us.map (U.den ρ)).toArray[0] else .tuple (us.map (U.den ρ)).toArray) w := by
    intro us hu
    have e := resCs_den hI _ _ hu
    simp only [results_eq, Array.mapM_eq_mapM_toList, Sem.run_bind, Sem.run_map]
    rw [e]
    simp only [Result.andThen_ok, Sem.run_pure]
  split at h
  · rename_i u hu
    cases h
    rw [key _ hu]
    rfl
  · rename_i us hne hu
    cases h
    rw [key _ hu]
    have hn : ¬ (us.map (U.den ρ)).toArray.size = 1 := by
      intro h1
      simp at h1
      match us, h1 with
      | [u], _ => exact hne u rfl
    rw [dif_neg hn]
    rfl
  · cases h

/-- What holds behind an operation that was called by its summary, or by its text. -/
def NextS (W : World) (n0 : NL) (ρ0 : Nat → Nat) (N : Nat) (R : Leaf → Prop) (ρ : Nat → Nat) (σ : St) (a : Act) (k : V → St → Tr) (next : Value → World → Prop) : Prop :=
  ∀ v σ' ρ' w', Inv W n0 ρ0 N ρ' σ' a w' → Ext σ.n ρ ρ' → σ.n ≤ σ'.n → v.wf σ'.n = true → (k v σ').sat R → next (v.den ρ') w'

theorem HInv.touch {hp : Hp} {n : Nat} (h : HInv W n0 ρ0 ρ hp n w) {id : Nat} {b : Blk} (hb : lookH hp id = some b) (hlim : hp.lim ≤ id) {w' : World} (ht : Touch (ρ id) w w') {new : List C} {ty : Nat} (hn : new.all (C.wf 0) = true)
    (hw : w'.heap[ρ id]? = some (.cells (dens ρ new) ty (0, 0))) : HInv W n0 ρ0 ρ (hcons (id, (new, ty)) hp) n w' := by
  obtain ⟨hid, _, _⟩ := h.blk id b hb
  refine ⟨fun i hi => Nat.lt_of_lt_of_le (h.lt i hi) ht.size, h.inj, ?_, h.le, h.old, h.new, ht.os.trans h.os, ht.tape.trans h.tape, ht.output.trans h.output, Nat.le_trans h.size ht.size, ?_, ?_, h.lim, h.mem.keep fun a ha hf => ht.far a ha fun e => hf id hid e.symm⟩
  · intro i b' hi
    simp only [lookH_hcons, lookH_hnil] at hi
    by_cases e : id = i
    · subst e
      simp only [Nat.beq_refl] at hi
      cases hi
      refine ⟨hid, ?_, hw⟩
      simp only [List.all_eq_true] at hn ⊢
      exact fun x hx => C.wf_mono (Nat.zero_le _) x (hn x hx)
    · rw [Nat.beq_eq_false_iff.2 e] at hi
      obtain ⟨g1, g2, g3⟩ := h.blk i b' hi
      refine ⟨g1, g2, ?_⟩
      rw [ht.far (ρ i) (h.lt i g1) (fun x => e (h.inj i id g1 hid x).symm)]
      exact g3
  · intro k hk hx hne
    rw [ht.far k (Nat.lt_of_lt_of_le hk h.size) ?_]
    · exact h.far k hk hx hne
    · intro e
      by_cases hlt : id < n0.n
      · exact hne id (h.lim ▸ hlim) hlt (by rw [e]; exact (h.old id hlt).symm)
      · have := h.new id (by omega) hid
        omega
  · intro i m hm
    rw [lookM_hcons] at hm
    obtain ⟨g1, g2, g3⟩ := h.mblk i m hm
    refine ⟨g1, g2, ?_⟩
    rw [ht.far (ρ i) (h.lt i g1) (h.mne hb hm)]
    exact g3

theorem callx_sound (hS : ∀ q ∈ S, SumOK P q) {ih : Nat → Code → St → K → Tr} (hih : Snd P ih) {f : FuncId} {args : List V} {k : V → St → Tr} (hI : Inv W n0 ρ0 N ρ σ a w)
    (h : (callx P S ih f args σ k).sat R) {next : Value → World → Prop} (hn : NextS W n0 ρ0 N R ρ σ a k next) :
    ((∃ fn, P.funcs[f]? = some fn ∧ fn.body.isSome = true) ∧ ∀ R' : Ending → World → Prop, (∀ v w', next v w' → R' (.returned v) w') → Calls P f (args.map (V.den ρ)).toArray w R') ∨
    ∃ v, (callFunc f (args.map (V.den ρ)).toArray).run P w = .ok (.value v) w ∧ next v w := by
  unfold callx at h
  split at h
  · rename_i q hq
    obtain ⟨hmem, hf⟩ := lookS_mem hq
    split at h
    case h_1 =>
      rename_i ty hty
      have hH := (hS q hmem).2
      rcases hH with ⟨ty', e1, e2, h1, h2⟩ | ⟨e1, _⟩
      case inr => rw [hty] at e1; cases e1
      rw [hty] at e1
      cases e1
      rw [hf] at h1
      split at h
      · rename_i x off rest
        obtain ⟨bb, hbb, h0s⟩ := kO_sat h
        split at h0s
        · rename_i id hbbc
          obtain ⟨b, hb, h1s⟩ := kO_sat h0s
          obtain ⟨hb, hlim⟩ := lookW_spec hb
          obtain ⟨bs, r, hr, hbs, h2s⟩ := kS_sat h1s
          split at h2s
          · rename_i new u
            split at h2s
            · rename_i ho ht hnw huw hxi hxt0
              have ho := Nat.eq_of_beq_eq_true ho
              have ht := Nat.eq_of_beq_eq_true ht
              have hxi := Nat.beq_eq_false_iff.1 hxi
              have hxt := Nat.eq_of_beq_eq_true hxt0
              subst ho
              obtain ⟨bcs, bty⟩ := b
              obtain ⟨xcs, xty⟩ := bb
              dsimp only at ht hr hbbc hxt
              subst ht hbbc
              refine .inl ⟨h1, fun R' hR => ?_⟩
              obtain ⟨hid, _, hcell⟩ := hI.H.blk id _ hb
              obtain ⟨hxd, _, hxcell⟩ := hI.H.blk x _ hbb
              have hne : ρ x ≠ ρ id := fun e => hxi (hI.H.inj x id hxd hid e)
              rw [hxt] at hxcell
              have hc := h2 bcs rest bs new u ρ (ρ id) (ρ x) w hr hbs hcell hxcell hne
              rw [hf] at hc
              refine Calls.mono hc ?_
              rintro e w' ⟨rfl, htch, hnew⟩
              exact hR _ _ (hn (.u u) _ ρ w' (hI.later (Ext.refl _ _) (Nat.le_refl _) (hI.H.touch hb hlim htch hnw hnew)) (Ext.refl _ _) (Nat.le_refl _) (V.wf_mono (Nat.zero_le _) (.u u) huw) h2s)
            · exact h2s.elim
          · exact h2s.elim
        · exact h0s.elim
      · exact h.elim
    rename_i hbnone
    split at h
    case h_2 =>
      rename_i ty hty
      have hH := (hS q hmem).2
      rcases hH with ⟨ty', e1, _⟩ | ⟨_, hH⟩
      · rw [hbnone] at e1; cases e1
      rcases hH with ⟨ty', e1, e2, h1, h2⟩ | ⟨e1, _⟩
      case inr => rw [hty] at e1; cases e1
      rw [hty] at e1
      cases e1
      rw [hf] at h1
      split at h
      · rename_i id off rest
        obtain ⟨b, hb, h1s⟩ := kO_sat h
        obtain ⟨hb, hlim⟩ := lookW_spec hb
        obtain ⟨bs, r, hr, hbs, h2s⟩ := kS_sat h1s
        split at h2s
        · rename_i new u
          split at h2s
          · rename_i ho ht hnw huw
            have ho := Nat.eq_of_beq_eq_true ho
            have ht := Nat.eq_of_beq_eq_true ht
            subst ho
            obtain ⟨bcs, bty⟩ := b
            dsimp only at ht hr
            subst ht
            refine .inl ⟨h1, fun R' hR => ?_⟩
            obtain ⟨_, _, hcell⟩ := hI.H.blk id _ hb
            have hc := h2 bcs rest bs new u ρ (ρ id) w hr hbs hcell
            rw [hf] at hc
            refine Calls.mono hc ?_
            rintro e w' ⟨rfl, htch, hnew⟩
            exact hR _ _ (hn (.u u) _ ρ w' (hI.later (Ext.refl _ _) (Nat.le_refl _) (hI.H.touch hb hlim htch hnw hnew)) (Ext.refl _ _) (Nat.le_refl _) (V.wf_mono (Nat.zero_le _) (.u u) huw) h2s)
          · exact h2s.elim
        · exact h2s.elim
      · exact h.elim
    rename_i hnone
    obtain ⟨bs, r, hr, hbs, hs⟩ := kS_sat h
    split at hs
    · rename_i hw
      have hH := (hS q hmem).2
      rcases hH with ⟨ty', e1, _⟩ | ⟨_, hH⟩
      · rw [hbnone] at e1; cases e1
      rcases hH with ⟨ty', e1, _⟩ | ⟨_, hH⟩
      · rw [hnone] at e1; cases e1
      rcases hH with ⟨_, hx⟩ | ⟨_, h1, h2⟩
      · right
        have hx := hx args bs r ρ w hr hbs
        rw [hf] at hx
        exact ⟨_, hx, hn r σ ρ w hI (Ext.refl _ _) (Nat.le_refl _) (V.wf_mono (Nat.zero_le _) r hw) hs⟩
      rw [hf] at h1 h2
      refine .inl ⟨h1, fun R' hR => ?_⟩
      refine (h2 args bs r ρ w hr hbs).mono ?_
      rintro e w' ⟨rfl, hb⟩
      exact hR _ _ (hn r σ ρ w' (hI.later (Ext.refl _ _) (Nat.le_refl _) (hI.H.below hb)) (Ext.refl _ _) (Nat.le_refl _) (V.wf_mono (Nat.zero_le _) r hw) hs)
    · exact hs.elim
  · obtain ⟨fn, hfn, hs⟩ := kO_sat h
    obtain ⟨c, hc, hs⟩ := kO_sat hs
    refine .inl ⟨⟨fn, hfn, by rw [hc]; rfl⟩, fun R' hR => ?_⟩
    split at hs
    · rename_i hl hw
      have hl' := Nat.le_of_ble_eq_true hl
      have hI' := Inv.enter (ρ := ρ) hI.H args fn.ntmps hl' hw
      refine calls_of_wp hfn hc ?_
      refine hih W n0 ρ0 fn.ntmps R c _ _ ρ _ w _ hI' hs ?_
      intro e σ' ρ' a' w' hI2 hE hle hk
      have fin : (kO (resV P σ' fn.results.toList) fun r => match r.wf σ'.n with | true => k r { tm := σ.tm, hp := σ'.hp, n := σ'.n } | false => .no 32).sat R →
          a'.defers = [] ∧ ∃ v, (results fn a'.tmps).run P w' = .ok v w' ∧ R' (.returned v) w' := by
        intro hk
        obtain ⟨r, hr, hk⟩ := kO_sat hk
        split at hk
        · rename_i hwr
          exact ⟨hI2.defers, _, resV_den hI2 hr, hR _ _ (hn r _ ρ' w' (hI.later hE hle hI2.H) hE hle hwr hk)⟩
        · exact hk.elim
      cases e with
      | normal => exact fin hk
      | ret => exact fin hk
      | exit id => exact hk.elim
    · exact hs.elim

theorem callX_sound (hS : ∀ q ∈ S, SumOK P q) {ih : Nat → Code → St → K → Tr} (hih : Snd P ih) {f : FuncId} {args : List V} {k : V → St → Tr} (hI : Inv W n0 ρ0 N ρ σ a w)
    (h : (callX P S ih f args σ k).sat R) {next : Value → World → Prop} (hn : NextS W n0 ρ0 N R ρ σ a k next) :
    ((∃ fn, P.funcs[f]? = some fn ∧ fn.body.isSome = true) ∧ ∀ R' : Ending → World → Prop, (∀ v w', next v w' → R' (.returned v) w') → Calls P f (args.map (V.den ρ)).toArray w R') ∨
    ∃ v, (callFunc f (args.map (V.den ρ)).toArray).run P w = .ok (.value v) w ∧ next v w := by
  unfold callX at h
  split at h
  · rename_i q hq
    obtain ⟨hmem, hf⟩ := lookS_mem hq
    split at h
    · rename_i mm hmm
      obtain ⟨h1, h2⟩ := (hS q hmem).1.1 mm hmm
      rw [hf] at h1
      obtain ⟨ms, hms, hs⟩ := kO_sat h
      split at hs
      · rename_i hw hwr
        obtain ⟨hpre, hs⟩ := hs
        refine .inl ⟨h1, fun R' hR => ?_⟩
        have := h2 σ.hp.x args ms ρ w hms hpre hw hI.H.mem.sub
        rw [hf] at this
        refine this.mono ?_
        rintro e w' ⟨y, g1, rfl, g2⟩
        have hs := hs y g1
        dsimp only at hs
        split at hs
        · rename_i hrw
          exact hR _ _ (hn (ms.ret y) _ ρ w' (hI.later (Ext.refl _ _) (Nat.le_refl _) (hI.H.memTo hwr g2)) (Ext.refl _ _) (Nat.le_refl _) (V.wf_mono (Nat.zero_le _) _ hrw) hs)
        · exact hs.elim
      · exact hs.elim
    · split at h
      · rename_i rd hrd
        obtain ⟨h1, h2⟩ := (hS q hmem).1.2.1 rd hrd
        rw [hf] at h1
        obtain ⟨r, hr, hs⟩ := kO_sat h
        split at hs
        · rename_i hw hrw
          obtain ⟨hpre, hs⟩ := hs
          refine .inl ⟨h1, fun R' hR => ?_⟩
          have := h2 σ.hp.x args r.1 r.2 ρ w hr hpre hw hI.H.mem.sub
          rw [hf] at this
          refine this.mono ?_
          rintro e w' ⟨rfl, g2⟩
          exact hR _ _ (hn r.2 _ ρ w' (hI.later (Ext.refl _ _) (Nat.le_refl _) (hI.H.below g2)) (Ext.refl _ _) (Nat.le_refl _) (V.wf_mono (Nat.zero_le _) _ hrw) hs)
        · exact hs.elim
      · split at h
        · rename_i dm hdm
          obtain ⟨h1, h2⟩ := (hS q hmem).1.2.2 dm hdm
          rw [hf] at h1
          obtain ⟨r, hr, hs⟩ := kO_sat h
          split at hs
          · rename_i hw hrw hwr
            obtain ⟨hpre, hs⟩ := hs
            refine .inl ⟨h1, fun R' hR => ?_⟩
            have := h2 σ.hp.x args r.1 r.2.1 r.2.2 ρ w hr hpre hw hI.H.mem.sub
            rw [hf] at this
            refine this.mono ?_
            rintro e w' ⟨rfl, g2⟩
            exact hR _ _ (hn r.2.2 _ ρ w' (hI.later (Ext.refl _ _) (Nat.le_refl _) (hI.H.memTo hwr g2)) (Ext.refl _ _) (Nat.le_refl _) (V.wf_mono (Nat.zero_le _) _ hrw) hs)
          · exact hs.elim
        · exact callx_sound hS hih hI h hn
  · exact callx_sound hS hih hI h hn

theorem wp_enter {o : Oper} {f : FuncId} {args : Array Value} {next : Act → World → Prop} {Q : Exit → Act → World → Prop} (h : (execOp a.eval o).run P w = .ok (.enter f args) w)
    (hc : ∀ R' : Ending → World → Prop, (∀ v w', next (a.put o.dst v) w' → R' (.returned v) w') → Calls P f args w R') : o.wp P a w next Q := by
  simp only [Oper.wp, h, Oper.upon_enter]
  exact hc _ fun v w' hv => hv

theorem run_callFunc (hN : NameOK P) {f : FuncId} {fn : Func} (hf : P.funcs[f]? = some fn) (hb : fn.body.isSome = true) (args : Array Value) (w : World) : (callFunc f args).run P w = .ok (.enter f args) w := by
  have h1 := hN f fn hf
  have h1' : ¬ fn.name = "runtime.NumGoroutine" := by simpa using h1
  have h2 : ¬ fn.body = none := by intro e; rw [e] at hb; cases hb
  simp [callFunc, hf, h1', h2]

theorem builtinC_sound {b : Builtin} {args : List V} {v : V} (h : builtinC b args = some v) (hb : b ≠ .len) (ts : Array TypeId) (t : TypeId) (cs : Array Bool) (ρ : Nat → Nat) (w : World) :
    (builtin b ts t cs (args.map (V.den ρ)).toArray).run P w = .ok (.value (v.den ρ)) w ∧ ∀ n, v.wf n = true := by
  unfold builtinC at h
  split at h
  · split at h
    · rename_i lx kx nx ly ky ny hx hy
      cases h
      refine ⟨?_, fun n => mkI_wf _ _ _ n⟩
      simp only [List.map_cons, List.map_nil, V.den, U.den, C.int_den hx ρ, C.int_den hy ρ, mkI_den]
      simp [builtin, run_max_int2, iMax2]
    · cases h
  · split at h
    · rename_i lx kx nx ly ky ny hx hy
      cases h
      refine ⟨?_, fun n => mkI_wf _ _ _ n⟩
      simp only [List.map_cons, List.map_nil, V.den, U.den, C.int_den hx ρ, C.int_den hy ρ, mkI_den]
      simp [builtin, run_min_int2, iMin2]
    · cases h
  · exact absurd rfl hb
  · exact absurd rfl hb
  · cases h

theorem run_callMethod {t : TypeId} {name : String} {f : FuncId} (h : methC P t name = some f) (p : Option Addr) (args : Array Value) (w : World) :
    (callMethod (.iface t (.pointer p)) name args).run P w = (callFunc f (#[.pointer p] ++ args)).run P w := by
  unfold methC at h
  split at h
  · rename_i it e hi hu
    split at h
    · rename_i m hm
      split at h
      · rename_i g hpath hfun
        cases h
        have hm' : it.methods.find? (fun m => m.name == name) = some m := by rw [← Array.find?_toList]; exact hm
        have hp : m.path.toList = [] := hpath
        have hmeth : (method (P.types.size + Made.depth) t (.pointer p) name).run P w = .ok (f, .pointer p) w := by
          obtain ⟨n, hn⟩ : ∃ n, P.types.size + Made.depth = n + 1 := ⟨P.types.size + (Made.depth - 1), by simp [Made.depth]⟩
          rw [hn]
          simp only [method, Sem.run_bind, typeInfo, run_program, Result.andThen_ok, hi, Sem.run_pure, hm', hp, follow, hfun, receiverAt, run_underlying hu, Place.get]
        simp only [callMethod, Sem.run_bind, run_program, Result.andThen_ok, hmeth]
      · cases h
    · cases h
  · cases h

theorem opAny_sound (hN : NameOK P) (hS : ∀ q ∈ S, SumOK P q) {ih : Nat → Code → St → K → Tr} (hih : Snd P ih) {o : Oper} {k : V → St → Tr} {next : Act → World → Prop} {Q : Exit → Act → World → Prop}
    (hI : Inv W n0 ρ0 N ρ σ a w) (h : (opAny P S ih o σ k).sat R) (hn : NextS W n0 ρ0 N R ρ σ a k fun v w' => next (a.put o.dst v) w') : o.wp P a w next Q := by
  unfold opAny at h
  split at h
  · rename_i c hop
    split at h
    · rename_i x hcal
      obtain ⟨q, hq, hs⟩ := kO_sat h
      obtain ⟨f, cs⟩ := q
      unfold calleeOf at hq
      split at hq
      · rename_i f' cs' hx
        cases hq
        have hd : a.eval x = .func (.func f) #[] (cs.map (ptrV ρ)).toArray := by rw [ev_den hI x, hx]; rfl
        have hargs : c.args.map a.eval ++ (cs.map (ptrV ρ)).toArray = ((evs σ c.args.toList ++ cs.map ptrC).map (V.den ρ)).toArray := by
          apply Array.ext'
          rw [Array.toList_append, Array.toList_map, evs_den hI, List.map_append, ptrC_den]
        have hrun : (execOp a.eval o).run P w = (callFunc f ((evs σ c.args.toList ++ cs.map ptrC).map (V.den ρ)).toArray).run P w := by
          unfold execOp
          rw [hop]
          simp only [Sem.run_bind, resolve, hcal, hd, Deferred.ofValue, Sem.run_pure, Result.andThen_ok, invoke, Array.empty_append]
          rw [hargs]
        rcases callX_sound hS hih hI hs hn with ⟨⟨fn, hfn, hbody⟩, hcalls⟩ | ⟨v, hv, hnx⟩
        · refine wp_enter (f := f) (args := ((evs σ c.args.toList ++ cs.map ptrC).map (V.den ρ)).toArray) ?_ hcalls
          rw [hrun]
          exact run_callFunc hN hfn hbody _ _
        · simp only [Oper.wp, hrun, hv, Oper.upon_value]
          exact hnx
      · cases hq
    · rename_i b hcal
      obtain ⟨ks, hre⟩ : ∃ ks, (execOp a.eval o).run P w = (builtin b c.argTypes o.type ks (c.args.map a.eval)).run P w := by
        unfold execOp
        rw [hop]
        simp only [Sem.run_bind, resolve, hcal, Sem.run_pure, Result.andThen_ok, invoke]
        exact ⟨_, rfl⟩
      have hargs : c.args.map a.eval = ((evs σ c.args.toList).map (V.den ρ)).toArray := by
        apply Array.ext'
        rw [Array.toList_map, evs_den hI]
      have fin : ∀ v : V, (execOp a.eval o).run P w = .ok (.value (v.den ρ)) w → (∀ n, v.wf n = true) → (k v σ).sat R → o.wp P a w next Q := by
        intro v hr hw hs
        simp only [Oper.wp, hr, Oper.upon_value]
        exact hn v σ ρ w hI (Ext.refl _ _) (Nat.le_refl _) (hw _) hs
      split at h
      · split at h
        · rename_i hwfa
          obtain ⟨v, σ', ρ', w', g1, g2, g3, g4, g5, g6⟩ := bltM_sound hI hwfa h o.type ks
          have hr : (execOp a.eval o).run P w = .ok (.value (v.den ρ')) w' := by rw [hre, hargs]; exact g6
          simp only [Oper.wp, hr, Oper.upon_value]
          exact hn v σ' ρ' w' g1 g2 g3 g4 g5
        · exact h.elim
      split at h
      · rename_i hlen
        have hb : b = .len := by cases b <;> simp [isLen] at hlen <;> rfl
        subst hb
        split at h
        · rename_i t ht
          split at h
          · rename_i e hu
            obtain ⟨v, hv, hs⟩ := kO_sat h
            generalize hes : evs σ c.args.toList = es at hv hargs
            unfold builtinC at hv
            split at hv
            · rename_i hh; cases hh
            · rename_i hh; cases hh
            · rename_i id off n cap
              cases hv
              refine fin _ ?_ (fun n => rfl) hs
              rw [hre, hargs]
              have hts : c.argTypes = #[t] := by apply Array.ext'; simpa using ht
              simp [builtin, Builtin.len_, hts, run_underlying hu, V.den, U.den, C.den, goInt]
            · rename_i n cap
              cases hv
              refine fin _ ?_ (fun n => rfl) hs
              rw [hre, hargs]
              have hts : c.argTypes = #[t] := by apply Array.ext'; simpa using ht
              simp [builtin, Builtin.len_, hts, run_underlying hu, V.den, U.den, C.den, goInt]
            · cases hv
          · rename_i kt et hu
            obtain ⟨v, hv, hs⟩ := kO_sat h
            generalize hes : evs σ c.args.toList = es at hv hargs
            unfold lenM at hv
            split at hv
            · rename_i id
              split at hv
              · rename_i b hb
                cases hv
                obtain ⟨_, _, hbh⟩ := hI.H.mblk id b hb
                refine fin _ ?_ (fun n => rfl) hs
                rw [hre, hargs]
                have hts : c.argTypes = #[t] := by apply Array.ext'; simpa using ht
                have hsz : (mden ρ b.1).size = b.1.length := by simp [mden]
                simp [builtin, Builtin.len_, hts, run_underlying hu, V.den, U.den, C.den, goInt, MapKept.run_getObj_map hbh, hsz]
              · cases hv
            · cases hv
          · exact h.elim
        · exact h.elim
      · rename_i hlen
        split at h
        · rename_i hdel
          have hb : b = .delete := by cases b <;> simp [isDel] at hdel <;> rfl
          subst hb
          split at h
          · rename_i t r m x hts hxs
            obtain ⟨σ', hσ, hs⟩ := kO_sat h
            have hargs' : c.args.map a.eval = #[a.eval m, a.eval x] := by
              apply Array.ext'
              rw [Array.toList_map, hxs]
              rfl
            have hts' : c.argTypes[0]? = some t := by rw [← Array.getElem?_toList, hts]; rfl
            obtain ⟨w', e1, e2, e3⟩ := run_delS (ts := c.argTypes) (ty := o.type) hI hts' hσ
            have hr : (execOp a.eval o).run P w = .ok (.value (.tuple #[])) w' := by
              rw [hre, hargs']
              exact run_v (s := Builtin.delete_ c.argTypes o.type #[a.eval m, a.eval x]) e1
            simp only [Oper.wp, hr, Oper.upon_value]
            exact hn (.tup []) σ' ρ w' e2 (Ext.refl _ _) (Nat.le_of_eq e3.symm) rfl hs
          · exact h.elim
        obtain ⟨v, hv, hs⟩ := kO_sat h
        have hl : b ≠ .len := by intro e; subst e; cases hlen
        obtain ⟨e1, e2⟩ := builtinC_sound (P := P) hv hl c.argTypes o.type ks ρ w
        exact fin v (by rw [hre, hargs]; exact e1) e2 hs
    · rename_i r name hcal
      split at h
      · rename_i t id off hr
        obtain ⟨f, hf, hs⟩ := kO_sat h
        have hd : a.eval r = .iface t (.pointer (some ⟨ρ id, off, none⟩)) := by rw [ev_den hI r, hr]; rfl
        have hargs : #[Value.pointer (some ⟨ρ id, off, none⟩)] ++ c.args.map a.eval = ((V.u (.c (.ptr id off)) :: evs σ c.args.toList).map (V.den ρ)).toArray := by
          apply Array.ext'
          rw [Array.toList_append, Array.toList_map, evs_den hI]
          rfl
        have hrun : (execOp a.eval o).run P w = (callFunc f ((V.u (.c (.ptr id off)) :: evs σ c.args.toList).map (V.den ρ)).toArray).run P w := by
          unfold execOp
          rw [hop]
          simp only [Sem.run_bind, resolve, hcal, hd, Sem.run_pure, Result.andThen_ok, invoke]
          have e0 : (#[Value.iface t (.pointer (some ⟨ρ id, off, none⟩))] ++ c.args.map a.eval)[0]? = some (Value.iface t (.pointer (some ⟨ρ id, off, none⟩))) := by rw [Array.getElem?_append_left (by simp)]; rfl
          have e1 : (#[Value.iface t (.pointer (some ⟨ρ id, off, none⟩))] ++ c.args.map a.eval).extract 1 (#[Value.iface t (.pointer (some ⟨ρ id, off, none⟩))] ++ c.args.map a.eval).size = c.args.map a.eval := by
            generalize c.args.map a.eval = xs
            apply Array.ext'
            simp [List.extract_eq_take_drop]
          simp only [e0, e1]
          rw [run_callMethod hf, hargs]
        rcases callX_sound hS hih hI hs hn with ⟨⟨fn, hfn, hbody⟩, hcalls⟩ | ⟨v, hv, hnx⟩
        · refine wp_enter (f := f) (args := ((V.u (.c (.ptr id off)) :: evs σ c.args.toList).map (V.den ρ)).toArray) ?_ hcalls
          rw [hrun]
          exact run_callFunc hN hfn hbody _ _
        · simp only [Oper.wp, hrun, hv, Oper.upon_value]
          exact hnx
      · rename_i v hr
        obtain ⟨hif, h⟩ : isIfV (pl v) = true ∧ (ifX P S ih (pl v) name (evs σ c.args.toList) σ k ifaceTs).sat R := by
          cases hb : isIfV (pl v) with
          | true => exact ⟨rfl, h.1 hb⟩
          | false => exact (h.2 hb).elim
        have key : ∀ l : List TypeId, (ifX P S ih (pl v) name (evs σ c.args.toList) σ k l).sat R → o.wp P a w next Q := by
          intro l
          induction l with
          | nil => intro h; exact h.elim
          | cons t l ihl =>
            intro h
            obtain ⟨h1, h2⟩ := h
            cases hb : ifIs t (pl v) with
            | false => exact ihl (h2 hb)
            | true =>
              have h := h1 hb
              obtain ⟨f, hf, hs⟩ := kO_sat h
              obtain ⟨p, hpv, hpp⟩ : ∃ p : Option Addr, pl v = .iface t (.pointer p) ∧ pv (ifP t (pl v)) 0 = .pointer p := by
                generalize pl v = u at hif hb
                unfold isIfV at hif
                split at hif
                · cases hb
                · rename_i u'
                  have hb' : Nat.beq u' t = true := hb
                  have hut := Nat.eq_of_beq_eq_true hb'
                  subst hut
                  exact ⟨none, rfl, rfl⟩
                · rename_i u' b'
                  have hb' : Nat.beq u' t = true := hb
                  have hut := Nat.eq_of_beq_eq_true hb'
                  subst hut
                  refine ⟨some ⟨b', 0, none⟩, rfl, ?_⟩
                  have hp1 : ((b' : Int) + 1).toNat = b' + 1 := by omega
                  simp [ifP, pv, hp1]
                · cases hif
              have hd : a.eval r = .iface t (.pointer p) := by rw [ev_den hI r, hr]; exact hpv
              have hargs : #[Value.pointer p] ++ c.args.map a.eval = ((V.u (.c (.np (ifP t (pl v)) 0)) :: evs σ c.args.toList).map (V.den ρ)).toArray := by
                apply Array.ext'
                rw [Array.toList_append, Array.toList_map, evs_den hI, List.map_cons]
                show [Value.pointer p] ++ _ = pv (ifP t (pl v)) 0 :: _
                rw [hpp]; rfl
              have hrun : (execOp a.eval o).run P w = (callFunc f ((V.u (.c (.np (ifP t (pl v)) 0)) :: evs σ c.args.toList).map (V.den ρ)).toArray).run P w := by
                unfold execOp
                rw [hop]
                simp only [Sem.run_bind, resolve, hcal, hd, Sem.run_pure, Result.andThen_ok, invoke]
                have e0 : (#[Value.iface t (.pointer p)] ++ c.args.map a.eval)[0]? = some (Value.iface t (.pointer p)) := by rw [Array.getElem?_append_left (by simp)]; rfl
                have e1 : (#[Value.iface t (.pointer p)] ++ c.args.map a.eval).extract 1 (#[Value.iface t (.pointer p)] ++ c.args.map a.eval).size = c.args.map a.eval := by
                  generalize c.args.map a.eval = xs
                  apply Array.ext'
                  simp [List.extract_eq_take_drop]
                simp only [e0, e1]
                rw [run_callMethod hf, hargs]
              rcases callX_sound hS hih hI hs hn with ⟨⟨fn, hfn, hbody⟩, hcalls⟩ | ⟨v', hv, hnx⟩
              · refine wp_enter (f := f) (args := ((V.u (.c (.np (ifP t (pl v)) 0)) :: evs σ c.args.toList).map (V.den ρ)).toArray) ?_ hcalls
                rw [hrun]
                exact run_callFunc hN hfn hbody _ _
              · simp only [Oper.wp, hrun, hv, Oper.upon_value]
                exact hnx
        exact key _ h
      · exact h.elim
  · rename_i hop
    obtain ⟨v, σ', ρ', w', h1, h2, h3, h4, h5, h6⟩ : OpS P W n0 ρ0 N R ρ σ a w (execOp a.eval o) k := by
      split at h
      · exact rngX_sound hI h
      · exact opX_sound hI h
    rcases h6 with h6 | ⟨h6, rfl⟩
    · simp only [Oper.wp, h6, Oper.upon_value]
      exact hn v σ' ρ' w' h1 h2 h3 h4 h5
    · simp only [Oper.wp, h6, Oper.upon_skip]
      exact hn (.tup []) σ' ρ' w' h1 h2 h3 h4 h5

end
end Go.Proofs.Ytnlohongffpkpaa.Sx
end

section
/- The symbolic executor tells what the machine does: whole code. A text of the session's own. -/
namespace Go.Proofs.Ytnlohongffpkpaa.Sx
open Go Go.RowKit

section
variable {P : Program} {S : List Sum} {W : World} {n0 : NL} {ρ0 : Nat → Nat} {N : Nat} {ρ : Nat → Nat} {σ : St} {a : Act} {w : World} {R : Leaf → Prop}

theorem okDst_lt {d : Option Tmp} (h : okDst N d = true) : ∀ d', d = some d' → d' < N := by
  intro d' e; subst e; simpa [okDst] using h

theorem yielded_of {ops : Array Oper} {j t : Nat} {b : Bool} (hI : Inv W n0 ρ0 N ρ σ a w) (hg : guardTmp ops j = some t) (ht : t < N) (hb : (look σ.tm t).den ρ = .bool b) : yielded ops a.tmps j = some b := by
  have h1 : (ops[j]?).bind (·.dst) = some t := by
    unfold guardTmp at hg
    split at hg
    · rename_i o ho; rw [ho]; exact hg
    · cases hg
  have h2 : a.tmps[t]? = some (.bool b) := by
    have e := hI.tm t
    rw [hb] at e
    have hlt : t < a.tmps.size := by rw [hI.sz]; exact ht
    rw [Array.getElem?_eq_getElem hlt]
    rw [Array.getD_eq_getD_getElem?, Array.getElem?_eq_getElem hlt] at e
    simpa using e
  simp [yielded, h1, h2]

theorem yielded_undef {ops : Array Oper} {j t : Nat} (hI : Inv W n0 ρ0 N ρ σ a w) (hg : guardTmp ops j = some t) (ht : t < N) (hb : (look σ.tm t).den ρ = .tuple #[]) : yielded ops a.tmps j = none := by
  have h1 : (ops[j]?).bind (·.dst) = some t := by
    unfold guardTmp at hg
    split at hg
    · rename_i o ho; rw [ho]; exact hg
    · cases hg
  have h2 : a.tmps[t]? = some (.tuple #[]) := by
    have e := hI.tm t
    rw [hb] at e
    have hlt : t < a.tmps.size := by rw [hI.sz]; exact ht
    rw [Array.getElem?_eq_getElem hlt]
    rw [Array.getD_eq_getD_getElem?, Array.getElem?_eq_getElem hlt] at e
    simpa using e
  simp [yielded, h1, h2]

def wpSeq (P : Program) (ops : Array Oper) (Q : Exit → Act → World → Prop) (Kc : Act → World → Prop) : List Oper → Act → World → Prop
  | [], a, w => Kc a w
  | o :: rest, a, w => if Region.wanted o (yielded ops a.tmps) then o.wp P a w (wpSeq P ops Q Kc rest) Q ∨ (o.asks P a w ∧ LetsOut Q) else wpSeq P ops Q Kc rest (a.put o.dst undef) w

theorem wpSeq_list {P : Program} {ops : Array Oper} {Q : Exit → Act → World → Prop} : ∀ (l : List Oper), wpSeq P ops Q (Q .normal) l = wpList P ops Q l
  | [] => rfl
  | o :: l => by
    funext a w
    simp only [wpSeq, wpList, wpSeq_list l]

theorem opsx_seq (hN : NameOK P) (hS : ∀ q ∈ S, SumOK P q) {ih : Nat → Code → St → K → Tr} (hih : Snd P ih) (ops : Array Oper) {k : St → Tr} {Q : Exit → Act → World → Prop} {Kc : Act → World → Prop} :
    ∀ (l : List Oper) (σ : St) (ρ : Nat → Nat) (a : Act) (w : World), Inv W n0 ρ0 N ρ σ a w → (opsx P S ih N ops l σ k).sat R →
      (∀ σ' ρ' a' w', Inv W n0 ρ0 N ρ' σ' a' w' → Ext σ.n ρ ρ' → σ.n ≤ σ'.n → (k σ').sat R → Kc a' w') → wpSeq P ops Q Kc l a w := by
  intro l
  induction l with
  | nil => intro σ ρ a w hI h hk; exact hk σ ρ a w hI (Ext.refl _ _) (Nat.le_refl _) h
  | cons o rest ihl =>
    intro σ ρ a w hI h hk
    simp only [opsx] at h
    split at h
    · exact h.elim
    · rename_i hd
      have hd' := okDst_lt hd
      have run : ∀ σ1 : St, Inv W n0 ρ0 N ρ σ1 a w → σ1.n = σ.n → Region.wanted o (yielded ops a.tmps) = true →
          (opAny P S ih o σ1 fun v σ' => opsx P S ih N ops rest (σ'.put o.dst v) k).sat R → wpSeq P ops Q Kc (o :: rest) a w := by
        intro σ1 hI1 hn hw hs
        unfold wpSeq
        rw [if_pos hw]
        refine .inl (opAny_sound hN hS hih hI1 hs ?_)
        intro v σ' ρ' w' hI' hE hle hv hs'
        have hp := hI'.put o.dst v hd' hv
        rw [hn] at hE hle
        have hn' : (σ'.put o.dst v).n = σ'.n := by unfold St.put; split <;> rfl
        exact ihl _ ρ' _ w' hp hs' fun σ2 ρ2 a2 w2 hI2 hE2 hle2 hk2 => hk σ2 ρ2 a2 w2 hI2 (hE.trans (by rw [hn']; exact hle) hE2) (by omega) hk2
      have skip : ∀ σ1 : St, Inv W n0 ρ0 N ρ σ1 a w → σ1.n = σ.n → Region.wanted o (yielded ops a.tmps) = false →
          (opsx P S ih N ops rest (σ1.put o.dst (.tup [])) k).sat R → wpSeq P ops Q Kc (o :: rest) a w := by
        intro σ1 hI1 hn hw hs
        unfold wpSeq
        rw [if_neg (by simp [hw])]
        have hp := hI1.put o.dst (.tup []) hd' rfl
        have hn' : (σ1.put o.dst (.tup [])).n = σ1.n := by unfold St.put; split <;> rfl
        exact ihl _ ρ _ w hp hs fun σ2 ρ2 a2 w2 hI2 hE2 hle2 hk2 => hk σ2 ρ2 a2 w2 hI2 (by rw [hn', hn] at hE2; exact hE2) (by omega) hk2
      split at h
      · rename_i hg
        exact run σ hI rfl (by simp [Region.wanted, hg]) h
      · rename_i j want hg
        split at h
        · exact h.elim
        · rename_i t hgt
          split at h
          · exact h.elim
          · rename_i ht
            have ht' : t < N := by simpa using ht
            split at h
            · rename_i b hb
              have hy := yielded_of hI hgt ht' (b := b) (by rw [hb]; rfl)
              split at h
              · rename_i hbw
                exact run σ hI rfl (by simp only [Region.wanted, hg, hy]; simpa using hbw) h
              · rename_i hbw
                exact skip σ hI rfl (by simp only [Region.wanted, hg, hy]; simpa using hbw) h
            · rename_i b hb
              have hy := yielded_of hI hgt ht' (b := b) (by rw [hb]; rfl)
              have fin : ∀ c : Bool, b = c → (match c == want with
                  | true => opAny P S ih o (retell σ (.tmp t) c) fun v σ' => opsx P S ih N ops rest (σ'.put o.dst v) k
                  | false => opsx P S ih N ops rest ((retell σ (.tmp t) c).put o.dst (.tup [])) k).sat R → wpSeq P ops Q Kc (o :: rest) a w := by
                intro c hc hs
                subst hc
                have hI1 : Inv W n0 ρ0 N ρ (retell σ (.tmp t) b) a w := hI.retell t _ rfl (by rw [hb]; rfl)
                split at hs
                · rename_i hbw
                  exact run _ hI1 rfl (by simp only [Region.wanted, hg, hy]; simpa using hbw) hs
                · rename_i hbw
                  exact skip _ hI1 rfl (by simp only [Region.wanted, hg, hy]; simpa using hbw) hs
              obtain ⟨h1, h2⟩ := h
              cases hbb : b with
              | true => exact fin true hbb (h1 hbb)
              | false => exact fin false hbb (h2 hbb)
            · rename_i hb
              have hy := yielded_undef hI hgt ht' (by rw [hb]; rfl)
              exact skip σ hI rfl (by simp [Region.wanted, hg, hy]) h
            · exact h.elim

theorem opsx_sound (hN : NameOK P) (hS : ∀ q ∈ S, SumOK P q) {ih : Nat → Code → St → K → Tr} (hih : Snd P ih) (ops : Array Oper) {k : St → Tr} {Q : Exit → Act → World → Prop} :
    ∀ (l : List Oper) (σ : St) (ρ : Nat → Nat) (a : Act) (w : World), Inv W n0 ρ0 N ρ σ a w → (opsx P S ih N ops l σ k).sat R →
      (∀ σ' ρ' a' w', Inv W n0 ρ0 N ρ' σ' a' w' → Ext σ.n ρ ρ' → σ.n ≤ σ'.n → (k σ').sat R → Q .normal a' w') → wpList P ops Q l a w := by
  intro l σ ρ a w hI h hk
  rw [← wpSeq_list]
  exact opsx_seq hN hS hih ops l σ ρ a w hI h hk

theorem loopx_sound {ih : Nat → Code → St → K → Tr} (hih : Snd P ih) (x : Code) {k : K} {Q : Exit → Act → World → Prop} : ∀ (m : Nat) (σ : St) (ρ : Nat → Nat) (a : Act) (w : World),
    Inv W n0 ρ0 N ρ σ a w → (loopx ih N x k m σ).sat R →
    (∀ e σ' ρ' a' w', Inv W n0 ρ0 N ρ' σ' a' w' → Ext σ.n ρ ρ' → σ.n ≤ σ'.n → (k e σ').sat R → Q e.to a' w') → Code.rounds P x Q m a w := by
  intro m
  induction m with
  | zero => intro σ ρ a w _ h _; exact h.elim
  | succ m ihm =>
    intro σ ρ a w hI h hk
    rw [rounds_succ]
    simp only [loopx] at h
    refine hih W n0 ρ0 N R x σ _ ρ a w _ hI h ?_
    intro e σ' ρ' a' w' h1 h2 h3 h4
    cases e with
    | normal => exact ihm σ' ρ' a' w' h1 h4 fun e2 σ2 ρ2 a2 w2 g1 g2 g3 g4 => hk e2 σ2 ρ2 a2 w2 g1 (h2.trans h3 g2) (by omega) g4
    | exit id => exact hk (.exit id) σ' ρ' a' w' h1 h2 h3 h4
    | ret => exact hk .ret σ' ρ' a' w' h1 h2 h3 h4

theorem samePtrs_eq : ∀ {l r : List (Nat × Nat)}, samePtrs l r = true → l = r
  | [], [], _ => rfl
  | (a, b) :: l, (c, d) :: r, h => by
    simp only [samePtrs, Bool.and_eq_true] at h
    obtain ⟨⟨h1, h2⟩, h3⟩ := h
    rw [Nat.eq_of_beq_eq_true h1, Nat.eq_of_beq_eq_true h2, samePtrs_eq h3]
theorem eqP_eq {c c' : C} (h : eqP c c' = true) : c = c' := by
  unfold eqP at h
  split at h
  all_goals first
    | rfl
    | (cases h; done)
    | rw [Nat.eq_of_beq_eq_true h]
    | (simp only [Bool.and_eq_true] at h
       first
         | (obtain ⟨⟨⟨h1, h2⟩, h3⟩, h4⟩ := h; rw [Nat.eq_of_beq_eq_true h1, Nat.eq_of_beq_eq_true h2, Nat.eq_of_beq_eq_true h3, Nat.eq_of_beq_eq_true h4])
         | (obtain ⟨⟨h1, h2⟩, h3⟩ := h; rw [Nat.eq_of_beq_eq_true h1, Nat.eq_of_beq_eq_true h2, Nat.eq_of_beq_eq_true h3])
         | (obtain ⟨h1, h2⟩ := h; rw [Nat.eq_of_beq_eq_true h1, samePtrs_eq h2])
         | (obtain ⟨h1, h2⟩ := h; rw [Nat.eq_of_beq_eq_true h1, Nat.eq_of_beq_eq_true h2]))
theorem pl_pl (v : Value) : pl (pl v) = pl v := by cases v <;> rfl
theorem cls_raw {v : Value} : clsC (.raw v) = .f ∨ clsC (.raw v) = .v v ∧ pl v = v := by
  unfold clsC
  split
  all_goals first
    | (rename_i e; cases e; done)
    | (rename_i e; cases e; exact .inr ⟨rfl, rfl⟩)
    | exact .inl rfl
theorem cls_v {c : C} {x : Value} (h : clsC c = .v x) (ρ : Nat → Nat) : c.den ρ = x ∧ pl x = x := by
  cases c with
  | raw v =>
    rcases cls_raw (v := v) with e | ⟨e, e2⟩
    · rw [e] at h; cases h
    · rw [e] at h; cases h; exact ⟨rfl, e2⟩
  | np p off => simp only [clsC] at h; split at h <;> cases h
  | sv v => cases h; exact ⟨rfl, pl_pl _⟩
  | _ => cases h
def nval : Option IntKind → Int → Value
  | some k, x => .int k x
  | none, x => pv x 0
theorem cls_n {c : C} {k : Option IntKind} {x : Int} (h : clsC c = .n k x) (ρ : Nat → Nat) : c.den ρ = nval k x := by
  cases c with
  | raw v =>
    rcases cls_raw (v := v) with e | ⟨e, e2⟩
    · rw [e] at h; cases h
    · rw [e] at h; cases h
  | np p off =>
    simp only [clsC] at h
    split at h
    · rename_i e; cases h; rw [Nat.eq_of_beq_eq_true e]; rfl
    · cases h
  | li k n => cases h; rfl
  | si k n => cases h; rfl
  | nilp => cases h; rfl
  | _ => cases h
theorem cls_t {c : C} {b : Bool} (h : clsC c = .t b) (ρ : Nat → Nat) : c.den ρ = .bool b := by
  cases c with
  | raw v =>
    rcases cls_raw (v := v) with e | ⟨e, e2⟩
    · rw [e] at h; cases h
    · rw [e] at h; cases h
  | np p off => simp only [clsC] at h; split at h <;> cases h
  | lb k => cases h; rfl
  | sb k => cases h; rfl
  | _ => cases h
theorem fitC_den {c c' : C} {a : Vars} (h : fitC c c' = some a) (r : Vars) (ρ : Nat → Nat) :
    (iC c (vcat a r)).den ρ = c'.den ρ ∧ rC c (vcat a r) = r ∧ ∀ n, c'.wf n = true → (iC c (vcat a r)).wf n = true := by
  unfold fitC at h
  split at h
  · rename_i k0 x0 k x hc hc'
    split at h
    · rename_i hk
      have hk := of_decide_eq_true hk
      subst hk
      cases h
      rw [cls_n hc' ρ]
      simp only [iC, rC, hc]
      cases k0 <;> exact ⟨rfl, rfl, fun _ _ => rfl⟩
    · cases h
  · rename_i b0 b hc hc'
    cases h
    rw [cls_t hc' ρ]
    simp only [iC, rC, hc]
    exact ⟨rfl, rfl, fun _ _ => rfl⟩
  · rename_i x0 x hc hc'
    cases h
    obtain ⟨e1, e2⟩ := cls_v hc' ρ
    rw [e1]
    simp only [iC, rC, hc]
    exact ⟨e2, rfl, fun _ _ => rfl⟩
  · rename_i hc hc'
    split at h
    · rename_i he
      have he := eqP_eq he
      cases h
      subst he
      have e1 : ∀ y, iC c y = c := fun y => by simp only [iC, hc]
      have e2 : ∀ y, rC c y = y := fun y => by simp only [rC, hc]
      rw [e1, e2]
      exact ⟨rfl, rfl, fun _ hw => hw⟩
    · cases h
  · cases h
theorem vcat_assoc (p q r : Vars) : vcat (vcat p q) r = vcat p (vcat q r) := by simp [vcat]
theorem vcat_nil (p : Vars) (m : Mem) : vcat p ⟨[], [], [], m⟩ = ⟨p.i, p.b, p.v, m⟩ := by simp [vcat]
theorem fitL_den (ρ : Nat → Nat) : ∀ {l l' : List C} {a : Vars}, fitL l l' = some a → ∀ (r : Vars),
    (iL l (vcat a r)).map (C.den ρ) = l'.map (C.den ρ) ∧ dL l (vcat a r) = r ∧ ∀ n, l'.all (C.wf n) = true → (iL l (vcat a r)).all (C.wf n) = true
  | [], [], a, h, r => by
    cases h
    exact ⟨rfl, rfl, fun _ _ => rfl⟩
  | c :: l, c' :: l', a, h, r => by
    simp only [fitL] at h
    split at h
    · rename_i p q hp hq
      cases h
      obtain ⟨h1, h2, h4⟩ := fitC_den hp (vcat q r) ρ
      obtain ⟨g1, g2, g4⟩ := fitL_den ρ hq r
      simp only [iL, dL, vcat_assoc, h2]
      refine ⟨by simp [h1, g1], g2, fun n hw => ?_⟩
      simp only [List.all_cons, Bool.and_eq_true] at hw ⊢
      exact ⟨h4 n hw.1, g4 n hw.2⟩
    · cases h
theorem fitS_den (ρ : Nat → Nat) : ∀ {l l' : List (List C)} {a : Vars}, fitS l l' = some a → ∀ (r : Vars),
    (iS l (vcat a r)).map (List.map (C.den ρ)) = l'.map (List.map (C.den ρ)) ∧ ∀ n, wfS n l' = true → wfS n (iS l (vcat a r)) = true
  | [], [], a, h, r => by
    cases h
    exact ⟨rfl, fun _ _ => rfl⟩
  | c :: l, c' :: l', a, h, r => by
    simp only [fitS] at h
    split at h
    · rename_i p q hp hq
      cases h
      obtain ⟨h1, h2, h4⟩ := fitL_den ρ hp (vcat q r)
      obtain ⟨g1, g4⟩ := fitS_den ρ hq r
      simp only [iS, vcat_assoc, h2]
      refine ⟨by simp [h1, g1], fun n hw => ?_⟩
      simp only [wfS, List.all_cons, Bool.and_eq_true] at hw ⊢
      exact ⟨h4 n hw.1, g4 n hw.2⟩
    · cases h

theorem look_junk (j : Nat → Value) (t : Nat) : ∀ (l : List Nat), look (l.map fun t => (t, V.u (.c (.raw (j t))))) t = if t ∈ l then V.u (.c (.raw (j t))) else .tup []
  | [] => rfl
  | i :: l => by
    simp only [List.map_cons, look]
    by_cases e : i = t
    · subst e; simp
    · rw [Nat.beq_eq_false_iff.2 e]
      simp only [look_junk j t l, List.mem_cons, Ne.symm e, false_or]
theorem unitOf_den {σ' : St} {t : Tmp} {ag : Bool} {c c' : List C} (ρ : Nat → Nat) (hv : slotC σ' (.t t ag) = some c') (h : c.map (C.den ρ) = c'.map (C.den ρ)) : (unitOf ag c).den ρ = (look σ'.tm t).den ρ := by
  simp only [slotC] at hv
  split at hv
  · rename_i x hx
    cases hv
    rw [hx]
    cases c with
    | nil => cases h
    | cons y c =>
      cases c with
      | nil => simpa [unitOf, V.den, U.den] using h
      | cons z c => simp at h
  · rename_i xs hx
    cases hv
    rw [hx]
    have : unitOf true c = .u (.agg c) := by cases c with | nil => rfl | cons y c => cases c <;> rfl
    rw [this]
    simp only [V.den, U.den, dens, h]
  · cases hv
theorem unitOf_wf {n : Nat} {ag : Bool} {c : List C} (h : c.all (C.wf n) = true) : (unitOf ag c).wf n = true := by
  unfold unitOf
  split
  · simpa [V.wf, U.wf] using h
  · simpa [V.wf, U.wf] using h
theorem canT_look {σ' : St} (ρ : Nat → Nat) {r : List (Nat × V)} {t : Nat} (hr : (look r t).den ρ = (look σ'.tm t).den ρ) : ∀ {sl : List Slot} {cs cs' : List (List C)}, slotsC σ' sl = some cs' → cs.map (List.map (C.den ρ)) = cs'.map (List.map (C.den ρ)) →
    (look (canT sl cs ++ r) t).den ρ = (look σ'.tm t).den ρ
  | [], cs, cs', _, _ => by cases cs <;> exact hr
  | s :: sl, cs, cs', h, hm => by
    simp only [slotsC] at h
    split at h
    · rename_i c' l' hc hl
      cases h
      match cs, hm with
      | c :: cs, hm =>
        simp only [List.map_cons, List.cons.injEq] at hm
        cases s with
        | t t0 ag =>
          simp only [canT, List.cons_append, look]
          by_cases e : t0 = t
          · subst e
            simp only [Nat.beq_refl]
            exact unitOf_den ρ hc hm.1
          · rw [Nat.beq_eq_false_iff.2 e]
            exact canT_look ρ hr hl hm.2
        | b id ty => exact canT_look (sl := sl) ρ hr hl hm.2
    · cases h
theorem canT_wf {n : Nat} : ∀ {sl : List Slot} {cs : List (List C)}, wfS n cs = true → ∀ q ∈ canT sl cs, q.2.wf n = true
  | [], cs, _, q, hq => by cases cs <;> cases hq
  | s :: sl, [], _, q, hq => by cases s <;> cases hq
  | s :: sl, c :: cs, h, q, hq => by
    simp only [wfS, List.all_cons, Bool.and_eq_true] at h
    cases s with
    | t t0 ag =>
      simp only [canT, List.mem_cons] at hq
      rcases hq with rfl | hq
      · exact unitOf_wf h.1
      · exact canT_wf h.2 q hq
    | b id ty => exact canT_wf (sl := sl) h.2 q hq
theorem canH_m (kb : List (Nat × Blk)) (lim : Nat) (x : Mem) (wr : Bool) (mt : List Nat) : ∀ (sl : List Slot) (cs : List (List C)), (canH kb lim x wr mt sl cs).m = [] ∧ (canH kb lim x wr mt sl cs).lim = lim ∧ (canH kb lim x wr mt sl cs).x = x ∧ (canH kb lim x wr mt sl cs).wr = wr
  | [], cs => by cases cs <;> exact ⟨rfl, rfl, rfl, rfl⟩
  | s :: sl, [] => by cases s <;> exact ⟨rfl, rfl, rfl, rfl⟩
  | s :: sl, c :: cs => by cases s <;> exact canH_m kb lim x wr mt sl cs
theorem keptB_look {σ' : St} {i : Nat} {b : Blk} : ∀ {kb : List (Nat × Blk)}, isB' σ' kb → lookL kb i = some b → lookH σ'.hp i = some b ∧ (i, b) ∈ kb
  | [], _, h => by cases h
  | (j, c) :: r, hk, h => by
    simp only [lookL] at h
    split at h
    · rename_i e
      have e := Nat.eq_of_beq_eq_true e
      subst e
      cases h
      exact ⟨hk.1, by simp⟩
    · obtain ⟨g1, g2⟩ := keptB_look hk.2 h
      exact ⟨g1, by simp [g2]⟩
theorem kept_look {σ' : St} (ρ : Nat → Nat) {j : List (Nat × V)} {t : Nat} (hr : (look j t).den ρ = (look σ'.tm t).den ρ) : ∀ {kt : List (Nat × V)}, isT σ' kt → (look (kt ++ j) t).den ρ = (look σ'.tm t).den ρ
  | [], _ => hr
  | (i, v) :: r, h => by
    simp only [List.cons_append, look]
    by_cases e : i = t
    · subst e
      simp only [Nat.beq_refl]
      rw [show look σ'.tm i = v from h.1]
    · rw [Nat.beq_eq_false_iff.2 e]
      exact kept_look ρ hr h.2
theorem canH_look {σ' : St} (ρ : Nat → Nat) {kb : List (Nat × Blk)} {lim n : Nat} {x : Mem} {wr : Bool} {mt : List Nat} {i : Nat} {b : Blk} (hkb : isB' σ' kb) (hkw : ∀ q ∈ kb, q.1 < n ∧ q.2.1.all (C.wf n) = true) : ∀ {sl : List Slot} {cs cs' : List (List C)}, slotsC σ' sl = some cs' → cs.map (List.map (C.den ρ)) = cs'.map (List.map (C.den ρ)) → wfS n cs = true → (∀ id ty, Slot.b id ty ∈ sl → id < n) →
    lookH (canH kb lim x wr mt sl cs) i = some b → ∃ b', lookH σ'.hp i = some b' ∧ b'.2 = b.2 ∧ b.1.map (C.den ρ) = b'.1.map (C.den ρ) ∧ b.1.all (C.wf n) = true ∧ i < n
  | [], cs, cs', _, _, _, _, hb => by
    replace hb : lookL kb i = some b := by cases cs <;> exact hb
    obtain ⟨g1, g2⟩ := keptB_look hkb hb
    obtain ⟨g3, g4⟩ := hkw _ g2
    exact ⟨b, g1, rfl, rfl, g4, g3⟩
  | s :: sl, cs, cs', h, hm, hw, hlt, hb => by
    simp only [slotsC] at h
    split at h
    · rename_i c' l' hc hl
      cases h
      match cs, hm with
      | c :: cs, hm =>
        simp only [List.map_cons, List.cons.injEq] at hm
        simp only [wfS, List.all_cons, Bool.and_eq_true] at hw
        cases s with
        | t t0 ag => exact canH_look ρ hkb hkw hl hm.2 hw.2 (fun id ty hs => hlt id ty (by simp [hs])) hb
        | b id ty =>
          simp only [canH, lookH_hcons] at hb
          split at hb
          · rename_i e
            have e := Nat.eq_of_beq_eq_true e
            subst e
            cases hb
            simp only [slotC] at hc
            split at hc
            · rename_i b' hb'
              split at hc
              · rename_i hty
                cases hc
                exact ⟨b', hb', Nat.eq_of_beq_eq_true hty, hm.1, hw.1, hlt id ty (by simp)⟩
              · cases hc
            · cases hc
          · exact canH_look ρ hkb hkw hl hm.2 hw.2 (fun id ty hs => hlt id ty (by simp [hs])) hb
    · cases h
/-- What is kept is told at n. -/
structure KeptOK (n : Nat) (kt : Kept) : Prop where
  t : ∀ q ∈ kt.t, q.2.wf n = true
  b : ∀ q ∈ kt.b, q.1 < n ∧ q.2.1.all (C.wf n) = true
theorem canon_inv {σ' : St} {a' : Act} {w' : World} {n : Nat} {kt : Kept} {sl : List Slot} {cs cs' : List (List C)} (hI : Inv W n0 ρ0 N ρ σ' a' w') (hn : n ≤ σ'.n) (h0 : n0.n ≤ n) (hkt : isT σ' kt.t) (hkb : isB' σ' kt.b) (hk : KeptOK n kt) (hs : slotsC σ' sl = some cs') (hm : cs.map (List.map (C.den ρ)) = cs'.map (List.map (C.den ρ)))
    (hw : wfS n cs = true) (hlt : ∀ id ty, Slot.b id ty ∈ sl → id < n) {lim : Nat} {mt : List Nat} (hlim : lim = n0.l) : Inv W n0 ρ0 N ρ (canon N n lim σ'.hp.x σ'.hp.wr mt kt sl cs (fun t => a'.tmps.getD t undef)) a' w' := by
  refine ⟨hI.defers, hI.sz, fun t => ?_, fun q hq => ?_, ?_⟩
  · rw [hI.tm t]
    refine (canT_look ρ (kept_look ρ ?_ hkt) hs hm).symm
    rw [junk, look_junk, ← hI.tm t]
    split
    · rfl
    · rename_i hlt'
      have : a'.tmps.size ≤ t := by rw [hI.sz]; simpa using hlt'
      rw [Array.getD_eq_getD_getElem?, Array.getElem?_eq_none this]
      rfl
  · simp only [canon, junk, List.mem_append, List.mem_map] at hq
    rcases hq with hq | hq | ⟨t, _, rfl⟩
    · exact canT_wf hw q hq
    · exact hk.t q hq
    · rfl
  · obtain ⟨c1, c2, c3, c4⟩ := canH_m kt.b lim σ'.hp.x σ'.hp.wr mt sl cs
    refine ⟨fun i hi => hI.H.lt i (Nat.lt_of_lt_of_le hi hn), fun i j hi hj => hI.H.inj i j (Nat.lt_of_lt_of_le hi hn) (Nat.lt_of_lt_of_le hj hn), fun i b hb => ?_, h0, hI.H.old, fun i h1 h2 => hI.H.new i h1 (Nat.lt_of_lt_of_le h2 hn), hI.H.os, hI.H.tape, hI.H.output, hI.H.size, hI.H.far, fun i m hm' => ?_, c2.trans hlim, ?_⟩
    · obtain ⟨b', g1, g2, g3, g4, g5⟩ := canH_look ρ hkb hk.b hs hm hw hlt hb
      obtain ⟨_, _, g6⟩ := hI.H.blk i b' g1
      exact ⟨g5, g4, by rw [g6, g2, dens, dens, g3]⟩
    · replace hm' : lookL (canH kt.b lim σ'.hp.x σ'.hp.wr mt sl cs).m i = some m := hm'
      rw [c1] at hm'
      cases hm'
    · show MR W n0.x (canH kt.b lim σ'.hp.x σ'.hp.wr mt sl cs).wr (canH kt.b lim σ'.hp.x σ'.hp.wr mt sl cs).x ρ n w'
      rw [c3, c4]
      exact ⟨hI.H.mem.sub, fun a o e i hi => hI.H.mem.sep a o e i (Nat.lt_of_lt_of_le hi hn), hI.H.mem.dom⟩
theorem keptT_self (σ : St) : ∀ (l : List Tmp), isT σ (keptT σ l)
  | [] => trivial
  | t :: r => ⟨rfl, keptT_self σ r⟩
theorem keptB_self (σ : St) : ∀ (l : List Nat), isB' σ (keptB σ l)
  | [] => trivial
  | i :: r => by
    simp only [keptB]
    split
    · rename_i b hb; exact ⟨hb, keptB_self σ r⟩
    · exact keptB_self σ r
theorem keptT_wf {σ : St} {n : Nat} (h : ∀ q ∈ σ.tm, q.2.wf n = true) : ∀ (l : List Tmp) (q : Nat × V), q ∈ keptT σ l → q.2.wf n = true
  | [], q, hq => by cases hq
  | t :: r, q, hq => by
    simp only [keptT, List.mem_cons] at hq
    rcases hq with rfl | hq
    · exact look_wf h t
    · exact keptT_wf h r q hq
theorem keptB_mem {σ : St} : ∀ {l : List Nat} {q : Nat × Blk}, q ∈ keptB σ l → lookH σ.hp q.1 = some q.2
  | [], q, hq => by cases hq
  | i :: r, q, hq => by
    simp only [keptB] at hq
    split at hq
    · rename_i b hb
      rcases List.mem_cons.1 hq with rfl | hq
      · exact hb
      · exact keptB_mem hq
    · exact keptB_mem hq
theorem bSlots_mem {σ : St} {id ty : Nat} : ∀ {l : List Nat}, Slot.b id ty ∈ bSlots σ l → id ∈ l
  | [], h => by cases h
  | i :: l, h => by
    simp only [bSlots] at h
    split at h
    · rcases List.mem_cons.1 h with e | h
      · cases e; simp
      · exact List.mem_cons_of_mem _ (bSlots_mem h)
    · exact List.mem_cons_of_mem _ (bSlots_mem h)
theorem tSlots_nob {σ : St} {id ty : Nat} : ∀ {l : List Tmp} {ts : List Slot}, tSlots σ l = some ts → Slot.b id ty ∉ ts
  | [], ts, h => by cases h; simp
  | t :: l, ts, h => by
    simp only [tSlots] at h
    split at h
    · rename_i hl; cases h; simp [tSlots_nob hl]
    · rename_i hl; cases h; simp [tSlots_nob hl]
    · cases h

theorem bSlots_lt {σ : St} {id ty : Nat} : ∀ {l : List Nat}, Slot.b id ty ∈ bSlots σ l → ∃ b, lookH σ.hp id = some b
  | [], h => by cases h
  | i :: l, h => by
    simp only [bSlots] at h
    split at h
    · rename_i b hb
      rcases List.mem_cons.1 h with e | h
      · cases e; exact ⟨b, hb⟩
      · exact bSlots_lt h
    · exact bSlots_lt h
theorem lpx_sound {ih : Nat → Code → St → K → Tr} (hih : Snd P ih) {x : Code} {lt : LT} {k : K} {Q : Exit → Act → World → Prop} {σ : St} {ρ : Nat → Nat} {a : Act} {w : World}
    (hI : Inv W n0 ρ0 N ρ σ a w) (h : (lpx ih N x lt σ k).sat R)
    (hk : ∀ e σ' ρ' a' w', Inv W n0 ρ0 N ρ' σ' a' w' → Ext σ.n ρ ρ' → σ.n ≤ σ'.n → (k e σ').sat R → Q e.to a' w') : (Code.loop x).wp P Q a w := by
  unfold lpx at h
  obtain ⟨ts, hts, h⟩ := kO_sat h
  obtain ⟨cs, hcs, h⟩ := kO_sat h
  obtain ⟨q, hq, h⟩ := kO_sat h
  split at h
  case h_2 => exact h.elim
  rename_i hwf _
  obtain ⟨I, μ, hI0, hbody⟩ := h
  have hlt : ∀ id ty, Slot.b id ty ∈ ts ++ bSlots σ lt.bv → id < σ.n := by
    intro id ty hm
    rcases List.mem_append.1 hm with hm | hm
    · exact absurd hm (tSlots_nob hts)
    · obtain ⟨b, hb⟩ := bSlots_lt hm
      exact (hI.H.blk id b hb).1
  have hkept : KeptOK σ.n ⟨keptT σ lt.tk, keptB σ lt.bk⟩ := ⟨keptT_wf hI.tmwf lt.tk, fun q hq => ⟨(hI.H.blk _ _ (keptB_mem hq)).1, (hI.H.blk _ _ (keptB_mem hq)).2.1⟩⟩
  have key : ∀ (m : Nat) (y : Vars) (j : Nat → Value) (ρ' : Nat → Nat) (a' : Act) (w' : World), I y → μ y < m → Inv W n0 ρ0 N ρ' (canon N σ.n σ.hp.lim y.m σ.hp.wr σ.hp.mt ⟨keptT σ lt.tk, keptB σ lt.bk⟩ (ts ++ bSlots σ lt.bv) (iS cs y) j) a' w' → Ext σ.n ρ ρ' → Code.rounds P x Q m a' w' := by
    intro m
    induction m with
    | zero => intro y j ρ' a' w' _ hlt'; exact absurd hlt' (Nat.not_lt_zero _)
    | succ m ihm =>
      intro y j ρ' a' w' hIx hμ hInv hE
      rw [rounds_succ]
      refine hih W n0 ρ0 N _ x _ _ ρ' a' w' _ hInv (hbody y j hIx) ?_
      intro e σ2 ρ2 a2 w2 h1 h2 h3 h4
      have hE2 : Ext σ.n ρ ρ2 := hE.trans (Nat.le_refl _) h2
      cases e with
      | normal =>
        obtain ⟨cs2, hcs2, h4⟩ := kO_sat h4
        obtain ⟨q2, hq2, h4⟩ := kO_sat h4
        split at h4
        · rename_i hwf2 hwr
          replace hwr := beqB_eq hwr
          obtain ⟨⟨k1, k2⟩, g1, g2⟩ := h4
          replace k1 : isT σ2 (keptT σ lt.tk) := by rw [← k1]; exact keptT_self σ2 lt.tk
          replace k2 : isB' σ2 (keptB σ lt.bk) := by rw [← k2]; exact keptB_self σ2 lt.bk
          obtain ⟨f1, f2⟩ := fitS_den ρ2 hq2 ⟨[], [], [], σ2.hp.x⟩
          rw [vcat_nil] at f1 f2
          exact ihm ⟨q2.i, q2.b, q2.v, σ2.hp.x⟩ _ ρ2 a2 w2 g1 (by omega) (hwr ▸ canon_inv h1 h3 hI.H.le k1 k2 hkept hcs2 f1 (f2 _ hwf2) hlt hI.H.lim) hE2
        · exact h4.elim
      | exit id => exact hk (.exit id) σ2 ρ2 a2 w2 h1 hE2 h3 (mapL_sat (k (.exit id) σ2) .up _ h4)
      | ret => exact hk .ret σ2 ρ2 a2 w2 h1 hE2 h3 (mapL_sat (k .ret σ2) .up _ h4)
  obtain ⟨f1, f2⟩ := fitS_den ρ hq ⟨[], [], [], σ.hp.x⟩
  rw [vcat_nil] at f1 f2
  exact wp_loop_rounds (μ ⟨q.i, q.b, q.v, σ.hp.x⟩ + 1) (key _ ⟨q.i, q.b, q.v, σ.hp.x⟩ _ ρ a w hI0 (Nat.lt_succ_self _) (canon_inv hI (Nat.le_refl _) hI.H.le (keptT_self σ lt.tk) (keptB_self σ lt.bk) hkept hcs f1 (f2 _ hwf) hlt hI.H.lim) (Ext.refl _ _))

theorem slLt_lt {n : Nat} : ∀ {l : List Slot} {id ty : Nat}, slLt n l = true → Slot.b id ty ∈ l → id < n
  | [], _, _, _, h => by cases h
  | .t _ _ :: r, id, ty, hl, h => by
    rcases List.mem_cons.1 h with e | h
    · cases e
    · exact slLt_lt (l := r) hl h
  | .b i t :: r, id, ty, hl, h => by
    simp only [slLt, Bool.and_eq_true] at hl
    rcases List.mem_cons.1 h with e | h
    · cases e; have h1 := hl.1; rw [Nat.blt_eq] at h1; exact h1
    · exact slLt_lt hl.2 h
theorem cutx_sound {ih : Nat → Code → St → K → Tr} (hih : Snd P ih) {x y : Code} {c : CT} {k : K} {Q : Exit → Act → World → Prop} {σ : St} {ρ : Nat → Nat} {a : Act} {w : World}
    (hI : Inv W n0 ρ0 N ρ σ a w) (h : (cutx ih N x y c σ k).sat R)
    (hk : ∀ e σ' ρ' a' w', Inv W n0 ρ0 N ρ' σ' a' w' → Ext σ.n ρ ρ' → σ.n ≤ σ'.n → (k e σ').sat R → Q e.to a' w') : (Code.seq x y).wp P Q a w := by
  unfold cutx at h
  split at h
  case h_2 => exact h.elim
  rename_i hsl
  obtain ⟨I, μ, hI0, hbody⟩ := h
  have hA := (hbody _ (fun _ => undef) hI0).1 rfl
  have hkept : KeptOK (σ.n + c.d) ⟨keptT σ c.tk, keptB σ c.bk⟩ := by
    refine ⟨fun q hq => V.wf_mono (Nat.le_add_right _ _) _ (keptT_wf hI.tmwf c.tk q hq), fun q hq => ?_⟩
    obtain ⟨g1, g2, _⟩ := hI.H.blk _ _ (keptB_mem hq)
    refine ⟨Nat.lt_of_lt_of_le g1 (Nat.le_add_right _ _), ?_⟩
    simp only [List.all_eq_true] at g2 ⊢
    exact fun z hz => C.wf_mono (Nat.le_add_right _ _) z (g2 z hz)
  refine wp_seq (hih W n0 ρ0 N _ x σ _ ρ a w _ hI hA ?_)
  intro e σ2 ρ2 a2 w2 h1 h2 h3 h4
  cases e with
  | normal =>
    obtain ⟨cs2, hcs2, h4⟩ := kO_sat h4
    obtain ⟨q2, hq2, h4⟩ := kO_sat h4
    split at h4
    · rename_i hwf2 hwr hn
      replace hwr := beqB_eq hwr
      replace hn := Nat.le_of_ble_eq_true hn
      obtain ⟨⟨k1, k2⟩, g1, g2⟩ := h4
      replace k1 : isT σ2 (keptT σ c.tk) := by rw [← k1]; exact keptT_self σ2 c.tk
      replace k2 : isB' σ2 (keptB σ c.bk) := by rw [← k2]; exact keptB_self σ2 c.bk
      obtain ⟨f1, f2⟩ := fitS_den ρ2 hq2 ⟨[], [], [], σ2.hp.x⟩
      rw [vcat_nil] at f1 f2
      have hB := (hbody ⟨1 :: q2.i, q2.b, q2.v, σ2.hp.x⟩ (fun t => a2.tmps.getD t undef) g1).2 rfl
      have hinv := canon_inv (mt := σ.hp.mt) h1 hn (Nat.le_trans hI.H.le (Nat.le_add_right _ _)) k1 k2 hkept hcs2 f1 (f2 _ hwf2) (fun id ty hm => slLt_lt hsl hm) hI.H.lim
      rw [hwr] at hinv
      refine hih W n0 ρ0 N _ y _ _ ρ2 a2 w2 Q hinv hB ?_
      intro e3 σ3 ρ3 a3 w3 r1 r2 r3 r4
      have r3' : σ.n + c.d ≤ σ3.n := r3
      exact hk e3 σ3 ρ3 a3 w3 r1 (h2.trans (Nat.le_add_right _ c.d) r2) (by omega) (mapL_sat (k e3 σ3) .up _ r4)
    · exact h4.elim
  | exit id => exact hk (.exit id) σ2 ρ2 a2 w2 h1 h2 h3 (mapL_sat (k (.exit id) σ2) .up _ h4)
  | ret => exact hk .ret σ2 ρ2 a2 w2 h1 h2 h3 (mapL_sat (k .ret σ2) .up _ h4)

theorem codex_sound (hN : NameOK P) (hS : ∀ q ∈ S, SumOK P q) {D : DrawX} (hD : DSnd P D) {ih : Nat → Code → St → K → Tr} (hih : Snd P ih) : Snd P (codex P S D ih) := by
  intro W n0 ρ0 N R c σ k ρ a w Q hI h hk
  unfold codex at h
  split at h
  · exact wp_skip (hk .normal σ ρ a w hI (Ext.refl _ _) (Nat.le_refl _) h)
  · exact wp_label (hk .normal σ ρ a w hI (Ext.refl _ _) (Nat.le_refl _) h)
  · rename_i id ops draw
    split at h
    · exact wp_region_list (opsx_sound hN hS hih ops _ σ ρ a w hI h fun σ' ρ' a' w' h1 h2 h3 h4 => hk .normal σ' ρ' a' w' h1 h2 h3 h4)
    · exact hD ih hih W n0 ρ0 N R id ops σ _ ρ a w Q hI h fun σ' ρ' a' w' h1 h2 h3 h4 => hk .normal σ' ρ' a' w' h1 h2 h3 h4
  · rename_i x y
    split at h
    · exact cutx_sound hih hI h hk
    refine wp_seq (hih W n0 ρ0 N R x σ _ ρ a w _ hI h ?_)
    intro e σ' ρ' a' w' h1 h2 h3 h4
    cases e with
    | normal =>
      exact hih W n0 ρ0 N R y σ' k ρ' a' w' Q h1 h4 fun e2 σ2 ρ2 a2 w2 g1 g2 g3 g4 => hk e2 σ2 ρ2 a2 w2 g1 (h2.trans h3 g2) (by omega) g4
    | exit id => exact hk (.exit id) σ' ρ' a' w' h1 h2 h3 h4
    | ret => exact hk .ret σ' ρ' a' w' h1 h2 h3 h4
  · rename_i x t e
    obtain ⟨b, σ', hb, hI', _, en, hs⟩ := decB_sound hI h
    refine wp_cond hb ?_
    cases b
    · exact hih W n0 ρ0 N R e σ' k ρ a w Q hI' hs fun e2 σ2 ρ2 a2 w2 g1 g2 g3 g4 => hk e2 σ2 ρ2 a2 w2 g1 (by rw [← en]; exact g2) (by omega) g4
    · exact hih W n0 ρ0 N R t σ' k ρ a w Q hI' hs fun e2 σ2 ρ2 a2 w2 g1 g2 g3 g4 => hk e2 σ2 ρ2 a2 w2 g1 (by rw [← en]; exact g2) (by omega) g4
  · rename_i id x
    refine wp_block (hih W n0 ρ0 N R x σ _ ρ a w _ hI h ?_)
    intro e σ' ρ' a' w' h1 h2 h3 h4
    cases e with
    | normal => exact hk .normal σ' ρ' a' w' h1 h2 h3 h4
    | exit id' =>
      simp only at h4
      show Exit.inBlock id Q (.exit id') a' w'
      simp only [Exit.inBlock]
      split at h4
      · rename_i e; rw [if_pos (Nat.eq_of_beq_eq_true e)]; exact hk .normal σ' ρ' a' w' h1 h2 h3 h4
      · rename_i e; rw [if_neg (Nat.beq_eq_false_iff.1 e)]; exact hk (.exit id') σ' ρ' a' w' h1 h2 h3 h4
    | ret => exact hk .ret σ' ρ' a' w' h1 h2 h3 h4
  · rename_i x
    split at h
    · exact lpx_sound hih hI h hk
    refine wp_loop_rounds 5000 (loopx_sound hih x 5000 σ ρ a w hI h ?_)
    exact hk
  · rename_i id
    exact wp_exit (hk (.exit id) σ ρ a w hI (Ext.refl _ _) (Nat.le_refl _) h)
  · exact wp_ret (hk .ret σ ρ a w hI (Ext.refl _ _) (Nat.le_refl _) h)
  · rename_i x
    refine wp_scope_straight (hih W n0 ρ0 N R x σ k ρ a w _ hI h ?_)
    intro e σ' ρ' a' w' h1 h2 h3 h4
    have := hk e σ' ρ' a' w' h1 h2 h3 h4
    cases e <;> exact this
  · exact h.elim

theorem ex_sound (hN : NameOK P) (hS : ∀ q ∈ S, SumOK P q) {D : DrawX} (hD : DSnd P D) : ∀ n, Snd P (ex P S D n)
  | 0 => by intro W n0 ρ0 N R c σ k ρ a w Q _ h _; exact h.elim
  | n + 1 => codex_sound hN hS hD (ex_sound hN hS hD n)

/-- A whole call, from a local heap on. -/
def runx (P : Program) (S : List Sum) (D : DrawX) (fuel : Nat) (f : FuncId) (args : List V) (hp : Hp) (n : Nat) : Tr :=
  kO (P.funcs[f]?) fun fn => kO fn.body fun c =>
    match Nat.ble args.length fn.ntmps, args.all (V.wf n) with
    | true, true => ex P S D fuel fn.ntmps c { tm := number 0 args, hp := hp, n := n } fun e σ' =>
      match e with
      | .exit _ => .no 31
      | _ => kO (resV P σ' fn.results.toList) fun r => match r.wf σ'.n with
        | true => .leaf (.ret r σ'.hp σ'.n)
        | false => .no 32
    | _, _ => .no 33

theorem HInv.none (w : World) : HInv w ⟨0, 0, noM⟩ (fun _ => 0) (fun _ => 0) hnil 0 w := by
  refine ⟨fun i hi => by omega, fun i j hi => by omega, (fun i b h => by cases h), Nat.le_refl _, Ext.refl _ _, fun i _ hi => by omega, rfl, rfl, rfl, Nat.le_refl _, fun _ _ _ _ => rfl, (fun i m hm => by cases hm), rfl, MR.none _ _ _ _ _ _⟩

/-- A call without local pointers among its arguments: what it hands back. -/
def runp (P : Program) (S : List Sum) (D : DrawX) (fuel : Nat) (f : FuncId) (args : List V) : Tr :=
  kO (P.funcs[f]?) fun fn => kO fn.body fun c =>
    match Nat.ble args.length fn.ntmps, args.all (V.wf 0) with
    | true, true => ex P S D fuel fn.ntmps c { tm := number 0 args, hp := hnil, n := 0 } fun e σ' =>
      match e with
      | .exit _ => .no 31
      | _ => kO (resV P σ' fn.results.toList) fun r => match r.wf 0 with
        | true => .leaf (.val r)
        | false => .no 32
    | _, _ => .no 33

/-- What holds of all that a tree hands back. -/
def Tr.all (p : V → Prop) : Tr → Prop
  | .leaf (.val v) => p v
  | .leaf _ => False
  | .br b t e => (b = true → t.all p) ∧ (b = false → e.all p)
  | .no _ => False
  | .req q t => q ∧ t.all p
  | .any q f => ∀ x, q x → (f x).all p
  | .letm m f => (f m).all p
  | .lp x f => (Tr.lp x f).sat (fun l => match l with | .val v => p v | _ => False)

theorem Tr.all_sat {p : V → Prop} : ∀ {T : Tr}, T.all p → T.sat (fun l => match l with | .val v => p v | _ => False)
  | .leaf l, h => by cases l <;> first | exact h | exact h.elim
  | .br _ _ _, h => ⟨fun e => Tr.all_sat (h.1 e), fun e => Tr.all_sat (h.2 e)⟩
  | .no _, h => h.elim
  | .req _ t, h => ⟨h.1, Tr.all_sat h.2⟩
  | .any _ f, h => fun x hq => Tr.all_sat (h x hq)
  | .letm m f, h => Tr.all_sat (T := f m) h
  | .lp _ _, h => h

/-- A call without local pointers among its arguments: it leaves all that was. -/
theorem pure_sound (hN : NameOK P) (hS : ∀ q ∈ S, SumOK P q) {D : DrawX} (hD : DSnd P D) (fuel : Nat) {f : Nat} (args : List V) {T : Tr} (hT : runp P S D fuel f args = T) {p : V → Prop}
    (h : T.all p) (ρ : Nat → Nat) (w : World) :
    Calls P f (args.map (V.den ρ)).toArray w fun e w' => ∃ v, p v ∧ e = .returned (v.den ρ) ∧ Below w.heap.size w w' := by
  subst hT
  have h := Tr.all_sat h
  unfold runp at h
  obtain ⟨fn, hfn, hs⟩ := kO_sat h
  obtain ⟨c, hc, hs⟩ := kO_sat hs
  split at hs
  · rename_i hl hw
    have hl' := Nat.le_of_ble_eq_true hl
    have hI' := Inv.enter (σ := { tm := [], hp := hnil, n := 0 }) (ρ := fun _ => 0) (HInv.none w) args fn.ntmps hl' hw
    have e0 : ∀ ρ', args.map (V.den ρ') = args.map (V.den ρ) := fun ρ' => by
      simp only [List.all_eq_true] at hw
      exact List.map_congr_left fun v hv => V.den_ext (n := 0) (fun i hi => by omega) v (hw v hv)
    rw [← e0 (fun _ => 0)]
    refine calls_of_wp hfn hc ?_
    refine ex_sound hN hS hD fuel w ⟨0, 0, noM⟩ (fun _ => 0) fn.ntmps _ c _ _ _ _ w _ hI' hs ?_
    intro e σ' ρ' a' w' hI2 hE hle hk
    have fin : (kO (resV P σ' fn.results.toList) fun r => match r.wf 0 with | true => Tr.leaf (.val r) | false => .no 32).sat (fun l => match l with | .val v => p v | _ => False) →
        a'.defers = [] ∧ ∃ v, (results fn a'.tmps).run P w' = .ok v w' ∧ ∃ v', p v' ∧ Ending.returned v = .returned (v'.den ρ) ∧ Below w.heap.size w w' := by
      intro hk
      obtain ⟨r, hr, hk⟩ := kO_sat hk
      split at hk
      · rename_i hwr
        refine ⟨hI2.defers, _, resV_den hI2 hr, r, hk, ?_, ⟨hI2.H.os, hI2.H.tape, hI2.H.output, hI2.H.size, fun k hk => hI2.H.far k hk rfl fun i _ hi => absurd hi (Nat.not_lt_zero _)⟩⟩
        rw [V.den_ext (n := 0) (ρ := ρ') (ρ' := ρ) (fun i hi => by omega) r hwr]
      · exact hk.elim
    cases e with
    | normal => exact fin hk
    | ret => exact fin hk
    | exit id => exact hk.elim
  · exact hs.elim

theorem all_wf_mono {cs : List C} (h : cs.all (C.wf 0) = true) (n : Nat) : cs.all (C.wf n) = true := by
  simp only [List.all_eq_true] at h ⊢
  exact fun x hx => C.wf_mono (Nat.zero_le _) x (h x hx)

end
end Go.Proofs.Ytnlohongffpkpaa.Sx
end

section
/- The symbolic executor: a region that leaves its order open: what comes first, in whatever order; what comes behind it all. A text of the session's own. -/
namespace Go.Proofs.Ytnlohongffpkpaa.Sx
open Go Go.RowKit

section
variable {P : Program} {S : List Sum} {W : World} {n0 : NL} {ρ0 : Nat → Nat} {N : Nat} {ρ : Nat → Nat} {σ : St} {R : Leaf → Prop}

/-- What a state says of tmps alone. -/
def TM (N : Nat) (ρ : Nat → Nat) (σ : St) : Prop := (∀ q ∈ σ.tm, q.2.wf σ.n = true) ∧ ∀ t, N ≤ t → (look σ.tm t).den ρ = undef

def virt (N : Nat) (ρ : Nat → Nat) (σ : St) : Act := { tmps := ((List.range N).map fun t => (look σ.tm t).den ρ).toArray, defers := [] }

theorem virt_inv (h : TM N ρ σ) {w : World} (hH : HInv W n0 ρ0 ρ σ.hp σ.n w) : Inv W n0 ρ0 N ρ σ (virt N ρ σ) w := by
  refine ⟨rfl, by simp [virt], ?_, h.1, hH⟩
  intro t
  by_cases ht : t < N
  · simp [virt, ht]
  · rw [h.2 t (by omega)]
    simp [virt, ht]

theorem Inv.TM {a : Act} {w : World} (h : Inv W n0 ρ0 N ρ σ a w) : TM N ρ σ := by
  refine ⟨h.tmwf, fun t ht => ?_⟩
  rw [← h.tm t]
  have : ¬ t < a.tmps.size := by rw [h.sz]; omega
  simp [this]

/-- An operation that leaves the world as it is. -/
def OpA (P : Program) (W : World) (n0 : NL) (ρ0 : Nat → Nat) (N : Nat) (R : Leaf → Prop) (ρ : Nat → Nat) (σ : St) (o : Oper) (k : V → St → Tr) : Prop :=
  ∃ v σ', σ'.hp = σ.hp ∧ σ'.n = σ.n ∧ (k v σ').sat R ∧ ∀ a w, Inv W n0 ρ0 N ρ σ a w → Inv W n0 ρ0 N ρ σ' a w ∧ v.wf σ.n = true ∧ (execOp a.eval o).run P w = .ok (.value (v.den ρ)) w

theorem decB_path {x : Operand} {k : Bool → St → Tr} (h : (decB σ x k).sat R) :
    ∃ b σ', σ'.hp = σ.hp ∧ σ'.n = σ.n ∧ (k b σ').sat R ∧ ∀ a w, Inv W n0 ρ0 N ρ σ a w → Inv W n0 ρ0 N ρ σ' a w ∧ a.eval x = .bool b := by
  unfold decB at h
  split at h
  · rename_i v he
    have hd : ∀ a w, Inv W n0 ρ0 N ρ σ a w → a.eval x = .bool v := fun a w hI => by rw [ev_den hI x, he]; rfl
    split at h
    · exact ⟨true, σ, rfl, rfl, h, fun a w hI => ⟨hI, hd a w hI⟩⟩
    · exact ⟨false, σ, rfl, rfl, h, fun a w hI => ⟨hI, hd a w hI⟩⟩
  · rename_i v he
    refine ⟨v, retell σ x v, (retell_hp σ x v).1, (retell_hp σ x v).2, ?_, fun a w hI => ⟨?_, by rw [ev_den hI x, he]; rfl⟩⟩
    · cases v
      · exact h.2 rfl
      · exact h.1 rfl
    · unfold retell
      split
      · rename_i t
        exact hI.retell t _ rfl (by simp only [ev] at he; rw [he]; rfl)
      · exact hI
  · exact h.elim

/-- the operations that leave the world as it is -/
def pureOp : Op → Bool
  | .alloc _ => false
  | .box _ _ => false
  | .buildSlice _ _ _ => false
  | .store _ _ _ => false
  | .makeMap _ _ => false
  | .insert _ _ _ _ => false
  | .mapUpdate _ _ _ _ => false
  | _ => true

theorem OpA.mk' {o : Oper} {k : V → St → Tr} (v : V) (hk : (k v σ).sat R)
    (h : ∀ a w, Inv W n0 ρ0 N ρ σ a w → v.wf σ.n = true ∧ (execOp a.eval o).run P w = .ok (.value (v.den ρ)) w) : OpA P W n0 ρ0 N R ρ σ o k :=
  ⟨v, σ, rfl, rfl, hk, fun a w hI => ⟨hI, h a w hI⟩⟩

theorem opxA_sound {o : Oper} {k : V → St → Tr} (hp : pureOp o.op = true) (h : (opx P o.op σ k).sat R) : OpA P W n0 ρ0 N R ρ σ o k := by
  obtain ⟨dst, op, type, pos, after, guard⟩ := o
  simp only at h hp
  unfold opx at h
  split at h
  · rename_i x
    exact OpA.mk' _ h fun a w hI => ⟨ev_wf hI x, by simp [execOp, ev_den hI x]⟩
  · rename_i x
    exact OpA.mk' _ h fun a w hI => ⟨ev_wf hI x, by simp [execOp, ev_den hI x]⟩
  · rename_i c x y
    obtain ⟨b, σ', e1, e2, hs, hb⟩ := decB_path (W := W) (n0 := n0) (ρ0 := ρ0) (N := N) (ρ := ρ) h
    cases b
    · refine ⟨_, σ', e1, e2, hs, fun a w hI => ?_⟩
      obtain ⟨hI', hb⟩ := hb a w hI
      exact ⟨hI', by rw [← e2]; exact ev_wf hI' y, by simp [execOp, hb, asBool, ev_den hI' y]⟩
    · refine ⟨_, σ', e1, e2, hs, fun a w hI => ?_⟩
      obtain ⟨hI', hb⟩ := hb a w hI
      exact ⟨hI', by rw [← e2]; exact ev_wf hI' x, by simp [execOp, hb, asBool, ev_den hI' x]⟩
  · cases hp
  · cases hp
  · rename_i t parts
    obtain ⟨cs, hc, hs⟩ := kO_sat h
    split at hs
    · rename_i hw
      refine OpA.mk' _ hs fun a w hI => ⟨hw, ?_⟩
      refine run_v (s := Instr.build t (parts.map fun q => (q.1, a.eval q.2))) ?_
      have := buildC_built hI hc
      exact run_build w t _ _ (by simpa using this)
    · exact hs.elim
  · cases hp
  · rename_i t x
    split at h
    · rename_i id off hx
      obtain ⟨b, hb, hs⟩ := kO_sat h
      obtain ⟨u, hu, hs⟩ := kO_sat hs
      refine OpA.mk' _ hs fun a w hI => ?_
      obtain ⟨_, hw, _⟩ := hI.H.blk id b hb
      refine ⟨ldC_wf hw hu, ?_⟩
      refine run_v (s := Instr.loadAt t (a.eval x)) ?_
      have hd : a.eval x = .pointer (some ⟨ρ id, off, none⟩) := by rw [ev_den hI x, hx]; rfl
      simp only [hd, Instr.loadAt, Instr.sureAddr, Sem.run_bind, Sem.run_pure, Result.andThen_ok]
      exact run_loadVar hI.H hb hu
    · exact h.elim
  · cases hp
  · rename_i x
    split at h
    · rename_i id off hx
      refine OpA.mk' _ h fun a w hI => ?_
      have hd : a.eval x = .pointer (some ⟨ρ id, off, none⟩) := by rw [ev_den hI x, hx]; rfl
      have hw := ev_wf hI x
      rw [hx] at hw
      exact ⟨hw, by simp [execOp, hd, V.den, U.den, C.den]⟩
    · rename_i f cs hx
      refine OpA.mk' _ h fun a w hI => ?_
      have hd : a.eval x = .func (.func f) #[] (cs.map (ptrV ρ)).toArray := by rw [ev_den hI x, hx]; rfl
      have hw := ev_wf hI x
      rw [hx] at hw
      exact ⟨hw, by simp [execOp, hd, V.den, U.den, C.den]⟩
    · exact h.elim
  · rename_i op t x y ty
    split at h
    · rename_i ux uy hx hy
      have hdx : ∀ a w, Inv W n0 ρ0 N ρ σ a w → a.eval x = ux.den ρ := fun a w hI => by rw [ev_den hI x, hx]; rfl
      have hdy : ∀ a w, Inv W n0 ρ0 N ρ σ a w → a.eval y = uy.den ρ := fun a w hI => by rw [ev_den hI y, hy]; rfl
      have gen : (kO (eqV P op t ux uy) fun c => k (.u (.c c)) σ).sat R → OpA P W n0 ρ0 N R ρ σ ⟨dst, .binOp op t x y ty, type, pos, after, guard⟩ k := by
        intro hg
        obtain ⟨c, hc, hs⟩ := kO_sat hg
        refine OpA.mk' _ hs fun a w hI => ?_
        obtain ⟨e1, e2⟩ := eqV_run hc x y ρ w
        refine ⟨e2 _, run_v (s := (do eqGuard op t x y (a.eval x) (a.eval y); binOp op t (a.eval x) (a.eval y))) ?_⟩
        rw [hdx a w hI, hdy a w hI]
        exact e1
      split at h
      · rename_i cx cy
        split at h
        · rename_i lx kx nx ly ky ny hcx hcy
          have ht := fun w => binI_tells P w op t lx kx nx ly ky ny
          have fin : ∀ c, (∀ w, (binOp op t (.int kx nx) (.int ky ny)).run P w = .ok (c.den ρ) w) → (∀ n, c.wf n = true) → (k (.u (.c c)) σ).sat R →
              OpA P W n0 ρ0 N R ρ σ ⟨dst, .binOp op t x y ty, type, pos, after, guard⟩ k := by
            intro c hr hw hs
            refine OpA.mk' _ hs fun a w hI => ⟨hw _, ?_⟩
            have hg : (eqGuard op t x y (.int kx nx) (.int ky ny)).run P w = .ok () w := by
              unfold eqGuard
              split <;> simp
            refine run_v (s := (do eqGuard op t x y (a.eval x) (a.eval y); binOp op t (a.eval x) (a.eval y))) ?_
            rw [hdx a w hI, hdy a w hI]
            simp only [U.den, C.int_den hcx ρ, C.int_den hcy ρ, Sem.run_bind, hg, Result.andThen_ok]
            exact hr w
          split at h
          · rename_i c hb
            rw [hb] at ht
            exact fin c (fun w => (ht w).2 ρ) (ht W).1 h
          · rename_i b c hb
            rw [hb] at ht
            obtain ⟨h1, h2⟩ := h
            cases b
            · exact fin c (fun w => (ht w).2 rfl ρ) (ht W).1 (h2 rfl)
            · exact (h1 rfl).elim
          · exact h.elim
        · split at h
          · rename_i b hb
            obtain ⟨c, hc, hs⟩ := kO_sat h
            refine OpA.mk' _ hs fun a w hI => ?_
            obtain ⟨e1, e2⟩ := refOp_run hb hc hI.H x y rfl
            refine ⟨e2 _, run_v (s := (do eqGuard op t x y (a.eval x) (a.eval y); binOp op t (a.eval x) (a.eval y))) ?_⟩
            rw [hdx a w hI, hdy a w hI]
            exact e1
          · exact gen h
      · exact gen h
    · exact h.elim
  · rename_i op t x
    split at h
    · rename_i c hx
      obtain ⟨c', hc, hs⟩ := kO_sat h
      refine OpA.mk' _ hs fun a w hI => ?_
      obtain ⟨e1, e2⟩ := run_unC hc ρ w
      have hd : a.eval x = c.den ρ := by rw [ev_den hI x, hx]; rfl
      exact ⟨e2 _, run_v (s := Op.unary op (a.eval x)) (by rw [hd]; exact e1)⟩
    · exact h.elim
  · rename_i src dst' x
    split at h
    · rename_i c hx
      obtain ⟨c', hc, hs⟩ := kO_sat h
      refine OpA.mk' _ hs fun a w hI => ?_
      obtain ⟨e1, e2⟩ := run_convC hc ρ w
      have hd : a.eval x = c.den ρ := by rw [ev_den hI x, hx]; rfl
      exact ⟨e2 _, run_v (s := convert src dst' (a.eval x)) (by rw [hd]; exact e1)⟩
    · exact h.elim
  · rename_i fn first caps
    split at h
    · rename_i f
      split at h
      · rename_i hf
        obtain ⟨ps, hc, hs⟩ := kO_sat h
        refine OpA.mk' _ hs fun a w hI => ?_
        obtain ⟨e1, e2⟩ := ptrsOf_spec hI _ _ hc
        refine ⟨e2, ?_⟩
        refine run_v (s := Instr.makeFunc (.func f) (first.map a.eval) (caps.map a.eval)) ?_
        have h0 : first = #[] := by simpa using hf
        subst h0
        have h1 : caps.map a.eval = (ps.map (ptrV ρ)).toArray := by
          apply Array.ext'
          simpa using e1
        rw [h1]
        simp [Instr.makeFunc, V.den, U.den, C.den]
      · exact h.elim
    · exact h.elim
  · rename_i s x f
    split at h
    · rename_i id off hx
      obtain ⟨d, hd0, hs⟩ := kO_sat h
      refine OpA.mk' _ hs fun a w hI => ?_
      have hd : a.eval x = .pointer (some ⟨ρ id, off, none⟩) := by rw [ev_den hI x, hx]; rfl
      have hw := ev_wf hI x
      rw [hx] at hw
      refine ⟨hw, run_v (s := Instr.fieldAt s (a.eval x) f) ?_⟩
      rw [hd]
      exact run_fieldOff hd0 _ _ _
    · exact h.elim
  · rename_i t x f
    split at h
    · rename_i xs hx
      obtain ⟨u, hu, hs⟩ := kO_sat h
      refine OpA.mk' _ hs fun a w hI => ?_
      have hd : a.eval x = .agg (dens ρ xs) := by rw [ev_den hI x, hx]; rfl
      have hw := ev_wf hI x
      rw [hx] at hw
      refine ⟨partC_wf hw hu, run_v (s := Instr.field t (a.eval x) f) ?_⟩
      rw [hd]
      exact run_partC hu ρ w
    · exact h.elim
  · rename_i t x ix
    split at h
    · rename_i cx ci hx hix
      obtain ⟨c, hc, hs⟩ := kO_sat h
      refine OpA.mk' _ hs fun a w hI => ?_
      have hd : a.eval x = cx.den ρ := by rw [ev_den hI x, hx]; rfl
      have hd2 : a.eval ix = ci.den ρ := by rw [ev_den hI ix, hix]; rfl
      have hw := ev_wf hI x
      rw [hx] at hw
      obtain ⟨e1, e2⟩ := run_idxC hc hw ρ w
      refine ⟨e2, run_v (s := Instr.indexAt t (a.eval x) (a.eval ix)) ?_⟩
      rw [hd, hd2]
      exact e1
    · exact h.elim
  · rename_i x i
    obtain ⟨u, hu, hs⟩ := kO_sat h
    unfold tupC at hu
    split at hu
    · rename_i xs hx
      have hx0 : ev σ x = .tup xs := hx
      refine OpA.mk' _ hs fun a w hI => ?_
      have hw := ev_wf hI x
      rw [hx0] at hw
      have hd : a.eval x = .tuple (xs.map (U.den ρ)).toArray := by rw [ev_den hI x, hx0]; rfl
      simp only [V.wf, List.all_eq_true] at hw
      refine ⟨hw u (List.mem_of_getElem? hu), run_v (s := Instr.extract (a.eval x) i) ?_⟩
      rw [hd]
      simp [Instr.extract, hu, V.den]
    · cases hu
  · cases hp
  · cases hp
  · cases hp
  · rename_i t x ix ok
    obtain ⟨v, hs, hv⟩ := lookup_path (W := W) (n0 := n0) (ρ0 := ρ0) (N := N) (ρ := ρ) h
    exact OpA.mk' v hs fun a w hI => ⟨(hv a w hI).1, run_v (s := Instr.lookup t (a.eval x) (a.eval ix) ok) (hv a w hI).2⟩
  · rename_i t x
    split at h
    · rename_i c hx
      obtain ⟨c', hc, hs⟩ := kO_sat h
      refine OpA.mk' _ hs fun a w hI => ?_
      have hw := ev_wf hI x
      rw [hx] at hw
      have hd : a.eval x = c.den ρ := by rw [ev_den hI x, hx]; rfl
      obtain ⟨e1, e2⟩ := run_ifaceC hc ρ w
      refine ⟨show V.wf σ.n (.u (.c c')) = true from e2 _ hw, run_v (s := Instr.makeInterface t (a.eval x)) ?_⟩
      rw [hd]
      exact e1
    · exact h.elim
  · rename_i x xt t ok
    split at h
    · rename_i c hx
      obtain ⟨v, hc, hs⟩ := kO_sat h
      refine OpA.mk' _ hs fun a w hI => ?_
      have hw := ev_wf hI x
      rw [hx] at hw
      have hd : a.eval x = c.den ρ := by rw [ev_den hI x, hx]; rfl
      obtain ⟨e1, e2⟩ := run_tassertC (xt := xt) hc ρ w
      refine ⟨e2 _ hw, run_v (s := Instr.typeAssert (a.eval x) xt t ok) ?_⟩
      rw [hd]
      exact e1
    · exact h.elim
  · exact h.elim


theorem br_no {b : Bool} {T : Tr} {n : Nat} (h : (Tr.br b T (.no n)).sat R) : b = true ∧ T.sat R := by
  cases b with
  | true => exact ⟨rfl, h.1 rfl⟩
  | false => exact (h.2 rfl).elim
theorem opxMA_sound {o : Oper} {k : V → St → Tr} (hp : pureOp o.op = true) (h : (opxM P o.op σ k).sat R) : OpA P W n0 ρ0 N R ρ σ o k := by
  obtain ⟨dst, op, type, pos, after, guard⟩ := o
  simp only at h hp
  unfold opxM at h
  split at h
  · rename_i t x
    split at h
    · rename_i p off hx
      obtain ⟨q, hq, hs⟩ := kO_sat h
      obtain ⟨hok, hs⟩ := br_no hs
      refine OpA.mk' _ hs fun a w hI => ?_
      obtain ⟨b, e1, e2, e3⟩ := run_loadM (P := P) (zs := q.1) (u := q.2) hI.H hq hok
      refine ⟨e3, ?_⟩
      refine run_v (s := Instr.loadAt t (a.eval x)) ?_
      have hd : a.eval x = .pointer (some ⟨b, off, none⟩) := by rw [ev_den hI x, hx]; exact pv_at e1
      simp only [hd, Instr.loadAt, Instr.sureAddr, Sem.run_bind, Sem.run_pure, Result.andThen_ok]
      exact e2
    · exact h.elim
  · cases hp
  · rename_i x
    split at h
    · rename_i p off hx
      obtain ⟨hok, hs⟩ := br_no h
      obtain ⟨b, e1⟩ := nz_at hok
      refine OpA.mk' _ hs fun a w hI => ⟨rfl, ?_⟩
      have hd : a.eval x = .pointer (some ⟨b, off, none⟩) := by rw [ev_den hI x, hx]; exact pv_at e1
      simp [execOp, hd, V.den, U.den, C.den, pv_at e1]
    · exact h.elim
  · rename_i s x f
    split at h
    · rename_i p off hx
      obtain ⟨d, hd0, hs⟩ := kO_sat h
      obtain ⟨hok, hs⟩ := br_no hs
      obtain ⟨b, e1⟩ := nz_at hok
      refine OpA.mk' _ hs fun a w hI => ⟨rfl, ?_⟩
      have hd : a.eval x = .pointer (some ⟨b, off, none⟩) := by rw [ev_den hI x, hx]; exact pv_at e1
      refine run_v (s := Instr.fieldAt s (a.eval x) f) ?_
      rw [hd]
      have e2 : V.den ρ (.u (.c (.np p (off + d)))) = .pointer (some ⟨b, off + d, none⟩) := pv_at e1
      rw [e2]
      exact run_fieldOff hd0 _ _ _
    · exact h.elim
  · rename_i op t x y ty
    obtain ⟨p, hx, hs⟩ := kO_sat h
    obtain ⟨q, hy, hs⟩ := kO_sat hs
    split at hs
    · rename_i hz
      obtain ⟨hok, hs⟩ := br_no hs
      have hd : ∀ a w, Inv W n0 ρ0 N ρ σ a w → a.eval x = pv p 0 ∧ a.eval y = pv q 0 := fun a w hI => ⟨by rw [ev_den hI x]; exact npOf_den hx ρ, by rw [ev_den hI y]; exact npOf_den hy ρ⟩
      split at hs
      · refine OpA.mk' _ hs fun a w hI => ⟨rfl, run_v (s := (do eqGuard .eql t x y (a.eval x) (a.eval y); binOp .eql t (a.eval x) (a.eval y))) ?_⟩
        obtain ⟨g1, g2, g3⟩ := cmp_run hz hI.H hok
        rw [(hd a w hI).1, (hd a w hI).2]
        simp only [Sem.run_bind, g3, Result.andThen_ok]
        exact g1
      · refine OpA.mk' _ hs fun a w hI => ⟨rfl, run_v (s := (do eqGuard .neq t x y (a.eval x) (a.eval y); binOp .neq t (a.eval x) (a.eval y))) ?_⟩
        obtain ⟨g1, g2, g3⟩ := cmp_run hz hI.H hok
        rw [(hd a w hI).1, (hd a w hI).2]
        simp only [Sem.run_bind, g3, Result.andThen_ok]
        rw [g2]; cases peq p q <;> rfl
      · exact hs.elim
    · exact hs.elim
  · cases hp
  · rename_i t x ix
    obtain ⟨p, off, c, d, hx, e1, hs, ci, hix, hr⟩ := opxM_index (P := P) (t := t) (x := x) (ix := ix) (k := k) h
    refine OpA.mk' _ hs fun a w hI => ⟨rfl, run_v (s := Instr.indexAt t (a.eval x) (a.eval ix)) ?_⟩
    have hd : a.eval x = .pointer (some ⟨c, off, none⟩) := by rw [ev_den hI x, hx]; exact pv_at e1
    have hd2 : a.eval ix = ci.den ρ := by rw [ev_den hI ix, hix]; rfl
    have e2 : V.den ρ (.u (.c (.np p d))) = .pointer (some ⟨c, d, none⟩) := pv_at e1
    rw [hd, hd2, e2]
    exact hr ρ w
  · exact h.elim
theorem opxRA_sound {o : Oper} {k : V → St → Tr} (hp : pureOp o.op = true) (h : (opxR P o.op σ k).sat R) : OpA P W n0 ρ0 N R ρ σ o k := by
  cases hr : pureR o.op with
  | true =>
    obtain ⟨v, hs, hv⟩ := opxR_path (W := W) (n0 := n0) (ρ0 := ρ0) (N := N) (ρ := ρ) hr h
    exact OpA.mk' v hs fun a w hI => hv a w hI
  | false =>
    unfold opxR at h
    split at h
    · rename_i e; rw [e] at hr; cases hr
    · rename_i e; rw [e] at hp; cases hp
    · rename_i e; rw [e] at hr; cases hr
    · rename_i e; rw [e] at hr; cases hr
    · rename_i e; rw [e] at hr; cases hr
    · rename_i e; rw [e] at hp; cases hp
    · rename_i e; rw [e] at hp; cases hp
    · rename_i e; rw [e] at hp; cases hp
    · rename_i e; rw [e] at hr; cases hr
    · rename_i e; rw [e] at hr; cases hr
    · exact h.elim
theorem opXA_sound {o : Oper} {k : V → St → Tr} (hp : pureOp o.op = true) (h : (opX P o.op σ k).sat R) : OpA P W n0 ρ0 N R ρ σ o k := by
  unfold opX at h
  split at h
  · exact opxRA_sound hp h
  · split at h
    · exact opxMA_sound hp h
    · exact opxA_sound hp h
end
end Go.Proofs.Ytnlohongffpkpaa.Sx
end

section
/- The symbolic executor: the operations of a region that come in whatever order, walked in the text's. A text of the session's own. -/
namespace Go.Proofs.Ytnlohongffpkpaa.Sx
open Go Go.RowKit

abbrev Al := List (Tmp × Blk)

def allocOp : Op → Bool
  | .alloc _ => true
  | _ => false

def srcIdx : List Oper → Tmp → Option Nat
  | [], _ => none
  | o :: l, t => match o.dst with
    | some d => (match Nat.beq d t with | true => some 0 | false => match srcIdx l t with | some j => some (j + 1) | none => none)
    | none => match srcIdx l t with | some j => some (j + 1) | none => none

/-- a store into what was there: at an address that no operation of the region has made anew -/
def isLate (l : List Oper) (o : Oper) : Bool :=
  o.guard.isNone && o.dst.isNone && match o.op with
    | .store _ x _ => (match x with
      | .tmp d => (match srcIdx l d with | some j => (match l[j]? with | some p => !allocOp p.op | none => false) | none => true)
      | _ => true)
    | _ => false

def alIdx : Al → Tmp → Option Nat
  | [], _ => none
  | p :: r, d => match Nat.beq p.1 d with | true => some 0 | false => (match alIdx r d with | some q => some (q + 1) | none => none)

theorem alIdx_get : ∀ {al : Al} {d : Tmp} {q : Nat}, alIdx al d = some q → ∃ b, al[q]? = some (d, b)
  | [], _, _, h => by cases h
  | p :: r, d, q, h => by
    simp only [alIdx] at h
    split at h
    · rename_i e
      cases h
      have e := Nat.eq_of_beq_eq_true e
      obtain ⟨p1, p2⟩ := p
      exact ⟨p2, by subst e; rfl⟩
    · split at h
      · rename_i q' hq
        cases h
        obtain ⟨b, hb⟩ := alIdx_get hq
        exact ⟨b, by simpa using hb⟩
      · cases h

def Tr.bindV : Tr → (V → Tr) → Tr
  | .leaf (.val v), k => k v
  | .leaf _, _ => .no 60
  | .br b t e, k => .br b (t.bindV k) (e.bindV k)
  | .no n, _ => .no n
  | .req p t, k => .req p (t.bindV k)
  | .any _ _, _ => .no 61
  | .letm m f, k => .letm m fun x => (f x).bindV k
  | .lp _ _, _ => .no 61

/-- A call by the callee's own text, which writes nothing that was there. -/
def runC (P : Program) (ih : Nat → Code → St → K → Tr) (f : FuncId) (args : List V) (hp : Hp) (n : Nat) : Tr :=
  kO (P.funcs[f]?) fun fn => kO fn.body fun c =>
    match Nat.ble args.length fn.ntmps, args.all (V.wf n) with
    | true, true => ih fn.ntmps c { tm := number 0 args, hp := ⟨hp.c, hp.m, n, hp.x, false, hp.mt⟩, n := n } fun e σ' =>
      match e with
      | .exit _ => .no 31
      | _ => kO (resV P σ' fn.results.toList) fun r => .leaf (.val r)
    | _, _ => .no 33

def frontop (P : Program) (S : List Sum) (ih : Nat → Code → St → K → Tr) (o : Oper) (al : Al) (σ : St) (k : Al → St → Tr) : Tr :=
  match o.op with
  | .alloc t => kO (tzero P t) fun u => match u.cells.all C.plain, u.cells.all (C.wf 0), o.dst with
    | true, true, some d => k (al ++ [(d, (u.cells, t))]) σ
    | _, _, _ => .no 80
  | .store t x y => (match x, ev σ y, o.dst, o.guard with
    | .tmp d, .u u, none, none => kO (alIdx al d) fun q => kO (al[q]?) fun b => kO (tsz P t) fun sz =>
      match Nat.beq sz u.cells.length, Nat.beq b.2.1.length u.cells.length, u.cells.all C.plain, u.cells.all (C.wf 0) with
      | true, true, true, true => k (al.set q (d, (u.cells, b.2.2))) σ
      | _, _, _, _ => .no 88
    | _, _, _, _ => .no 89)
  | .call c => match c.callee with
    | .value x => kO (calleeOf σ x) fun q => match lookS S q.1 with
      | some s => (match s.rd with
        | some rd => (match q.2 with
          | [] => kO (rd σ.hp.x (evs σ c.args.toList)) fun r => (match (evs σ c.args.toList).all (V.wf 0), r.2.wf 0 with
            | true, true => .req r.1 (k al (σ.put o.dst r.2))
            | _, _ => .no 90)
          | _ => .no 84)
        | none => match q.2 with
        | [] => kS (match s.ext, s.hp, s.bx with | false, none, none => s.s (evs σ c.args.toList) | _, _, _ => none) fun r => match r.wf 0 with | true => k al (σ.put o.dst r) | false => .no 83
        | _ => .no 84)
      | none => (runC P ih q.1 (evs σ c.args.toList ++ q.2.map ptrC) σ.hp σ.n).bindV fun r => match r.wf σ.n with | true => k al (σ.put o.dst r) | false => .no 83
    | .builtin b => (match isLen b with
      | true => .no 85
      | false => kO (builtinC b (evs σ c.args.toList)) fun v => k al (σ.put o.dst v))
    | _ => .no 86
  | op => match pureOp op with | true => opX P op σ fun v σ' => k al (σ'.put o.dst v) | false => .no 87

def frontx (P : Program) (S : List Sum) (ih : Nat → Code → St → K → Tr) (N : Nat) (ops : Array Oper) (L : List Oper) : List Oper → Al → St → (Al → St → Tr) → Tr
  | [], al, σ, k => k al σ
  | o :: rest, al, σ, k =>
    match okDst N o.dst with
    | false => .no 40
    | true => match isLate L o with
    | true => frontx P S ih N ops L rest al σ k
    | false =>
      match o.guard with
      | none => frontop P S ih o al σ fun al' σ' => frontx P S ih N ops L rest al' σ' k
      | some (j, want) =>
        match guardTmp ops j with
        | none => .no 41
        | some t =>
          match Nat.blt t N with
          | false => .no 42
          | true => match look σ.tm t with
            | .u (.c (.lb b)) => (match b == want with
              | true => frontop P S ih o al σ fun al' σ' => frontx P S ih N ops L rest al' σ' k
              | false => frontx P S ih N ops L rest al (σ.put o.dst (.tup [])) k)
            | .u (.c (.sb b)) => .br b
                (let σ1 := retell σ (.tmp t) true
                 match true == want with
                 | true => frontop P S ih o al σ1 fun al' σ' => frontx P S ih N ops L rest al' σ' k
                 | false => frontx P S ih N ops L rest al (σ1.put o.dst (.tup [])) k)
                (let σ1 := retell σ (.tmp t) false
                 match false == want with
                 | true => frontop P S ih o al σ1 fun al' σ' => frontx P S ih N ops L rest al' σ' k
                 | false => frontx P S ih N ops L rest al (σ1.put o.dst (.tup [])) k)
            | .tup [] => frontx P S ih N ops L rest al (σ.put o.dst (.tup [])) k
            | _ => .no 43

/-- What an operation came to in the text's order. -/
inductive Ent where
  | run (x : V)
  | skip
  | al (q : Nat)
  | st (q : Nat) (u : U)
  | late

def Ent.isL : Ent → Bool
  | .late => true
  | _ => false

def storeOp : Op → Bool
  | .store _ _ _ => true
  | _ => false

section
variable {P : Program} {S : List Sum} {W : World} {n0 : NL} {ρ0 : Nat → Nat} {N : Nat} {ρ : Nat → Nat} {R : Leaf → Prop} {ops : Array Oper} {L : List Oper} {hp : Hp} {n : Nat}

/-- In every world that holds the local heap it comes to x, and what was there stays. -/
def StabR (P : Program) (W : World) (n0 : NL) (ρ0 ρ : Nat → Nat) (hp : Hp) (n : Nat) (s : Sem Next) (x : Value) : Prop :=
  ∀ w, HInv W n0 ρ0 ρ hp n w → s.run P w = .ok (.value x) w ∨ ∃ f args, s.run P w = .ok (.enter f args) w ∧ Calls P f args w fun e w' => e = .returned x ∧ Below w.heap.size w w'

def StepP (P : Program) (ops : Array Oper) (W : World) (n0 : NL) (ρ0 : Nat → Nat) (N : Nat) (ρ : Nat → Nat) (hp : Hp) (n : Nat) (o : Oper) (al : Al) (σ : St) (f : Ent) (al1 : Al) (σ1 : St) : Prop :=
  match f with
  | .run x => al1 = al ∧ x.wf n = true ∧ (∀ t, (look σ1.tm t).den ρ = if o.dst = some t then x.den ρ else (look σ.tm t).den ρ) ∧
      Region.wanted o (yielded ops (virt N ρ σ).tmps) = true ∧ StabR P W n0 ρ0 ρ hp n (execOp (virt N ρ σ).eval o) (x.den ρ) ∧ storeOp o.op = false
  | .skip => al1 = al ∧ (∀ t, (look σ1.tm t).den ρ = if o.dst = some t then undef else (look σ.tm t).den ρ) ∧ Region.wanted o (yielded ops (virt N ρ σ).tmps) = false ∧ o.guard.isSome = true
  | .al q => (q = al.length ∧ allocOp o.op = true) ∧ (∀ t, (look σ1.tm t).den ρ = (look σ.tm t).den ρ) ∧ Region.wanted o (yielded ops (virt N ρ σ).tmps) = true ∧
      ∃ d cs ty, o.dst = some d ∧ al1 = al ++ [(d, (cs, ty))] ∧ cs.all (C.wf 0) = true ∧
        ∀ (a : Act) (w : World), (execOp a.eval o).run P w = .ok (.value (.pointer (some ⟨w.heap.size, 0, none⟩))) (w.alloc (.cells (dens ρ cs) ty))
  | .st q u => (∃ d cs0 ty, al[q]? = some (d, (cs0, ty)) ∧ al1 = al.set q (d, (u.cells, ty)) ∧ cs0.length = u.cells.length ∧ ∃ t y, o.op = .store t (.tmp d) y ∧ (virt N ρ σ).eval y = u.den ρ ∧ tsz P t = some u.cells.length) ∧
      (∀ t, (look σ1.tm t).den ρ = (look σ.tm t).den ρ) ∧ Region.wanted o (yielded ops (virt N ρ σ).tmps) = true ∧ o.dst = none ∧ o.guard = none ∧ u.cells.all C.plain = true ∧ u.cells.all (C.wf 0) = true
  | .late => al1 = al ∧ (∀ t, (look σ1.tm t).den ρ = (look σ.tm t).den ρ) ∧ o.dst = none ∧ o.guard = none

def PathP (P : Program) (ops : Array Oper) (L : List Oper) (W : World) (n0 : NL) (ρ0 : Nat → Nat) (N : Nat) (ρ : Nat → Nat) (hp : Hp) (n : Nat) : List Oper → Al → St → List Ent → Al → St → Prop
  | [], al, σ, [], al', σ' => al' = al ∧ σ' = σ
  | o :: l, al, σ, f :: fs, al', σ' => ∃ al1 σ1, StepP P ops W n0 ρ0 N ρ hp n o al σ f al1 σ1 ∧ f.isL = isLate L o ∧ PathP P ops L W n0 ρ0 N ρ hp n l al1 σ1 fs al' σ'
  | _, _, _, _, _, _ => False

theorem look_put (σ : St) (d : Option Tmp) (v : V) (t : Tmp) : look (σ.put d v).tm t = if d = some t then v else look σ.tm t := by
  cases d with
  | none => simp [St.put]
  | some d =>
    simp only [St.put, look]
    by_cases e : d = t
    · subst e; simp
    · rw [Nat.beq_eq_false_iff.2 e]; simp [e]

theorem put_hp (σ : St) (d : Option Tmp) (v : V) : (σ.put d v).hp = σ.hp ∧ (σ.put d v).n = σ.n := by
  unfold St.put; split <;> exact ⟨rfl, rfl⟩

theorem TM.put {σ : St} (h : TM N ρ σ) {d : Option Tmp} {v : V} (hd : okDst N d = true) (hv : v.wf σ.n = true) : TM N ρ (σ.put d v) := by
  refine ⟨fun q hq => ?_, fun t ht => ?_⟩
  · rw [(put_hp σ d v).2]
    cases d with
    | none => exact h.1 q hq
    | some d =>
      simp only [St.put, List.mem_cons] at hq
      rcases hq with rfl | hq
      · exact hv
      · exact h.1 q hq
  · rw [look_put, if_neg]
    · exact h.2 t ht
    · intro e
      have := okDst_lt (N := N) hd t e
      exact absurd (Nat.lt_of_lt_of_le this ht) (Nat.lt_irrefl _)

theorem virt_get (σ : St) {t : Nat} (ht : t < N) : (virt N ρ σ).tmps[t]? = some ((look σ.tm t).den ρ) := by
  simp [virt, ht]

theorem yielded_virt {σ : St} {j t : Nat} (hg : guardTmp ops j = some t) (ht : t < N) : yielded ops (virt N ρ σ).tmps j = match (look σ.tm t).den ρ with | .bool b => some b | _ => none := by
  have h1 : (ops[j]?).bind (·.dst) = some t := by
    unfold guardTmp at hg
    split at hg
    · rename_i o ho; rw [ho]; exact hg
    · cases hg
  unfold yielded
  rw [h1]
  simp only [Option.bind_some, virt_get σ ht]
  cases (look σ.tm t).den ρ <;> rfl

theorem bindV_sat {k : V → Tr} : ∀ {T : Tr}, (T.bindV k).sat R → ∃ v, T.sat (fun l => l = .val v) ∧ (k v).sat R
  | .leaf (.val v), h => ⟨v, rfl, h⟩
  | .leaf (.ret _ _ _), h => h.elim
  | .leaf (.out _ _), h => h.elim
  | .leaf (.again _), h => h.elim
  | .leaf (.memo _ _), h => h.elim
  | .leaf (.up _), h => h.elim
  | .br b t e, h => by
    cases hb : b with
    | true =>
      obtain ⟨v, h1, h2⟩ := bindV_sat (h.1 hb)
      exact ⟨v, ⟨fun _ => h1, fun e => by cases e⟩, h2⟩
    | false =>
      obtain ⟨v, h1, h2⟩ := bindV_sat (h.2 hb)
      exact ⟨v, ⟨(fun e => by cases e), fun _ => h1⟩, h2⟩
  | .no _, h => h.elim
  | .req p t, h => by
    obtain ⟨v, h1, h2⟩ := bindV_sat h.2
    exact ⟨v, ⟨h.1, h1⟩, h2⟩
  | .any _ _, h => h.elim
  | .letm m f, h => bindV_sat (T := f m) h
  | .lp _ _, h => h.elim

theorem runC_sound {ih : Nat → Code → St → K → Tr} (hih : Snd P ih) {f : FuncId} {args : List V} {v : V} (h : (runC P ih f args hp n).sat (fun l => l = .val v)) (hv : v.wf n = true) :
    (∃ fn, P.funcs[f]? = some fn ∧ fn.body.isSome = true) ∧ ∀ w, HInv W n0 ρ0 ρ hp n w → Calls P f (args.map (V.den ρ)).toArray w fun e w' => e = .returned (v.den ρ) ∧ Below w.heap.size w w' := by
  unfold runC at h
  obtain ⟨fn, hfn, hs⟩ := kO_sat h
  obtain ⟨c, hc, hs⟩ := kO_sat hs
  refine ⟨⟨fn, hfn, by rw [hc]; rfl⟩, ?_⟩
  · intro w hH
    split at hs
    · rename_i hl hw
      have hl' := Nat.le_of_ble_eq_true hl
      have hH0 : HInv w ⟨n, n, noM⟩ ρ ρ ⟨hp.c, hp.m, n, hp.x, false, hp.mt⟩ n w :=
        ⟨hH.lt, hH.inj, hH.blk, Nat.le_refl _, Ext.refl _ _, (fun i h1 h2 => absurd h2 (Nat.not_lt.2 h1)), rfl, rfl, rfl, Nat.le_refl _, fun _ _ _ _ => rfl, hH.mblk, rfl, hH.mem.sub, hH.mem.sep, fun e => by cases e⟩
      have hI' := Inv.enter (σ := { tm := [], hp := ⟨hp.c, hp.m, n, hp.x, false, hp.mt⟩, n := n }) (ρ := ρ) hH0 args fn.ntmps hl' hw
      refine calls_of_wp hfn hc ?_
      refine hih w ⟨n, n, noM⟩ ρ fn.ntmps _ c _ _ ρ _ w _ hI' hs ?_
      intro e σ' ρ' a' w' hI2 hE hle hk
      have fin : (kO (resV P σ' fn.results.toList) fun r => Tr.leaf (.val r)).sat (fun l => l = .val v) →
          a'.defers = [] ∧ ∃ x, (results fn a'.tmps).run P w' = .ok x w' ∧ Ending.returned x = .returned (v.den ρ) ∧ Below w.heap.size w w' := by
        intro hk
        obtain ⟨r, hr, hk⟩ := kO_sat hk
        · cases hk
          refine ⟨hI2.defers, _, resV_den hI2 hr, ?_, ⟨hI2.H.os, hI2.H.tape, hI2.H.output, hI2.H.size, fun k hk => hI2.H.far k hk rfl fun i h1 h2 => absurd h2 (Nat.not_lt.2 h1)⟩⟩
          rw [V.den_ext hE v hv]
      cases e with
      | normal => exact fin hk
      | ret => exact fin hk
      | exit id => exact hk.elim
    · exact hs.elim

theorem frontop_path (hN : NameOK P) (hS : ∀ q ∈ S, SumOK P q) {ih : Nat → Code → St → K → Tr} (hih : Snd P ih) {w0 : World} (h0 : HInv W n0 ρ0 ρ hp n w0) {o : Oper} {al : Al} {σ : St} {k : Al → St → Tr} (e1 : σ.hp = hp) (e2 : σ.n = n) (hT : TM N ρ σ) (hd : okDst N o.dst = true)
    (hw : Region.wanted o (yielded ops (virt N ρ σ).tmps) = true) (h : (frontop P S ih o al σ k).sat R) :
    ∃ f al1 σ1, (k al1 σ1).sat R ∧ σ1.hp = hp ∧ σ1.n = n ∧ TM N ρ σ1 ∧ f.isL = false ∧ StepP P ops W n0 ρ0 N ρ hp n o al σ f al1 σ1 := by
  subst e1; subst e2
  have hI0 := virt_inv hT h0
  have hT' := hT
  have fin : storeOp o.op = false → ∀ x : V, x.wf σ.n = true → (k al (σ.put o.dst x)).sat R → StabR P W n0 ρ0 ρ σ.hp σ.n (execOp (virt N ρ σ).eval o) (x.den ρ) →
      ∃ f al1 σ1, (k al1 σ1).sat R ∧ σ1.hp = σ.hp ∧ σ1.n = σ.n ∧ TM N ρ σ1 ∧ f.isL = false ∧ StepP P ops W n0 ρ0 N ρ σ.hp σ.n o al σ f al1 σ1 := by
    intro hso x hx hs hst
    refine ⟨.run x, al, σ.put o.dst x, hs, (put_hp _ _ _).1, (put_hp _ _ _).2, hT.put hd hx, rfl, rfl, hx, fun t => ?_, hw, hst, hso⟩
    rw [look_put]
    split <;> rfl
  unfold frontop at h
  split at h
  · rename_i t hop
    obtain ⟨u, hu, hs⟩ := kO_sat h
    split at hs
    · rename_i d hp1 hw1 hd1
      refine ⟨.al al.length, _, σ, hs, rfl, rfl, hT, rfl, ⟨rfl, by rw [hop]; rfl⟩, fun t => rfl, hw, d, u.cells, t, hd1, rfl, hw1, fun a w => ?_⟩
      unfold execOp
      rw [hop]
      refine run_v (s := Instr.alloc t true (.tuple #[])) ?_
      simp only [Instr.alloc, Sem.run_bind, run_zeroValue hu ρ, Result.andThen_ok, newVar, newRow, U.den_cells ρ u (plain_of_all hp1), run_newObj, Sem.run_pure]
      simp [World.alloc_eq]
    · exact hs.elim
  · rename_i t x y hop
    split at h
    · rename_i d u hy hdst hg
      obtain ⟨q, hq, hs1⟩ := kO_sat h
      obtain ⟨b, hb, hs2⟩ := kO_sat hs1
      obtain ⟨sz, hz, hs3⟩ := kO_sat hs2
      split at hs3
      · rename_i c1 c2 c3 c4
        have c1 := Nat.eq_of_beq_eq_true c1
        have c2 := Nat.eq_of_beq_eq_true c2
        obtain ⟨b', hb'⟩ := alIdx_get hq
        rw [hb] at hb'
        cases hb'
        obtain ⟨cs0, ty⟩ := b'
        refine ⟨.st q u, _, σ, hs3, rfl, rfl, hT, rfl, ⟨d, cs0, ty, hb, rfl, c2, t, y, hop, ?_, by rw [hz, c1]⟩, fun t => rfl, hw, hdst, hg, c3, c4⟩
        rw [ev_den hI0 y, hy]; rfl
      · exact hs3.elim
    · exact h.elim
  · rename_i c hop
    have hso : storeOp o.op = false := by rw [hop]; rfl
    split at h
    · rename_i x hcal
      obtain ⟨q, hq, hs⟩ := kO_sat h
      obtain ⟨f, cs⟩ := q
      split at hs
      case h_2 =>
        obtain ⟨r, hT, hs⟩ := bindV_sat hs
        split at hs
        · rename_i hrw
          have hq0 := hq
          unfold calleeOf at hq0
          split at hq0
          · rename_i f' cs' hx
            cases hq0
            obtain ⟨⟨fn, hfn, hbody⟩, hcalls⟩ := runC_sound (W := W) (n0 := n0) (ρ0 := ρ0) (ρ := ρ) hih hT hrw
            refine fin hso r hrw hs fun w hH => .inr ⟨f, _, ?_, hcalls w hH⟩
            have hI := virt_inv hT' hH
            have hdx : (virt N ρ σ).eval x = .func (.func f) #[] (cs.map (ptrV ρ)).toArray := by rw [ev_den hI x, hx]; rfl
            have hargs : c.args.map (virt N ρ σ).eval ++ (cs.map (ptrV ρ)).toArray = ((evs σ c.args.toList ++ cs.map ptrC).map (V.den ρ)).toArray := by
              apply Array.ext'
              rw [Array.toList_append, Array.toList_map, evs_den hI, List.map_append, ptrC_den]
            unfold execOp
            rw [hop]
            simp only [Sem.run_bind, resolve, hcal, hdx, Deferred.ofValue, Sem.run_pure, Result.andThen_ok, invoke, Array.empty_append]
            rw [hargs]
            exact run_callFunc hN hfn hbody _ _
          · cases hq0
        · exact hs.elim
      rename_i s hs1
      replace hs1 : lookS S f = some s := hs1
      split at hs
      · rename_i rd hrd
        split at hs
        · rename_i hcs
          replace hcs : cs = [] := hcs
          subst hcs
          obtain ⟨r, hr, hs⟩ := kO_sat hs
          split at hs
          · rename_i haw hrw
            obtain ⟨hpre, hs⟩ := hs
            obtain ⟨hmem, hf⟩ := lookS_mem hs1
            replace hf : s.f = f := hf
            obtain ⟨⟨fn, hfn, hbody⟩, hrd2⟩ := (hS s hmem).1.2.1 rd hrd
            rw [hf] at hfn
            refine fin hso r.2 (V.wf_mono (Nat.zero_le _) r.2 hrw) hs fun w hH => .inr ?_
            have hI := virt_inv hT hH
            have hc := hrd2 σ.hp.x _ r.1 r.2 ρ w hr hpre haw hH.mem.sub
            rw [hf] at hc
            unfold calleeOf at hq
            split at hq
            · rename_i f' cs' hx
              cases hq
              have hdx : (virt N ρ σ).eval x = .func (.func f) #[] #[] := by rw [ev_den hI x, hx]; rfl
              have hargs : c.args.map (virt N ρ σ).eval = ((evs σ c.args.toList).map (V.den ρ)).toArray := by
                apply Array.ext'
                rw [Array.toList_map, evs_den hI]
              refine ⟨f, _, ?_, hc⟩
              unfold execOp
              rw [hop]
              simp only [Sem.run_bind, resolve, hcal, hdx, Deferred.ofValue, Sem.run_pure, Result.andThen_ok, invoke, Array.empty_append, Array.append_empty]
              rw [hargs]
              exact run_callFunc hN hfn hbody _ _
            · cases hq
          · exact hs.elim
        · exact hs.elim
      split at hs
      · rename_i hcs
        replace hcs : cs = [] := hcs
        subst hcs
        obtain ⟨bs, r, hr, hbs, hs⟩ := kS_sat hs
        obtain ⟨hmem, hf⟩ := lookS_mem hs1
        replace hf : s.f = f := hf
        split at hs
        · rename_i hrw
          refine fin hso r (V.wf_mono (Nat.zero_le _) r hrw) hs fun w hH => .inr ?_
          have hI := virt_inv hT hH
          have hext : s.ext = false ∧ s.hp = none ∧ s.bx = none ∧ s.s (evs σ c.args.toList) = some (bs, r) := by
            cases he : s.ext
            · cases hh : s.hp
              · cases hb : s.bx
                · rw [he, hh, hb] at hr; exact ⟨rfl, rfl, rfl, hr⟩
                · rw [he, hh, hb] at hr; cases hr
              · rw [he, hh] at hr; cases hr
            · rw [he] at hr; cases hr
          replace hr := hext.2.2.2
          obtain ⟨_, hSm⟩ := (hS s hmem).2.resolve_left (fun ⟨ty, x, _⟩ => by rw [hext.2.2.1] at x; cases x)
          obtain ⟨_, hSm⟩ := hSm.resolve_left (fun ⟨ty, x, _⟩ => by rw [hext.2.1] at x; cases x)
          obtain ⟨_, ⟨fn, hfn, hbody⟩, hcalls⟩ := hSm.resolve_left (fun x => by rw [hext.1] at x; cases x.1)
          rw [hf] at hfn hcalls
          unfold calleeOf at hq
          split at hq
          · rename_i f' cs' hx
            cases hq
            have hdx : (virt N ρ σ).eval x = .func (.func f) #[] #[] := by rw [ev_den hI x, hx]; rfl
            have hargs : c.args.map (virt N ρ σ).eval = ((evs σ c.args.toList).map (V.den ρ)).toArray := by
              apply Array.ext'
              rw [Array.toList_map, evs_den hI]
            refine ⟨f, _, ?_, hcalls (evs σ c.args.toList) bs r ρ w hr hbs⟩
            unfold execOp
            rw [hop]
            simp only [Sem.run_bind, resolve, hcal, hdx, Deferred.ofValue, Sem.run_pure, Result.andThen_ok, invoke, Array.empty_append, Array.append_empty]
            rw [hargs]
            exact run_callFunc hN hfn hbody _ _
          · cases hq
        · exact hs.elim
      · exact hs.elim
    · rename_i b hcal
      split at h
      · exact h.elim
      · rename_i hlen
        obtain ⟨v, hv, hs⟩ := kO_sat h
        have hl : b ≠ .len := by intro e; subst e; cases hlen
        have hb := fun w ks => builtinC_sound (P := P) hv hl c.argTypes o.type ks ρ w
        refine fin hso v ((hb w0 #[]).2 _) hs fun w hH => .inl ?_
        have hI := virt_inv hT hH
        have hargs : c.args.map (virt N ρ σ).eval = ((evs σ c.args.toList).map (V.den ρ)).toArray := by
          apply Array.ext'
          rw [Array.toList_map, evs_den hI]
        unfold execOp
        rw [hop]
        simp only [Sem.run_bind, resolve, hcal, Sem.run_pure, Result.andThen_ok, invoke]
        rw [hargs]
        exact (hb w _).1
    · exact h.elim
  · split at h
    · rename_i hpure
      obtain ⟨v, σ', g1, g2, hs, hv⟩ := opXA_sound (W := W) (n0 := n0) (ρ0 := ρ0) (N := N) (ρ := ρ) hpure h
      obtain ⟨hI', hvw, _⟩ := hv _ _ hI0
      have hT' := hI'.TM
      have same : ∀ t, (look σ'.tm t).den ρ = (look σ.tm t).den ρ := fun t => by rw [← hI'.tm t, ← hI0.tm t]
      refine ⟨.run v, al, σ'.put o.dst v, hs, by rw [(put_hp _ _ _).1, g1], by rw [(put_hp _ _ _).2, g2], hT'.put hd (by rw [g2]; exact hvw), rfl, rfl, hvw, fun t => ?_, hw, fun w hH => .inl (hv _ _ (virt_inv hT hH)).2.2, by cases ho : o.op <;> first | rfl | (rw [ho] at hpure; cases hpure)⟩
      rw [look_put]
      split
      · rfl
      · exact same t
    · exact h.elim

theorem frontx_path (hN : NameOK P) (hS : ∀ q ∈ S, SumOK P q) {ih : Nat → Code → St → K → Tr} (hih : Snd P ih) {w0 : World} (h0 : HInv W n0 ρ0 ρ hp n w0) {k : Al → St → Tr} : ∀ (l : List Oper) (al : Al) (σ : St), σ.hp = hp → σ.n = n → TM N ρ σ →
    (frontx P S ih N ops L l al σ k).sat R → ∃ fs al' σ', (k al' σ').sat R ∧ σ'.hp = hp ∧ σ'.n = n ∧ TM N ρ σ' ∧ PathP P ops L W n0 ρ0 N ρ hp n l al σ fs al' σ' := by
  intro l
  induction l with
  | nil => intro al σ e1 e2 hT h; exact ⟨[], al, σ, h, e1, e2, hT, rfl, rfl⟩
  | cons o l ihl =>
    intro al σ e1 e2 hT h
    simp only [frontx] at h
    split at h
    · exact h.elim
    · rename_i hd
      split at h
      · rename_i hL
        obtain ⟨fs, al', σ', b1, b2, b3, b4, b5⟩ := ihl al σ e1 e2 hT h
        have hL' := hL
        simp only [isLate, Bool.and_eq_true, Option.isNone_iff_eq_none] at hL'
        exact ⟨.late :: fs, al', σ', b1, b2, b3, b4, al, σ, ⟨rfl, fun _ => rfl, hL'.1.2, hL'.1.1⟩, hL.symm, b5⟩
      rename_i hL
      have run : ∀ σ1 : St, σ1.hp = hp → σ1.n = n → TM N ρ σ1 → (∀ t, (look σ1.tm t).den ρ = (look σ.tm t).den ρ) → Region.wanted o (yielded ops (virt N ρ σ).tmps) = true →
          (frontop P S ih o al σ1 fun al' σ' => frontx P S ih N ops L l al' σ' k).sat R → ∃ fs al' σ', (k al' σ').sat R ∧ σ'.hp = hp ∧ σ'.n = n ∧ TM N ρ σ' ∧ PathP P ops L W n0 ρ0 N ρ hp n (o :: l) al σ fs al' σ' := by
        intro σ1 g1 g2 hT1 hsame hw hs
        have hv : virt N ρ σ1 = virt N ρ σ := by simp only [virt, hsame]
        obtain ⟨f, al1, σ2, hs2, a1, a2, a3, aL, hstep⟩ := frontop_path (ops := ops) hN hS hih h0 g1 g2 hT1 hd (by rw [hv]; exact hw) hs
        obtain ⟨fs, al', σ', b1, b2, b3, b4, b5⟩ := ihl al1 σ2 a1 a2 a3 hs2
        refine ⟨f :: fs, al', σ', b1, b2, b3, b4, al1, σ2, ?_, aL.trans hL.symm, b5⟩
        unfold StepP at hstep ⊢
        cases f with
        | run x => simp only [hv, hsame] at hstep; exact hstep
        | skip => simp only [hv, hsame] at hstep; exact hstep
        | al q => simp only [hv, hsame] at hstep; exact hstep
        | st q u => simp only [hv, hsame] at hstep; exact hstep
        | late => cases aL
      have skip : ∀ σ1 : St, σ1.hp = hp → σ1.n = n → TM N ρ σ1 → (∀ t, (look σ1.tm t).den ρ = (look σ.tm t).den ρ) → Region.wanted o (yielded ops (virt N ρ σ).tmps) = false →
          o.guard.isSome = true → (frontx P S ih N ops L l al (σ1.put o.dst (.tup [])) k).sat R → ∃ fs al' σ', (k al' σ').sat R ∧ σ'.hp = hp ∧ σ'.n = n ∧ TM N ρ σ' ∧ PathP P ops L W n0 ρ0 N ρ hp n (o :: l) al σ fs al' σ' := by
        intro σ1 g1 g2 hT1 hsame hw hgs hs
        obtain ⟨fs, al', σ', b1, b2, b3, b4, b5⟩ := ihl al _ (by rw [(put_hp _ _ _).1]; exact g1) (by rw [(put_hp _ _ _).2]; exact g2) (hT1.put hd rfl) hs
        refine ⟨.skip :: fs, al', σ', b1, b2, b3, b4, al, _, ⟨rfl, fun t => ?_, hw, hgs⟩, hL.symm, b5⟩
        rw [look_put]
        split
        · rfl
        · exact hsame t
      split at h
      · rename_i hg
        exact run σ e1 e2 hT (fun _ => rfl) (by simp [Region.wanted, hg]) h
      · rename_i j want hg
        split at h
        · exact h.elim
        · rename_i t hgt
          split at h
          · exact h.elim
          · rename_i ht
            have ht' : t < N := by simpa using ht
            have hy := yielded_virt (ρ := ρ) (σ := σ) hgt ht'
            split at h
            · rename_i b hb
              rw [hb] at hy
              replace hy : yielded ops (virt N ρ σ).tmps j = some b := hy
              split at h
              · rename_i hbw
                exact run σ e1 e2 hT (fun _ => rfl) (by simp only [Region.wanted, hg, hy]; simpa using hbw) h
              · rename_i hbw
                exact skip σ e1 e2 hT (fun _ => rfl) (by simp only [Region.wanted, hg, hy]; simpa using hbw) (by rw [hg]; rfl) h
            · rename_i b hb
              rw [hb] at hy
              replace hy : yielded ops (virt N ρ σ).tmps j = some b := hy
              have fin : ∀ c : Bool, b = c → (match c == want with
                  | true => frontop P S ih o al (retell σ (.tmp t) c) fun al' σ' => frontx P S ih N ops L l al' σ' k
                  | false => frontx P S ih N ops L l al ((retell σ (.tmp t) c).put o.dst (.tup [])) k).sat R →
                  ∃ fs al' σ', (k al' σ').sat R ∧ σ'.hp = hp ∧ σ'.n = n ∧ TM N ρ σ' ∧ PathP P ops L W n0 ρ0 N ρ hp n (o :: l) al σ fs al' σ' := by
                intro c hc hs
                subst hc
                have hT1 : TM N ρ (retell σ (.tmp t) b) := by
                  refine ⟨fun q hq => ?_, fun u hu => ?_⟩
                  · simp only [retell, List.mem_cons] at hq
                    rcases hq with rfl | hq
                    · rfl
                    · exact hT.1 q hq
                  · simp only [retell, look]
                    rw [Nat.beq_eq_false_iff.2 (Nat.ne_of_lt (Nat.lt_of_lt_of_le ht' hu))]
                    exact hT.2 u hu
                have hsame : ∀ u, (look (retell σ (.tmp t) b).tm u).den ρ = (look σ.tm u).den ρ := by
                  intro u
                  simp only [retell, look]
                  by_cases e : t = u
                  · subst e; simp only [Nat.beq_refl]; rw [hb]; rfl
                  · rw [Nat.beq_eq_false_iff.2 e]
                split at hs
                · rename_i hbw
                  exact run (retell σ (.tmp t) b) e1 e2 hT1 hsame (by simp only [Region.wanted, hg, hy]; simpa using hbw) hs
                · rename_i hbw
                  exact skip (retell σ (.tmp t) b) e1 e2 hT1 hsame (by simp only [Region.wanted, hg, hy]; simpa using hbw) (by rw [hg]; rfl) hs
              obtain ⟨h1, h2⟩ := h
              cases hbb : b with
              | true => exact fin true hbb (h1 hbb)
              | false => exact fin false hbb (h2 hbb)
            · rename_i hb
              rw [hb] at hy
              replace hy : yielded ops (virt N ρ σ).tmps j = none := hy
              exact skip σ e1 e2 hT (fun _ => rfl) (by simp [Region.wanted, hg, hy]) (by rw [hg]; rfl) h
            · exact h.elim

end
end Go.Proofs.Ytnlohongffpkpaa.Sx
end

section
/- The symbolic executor: the operations of a region that come in whatever order: whichever comes, it comes to the same. A text of the session's own. -/
namespace Go.Proofs.Ytnlohongffpkpaa.Sx
open Go Go.RowKit

def distinctB : List Oper → Bool
  | [] => true
  | o :: l => match o.dst with
    | some d => (match srcIdx l d with | none => distinctB l | some _ => false)
    | none => distinctB l

def Ent.val (ρ β : Nat → Nat) : Ent → Value
  | .run x => x.den ρ
  | .skip => undef
  | .al q => .pointer (some ⟨β q, 0, none⟩)
  | .st _ _ => undef
  | .late => undef

/-- what a tmp holds in the text's order, with what was there: b -/
def tval (ρ : Nat → Nat) (b : Value) : Option Ent → Value
  | some (.run x) => x.den ρ
  | some .skip => undef
  | _ => b

theorem srcIdx_get {l : List Oper} {t : Tmp} {j : Nat} (h : srcIdx l t = some j) : ∃ o, l[j]? = some o ∧ o.dst = some t := by
  induction l generalizing j with
  | nil => cases h
  | cons o l ih =>
    simp only [srcIdx] at h
    split at h
    · rename_i d hd
      split at h
      · rename_i e
        cases h
        exact ⟨o, rfl, by rw [hd, Nat.eq_of_beq_eq_true e]⟩
      · split at h
        · rename_i j' hj
          cases h
          obtain ⟨o', h1, h2⟩ := ih hj
          exact ⟨o', by simpa using h1, h2⟩
        · cases h
    · split at h
      · rename_i j' hj
        cases h
        obtain ⟨o', h1, h2⟩ := ih hj
        exact ⟨o', by simpa using h1, h2⟩
      · cases h

theorem srcIdx_of {l : List Oper} (hd : distinctB l = true) {i : Nat} {o : Oper} {d : Tmp} (h : l[i]? = some o) (ho : o.dst = some d) : srcIdx l d = some i := by
  induction l generalizing i with
  | nil => cases h
  | cons p l ih =>
    simp only [distinctB] at hd
    split at hd
    · rename_i e he
      split at hd
      · rename_i hn
        cases i with
        | zero =>
          simp only [List.getElem?_cons_zero, Option.some.injEq] at h
          subst h
          rw [he] at ho
          cases ho
          simp [srcIdx, he]
        | succ i =>
          simp only [List.getElem?_cons_succ] at h
          have := ih hd h
          simp only [srcIdx, he]
          by_cases ed : e = d
          · subst ed; rw [hn] at this; cases this
          · rw [Nat.beq_eq_false_iff.2 ed, this]
      · cases hd
    · rename_i he
      cases i with
      | zero =>
        simp only [List.getElem?_cons_zero, Option.some.injEq] at h
        subst h
        rw [he] at ho
        cases ho
      | succ i =>
        simp only [List.getElem?_cons_succ] at h
        have := ih hd h
        simp only [srcIdx, he, this]

theorem srcIdx_take {l : List Oper} {t : Tmp} {i : Nat} : srcIdx (l.take i) t = match srcIdx l t with | some j => if j < i then some j else none | none => none := by
  induction l generalizing i with
  | nil => simp [srcIdx]
  | cons o l ih =>
    cases i with
    | zero =>
      simp only [List.take_zero, srcIdx]
      split <;> rfl
    | succ i =>
      simp only [List.take_succ_cons, srcIdx, ih (i := i)]
      split
      · rename_i d hd
        split
        · rfl
        · cases srcIdx l t with
          | none => rfl
          | some j => simp only; by_cases h : j < i <;> simp [h]
      · cases srcIdx l t with
        | none => rfl
        | some j => simp only; by_cases h : j < i <;> simp [h]

theorem distinctB_tail {o : Oper} {l : List Oper} (h : distinctB (o :: l) = true) : distinctB l = true ∧ ∀ d, o.dst = some d → srcIdx l d = none := by
  simp only [distinctB] at h
  split at h
  · rename_i d hd
    split at h
    · rename_i hn; exact ⟨h, fun d' e => by rw [hd] at e; cases e; exact hn⟩
    · cases h
  · rename_i hd
    exact ⟨h, fun d' e => by rw [hd] at e; cases e⟩

theorem distinctB_take {l : List Oper} (i : Nat) (h : distinctB l = true) : distinctB (l.take i) = true := by
  induction l generalizing i with
  | nil => simp [distinctB]
  | cons o l ih =>
    obtain ⟨h1, h2⟩ := distinctB_tail h
    cases i with
    | zero => simp [distinctB]
    | succ i =>
      simp only [List.take_succ_cons, distinctB]
      cases hd : o.dst with
      | none => exact ih i h1
      | some d =>
        have : srcIdx (l.take i) d = none := by rw [srcIdx_take, h2 d hd]
        simp only [this]
        exact ih i h1

section
variable {P : Program} {S : List Sum} {W : World} {n0 : NL} {ρ0 : Nat → Nat} {N : Nat} {ρ : Nat → Nat} {R : Leaf → Prop} {ops : Array Oper} {L : List Oper} {hp : Hp} {n : Nat}

theorem path_look : ∀ (l : List Oper) (al : Al) (σ : St) (fs : List Ent) (al' : Al) (σ' : St), PathP P ops L W n0 ρ0 N ρ hp n l al σ fs al' σ' → distinctB l = true → ∀ t,
    (look σ'.tm t).den ρ = match srcIdx l t with | some j => tval ρ ((look σ.tm t).den ρ) fs[j]? | none => (look σ.tm t).den ρ := by
  intro l
  induction l with
  | nil =>
    intro al σ fs al' σ' h _ t
    cases fs with
    | nil => obtain ⟨_, rfl⟩ := h; rfl
    | cons f fs => exact h.elim
  | cons o l ih =>
    intro al σ fs al' σ' h hd t
    cases fs with
    | nil => exact h.elim
    | cons f fs =>
      obtain ⟨al1, σ1, hs, _, hp'⟩ := h
      obtain ⟨hd1, hd3⟩ := distinctB_tail hd
      rw [ih al1 σ1 fs al' σ' hp' hd1 t]
      have hstep : (look σ1.tm t).den ρ = if o.dst = some t then tval ρ ((look σ.tm t).den ρ) (some f) else (look σ.tm t).den ρ := by
        cases f with
        | run x => have := hs.2.2.1 t; simpa [tval] using this
        | skip => have := hs.2.1 t; simpa [tval] using this
        | al q => have := hs.2.1 t; simpa [tval] using this
        | st q u => have := hs.2.1 t; simpa [tval] using this
        | late => have := hs.2.1 t; simpa [tval] using this
      cases hd2 : o.dst with
      | none =>
        rw [hd2] at hstep
        simp only [reduceCtorEq, if_false] at hstep
        simp only [srcIdx, hd2, hstep]
        cases srcIdx l t with
        | none => rfl
        | some j => simp
      | some d =>
        simp only [srcIdx, hd2]
        rw [hd2] at hstep
        simp only [Option.some.injEq] at hstep
        by_cases e : d = t
        · subst e
          rw [hd3 d hd2]
          simp only [Nat.beq_refl, List.getElem?_cons_zero]
          simpa using hstep
        · rw [Nat.beq_eq_false_iff.2 e]
          rw [if_neg e] at hstep
          rw [hstep]
          cases srcIdx l t with
          | none => rfl
          | some j => simp

theorem path_get : ∀ (l : List Oper) (al : Al) (σ : St) (fs : List Ent) (al' : Al) (σ' : St), PathP P ops L W n0 ρ0 N ρ hp n l al σ fs al' σ' → ∀ (i : Nat) (o : Oper), l[i]? = some o →
    ∃ f al_i σ_i al1 σ1, fs[i]? = some f ∧ PathP P ops L W n0 ρ0 N ρ hp n (l.take i) al σ (fs.take i) al_i σ_i ∧ StepP P ops W n0 ρ0 N ρ hp n o al_i σ_i f al1 σ1 := by
  intro l
  induction l with
  | nil => intro al σ fs al' σ' _ i o h; cases h
  | cons p l ih =>
    intro al σ fs al' σ' h i o hi
    cases fs with
    | nil => exact h.elim
    | cons f fs =>
      obtain ⟨al1, σ1, hs, hl, hp'⟩ := h
      cases i with
      | zero =>
        simp only [List.getElem?_cons_zero, Option.some.injEq] at hi
        subst hi
        exact ⟨f, al, σ, al1, σ1, rfl, ⟨rfl, rfl⟩, hs⟩
      | succ i =>
        simp only [List.getElem?_cons_succ] at hi
        obtain ⟨f', al_i, σ_i, al2, σ2, h1, h2, h3⟩ := ih al1 σ1 fs al' σ' hp' i o hi
        exact ⟨f', al_i, σ_i, al2, σ2, by simpa using h1, ⟨al1, σ1, hs, hl, h2⟩, h3⟩

theorem path_isL : ∀ (l : List Oper) (al : Al) (σ : St) (fs : List Ent) (al' : Al) (σ' : St), PathP P ops L W n0 ρ0 N ρ hp n l al σ fs al' σ' → ∀ (i : Nat) (o : Oper) (f : Ent), l[i]? = some o → fs[i]? = some f →
    f.isL = isLate L o ∧ (f = .late → o.dst = none) := by
  intro l
  induction l with
  | nil => intro al σ fs al' σ' _ i o f h; cases h
  | cons p l ih =>
    intro al σ fs al' σ' h i o f hi hf
    cases fs with
    | nil => exact h.elim
    | cons f0 fs =>
      obtain ⟨al1, σ1, hs, hl, hp'⟩ := h
      cases i with
      | zero =>
        simp only [List.getElem?_cons_zero, Option.some.injEq] at hi hf
        subst hi; subst hf
        refine ⟨hl, fun e => ?_⟩
        subst e
        exact hs.2.2.1
      | succ i => exact ih al1 σ1 fs al' σ' hp' i o f (by simpa using hi) (by simpa using hf)

def NoSt (fs : List Ent) (q : Nat) : Prop := ∀ (j : Nat) (u : U), fs[j]? ≠ some (.st q u)

theorem NoSt.tail {f : Ent} {fs : List Ent} {q : Nat} (h : NoSt (f :: fs) q) : NoSt fs q := fun j u e => h (j + 1) u (by simpa using e)

/-- the new blocks, in the text's order -/
theorem path_al : ∀ (l : List Oper) (al : Al) (σ : St) (fs : List Ent) (al' : Al) (σ' : St), PathP P ops L W n0 ρ0 N ρ hp n l al σ fs al' σ' →
    al.length ≤ al'.length ∧
    (∀ (i : Nat) (o : Oper) (q : Nat), l[i]? = some o → fs[i]? = some (.al q) → al.length ≤ q ∧ ∃ d cs ty cs', al'[q]? = some (d, (cs', ty)) ∧ o.dst = some d ∧ cs.all (C.wf 0) = true ∧ cs.length = cs'.length ∧ (NoSt fs q → cs = cs') ∧
        ∀ (a : Act) (w : World), (execOp a.eval o).run P w = .ok (.value (.pointer (some ⟨w.heap.size, 0, none⟩))) (w.alloc (.cells (dens ρ cs) ty))) ∧
    (∀ (i j q : Nat), fs[i]? = some (.al q) → fs[j]? = some (.al q) → i = j) ∧ (∀ q : Nat, al.length ≤ q → q < al'.length → ∃ i : Nat, fs[i]? = some (Ent.al q)) ∧ fs.length = l.length ∧
    (∀ (q : Nat) (d : Tmp) (cs : List C) (ty : Nat), al[q]? = some (d, (cs, ty)) → ∃ cs', al'[q]? = some (d, (cs', ty)) ∧ cs.length = cs'.length ∧ (NoSt fs q → cs = cs')) ∧
    (∀ (i : Nat) (o : Oper) (q : Nat) (u : U), l[i]? = some o → fs[i]? = some (.st q u) → ∃ d ty cs', al'[q]? = some (d, (cs', ty)) ∧ u.cells.length = cs'.length ∧ u.cells.all C.plain = true ∧ u.cells.all (C.wf 0) = true ∧ (∃ t y, o.op = .store t (.tmp d) y ∧ tsz P t = some u.cells.length) ∧ o.dst = none ∧
        ((∀ (j : Nat) (u' : U), fs[j]? = some (.st q u') → j = i) → u.cells = cs')) := by
  intro l
  induction l with
  | nil =>
    intro al σ fs al' σ' h
    cases fs with
    | nil =>
      obtain ⟨rfl, rfl⟩ := h
      exact ⟨Nat.le_refl _, (fun i o q hi => by cases hi), (fun i j q hi => by cases hi), (fun q h1 h2 => by omega), rfl, (fun q d cs ty h => ⟨cs, h, rfl, fun _ => rfl⟩), (fun i o q u hi => by cases hi)⟩
    | cons f fs => exact h.elim
  | cons p l ih =>
    intro al σ fs al' σ' h
    cases fs with
    | nil => exact h.elim
    | cons f fs =>
      obtain ⟨al1, σ1, hs, _, hp'⟩ := h
      obtain ⟨hlen, ih2, ih3, ih4, ih5, ih6, ih7⟩ := ih al1 σ1 fs al' σ' hp'
      -- what holds of whatever first entry that is no alloc and no store
      have plainCase : al1 = al → (∀ q, f ≠ .al q) → (∀ q u, f ≠ .st q u) → al.length ≤ al'.length ∧
    (∀ (i : Nat) (o : Oper) (q : Nat), (p :: l)[i]? = some o → (f :: fs)[i]? = some (.al q) → al.length ≤ q ∧ ∃ d cs ty cs', al'[q]? = some (d, (cs', ty)) ∧ o.dst = some d ∧ cs.all (C.wf 0) = true ∧ cs.length = cs'.length ∧ (NoSt (f :: fs) q → cs = cs') ∧
        ∀ (a : Act) (w : World), (execOp a.eval o).run P w = .ok (.value (.pointer (some ⟨w.heap.size, 0, none⟩))) (w.alloc (.cells (dens ρ cs) ty))) ∧
    (∀ (i j q : Nat), (f :: fs)[i]? = some (.al q) → (f :: fs)[j]? = some (.al q) → i = j) ∧ (∀ q : Nat, al.length ≤ q → q < al'.length → ∃ i : Nat, (f :: fs)[i]? = some (Ent.al q)) ∧ (f :: fs).length = (p :: l).length ∧
    (∀ (q : Nat) (d : Tmp) (cs : List C) (ty : Nat), al[q]? = some (d, (cs, ty)) → ∃ cs', al'[q]? = some (d, (cs', ty)) ∧ cs.length = cs'.length ∧ (NoSt (f :: fs) q → cs = cs')) ∧
    (∀ (i : Nat) (o : Oper) (q : Nat) (u : U), (p :: l)[i]? = some o → (f :: fs)[i]? = some (.st q u) → ∃ d ty cs', al'[q]? = some (d, (cs', ty)) ∧ u.cells.length = cs'.length ∧ u.cells.all C.plain = true ∧ u.cells.all (C.wf 0) = true ∧ (∃ t y, o.op = .store t (.tmp d) y ∧ tsz P t = some u.cells.length) ∧ o.dst = none ∧
        ((∀ (j : Nat) (u' : U), (f :: fs)[j]? = some (.st q u') → j = i) → u.cells = cs')) := by
        rintro rfl hna hns
        refine ⟨hlen, ?_, ?_, ?_, by simp [ih5], ?_, ?_⟩
        · intro i o q hi hf
          cases i with
          | zero => simp only [List.getElem?_cons_zero, Option.some.injEq] at hf; exact absurd hf (hna q)
          | succ i =>
            obtain ⟨g1, d, cs, ty, cs', g2, g3, g4, g5, g6, g7⟩ := ih2 i o q (by simpa using hi) (by simpa using hf)
            exact ⟨g1, d, cs, ty, cs', g2, g3, g4, g5, fun hno => g6 hno.tail, g7⟩
        · intro i j q hi hj
          cases i with
          | zero => simp only [List.getElem?_cons_zero, Option.some.injEq] at hi; exact absurd hi (hna q)
          | succ i => cases j with
            | zero => simp only [List.getElem?_cons_zero, Option.some.injEq] at hj; exact absurd hj (hna q)
            | succ j => rw [ih3 i j q (by simpa using hi) (by simpa using hj)]
        · intro q h1 h2
          obtain ⟨i, hi⟩ := ih4 q h1 h2
          exact ⟨i + 1, by simpa using hi⟩
        · intro q d cs ty hq
          obtain ⟨cs', g1, g2, g3⟩ := ih6 q d cs ty hq
          exact ⟨cs', g1, g2, fun hno => g3 hno.tail⟩
        · intro i o q u hi hf
          cases i with
          | zero => simp only [List.getElem?_cons_zero, Option.some.injEq] at hf; exact absurd hf (hns q u)
          | succ i =>
            obtain ⟨d, ty, cs', g1, g2, g3, g4, g5, g6, g7⟩ := ih7 i o q u (by simpa using hi) (by simpa using hf)
            exact ⟨d, ty, cs', g1, g2, g3, g4, g5, g6, fun hu => g7 fun j u' hj => by have := hu (j + 1) u' (by simpa using hj); omega⟩
      cases f with
      | run x => exact plainCase hs.1 (fun q e => by cases e) (fun q u e => by cases e)
      | skip => exact plainCase hs.1 (fun q e => by cases e) (fun q u e => by cases e)
      | late => exact plainCase hs.1 (fun q e => by cases e) (fun q u e => by cases e)
      | al q0 =>
        obtain ⟨⟨rfl, _⟩, _, _, d, cs, ty, hd, rfl, hw, hr1⟩ := hs
        simp only [List.length_append, List.length_singleton] at hlen
        refine ⟨by omega, ?_, ?_, ?_, by simp [ih5], ?_, ?_⟩
        · intro i o q hi hf
          cases i with
          | zero =>
            simp only [List.getElem?_cons_zero, Option.some.injEq] at hi hf
            subst hi
            cases hf
            obtain ⟨cs', g1, g2, g3⟩ := ih6 al.length d cs ty (by simp)
            exact ⟨Nat.le_refl _, d, cs, ty, cs', g1, hd, hw, g2, fun hno => g3 hno.tail, hr1⟩
          | succ i =>
            obtain ⟨g1, d', cs2, ty', cs', g2, g3, g4, g5, g6, g7⟩ := ih2 i o q (by simpa using hi) (by simpa using hf)
            simp only [List.length_append, List.length_singleton] at g1
            exact ⟨by omega, d', cs2, ty', cs', g2, g3, g4, g5, fun hno => g6 hno.tail, g7⟩
        · intro i j q hi hj
          cases i with
          | zero =>
            cases hi
            cases j with
            | zero => rfl
            | succ j =>
              exfalso
              have hj' : fs[j]? = some (.al al.length) := by simpa using hj
              have hlt : j < l.length := by rw [← ih5]; exact (List.getElem?_eq_some_iff.1 hj').1
              have := (ih2 j l[j] _ (by simp [hlt]) hj').1
              simp at this
              omega
          | succ i => cases j with
            | zero =>
              cases hj
              exfalso
              have hi' : fs[i]? = some (.al al.length) := by simpa using hi
              have hlt : i < l.length := by rw [← ih5]; exact (List.getElem?_eq_some_iff.1 hi').1
              have := (ih2 i l[i] _ (by simp [hlt]) hi').1
              simp at this
              omega
            | succ j => rw [ih3 i j q (by simpa using hi) (by simpa using hj)]
        · intro q h1 h2
          by_cases e : q = al.length
          · subst e; exact ⟨0, rfl⟩
          · obtain ⟨i, hi⟩ := ih4 q (by simp; omega) h2
            exact ⟨i + 1, by simpa using hi⟩
        · intro q d' cs2 ty' hq
          have hlt : q < al.length := (List.getElem?_eq_some_iff.1 hq).1
          obtain ⟨cs', g1, g2, g3⟩ := ih6 q d' cs2 ty' (by rw [List.getElem?_append_left hlt]; exact hq)
          exact ⟨cs', g1, g2, fun hno => g3 hno.tail⟩
        · intro i o q u hi hf
          cases i with
          | zero => cases hf
          | succ i =>
            obtain ⟨d', ty', cs', g1, g2, g3, g4, g5, g6, g7⟩ := ih7 i o q u (by simpa using hi) (by simpa using hf)
            exact ⟨d', ty', cs', g1, g2, g3, g4, g5, g6, fun hu => g7 fun j u' hj => by have := hu (j + 1) u' (by simpa using hj); omega⟩
      | st q0 u0 =>
        obtain ⟨⟨d, cs0, ty, hq0, rfl, hl0, t, y, hop, _, hz⟩, _, _, hdst, _, hpl, hwf⟩ := hs
        have hq0lt : q0 < al.length := (List.getElem?_eq_some_iff.1 hq0).1
        simp only [List.length_set] at hlen
        refine ⟨hlen, ?_, ?_, ?_, by simp [ih5], ?_, ?_⟩
        · intro i o q hi hf
          cases i with
          | zero => cases hf
          | succ i =>
            obtain ⟨g1, d', cs, ty', cs', g2, g3, g4, g5, g6, g7⟩ := ih2 i o q (by simpa using hi) (by simpa using hf)
            simp only [List.length_set] at g1
            exact ⟨g1, d', cs, ty', cs', g2, g3, g4, g5, fun hno => g6 hno.tail, g7⟩
        · intro i j q hi hj
          cases i with
          | zero => cases hi
          | succ i => cases j with
            | zero => cases hj
            | succ j => rw [ih3 i j q (by simpa using hi) (by simpa using hj)]
        · intro q h1 h2
          obtain ⟨i, hi⟩ := ih4 q (by simpa using h1) h2
          exact ⟨i + 1, by simpa using hi⟩
        · intro q d' cs ty' hq
          by_cases e : q0 = q
          · subst e
            rw [hq0] at hq
            cases hq
            obtain ⟨cs', g1, g2, g3⟩ := ih6 q0 d u0.cells ty (by simp [hq0lt])
            exact ⟨cs', g1, by omega, fun hno => absurd rfl (hno 0 u0)⟩
          · obtain ⟨cs', g1, g2, g3⟩ := ih6 q d' cs ty' (by rw [List.getElem?_set_ne e]; exact hq)
            exact ⟨cs', g1, g2, fun hno => g3 hno.tail⟩
        · intro i o q u hi hf
          cases i with
          | zero =>
            simp only [List.getElem?_cons_zero, Option.some.injEq] at hi hf
            subst hi
            cases hf
            obtain ⟨cs', g1, g2, g3⟩ := ih6 q0 d u0.cells ty (by simp [hq0lt])
            refine ⟨d, ty, cs', g1, g2, hpl, hwf, ⟨t, y, hop, hz⟩, hdst, fun hu => g3 fun j u' hj => ?_⟩
            have := hu (j + 1) u' (by simpa using hj)
            omega
          | succ i =>
            obtain ⟨d', ty', cs', g1, g2, g3, g4, g5, g6, g7⟩ := ih7 i o q u (by simpa using hi) (by simpa using hf)
            exact ⟨d', ty', cs', g1, g2, g3, g4, g5, g6, fun hu => g7 fun j u' hj => by have := hu (j + 1) u' (by simpa using hj); omega⟩

end
end Go.Proofs.Ytnlohongffpkpaa.Sx
end
