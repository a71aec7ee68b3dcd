/- The symbolic executor: operations on maps and slices that lie in the memory. A text of the session's own. -/
import Derived.Test.YtnlohongffpkpaaSxM2
namespace Go.Proofs.Ytnlohongffpkpaa.Sx
open Go

def hdV : List Value → Value
  | [] => undef
  | x :: _ => x
def tlV : List Value → List Value
  | [] => []
  | _ :: r => r
def isSv : V → Bool
  | .u (.c (.sv _)) => true
  | _ => false
def mapKT (P : Program) (t : TypeId) : Option (TypeId × TypeId) := match P.underlying t with | some (.map kt et) => some (kt, et) | _ => none
def slE (P : Program) (t : TypeId) : Option TypeId := match P.underlying t with | some (.slice e) => some e | _ => none
/-- A value, told by a zero value of its type. -/
def rdE (z : C) (w : Value) : C :=
  match z with
  | .lb _ => .sb (vB w)
  | .li kd _ => .si kd (vI w)
  | .nilp => .np (vP w) 0
  | _ => .sv w
def cellAt (w : Value) (k : Nat) : Value := match w with | .agg ws => (ws[k]?).getD undef | _ => undef
def rdEl (w : Value) : Nat → List C → List C
  | _, [] => []
  | k, z :: r => rdE z (cellAt w k) :: rdEl w (k + 1) r
def rdU (z : U) (w : Value) : U := match z with | .c c => .c (rdE c w) | .agg zs => .agg (rdEl w 0 zs)
def okU (z : U) (w : Value) : Bool :=
  match z with
  | .c c => okC c w
  | .agg zs => (match w with | .agg ws => Nat.beq ws.size zs.length && okR ws 0 zs | _ => false)
def den0 (u : U) : Value := u.den fun _ => 0
def lkZ (m : Mem) (v k z : Value) : Value := (mlook m v k).getD z
def lkR (ok : Bool) (u : U) (b : Bool) : V := match ok with | true => .tup [u, .c (.sb b)] | false => .u u
def svOf : V → Option Value
  | .u (.c (.sv v)) => some (pl v)
  | .u (.c (.raw (.slice none n c))) => some (.slice none n c)
  | _ => none
def bndOf (σ : St) (o : Option Operand) (d : Int) : Option Int :=
  match o with
  | none => some d
  | some x => match ev σ x with
    | .u (.c c) => (match c.int? with | some q => some q.2.2 | none => none)
    | _ => none
def isNilS : Value → Bool
  | .slice none _ _ => true
  | _ => false
def isSlV : Value → Bool
  | .slice _ _ _ => true
  | _ => false
/-- What a test for nil asks, and tells. -/
def nilQ (P : Program) (t : TypeId) (x y : V) : Option (Bool × Bool) :=
  match P.underlying t with
  | some (.map _ _) => (match x, y with
    | .u (.c (.sv v)), .u (.c (.raw (.map none))) => some (isMpV (pl v), isNilM (pl v))
    | _, _ => none)
  | some (.slice _) => (match x, y with
    | .u (.c (.sv v)), .u (.c (.raw (.slice none 0 0))) => some (isSlV (pl v), isNilS (pl v))
    | _, _ => none)
  | _ => none
def bO (op : BinOp) (b : Bool) : Option C :=
  match op with
  | .eql => some (.sb b)
  | .neq => some (.sb (bNot b))
  | _ => none
def alO (m : Mem) (a : Nat) (o : Obj) : Mem := fun b => if b = a then some o else m b
def newMQ (m : Mem) (y : Vars) : Prop := ∃ a : Nat, m a = none ∧ y.v = [.map (some a)] ∧ y.m = alO m a (.map #[] 0)
/-- Does the operation take a value of the memory? -/
def onR (o : Op) (σ : St) : Bool :=
  match o with
  | .lookup _ x _ _ => isSv (ev σ x)
  | .mapUpdate _ x _ _ => isSv (ev σ x)
  | .indexAddr _ x _ => isSv (ev σ x)
  | .slice _ _ _ _ _ => true
  | .binOp _ _ x y _ => isSv (ev σ x) || isSv (ev σ y)
  | .makeMap t _ => σ.hp.mt.any (Nat.beq t)
  | .box t _ => σ.hp.mt.any (Nat.beq t)
  | _ => false
def opxR (P : Program) (o : Op) (σ : St) (k : V → St → Tr) : Tr :=
  match o with
  | .lookup t x ix ok => (match ev σ x, ev σ ix with
    | .u (.c (.sv v)), .u uk => kO (mapKT P t) fun q => kO (tzero P q.2) fun z => (match uk.wf 0 with
      | true => .req (Go.Maps.Keyed P q.1 ∧ okM P q.1 σ.hp.x (pl v) ∧ okKey P q.1 (den0 uk) ∧ okU z (lkZ σ.hp.x (pl v) (den0 uk) (den0 z)) = true)
          (k (lkR ok (rdU z (lkZ σ.hp.x (pl v) (den0 uk) (den0 z))) (mhas σ.hp.x (pl v) (den0 uk))) σ)
      | false => .no 100)
    | _, _ => .no 101)
  | .mapUpdate t m x v => (match ev σ m, ev σ x, ev σ v with
    | .u (.c (.sv mv)), .u uk, .u uv => kO (mapKT P t) fun q => (match uk.wf 0, uv.wf 0, σ.hp.wr with
      | true, true, true => .req (Go.Maps.Keyed P q.1 ∧ okM P q.1 σ.hp.x (pl mv) ∧ isNilM (pl mv) = false ∧ okKey P q.1 (den0 uk))
          (.letm (mput σ.hp.x (pl mv) (den0 uk) (den0 uv)) fun m => k (.tup []) { σ with hp := { σ.hp with x := m } })
      | _, _, _ => .no 102)
    | _, _, _ => .no 103)
  | .indexAddr t x ix => (match ev σ x, ev σ ix with
    | .u (.c (.sv v)), .u (.c ci) => kO ci.int? fun q => kO (slE P t) fun e => kO (tsz P e) fun sz =>
        .br (inSl (pl v) q.2.2) (k (.u (.c (.np (slB (pl v)) (aOff (slO (pl v)) q.2.2 sz)))) σ) (.no 104)
    | _, _ => .no 106)
  | .slice t x lo hi mx => (match mx with
    | none => kO (svOf (ev σ x)) fun v => kO (slE P t) fun e => kO (tsz P e) fun sz => kO (bndOf σ lo 0) fun l => kO (bndOf σ hi (slN v)) fun h =>
        .br (cutSl v l h) (k (.u (.c (.sv (cutV v sz l h)))) σ) (.no 107)
    | some _ => .no 108)
  | .binOp op t x y _ => kO (nilQ P t (ev σ x) (ev σ y)) fun q => .br q.1 (kO (bO op q.2) fun c => k (.u (.c c)) σ) (.no 109)
  | .makeMap _ r => (match r, σ.hp.wr with
    | none, true => .any (newMQ σ.hp.x) fun y => k (.u (.c (.sv (hdV y.v)))) { σ with hp := { σ.hp with x := y.m } }
    | _, _ => .no 110)
  | .box t x => (match ev σ x with
    | .u u => (match u.cells.all C.plain, u.wf 0, σ.hp.wr with
      | true, true, true => .any (newQ σ.hp.x (dens (fun _ => 0) u.cells) t) fun y => k (.u (.c (.np (pI y.i) 0))) { σ with hp := { σ.hp with x := y.m } }
      | _, _, _ => .no 111)
    | _ => .no 112)
  | _ => .no 113
/-- An operation, through the memory or not. -/
def opX (P : Program) (o : Op) (σ : St) (k : V → St → Tr) : Tr :=
  match onR o σ with
  | true => opxR P o σ k
  | false => (match onM o σ with | true => opxM P o σ k | false => opx P o σ k)

section
variable {P : Program} {W : World} {n0 : NL} {ρ0 : Nat → Nat} {N : Nat} {ρ : Nat → Nat} {σ : St} {a : Act} {w : World} {R : Leaf → Prop}

theorem rdE_den (ρ : Nat → Nat) {z : C} {v : Value} (h : okC z v = true) : (rdE z v).den ρ = v := by
  cases z with
  | lb b => cases v <;> simp [okC, isB] at h; simp [rdE, C.den, vB]
  | li kd n => cases v <;> simp [okC, isK] at h; simp [rdE, C.den, vI, h]
  | nilp =>
    simp only [rdE, C.den]
    replace h : isP v = true := h
    unfold isP at h
    split at h
    · rfl
    · rename_i a
      simp only [vP, pv]
      rw [show ((a : Int) + 1).toNat = a + 1 by omega]
    · cases h
  | _ => simp only [rdE, C.den]; cases v <;> first | rfl | (cases h; done)
theorem rdE_wf (z : C) (v : Value) (n : Nat) : (rdE z v).wf n = true := by cases z <;> rfl
theorem rdEl_wf (v : Value) (n : Nat) : ∀ (zs : List C) (k : Nat), (rdEl v k zs).all (C.wf n) = true
  | [], _ => rfl
  | z :: r, k => by simp [rdEl, rdE_wf, rdEl_wf v n r]
theorem rdU_wf (z : U) (v : Value) (n : Nat) : (rdU z v).wf n = true := by
  cases z with
  | c c => exact rdE_wf c v n
  | agg zs => exact rdEl_wf v n zs 0
theorem rdEl_den (ρ : Nat → Nat) {ws : Array Value} : ∀ {zs : List C} {k : Nat}, okR ws k zs = true → k + zs.length = ws.size → (rdEl (.agg ws) k zs).map (C.den ρ) = ws.toList.drop k
  | [], k, _, hl => by
    simp only [rdEl, List.map_nil]
    rw [List.drop_eq_nil_of_le]
    rw [Array.length_toList]; simp at hl; omega
  | z :: r, k, h, hl => by
    simp only [okR, Bool.and_eq_true] at h
    obtain ⟨h1, h2⟩ := h
    simp only [List.length_cons] at hl
    split at h1
    · rename_i v e
      have ih := rdEl_den ρ h2 (by omega)
      have hk : k < ws.toList.length := by rw [Array.length_toList]; omega
      rw [List.drop_eq_getElem_cons hk]
      simp only [rdEl, List.map_cons, ih]
      have : cellAt (.agg ws) k = v := by simp [cellAt, e]
      rw [this, rdE_den ρ h1]
      have e2 : ws.toList[k] = v := by
        have := List.getElem?_eq_getElem hk
        rw [Array.getElem?_toList, e] at this
        exact (Option.some.inj this).symm
      rw [e2]
    · cases h1
theorem rdU_den (ρ : Nat → Nat) {z : U} {v : Value} (h : okU z v = true) : (rdU z v).den ρ = v := by
  cases z with
  | c c => exact rdE_den ρ h
  | agg zs =>
    simp only [okU] at h
    split at h
    · rename_i ws
      simp only [Bool.and_eq_true] at h
      have e := rdEl_den ρ h.2 (by have := Nat.eq_of_beq_eq_true h.1; omega)
      simp only [rdU, U.den, dens, e, List.drop_zero]
    · cases h
theorem den0_eq {u : U} (h : u.wf 0 = true) (ρ : Nat → Nat) : u.den ρ = den0 u := V.den_ext (n := 0) (ρ := fun _ => 0) (ρ' := ρ) (fun i hi => by omega) (.u u) h

theorem br_no' {b : Bool} {T : Tr} {n : Nat} (h : (Tr.br b T (.no n)).sat R) : b = true ∧ T.sat R := by
  cases b with
  | true => exact ⟨rfl, h.1 rfl⟩
  | false => exact (h.2 rfl).elim

theorem svOf_den {v : V} {x : Value} (h : svOf v = some x) (ρ : Nat → Nat) : v.den ρ = x := by
  unfold svOf at h
  split at h
  · cases h; rfl
  · cases h; rfl
  · cases h
theorem bnd_run {o : Option Operand} {d l : Int} (h : bndOf σ o d = some l) (hI : Inv W n0 ρ0 N ρ σ a w) : (o = none ∧ l = d) ∨ ∃ x k, o = some x ∧ a.eval x = .int k l := by
  cases o with
  | none => cases h; exact .inl ⟨rfl, rfl⟩
  | some x =>
    simp only [bndOf] at h
    split at h
    · rename_i c hc
      split at h
      · rename_i q hq
        cases h
        exact .inr ⟨x, q.2.1, rfl, by rw [ev_den hI x, hc]; exact C.int_den hq ρ⟩
      · cases h
    · cases h

theorem run_sliceBound {x : Value} {k : IntKind} {l : Int} {y : Nat} {code : BoundsCode} (hx : x = .int k l) (h0 : 0 ≤ l) (h1 : l ≤ y) (w : World) : (Instr.sliceBound x y code).run P w = .ok l.toNat w := by
  subst hx
  simp [Instr.sliceBound, asIntOf, h0, h1]

theorem cut_run {t e : TypeId} {sz : Nat} (hu : P.underlying t = some (.slice e)) (hz : tsz P e = some sz) {v : Value} {l h : Int} {lo hi : Option Value} (hok : cutSl v l h = true)
    (hl : (lo = none ∧ l = 0) ∨ ∃ k, lo = some (.int k l)) (hh : (hi = none ∧ h = (slN v : Int)) ∨ ∃ k, hi = some (.int k h)) (w : World) :
    (Instr.slice t v lo hi none).run P w = .ok (pl (cutV v sz l h)) w := by
  simp only [cutSl, Bool.and_eq_true, decide_eq_true_eq] at hok
  obtain ⟨h1, h2, h3, h4⟩ := hok
  cases v with
  | slice ad n c =>
    have hhb : (Instr.sliceBounds true n c lo hi none).run P w = .ok (l.toNat, h.toNat, c) w := by
      simp only [slK] at h4
      rcases hl with ⟨rfl, rfl⟩ | ⟨kl, rfl⟩ <;> rcases hh with ⟨rfl, rfl⟩ | ⟨kh, rfl⟩
      · simp [Instr.sliceBounds, slN]
      · simp [Instr.sliceBounds, run_sliceBound (P := P) (y := c) rfl (show (0 : Int) ≤ h by omega) h4]
      · simp [Instr.sliceBounds, slN, run_sliceBound (P := P) (y := n) rfl h2 (by simpa [slN] using h3)]
      · simp [Instr.sliceBounds, run_sliceBound (P := P) (y := c) rfl (show (0 : Int) ≤ h by omega) h4, run_sliceBound (P := P) (y := h.toNat) rfl h2 (by omega)]
    simp only [Instr.slice, Sem.run_bind, run_underlying hu, Result.andThen_ok, hhb, run_sizeOf hz, Sem.run_pure]
    cases ad with
    | none =>
      simp only [isSl, Bool.and_eq_true] at h1
      have e1 := Nat.eq_of_beq_eq_true h1.1
      have e2 := Nat.eq_of_beq_eq_true h1.2
      subst e1; subst e2
      simp only [slK] at h4
      have : l.toNat = 0 := by omega
      have : h.toNat = 0 := by omega
      simp [cutV, pl, *]
    | some ad =>
      obtain ⟨b, o, sp⟩ := ad
      cases sp with
      | some _ => cases h1
      | none =>
        simp only [cutV, pl]
        split
        · rfl
        · simp [add_at]
  | _ => cases h1

def pureR : Op → Bool
  | .lookup _ _ _ _ => true
  | .indexAddr _ _ _ => true
  | .slice _ _ _ _ _ => true
  | .binOp _ _ _ _ _ => true
  | _ => false
theorem nilQ_run {t : TypeId} {x y : V} {q : Bool × Bool} (hq : nilQ P t x y = some q) (hok : q.1 = true) (ρ : Nat → Nat) :
    ∃ vx vy, x.den ρ = vx ∧ y.den ρ = vy ∧ (∀ op ox oy, (eqGuard op t ox oy vx vy).run P w = .ok () w) ∧ (binOp .eql t vx vy).run P w = .ok (.bool q.2) w ∧ (binOp .neq t vx vy).run P w = .ok (.bool (!q.2)) w := by
  unfold nilQ at hq
  split at hq
  · rename_i kt et hu
    split at hq
    · rename_i v
      cases hq
      refine ⟨pl v, .map none, rfl, rfl, ?_⟩
      simp only at hok
      generalize pl v = u at hok
      cases u with
      | map r =>
        have e : ∀ d, (Op.equalIn (d + 1) t (.map r) (.map none)).run P w = .ok (isNilM (.map r)) w := fun d => by cases r <;> simp [Op.equalIn, run_underlying hu, isNilM]
        have e := e 9999
        refine ⟨fun op ox oy => by unfold eqGuard; split <;> simp, ?_, ?_⟩
        · simp only [binOp, Op.equal, Op.maxDepth, Sem.run_bind, e, Result.andThen_ok, Sem.run_pure]
        · simp only [binOp, Op.equal, Op.maxDepth, Sem.run_bind, e, Result.andThen_ok, Sem.run_pure]
      | _ => cases hok
    · cases hq
  · rename_i et hu
    split at hq
    · rename_i v
      cases hq
      refine ⟨pl v, .slice none 0 0, rfl, rfl, ?_⟩
      simp only at hok
      generalize pl v = u at hok
      cases u with
      | slice r n c =>
        have e : ∀ d, (Op.equalIn (d + 1) t (.slice r n c) (.slice none 0 0)).run P w = .ok (isNilS (.slice r n c)) w := fun d => by cases r <;> simp [Op.equalIn, run_underlying hu, isNilS]
        have e := e 9999
        refine ⟨fun op ox oy => by unfold eqGuard; split <;> simp, ?_, ?_⟩
        · simp only [binOp, Op.equal, Op.maxDepth, Sem.run_bind, e, Result.andThen_ok, Sem.run_pure]
        · simp only [binOp, Op.equal, Op.maxDepth, Sem.run_bind, e, Result.andThen_ok, Sem.run_pure]
      | _ => cases hok
    · cases hq
  · cases hq

/-- What a single operation that leaves the world as it is comes to. -/
theorem opxR_path {o : Oper} {k : V → St → Tr} (hp : pureR o.op = true) (h : (opxR P o.op σ k).sat R) :
    ∃ v, (k v σ).sat R ∧ ∀ a w, Inv W n0 ρ0 N ρ σ a w → v.wf σ.n = true ∧ (execOp a.eval o).run P w = .ok (.value (v.den ρ)) w := by
  obtain ⟨dst, op, type, pos, after, guard⟩ := o
  simp only at h hp
  unfold opxR at h
  split at h
  · rename_i t x ix ok
    split at h
    · rename_i v uk hx hix
      obtain ⟨q, hq, h⟩ := kO_sat h
      obtain ⟨z, hz, h⟩ := kO_sat h
      split at h
      · rename_i hw
        obtain ⟨⟨r1, r2, r3, r4⟩, h⟩ := h
        refine ⟨_, h, fun a w hI => ⟨?_, ?_⟩⟩
        · cases ok
          · exact rdU_wf _ _ _
          · simp only [lkR, V.wf, List.all_cons, List.all_nil, rdU_wf, Bool.true_and, Bool.and_true]; rfl
        · obtain ⟨kt, et⟩ := q
          have hu : P.underlying t = some (.map kt et) := by
            unfold mapKT at hq; split at hq
            · rename_i hu; cases hq; exact hu
            · cases hq
          have hd1 : a.eval x = pl v := by rw [ev_den hI x, hx]; rfl
          have hd2 : a.eval ix = den0 uk := by rw [ev_den hI ix, hix]; exact den0_eq hw ρ
          refine run_v (s := Instr.lookup t (a.eval x) (a.eval ix) ok) ?_
          rw [hd1, hd2, run_lookupM r1 hu hI.H.mem.sub r2 r3 (run_zeroValue hz (fun _ => 0) w) ok]
          have e := rdU_den ρ r4
          cases ok
          · simp only [Bool.false_eq_true, if_false, lkR, V.den]
            rw [e]; rfl
          · simp only [if_true, lkR, V.den, List.map_cons, List.map_nil]
            rw [e]; rfl
      · exact h.elim
    · exact h.elim
  · cases hp
  · rename_i t x ix
    split at h
    · rename_i v ci hx hix
      obtain ⟨q, hq, h⟩ := kO_sat h
      obtain ⟨e, he, h⟩ := kO_sat h
      obtain ⟨sz, hz, h⟩ := kO_sat h
      obtain ⟨hok, h⟩ := br_no' h
      refine ⟨_, h, fun a w hI => ⟨rfl, ?_⟩⟩
      have hu : P.underlying t = some (.slice e) := by
        unfold slE at he; split at he
        · rename_i hu; cases he; exact hu
        · cases he
      obtain ⟨lx, kx, nx⟩ := q
      have hd1 : a.eval x = pl v := by rw [ev_den hI x, hx]; rfl
      have hd2 : a.eval ix = .int kx nx := by rw [ev_den hI ix, hix]; exact C.int_den hq ρ
      simp only [inSl, Bool.and_eq_true, decide_eq_true_eq] at hok
      obtain ⟨b, o, c, e1, e2, e3⟩ := slB_at hok.1 (by omega)
      refine run_v (s := Instr.indexAt t (a.eval x) (a.eval ix)) ?_
      have hden : V.den ρ (.u (.c (.np (slB (pl v)) (aOff (slO (pl v)) nx sz)))) = .pointer (some ⟨b, o + nx.toNat * sz, none⟩) := by
        rw [e3]
        exact pv_at (by omega)
      rw [hden, hd1, hd2, e1]
      generalize slN (pl v) = len at hok
      simp [Instr.indexAt, run_underlying hu, asIntOf, hok.2.1, hok.2.2, run_sizeOf hz, add_at]
    · exact h.elim
  · rename_i t x lo hi mx
    split at h
    · obtain ⟨v, hv, h⟩ := kO_sat h
      obtain ⟨e, he, h⟩ := kO_sat h
      obtain ⟨sz, hz, h⟩ := kO_sat h
      obtain ⟨l, hl, h⟩ := kO_sat h
      obtain ⟨hh, hhh, h⟩ := kO_sat h
      obtain ⟨hok, h⟩ := br_no' h
      refine ⟨_, h, fun a w hI => ⟨rfl, ?_⟩⟩
      have hu : P.underlying t = some (.slice e) := by
        unfold slE at he; split at he
        · rename_i hu; cases he; exact hu
        · cases he
      have hd1 : a.eval x = v := by rw [ev_den hI x]; exact svOf_den hv ρ
      refine run_v (s := Instr.sliceAt t (a.eval x) (lo.map a.eval) (hi.map a.eval) none) ?_
      rw [hd1]
      have esl : ∀ lo hi, (Instr.sliceAt t v lo hi none).run P w = (Instr.slice t v lo hi none).run P w := fun lo hi => by simp only [Instr.sliceAt, Sem.run_bind, run_underlying hu, Result.andThen_ok]
      rw [esl]
      refine cut_run hu hz hok ?_ ?_ w
      · rcases bnd_run hl hI with ⟨rfl, rfl⟩ | ⟨y, k, rfl, e1⟩
        · exact .inl ⟨rfl, rfl⟩
        · exact .inr ⟨k, by simp [e1]⟩
      · rcases bnd_run hhh hI with ⟨rfl, rfl⟩ | ⟨y, k, rfl, e1⟩
        · exact .inl ⟨rfl, rfl⟩
        · exact .inr ⟨k, by simp [e1]⟩
    · exact h.elim
  · rename_i op t x y ty
    obtain ⟨q, hq, h⟩ := kO_sat h
    obtain ⟨hok, h⟩ := br_no' h
    obtain ⟨c, hc, h⟩ := kO_sat h
    refine ⟨_, h, fun a w hI => ?_⟩
    obtain ⟨vx, vy, hx, hy, e1, e2, e3⟩ := nilQ_run (P := P) (w := w) hq hok ρ
    have hd1 : a.eval x = vx := by rw [ev_den hI x]; exact hx
    have hd2 : a.eval y = vy := by rw [ev_den hI y]; exact hy
    unfold bO at hc
    split at hc
    · cases hc
      refine ⟨rfl, run_v (s := (do eqGuard .eql t x y (a.eval x) (a.eval y); binOp .eql t (a.eval x) (a.eval y))) ?_⟩
      rw [hd1, hd2]
      simp only [Sem.run_bind, e1, Result.andThen_ok]
      exact e2
    · cases hc
      refine ⟨rfl, run_v (s := (do eqGuard .neq t x y (a.eval x) (a.eval y); binOp .neq t (a.eval x) (a.eval y))) ?_⟩
      rw [hd1, hd2]
      simp only [Sem.run_bind, e1, Result.andThen_ok]
      exact e3
    · cases hc
  · cases hp
  · cases hp
  · exact h.elim

theorem opxR_sound {o : Oper} {k : V → St → Tr} (hI : Inv W n0 ρ0 N ρ σ a w) (h : (opxR P o.op σ k).sat R) : OpS P W n0 ρ0 N R ρ σ a w (execOp a.eval o) k := by
  cases hp : pureR o.op with
  | true =>
    obtain ⟨v, hs, hv⟩ := opxR_path (W := W) (n0 := n0) (ρ0 := ρ0) (N := N) (ρ := ρ) hp h
    obtain ⟨h1, h2⟩ := hv a w hI
    exact OpS.pure hI h1 hs h2
  | false =>
  obtain ⟨dst, op, type, pos, after, guard⟩ := o
  simp only at h hp
  unfold opxR at h
  split at h
  · cases hp
  · rename_i t m x v
    split at h
    · rename_i mv uk uv hm hx hv
      obtain ⟨q, hq, h⟩ := kO_sat h
      split at h
      · rename_i hw1 hw2 hwr
        obtain ⟨⟨r1, r2, r3, r4⟩, h⟩ := h
        obtain ⟨kt, et⟩ := q
        have hu : P.underlying t = some (.map kt et) := by
          unfold mapKT at hq; split at hq
          · rename_i hu; cases hq; exact hu
          · cases hq
        have hd1 : a.eval m = pl mv := by rw [ev_den hI m, hm]; rfl
        have hd2 : a.eval x = den0 uk := by rw [ev_den hI x, hx]; exact den0_eq hw1 ρ
        have hd3 : a.eval v = den0 uv := by rw [ev_den hI v, hv]; exact den0_eq hw2 ρ
        obtain ⟨w', e1, e2⟩ := run_updateM r1 hu hI.H hwr r2 r3 r4 (x := den0 uv)
        refine ⟨_, _, ρ, w', hI.later (Ext.refl _ _) (Nat.le_refl _) e2, Ext.refl _ _, Nat.le_refl _, rfl, h, .inr ⟨?_, rfl⟩⟩
        refine run_u (s := Instr.mapUpdate t (a.eval m) (a.eval x) (a.eval v)) ?_
        rw [hd1, hd2, hd3]
        exact e1
      · exact h.elim
    · exact h.elim
  · cases hp
  · cases hp
  · cases hp
  · rename_i t r
    split at h
    · rename_i hwr
      have hlt := hI.H.mem.fresh
      have hs := h ⟨[], [], [.map (some w.heap.size)], alO σ.hp.x w.heap.size (.map #[] 0)⟩ ⟨w.heap.size, hlt, rfl, rfl⟩
      refine ⟨_, _, ρ, w.alloc (.map #[] 0), hI.later (Ext.refl _ _) (Nat.le_refl _) (HInv.freshO hI.H (.map #[] 0)), Ext.refl _ _, Nat.le_refl _, rfl, hs, .inl ?_⟩
      exact run_v (s := Instr.makeMap t none) (run_makeMap t w)
    · exact h.elim
  · rename_i t x
    split at h
    · rename_i u hx
      split at h
      · rename_i hp1 hw1 hwr
        have hs := h ⟨[(w.heap.size : Int) + 1], [], [], alM σ.hp.x ((w.heap.size : Int) + 1) (dens (fun _ => 0) u.cells) t⟩ ⟨w.heap.size, rfl, hI.H.mem.fresh, rfl⟩
        have ed : dens (fun _ => 0) u.cells = dens ρ u.cells := dens_ext (n := 0) (fun i hi => by omega) u.cells (U.cells_wf u hw1)
        refine ⟨_, _, ρ, w.alloc (.cells (dens ρ u.cells) t), hI.later (Ext.refl _ _) (Nat.le_refl _) (hI.H.fresh _ _), Ext.refl _ _, Nat.le_refl _, rfl, (ed ▸ hs), .inl ?_⟩
        refine run_v (s := Instr.box t (a.eval x)) ?_
        have hd : a.eval x = u.den ρ := by rw [ev_den hI x, hx]; rfl
        rw [hd]
        simp only [Instr.box, Sem.run_bind, newVar, newRow, U.den_cells ρ u (plain_of_all hp1), run_newObj, Result.andThen_ok, Sem.run_pure]
        simp [C.den, V.den, U.den, pI, pv, World.alloc_eq]
      · exact h.elim
    · exact h.elim
  · exact h.elim

theorem opX_sound {o : Oper} {k : V → St → Tr} (hI : Inv W n0 ρ0 N ρ σ a w) (h : (opX P o.op σ k).sat R) : OpS P W n0 ρ0 N R ρ σ a w (execOp a.eval o) k := by
  unfold opX at h
  split at h
  · exact opxR_sound hI h
  · split at h
    · exact opxM_sound hI h
    · exact opx_sound hI h

/-! builtins -/
def svIn : List V → Bool
  | v :: _ => isSv v
  | [] => false
/-- Is it a builtin over the memory? -/
def isBM (b : Builtin) (args : List V) : Bool :=
  match b with
  | .append => true
  | .len => svIn args
  | .cap => svIn args
  | .delete => svIn args
  | _ => false
/-- What an append's second argument has: how many elements, their cells; what is asked. -/
def srcOf (P : Program) (σ : St) (tx : TypeId) (sz : Nat) (v : V) : Option (Bool × Nat × List Value) :=
  match P.underlying tx with
  | some (.slice _) => (match v with
    | .u (.c (.sl id off len _)) => (match lookH σ.hp id with
      | some b => (match takeC b.1 off (len * sz) with
        | some cs => (match cs.all C.plain, cs.all (C.wf 0) with
          | true, true => some (true, len, cs.map (C.den fun _ => 0))
          | _, _ => none)
        | none => none)
      | none => none)
    | v => (match svOf v with
      | some x => some (okSl σ.hp.x x sz, slN x, rowL σ.hp.x x sz)
      | none => none))
  | _ => none
def bytesOf (P : Program) (e : TypeId) : Option Nat := (P.info? e).map (·.bytes)
def appX (P : Program) (t tx : TypeId) (x y : V) (σ : St) (k : V → St → Tr) : Tr :=
  kO (svOf x) fun v => kO (slE P t) fun e => kO (tsz P e) fun sz => kO (bytesOf P e) fun bytes => kO (tzero P e) fun z => kO (srcOf P σ tx sz y) fun q => (match σ.hp.wr with
    | true => .br q.1 (.br (appOK σ.hp.x v sz bytes q.2.1 q.2.2) (.any (appQ σ.hp.x v sz (den0 z).cells.toList e q.2.1 q.2.2) fun r => k (.u (.c (.sv (hdV r.v)))) { σ with hp := { σ.hp with x := r.m } }) (.no 120)) (.no 121)
    | false => .no 122)
def bltM (P : Program) (b : Builtin) (ts : List TypeId) (args : List V) (σ : St) (k : V → St → Tr) : Tr :=
  match b with
  | .len => (match ts, args with
    | [t], [.u (.c (.sv v))] => (match P.underlying t with
      | some (.slice _) => .br (isSlV (pl v)) (k (.u (.c (.si .i64 (slN (pl v))))) σ) (.no 123)
      | some (.map kt _) => .req (okM P kt σ.hp.x (pl v)) (k (.u (.c (.si .i64 (mlen σ.hp.x (pl v))))) σ)
      | _ => .no 124)
    | _, _ => .no 125)
  | .append => (match ts, args with
    | [t, tx], [x, y] => appX P t tx x y σ k
    | _, _ => .no 126)
  | .delete => (match ts, args with
    | t :: _, [.u (.c (.sv v)), .u uk] => kO (mapKT P t) fun q => (match uk.wf 0, σ.hp.wr with
      | true, true => .req (Go.Maps.Keyed P q.1 ∧ okM P q.1 σ.hp.x (pl v) ∧ okKey P q.1 (den0 uk)) (.letm (mdel σ.hp.x (pl v) (den0 uk)) fun m => k (.tup []) { σ with hp := { σ.hp with x := m } })
      | _, _ => .no 127)
    | _, _ => .no 128)
  | _ => .no 129

/-- What a builtin comes to. -/
def BltS (P : Program) (W : World) (n0 : NL) (ρ0 : Nat → Nat) (N : Nat) (R : Leaf → Prop) (ρ : Nat → Nat) (σ : St) (a : Act) (w : World) (s : Sem Next) (k : V → St → Tr) : Prop :=
  ∃ v σ' ρ' w', Inv W n0 ρ0 N ρ' σ' a w' ∧ Ext σ.n ρ ρ' ∧ σ.n ≤ σ'.n ∧ v.wf σ'.n = true ∧ (k v σ').sat R ∧ s.run P w = .ok (.value (v.den ρ')) w'

theorem src_run {tx : TypeId} {sz : Nat} {v : V} {q : Bool × Nat × List Value} (hq : srcOf P σ tx sz v = some q) (hok : q.1 = true) (hI : Inv W n0 ρ0 N ρ σ a w) (hv : v.wf σ.n = true) : Src P sz tx (v.den ρ) q.2.1 q.2.2 w := by
  unfold srcOf at hq
  split at hq
  · rename_i e' hu
    split at hq
    · rename_i id off len cap
      split at hq
      · rename_i b hb
        split at hq
        · rename_i cs hcs
          split at hq
          · rename_i h1 h2
            cases hq
            obtain ⟨rfl, hl⟩ := takeC_spec hcs
            have e0 : ((b.1.drop off).take (len * sz)).map (C.den fun _ => 0) = ((b.1.drop off).take (len * sz)).map (C.den ρ) := by
              simp only [List.all_eq_true] at h2
              exact List.map_congr_left fun x hx => (C.den_ext (n := 0) (ρ := fun _ => 0) (ρ' := ρ) (fun i hi => by omega) x (h2 x hx)).symm
            refine Src.ofSlice w hu ⟨ρ id, off, none⟩ len cap _ ?_ (fun j u hj => ?_) (fun u hu' => ?_)
            · rw [List.length_map]; exact hl
            · rw [add_at, hI.H.cell hb]
              have hjl : j < len * sz := by
                have := (List.getElem?_eq_some_iff.1 hj).1
                rw [List.length_map, List.length_take] at this; omega
              rw [e0, List.getElem?_map] at hj
              rw [List.getElem?_take_of_lt hjl, List.getElem?_drop] at hj
              exact hj
            · rw [e0] at hu'
              obtain ⟨c, hc, rfl⟩ := List.mem_map.1 hu'
              simp only [List.all_eq_true] at h1
              have := C.den_plain ρ c (h1 c hc)
              cases hd : C.den ρ c <;> first | rfl | exact absurd hd (this.1 _) | exact absurd hd (this.2 _)
          · cases hq
        · cases hq
      · cases hq
    · split at hq
      · rename_i x hx
        cases hq
        rw [svOf_den hx ρ]
        simp only at hok ⊢
        unfold okSl at hok
        split at hok
        · rename_i n c
          simp only [Bool.and_eq_true] at hok
          have e1 := Nat.eq_of_beq_eq_true hok.1
          have e2 := Nat.eq_of_beq_eq_true hok.2
          subst e1; subst e2
          exact Src.ofNil w hu 0
        · rename_i b o n c
          simp only [Bool.and_eq_true] at hok
          obtain ⟨h1, h2⟩ := hok
          have h1 := Nat.le_of_ble_eq_true h1
          split at h2
          · rename_i cs hcs
            simp only [Bool.and_eq_true, List.all_eq_true] at h2
            have h3 := Nat.le_of_ble_eq_true h2.1
            have hR : rowL σ.hp.x (.slice (some ⟨b, o, none⟩) n c) sz = (cs.toList.drop o).take (n * sz) := by
              simp only [rowL, slB, slO, slN, mgetW_get hcs]
            have hsz : n * sz ≤ c * sz := Nat.mul_le_mul_right _ h1
            rw [hR]
            refine Src.ofSlice w hu ⟨b, o, none⟩ n c _ ?_ (fun j u hj => ?_) (fun u hu' => ?_)
            · rw [List.length_take, List.length_drop, Array.length_toList]; omega
            · rw [add_at, (mget_cell hI.H.mem.sub hcs _).1]
              have hjl : j < n * sz := by
                have := (List.getElem?_eq_some_iff.1 hj).1
                rw [List.length_take] at this; omega
              rw [List.getElem?_take_of_lt hjl, List.getElem?_drop, Array.getElem?_toList] at hj
              exact hj
            · exact oneCell_of (h2.2 u (List.mem_of_mem_drop (List.mem_of_mem_take hu')))
          · cases h2
        · cases hok
      · cases hq
  · cases hq

theorem bltM_sound {b : Builtin} {ts : Array TypeId} {args : List V} {k : V → St → Tr} (hI : Inv W n0 ρ0 N ρ σ a w) (hargs : args.all (V.wf σ.n) = true) (h : (bltM P b ts.toList args σ k).sat R) (ty : TypeId) (ks : Array Bool) :
    BltS P W n0 ρ0 N R ρ σ a w (builtin b ts ty ks (args.map (V.den ρ)).toArray) k := by
  unfold bltM at h
  split at h
  · split at h
    · rename_i t v hts
      have hts' : ts[0]? = some t := by rw [← Array.getElem?_toList, hts]; rfl
      split at h
      · rename_i e hu
        obtain ⟨hok, h⟩ := br_no' h
        refine ⟨_, σ, ρ, w, hI, Ext.refl _ _, Nat.le_refl _, rfl, h, ?_⟩
        have : (builtin .len ts ty ks ([V.u (.c (.sv v))].map (V.den ρ)).toArray).run P w = ((do pure (Next.value (← Builtin.len_ ts ty #[pl v])) : Sem Next)).run P w := rfl
        rw [this]
        refine run_v (s := Builtin.len_ ts ty #[pl v]) ?_
        cases hv : pl v with
        | slice ad n c => simp [Builtin.len_, hts', run_underlying hu, goInt, V.den, U.den, C.den, slN]
        | _ => rw [hv] at hok; cases hok
      · rename_i kt et hu
        obtain ⟨hok, h⟩ := h
        refine ⟨_, σ, ρ, w, hI, Ext.refl _ _, Nat.le_refl _, rfl, h, ?_⟩
        have : (builtin .len ts ty ks ([V.u (.c (.sv v))].map (V.den ρ)).toArray).run P w = ((do pure (Next.value (← Builtin.len_ ts ty #[pl v])) : Sem Next)).run P w := rfl
        rw [this]
        exact run_v (s := Builtin.len_ ts ty #[pl v]) (run_lenM hts' hu hI.H.mem.sub hok)
      · exact h.elim
    · exact h.elim
  · split at h
    · rename_i t tx x y hts
      unfold appX at h
      obtain ⟨v, hv, h⟩ := kO_sat h
      obtain ⟨e, he, h⟩ := kO_sat h
      obtain ⟨sz, hz, h⟩ := kO_sat h
      obtain ⟨bytes, hb, h⟩ := kO_sat h
      obtain ⟨z, hzz, h⟩ := kO_sat h
      obtain ⟨q, hq, h⟩ := kO_sat h
      split at h
      · rename_i hwr
        obtain ⟨h1, hA⟩ := br_no' h
        clear h
        obtain ⟨h2, hB⟩ := br_no' hA
        clear hA
        have hu : P.underlying t = some (.slice e) := by
          unfold slE at he; split at he
          · rename_i hu; cases he; exact hu
          · cases he
        unfold tsz at hz
        unfold bytesOf at hb
        cases hi : P.info? e with
        | none => rw [hi] at hz; cases hz
        | some i =>
          rw [hi] at hz hb
          cases hz; cases hb
          have hzero : ∃ zv, i.zero = some zv ∧ den0 z = zv := by
            unfold tzero at hzz
            rw [hi] at hzz
            simp only at hzz
            split at hzz
            · rename_i zv hzv; cases hzz; exact ⟨zv, hzv, U.den_ofValue _ zv⟩
            · cases hzz
          obtain ⟨zv, hzv, ez⟩ := hzero
          have hywf : y.wf σ.n = true := by
            simp only [List.all_cons, Bool.and_eq_true] at hargs
            exact hargs.2.1
          have hs := src_run hq h1 hI hywf
          obtain ⟨w', r, g1, g2, g3⟩ := run_append_M (ty := ty) hu hi hzv hI.H hwr h2 hs
          rw [ez] at hB
          have hsat := hB r g2
          have htsA : ts = #[t, tx] := by apply Array.ext'; simpa using hts
          refine ⟨_, _, ρ, w', hI.later (Ext.refl _ _) (Nat.le_refl _) g3, Ext.refl _ _, Nat.le_refl _, rfl, hsat, ?_⟩
          have hden : V.den ρ (.u (.c (.sv (hdV r.v)))) = r.v.headD undef := by
            rcases g2 with ⟨_, e1, _⟩ | ⟨_, a', c', _, _, e1, _⟩
            · rw [e1]
              cases v with
              | slice a' n' c' => rfl
              | _ => simp [appOK, okSl] at h2
            · rw [e1]; rfl
          rw [hden]
          have : (builtin .append ts ty ks ([x, y].map (V.den ρ)).toArray).run P w = ((do pure (Next.value (← Builtin.append_ ts ty #[V.den ρ x, V.den ρ y])) : Sem Next)).run P w := rfl
          rw [this, htsA, svOf_den hv ρ]
          exact run_v (s := Builtin.append_ #[t, tx] ty #[v, V.den ρ y]) g1
      · exact h.elim
    · exact h.elim
  · split at h
    · rename_i t ts' v uk hts
      have hts' : ts[0]? = some t := by rw [← Array.getElem?_toList, hts]; rfl
      obtain ⟨q, hq, h⟩ := kO_sat h
      split at h
      · rename_i hw1 hwr
        obtain ⟨⟨r1, r2, r3⟩, h⟩ := h
        obtain ⟨kt, et⟩ := q
        have hu : P.underlying t = some (.map kt et) := by
          unfold mapKT at hq; split at hq
          · rename_i hu; cases hq; exact hu
          · cases hq
        obtain ⟨w', e1, e2⟩ := run_deleteM (ty := ty) hts' r1 hu hI.H hwr r2 r3
        refine ⟨_, _, ρ, w', hI.later (Ext.refl _ _) (Nat.le_refl _) e2, Ext.refl _ _, Nat.le_refl _, rfl, h, ?_⟩
        have : (builtin .delete ts ty ks ([V.u (.c (.sv v)), V.u uk].map (V.den ρ)).toArray).run P w = ((do pure (Next.value (← Builtin.delete_ ts ty #[pl v, uk.den ρ])) : Sem Next)).run P w := rfl
        rw [this, den0_eq hw1 ρ]
        exact run_v (s := Builtin.delete_ ts ty #[pl v, den0 uk]) e1
      · exact h.elim
    · exact h.elim
  · exact h.elim
end
end Go.Proofs.Ytnlohongffpkpaa.Sx
