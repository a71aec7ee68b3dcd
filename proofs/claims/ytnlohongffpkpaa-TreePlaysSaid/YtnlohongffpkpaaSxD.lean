/- The symbolic executor: single operations, and that they tell what the machine's do. A text of the session's own. -/
import Derived.Test.YtnlohongffpkpaaSxC
import Derived.DeepKeys3
import Derived.LaidEqlPtr
import Derived.MapKept
namespace Go.Proofs.Ytnlohongffpkpaa.Sx
open Go

def retell (σ : St) (x : Operand) (b : Bool) : St :=
  match x with
  | .tmp t => { σ with tm := (t, .u (.c (.lb b))) :: σ.tm }
  | _ => σ

def decB (σ : St) (x : Operand) (k : Bool → St → Tr) : Tr :=
  match ev σ x with
  | .u (.c (.lb v)) => (match v with | true => k true σ | false => k false σ)
  | .u (.c (.sb v)) => .br v (k true (retell σ x true)) (k false (retell σ x false))
  | _ => .no 1

def newx (σ : St) (cs : List C) (ty : Nat) (mk : C) (k : V → St → Tr) : Tr :=
  match cs.all (C.wf σ.n) with
  | true => k (.u (.c mk)) { σ with hp := hcons (σ.n, (cs, ty)) σ.hp, n := σ.n + 1 }
  | false => .no 2

def ldC (P : Program) (t : TypeId) (cs : List C) (off : Nat) : Option U :=
  match tagg P t with
  | some false => (cs[off]?).map U.c
  | some true => match tsz P t with | some sz => (takeC cs off sz).map U.agg | none => none
  | none => none

def fillC (place : Nat → Option (Nat × Nat)) (cells : List C) : List (Nat × U) → Option (List C)
  | [] => some cells
  | (i, u) :: rest =>
    match place i with
    | none => none
    | some (off, size) =>
      match Nat.beq u.cells.length size, Nat.ble (off + size) cells.length, u.cells.all C.plain with
      | true, true, true => fillC place (putC cells off u.cells) rest
      | _, _, _ => none

def unitsOf (σ : St) : List (Nat × Operand) → Option (List (Nat × U))
  | [] => some []
  | (i, x) :: r => match ev σ x with
    | .u u => match unitsOf σ r with | some l => some ((i, u) :: l) | none => none
    | _ => none

def buildC (P : Program) (σ : St) (t : TypeId) (parts : List (Nat × Operand)) : Option (List C) :=
  match P.info? t, P.underlying t with
  | some it, some (.struct fields) =>
    match it.zero, fields.toList.mapM (fun f => (P.info? f.type).map fun i => (f.offset, i.size)) with
    | some z, some places => match unitsOf σ parts with
      | some us => fillC (places[·]?) (U.ofValue z).cells us
      | none => none
    | _, _ => none
  | some it, some (.array _ e) =>
    match it.zero, P.info? e with
    | some z, some ie => match unitsOf σ parts with
      | some us => fillC (fun i => some (i * ie.size, ie.size)) (U.ofValue z).cells us
      | none => none
    | _, _ => none
  | _, _ => none

def rowC (P : Program) (e : TypeId) (len sz : Nat) : Option (List C) :=
  match Nat.beq (len * sz) 0 with
  | true => some []
  | false => match tzero P e with
    | some u => (match Nat.beq u.cells.length sz, u.cells.all C.plain with
      | true, true => some ((List.range (len * sz)).map fun i => (u.cells[i % sz]?).getD .nilp)
      | _, _ => none)
    | none => none

/-- A new row, laid by a slice's literal. -/
def slC (P : Program) (σ : St) (t : TypeId) (len : Nat) (parts : List (Nat × Operand)) : Option (List C × Nat) :=
  match P.underlying t with
  | some (.slice e) => match tsz P e with
    | some sz => (match Nat.ble (len * sz) 16777216, rowC P e len sz, unitsOf σ parts with
      | true, some zs, some us => (match fillC (fun i => some (i * sz, sz)) zs us with | some cs => some (cs, e) | none => none)
      | _, _, _ => none)
    | none => none
  | _ => none

def ptrsOf (σ : St) : List Operand → Option (List (Nat × Nat))
  | [] => some []
  | x :: r => match ev σ x with
    | .u (.c (.ptr id off)) => match ptrsOf σ r with | some l => some ((id, off) :: l) | none => none
    | _ => none

def fieldOff (P : Program) (s : TypeId) (f : Nat) : Option Nat :=
  match P.underlying s with
  | some (.struct fs) => match fs[f]? with
    | some fd => match tsz P fd.type with | some (_ + 1) => some fd.offset | _ => none
    | none => none
  | _ => none

def partC (P : Program) (t : TypeId) (xs : List C) (f : Nat) : Option U :=
  match P.underlying t with
  | some (.struct fs) => match fs[f]? with
    | some fd => ldC P fd.type xs fd.offset
    | none => none
  | _ => none

def unC (op : UnOp) (c : C) : Option C :=
  match op with
  | .not => match c.bool? with | some (l, b) => some (mkB l (bNot b)) | none => none
  | .neg => match c.int? with | some (l, k, n) => some (mkI l k (iSub k 0 n)) | none => none
  | .xor => match c.int? with | some (l, k, n) => some (mkI l k (iBit .xor k (if k.signed then -1 else k.max) n)) | none => none
  | _ => none

def convC (P : Program) (src dst : TypeId) (c : C) : Option C :=
  match P.underlying src, P.underlying dst, c.int? with
  | some _, some (.int k), some (l, _, n) => some (mkI l k (iConv k n))
  | _, _, _ => none

def tupC (v : V) (i : Nat) : Option U := match v with | .tup xs => xs[i]? | _ => none

/-- The element's place at a literal index. -/
def idxC (P : Program) (t : TypeId) (x : C) (ix : C) : Option C :=
  match x, ix with
  | .sl id off len _, .li _ n => match P.underlying t with
    | some (.slice e) => match decide (0 ≤ n ∧ n < (len : Int)), tsz P e with
      | true, some sz => some (.ptr id (off + n.toNat * sz))
      | _, _ => none
    | _ => none
  | .ptr id off, .li _ n => match P.underlying t with
    | some (.array len e) => match decide (0 ≤ n ∧ n < (len : Int)), tsz P e with
      | true, some sz => some (.ptr id (off + n.toNat * sz))
      | _, _ => none
    | _ => none
  | _, _ => none

/-- Are two references the same? -/
def isCst : Operand → Bool
  | .const _ => true
  | _ => false
def refEq (P : Program) (σ : St) (cst : Bool) (t : TypeId) (x y : C) : Option Bool :=
  match P.underlying t with
  | some (.pointer e) => match x, y with
    | .nilp, .nilp => some true
    | .nilp, .ptr _ _ => some false
    | .ptr _ _, .nilp => some false
    | .ptr i o, .ptr j q => match P.info? e, lookH σ.hp i, lookH σ.hp j with
      | some ie, some _, some _ => (match Nat.beq ie.size 0 with | true => none | false => some (Nat.beq i j && Nat.beq o q))
      | _, _, _ => none
    | _, _ => none
  | some (.map _ _) => match x, y with
    | .mp _, .raw (.map none) => some false
    | .raw (.map none), .mp _ => some false
    | .raw (.map none), .raw (.map none) => some true
    | _, _ => none
  | some (.interface _) => match x, y with
    | .ifp _ _ _, .raw .nilIface => some false
    | .raw .nilIface, .ifp _ _ _ => some false
    | .raw .nilIface, .raw .nilIface => (match cst with | true => some true | false => none)
    | _, _ => none
  | _ => none
def notb : Bool → Bool
  | true => false
  | false => true
def refOp (op : BinOp) (b : Bool) : Option C :=
  match op with
  | .eql => some (.lb b)
  | .neq => some (.lb (notb b))
  | _ => none
/-- A literal value. -/
def litV (u : U) : Option Value :=
  match u with
  | .c (.li k n) => some (.int k n)
  | .agg xs => (match xs.all fun c => match c with | .li _ _ => true | _ => false with | true => some (.agg (dens (fun _ => 0) xs)) | false => none)
  | _ => none
/-- A key's type that is a struct of plain ones, and a key of it. -/
def keyOKc (P : Program) (kt : TypeId) (v : Value) : Bool := P.keyTypeAt 8 kt && v.formed P kt && (P.keyLits 10 kt v.cells.toList).isSome
/-- The entry at a literal key among literal keys that are structs. -/
def scanS (P : Program) (kt : TypeId) (x : List C) : Nat → List (U × U × Nat) → Option (Option (Nat × U × U))
  | _, [] => some none
  | i, e :: r => match e.1 with
    | .agg ys => match eqT P 10000 kt x ys with
      | some (.lb true) => some (some (i, e.1, e.2.1))
      | some (.lb false) => scanS P kt x (i + 1) r
      | _ => none
    | _ => none
def setE (k v : U) : Nat → List (U × U × Nat) → List (U × U × Nat)
  | _, [] => []
  | 0, e :: r => (k, v, e.2.2) :: r
  | i + 1, e :: r => e :: setE k v i r
def delE : Nat → List (U × U × Nat) → List (U × U × Nat)
  | _, [] => []
  | 0, _ :: r => r
  | i + 1, e :: r => e :: delE i r
def structT (P : Program) (t : TypeId) : Option (TypeId × TypeId) :=
  match P.underlying t with
  | some (.map kt et) => match P.underlying kt with | some (.struct _) => some (kt, et) | _ => none
  | _ => none
def insS (P : Program) (σ : St) (t : TypeId) (m x v : Operand) : Option St :=
  match structT P t, ev σ m, ev σ x, ev σ v with
  | some q, .u (.c (.mp id)), .u (.agg xs), .u uv => match litV (.agg xs), lookMW σ.hp id with
    | some lv, some b => (match keyOKc P q.1 lv, tagg P q.1, scanS P q.1 xs 0 b.1 with
      | true, some true, some none => some { σ with hp := mcons (id, (b.1 ++ [(.agg xs, uv, b.2)], b.2 + 1)) σ.hp }
      | true, some true, some (some r) => (match litV r.2.1 with
        | some ov => (match Instr.sameBits 10000 ov lv with
          | true => some { σ with hp := mcons (id, (setE (.agg xs) uv r.1 b.1, b.2)) σ.hp }
          | false => none)
        | none => none)
      | _, _, _ => none)
    | _, _ => none
  | _, _, _, _ => none
/-- An entry is taken out of a map. -/
def delS (P : Program) (σ : St) (t : TypeId) (m x : Operand) : Option St :=
  match structT P t, ev σ m, ev σ x with
  | some q, .u (.c (.mp id)), .u (.agg xs) => match litV (.agg xs), lookMW σ.hp id with
    | some lv, some b => (match keyOKc P q.1 lv, tagg P q.1, scanS P q.1 xs 0 b.1 with
      | true, some true, some none => some { σ with hp := mcons (id, b) σ.hp }
      | true, some true, some (some r) => some { σ with hp := mcons (id, (delE r.1 b.1, b.2)) σ.hp }
      | _, _, _ => none)
    | _, _ => none
  | _, _, _ => none
def isDel (b : Builtin) : Bool := match b with | .delete => true | _ => false
def litI (u : U) : Option (IntKind × Int) := match u with | .c (.li k n) => some (k, n) | _ => none
/-- Is a literal number none of the keys, which are literal numbers? -/
def keysFresh (kd : IntKind) (n : Int) : List (U × U × Nat) → Bool
  | [] => true
  | e :: r => match litI e.1 with
    | some q => (decide (q.1 = kd) && !decide (n = q.2)) && keysFresh kd n r
    | none => false
/-- A new key is put into a map. -/
def insx (P : Program) (σ : St) (t : TypeId) (m x v : Operand) : Option St :=
  match P.underlying t with
  | some (.map kt _) => match P.underlying kt with
    | some (.int _) => match ev σ m, ev σ x, ev σ v with
      | .u (.c (.mp id)), .u ux, .u uv => match litI ux, lookMW σ.hp id with
        | some q, some b => (match keysFresh q.1 q.2 b.1 with
          | true => some { σ with hp := mcons (id, (b.1 ++ [(ux, uv, b.2)], b.2 + 1)) σ.hp }
          | false => none)
        | _, _ => none
      | _, _, _ => none
    | _ => none
  | _ => none
/-- A number is looked up among keys that are literal numbers. -/
def lookx (kd : IntKind) (l : Bool) (x : Int) (found : U → Tr) (gone : Tr) : List (U × U × Nat) → Tr
  | [] => gone
  | e :: r => match litI e.1 with
    | some q => (match decide (q.1 = kd) with
      | true => (match l with
        | true => (match decide (x = q.2) with | true => found e.2.1 | false => lookx kd l x found gone r)
        | false => .br (iEq x q.2) (found e.2.1) (lookx kd l x found gone r))
      | false => .no 22)
    | none => .no 23
def lookR (ok : Bool) (u : U) (b : Bool) : V := match ok with | true => .tup [u, .c (.lb b)] | false => .u u
def mapT (P : Program) (t : TypeId) : Option TypeId :=
  match P.underlying t with
  | some (.map kt et) => match P.underlying kt with | some (.int _) => some et | _ => none
  | _ => none
def kO {α : Type} (o : Option α) (k : α → Tr) : Tr := match o with | some x => k x | none => .no 3

def ifaceC (P : Program) (t : TypeId) (c : C) : Option C :=
  match P.underlying t, c with
  | some (.pointer _), .ptr id off => some (.ifp t id off)
  | _, _ => none
def failC (P : Program) (t : TypeId) (ok : Bool) : Option V :=
  match ok with
  | true => (match tzero P t with | some z => some (lookR true z false) | none => none)
  | false => none
def tassertC (P : Program) (c : C) (t : TypeId) (ok : Bool) : Option V :=
  match P.underlying t with
  | some (.pointer _) => match c with
    | .ifp t' id off => (match Nat.beq t' t with
      | true => some (lookR ok (.c (.ptr id off)) true)
      | false => failC P t ok)
    | .raw .nilIface => failC P t ok
    | _ => none
  | _ => none

def opx (P : Program) (o : Op) (σ : St) (k : V → St → Tr) : Tr :=
  match o with
  | .move x => k (ev σ x) σ
  | .assign x => k (ev σ x) σ
  | .pick c x y => decB σ c fun b σ' => match b with | true => k (ev σ' x) σ' | false => k (ev σ' y) σ'
  | .alloc t => kO (tzero P t) fun u => match u.cells.all C.plain with | true => newx σ u.cells t (.ptr σ.n 0) k | false => .no 4
  | .box t x => match ev σ x with
    | .u u => (match u.cells.all C.plain with | true => newx σ u.cells t (.ptr σ.n 0) k | false => .no 4)
    | _ => .no 5
  | .build t parts => kO (buildC P σ t parts.toList) fun cs => match cs.all (C.wf σ.n) with | true => k (.u (.agg cs)) σ | false => .no 6
  | .buildSlice t len parts => kO (slC P σ t len parts.toList) fun q => newx σ q.1 q.2 (.sl σ.n 0 len len) k
  | .load t x => match ev σ x with
    | .u (.c (.ptr id off)) => kO (lookH σ.hp id) fun b => kO (ldC P t b.1 off) fun u => k (.u u) σ
    | _ => .no 7
  | .store t x y => match ev σ x, ev σ y with
    | .u (.c (.ptr id off)), .u u => kO (lookW σ.hp id) fun b => kO (tsz P t) fun sz =>
      match Nat.beq sz u.cells.length, Nat.ble (off + u.cells.length) b.1.length, u.cells.all C.plain with
      | true, true, true => k (.tup []) { σ with hp := hcons (id, (putC b.1 off u.cells, b.2)) σ.hp }
      | _, _, _ => .no 8
    | _, _ => .no 9
  | .nilCheck x => match ev σ x with
    | .u (.c (.ptr id off)) => k (.u (.c (.ptr id off))) σ
    | .u (.c (.fn f cs)) => k (.u (.c (.fn f cs))) σ
    | _ => .no 10
  | .binOp op t x y _ => match ev σ x, ev σ y with
    | .u ux, .u uy =>
      (match ux, uy with
      | .c cx, .c cy => (match cx.int?, cy.int? with
        | some (lx, kx, nx), some (ly, ky, ny) => (match binI op lx kx nx ly ky ny with
          | .ok c => k (.u (.c c)) σ
          | .unless b c => .br b (.no 11) (k (.u (.c c)) σ)
          | .no => .no 12)
        | _, _ => (match refEq P σ (isCst x || isCst y) t cx cy with
          | some b => kO (refOp op b) fun c => k (.u (.c c)) σ
          | none => kO (eqV P op t ux uy) fun c => k (.u (.c c)) σ))
      | _, _ => kO (eqV P op t ux uy) fun c => k (.u (.c c)) σ)
    | _, _ => .no 13
  | .unOp op _ x => match ev σ x with
    | .u (.c c) => kO (unC op c) fun c' => k (.u (.c c')) σ
    | _ => .no 14
  | .convert src dst x => match ev σ x with
    | .u (.c c) => kO (convC P src dst c) fun c' => k (.u (.c c')) σ
    | _ => .no 15
  | .makeFunc fn first caps => match fn with
    | .func f => (match first.toList with
      | [] => kO (ptrsOf σ caps.toList) fun ps => k (.u (.c (.fn f ps))) σ
      | _ => .no 16)
    | _ => .no 17
  | .fieldAddr s x f => match ev σ x with
    | .u (.c (.ptr id off)) => kO (fieldOff P s f) fun d => k (.u (.c (.ptr id (off + d)))) σ
    | _ => .no 18
  | .field t x f => match ev σ x with
    | .u (.agg xs) => kO (partC P t xs f) fun u => k (.u u) σ
    | _ => .no 19
  | .indexAddr t x ix => match ev σ x, ev σ ix with
    | .u (.c cx), .u (.c ci) => kO (idxC P t cx ci) fun c => k (.u (.c c)) σ
    | _, _ => .no 20
  | .extract x i => kO (tupC (ev σ x) i) fun u => k (.u u) σ
  | .makeMap _ r => match r with
    | none => k (.u (.c (.mp σ.n))) { σ with hp := mcons (σ.n, ([], 0)) σ.hp, n := σ.n + 1 }
    | some _ => .no 24
  | .insert t m x v => kO (insx P σ t m x v) fun σ' => k (.tup []) σ'
  | .mapUpdate t m x v => (match structT P t with
    | some _ => kO (insS P σ t m x v) fun σ' => k (.tup []) σ'
    | none => kO (insx P σ t m x v) fun σ' => k (.tup []) σ')
  | .lookup t x ix ok => match ev σ x, ev σ ix with
    | .u (.c (.mp id)), .u (.c ci) => kO (ci.int?) fun q => kO (lookM σ.hp id) fun b => kO (mapT P t) fun et => kO (tzero P et) fun z =>
      lookx q.2.1 q.1 q.2.2 (fun u => k (lookR ok u true) σ) (k (lookR ok z false) σ) b.1
    | .u (.c (.mp id)), .u (.agg xs) => kO (structT P t) fun q => kO (litV (.agg xs)) fun lv => kO (lookM σ.hp id) fun b => kO (tzero P q.2) fun z =>
      (match keyOKc P q.1 lv, tagg P q.1 with
      | true, some true => kO (scanS P q.1 xs 0 b.1) fun r => (match r with | some r => k (lookR ok r.2.2 true) σ | none => k (lookR ok z false) σ)
      | _, _ => .no 27)
    | _, _ => .no 25
  | .makeInterface t x => match ev σ x with
    | .u (.c c) => kO (ifaceC P t c) fun c' => k (.u (.c c')) σ
    | _ => .no 28
  | .typeAssert x _ t ok => match ev σ x with
    | .u (.c c) => kO (tassertC P c t ok) fun v => k v σ
    | _ => .no 29
  | _ => .no 21

section
variable {P : Program} {W : World} {n0 : NL} {ρ0 : Nat → Nat} {N : Nat} {ρ : Nat → Nat} {σ : St} {a : Act} {w : World} {R : Leaf → Prop}

theorem retell_hp (σ : St) (x : Operand) (b : Bool) : (retell σ x b).hp = σ.hp ∧ (retell σ x b).n = σ.n := by
  unfold retell; split <;> exact ⟨rfl, rfl⟩

theorem decB_sound {x : Operand} {k : Bool → St → Tr} (hI : Inv W n0 ρ0 N ρ σ a w) (h : (decB σ x k).sat R) :
    ∃ b σ', a.eval x = .bool b ∧ Inv W n0 ρ0 N ρ σ' a w ∧ σ'.hp = σ.hp ∧ σ'.n = σ.n ∧ (k b σ').sat R := by
  have hd := ev_den hI x
  unfold decB at h
  split at h
  · rename_i v he
    rw [he] at hd
    split at h
    · exact ⟨true, σ, hd, hI, rfl, rfl, h⟩
    · exact ⟨false, σ, hd, hI, rfl, rfl, h⟩
  · rename_i v he
    have hd' : a.eval x = .bool v := by rw [hd, he]; rfl
    refine ⟨v, retell σ x v, hd', ?_, (retell_hp σ x v).1, (retell_hp σ x v).2, ?_⟩
    · unfold retell
      split
      · rename_i t
        exact hI.retell t _ rfl (by simp only [ev] at he; rw [he]; rfl)
      · exact hI
    · cases v
      · exact h.2 rfl
      · exact h.1 rfl
  · exact h.elim

theorem kO_sat {α : Type} {o : Option α} {k : α → Tr} (h : (kO o k).sat R) : ∃ x, o = some x ∧ (k x).sat R := by
  unfold kO at h
  split at h
  · exact ⟨_, rfl, h⟩
  · exact h.elim

/-- What a single operation comes to. -/
def OpS (P : Program) (W : World) (n0 : NL) (ρ0 : Nat → Nat) (N : Nat) (R : Leaf → Prop) (ρ : Nat → Nat) (σ : St) (a : Act) (w : World) (s : Sem Next) (k : V → St → Tr) : Prop :=
  ∃ v σ' ρ' w', Inv W n0 ρ0 N ρ' σ' a w' ∧ Ext σ.n ρ ρ' ∧ σ.n ≤ σ'.n ∧ v.wf σ'.n = true ∧ (k v σ').sat R ∧
    (s.run P w = .ok (.value (v.den ρ')) w' ∨ (s.run P w = .ok .skip w' ∧ v = .tup []))

theorem OpS.pure {s : Sem Next} {k : V → St → Tr} {v : V} (hI : Inv W n0 ρ0 N ρ σ a w) (hv : v.wf σ.n = true) (hk : (k v σ).sat R) (hr : s.run P w = .ok (.value (v.den ρ)) w) :
    OpS P W n0 ρ0 N R ρ σ a w s k :=
  ⟨v, σ, ρ, w, hI, Ext.refl _ _, Nat.le_refl _, hv, hk, .inl hr⟩

theorem plain_of_all {u : U} (h : u.cells.all C.plain = true) : ∀ c, u = .c c → c.plain = true := by
  intro c hc; subst hc; simpa [U.cells] using h

theorem newx_sound {cs : List C} {ty : Nat} {mk : C} {k : V → St → Tr} {s : Sem Next} (hI : Inv W n0 ρ0 N ρ σ a w) (h : (newx σ cs ty mk k).sat R) (hmk : mk.wf (σ.n + 1) = true)
    (hr : s.run P w = .ok (.value (mk.den fun i => if i = σ.n then w.heap.size else ρ i)) (w.alloc (.cells (dens ρ cs) ty))) : OpS P W n0 ρ0 N R ρ σ a w s k := by
  unfold newx at h
  split at h
  · rename_i hw
    have hE : Ext σ.n ρ (fun i => if i = σ.n then w.heap.size else ρ i) := fun i hi => by simp [Nat.ne_of_lt hi]
    exact ⟨_, _, _, _, hI.later hE (Nat.le_succ _) (hI.H.alloc cs ty hw), hE, Nat.le_succ _, (show V.wf (σ.n + 1) (.u (.c mk)) = true from hmk), h, .inl hr⟩
  · exact h.elim

theorem putC_dens (ρ : Nat → Nat) (l : List C) : ∀ (cs : List C) (off : Nat), dens ρ (putC cs off l) = ((l.map (C.den ρ)).zipIdx).foldl (fun xs (q : Value × Nat) => xs.setIfInBounds (off + q.2) q.1) (dens ρ cs) := by
  suffices H : ∀ (l : List C) (cs : List C) (off i : Nat), dens ρ (putC cs (off + i) l) = ((l.map (C.den ρ)).zipIdx i).foldl (fun xs (q : Value × Nat) => xs.setIfInBounds (off + q.2) q.1) (dens ρ cs) from fun cs off => by
    have := H l cs off 0; simpa using this
  intro l
  induction l with
  | nil => intro cs off i; simp [putC]
  | cons c r ih =>
    intro cs off i
    simp only [putC, List.map_cons, List.zipIdx_cons, List.foldl_cons]
    rw [Nat.add_assoc, ih (cs.set (off + i) c) off (i + 1), dens_set]

theorem fillC_fill (ρ : Nat → Nat) (place : Nat → Option (Nat × Nat)) : ∀ (us : List (Nat × U)) (cells cs : List C), fillC place cells us = some cs →
    Instr.fill place (dens ρ cells) (us.map fun q => (q.1, q.2.den ρ)) = some (dens ρ cs) := by
  intro us
  induction us with
  | nil => intro cells cs h; simp only [fillC, Option.some.injEq] at h; subst h; rfl
  | cons q r ih =>
    obtain ⟨i, u⟩ := q
    intro cells cs h
    simp only [fillC] at h
    split at h
    · cases h
    · rename_i off size hp
      split at h
      · rename_i h1 h2 h3
        have h1' := Nat.eq_of_beq_eq_true h1
        have h2' := Nat.le_of_ble_eq_true h2
        have hc := U.den_cells ρ u (plain_of_all h3)
        simp only [List.map_cons, Instr.fill, hp, hc, dens_size]
        rw [if_neg (by simp; omega)]
        have e := putC_dens ρ u.cells cells off
        rw [← ih _ _ h, e]
        congr 1
        rw [← Array.foldl_toList]
        simp [dens]
      · cases h

theorem unitsOf_spec (hI : Inv W n0 ρ0 N ρ σ a w) : ∀ (l : List (Nat × Operand)) (us : List (Nat × U)), unitsOf σ l = some us → (l.map fun q => (q.1, a.eval q.2)) = us.map fun q => (q.1, q.2.den ρ) := by
  intro l
  induction l with
  | nil => intro us h; simp only [unitsOf, Option.some.injEq] at h; subst h; rfl
  | cons q r ih =>
    obtain ⟨i, x⟩ := q
    intro us h
    simp only [unitsOf] at h
    split at h
    · rename_i u hu
      split at h
      · rename_i l' hl
        cases h
        simp only [List.map_cons, ih _ hl, ev_den hI x, hu]
        rfl
      · cases h
    · cases h

theorem zero_cells (ρ : Nat → Nat) (z : Value) : dens ρ (U.ofValue z).cells = z.cells := by
  have e := U.den_ofValue ρ z
  unfold U.ofValue at e ⊢
  split
  · rename_i xs
    simp only at e
    simp only [U.cells]
    have := congrArg Value.cells e
    simpa [U.den, Value.cells] using this
  · rename_i hna
    simp only [U.cells, dens, List.map_cons, List.map_nil, C.den_ofValue]
    cases z <;> first | rfl | exact absurd rfl (hna _)

theorem buildC_built (hI : Inv W n0 ρ0 N ρ σ a w) {t : TypeId} {parts : List (Nat × Operand)} {cs : List C} (h : buildC P σ t parts = some cs) :
    P.built t (parts.map fun q => (q.1, a.eval q.2)) = some (dens ρ cs) := by
  unfold buildC at h
  split at h
  · rename_i it fields hi hu
    split at h
    · rename_i z places hz hp
      split at h
      · rename_i us hus
        unfold Program.built
        simp only [hi, hu, hz, hp]
        rw [unitsOf_spec hI _ _ hus]
        have := fillC_fill ρ _ _ _ _ h
        rw [← zero_cells ρ z]
        simpa using this
      · cases h
    · cases h
  · rename_i it len e hi hu
    split at h
    · rename_i z ie hz hie
      split at h
      · rename_i us hus
        unfold Program.built
        simp only [hi, hu, hz, hie]
        rw [unitsOf_spec hI _ _ hus]
        have := fillC_fill ρ _ _ _ _ h
        rw [← zero_cells ρ z]
        exact this
      · cases h
    · cases h
  · cases h

theorem ptrsOf_spec (hI : Inv W n0 ρ0 N ρ σ a w) : ∀ (l : List Operand) (ps : List (Nat × Nat)), ptrsOf σ l = some ps → l.map a.eval = ps.map (ptrV ρ) ∧ ps.all (fun q => Nat.blt q.1 σ.n) = true := by
  intro l
  induction l with
  | nil => intro ps h; simp only [ptrsOf, Option.some.injEq] at h; subst h; exact ⟨rfl, rfl⟩
  | cons x r ih =>
    intro ps h
    simp only [ptrsOf] at h
    split at h
    · rename_i id off hu
      split at h
      · rename_i l' hl
        cases h
        obtain ⟨e1, e2⟩ := ih _ hl
        have hw := ev_wf hI x
        rw [hu] at hw
        refine ⟨?_, ?_⟩
        · simp only [List.map_cons, e1, ev_den hI x, hu]; rfl
        · simp only [List.all_cons, e2, Bool.and_true]; exact hw
      · cases h
    · cases h

theorem mem_wf_drop {n : Nat} {cs l : List C} {off sz : Nat} (hw : cs.all (C.wf n) = true) (h : takeC cs off sz = some l) : l.all (C.wf n) = true := by
  obtain ⟨rfl, _⟩ := takeC_spec h
  simp only [List.all_eq_true] at hw ⊢
  exact fun x hx => hw x (List.mem_of_mem_drop (List.mem_of_mem_take hx))

theorem ldC_wf {t : TypeId} {cs : List C} {off n : Nat} {u : U} (hw : cs.all (C.wf n) = true) (h : ldC P t cs off = some u) : u.wf n = true := by
  unfold ldC at h
  split at h
  · cases hc : cs[off]? with
    | none => rw [hc] at h; cases h
    | some c => rw [hc] at h; cases h; simp only [List.all_eq_true] at hw; exact hw c (List.mem_of_getElem? hc)
  · split at h
    · rename_i sz _
      cases ht : takeC cs off sz with
      | none => rw [ht] at h; cases h
      | some l => rw [ht] at h; cases h; exact mem_wf_drop hw ht
    · cases h
  · cases h

theorem run_partC {t : TypeId} {xs : List C} {f : Nat} {u : U} (h : partC P t xs f = some u) (ρ : Nat → Nat) (w : World) : (Instr.field t (.agg (dens ρ xs)) f).run P w = .ok (u.den ρ) w := by
  unfold partC at h
  split at h
  · rename_i fs hu
    split at h
    · rename_i fd hf
      simp only [Instr.field, Sem.run_bind, run_underlying hu, Result.andThen_ok, hf, asAgg, Sem.run_pure]
      unfold ldC at h
      split at h
      · rename_i ha
        cases hc : xs[fd.offset]? with
        | none => rw [hc] at h; cases h
        | some c =>
          rw [hc] at h; cases h
          simp [part, run_isAgg ha, dens_get, hc, U.den]
      · rename_i ha
        split at h
        · rename_i sz hs
          cases ht : takeC xs fd.offset sz with
          | none => rw [ht] at h; cases h
          | some l =>
            rw [ht] at h; cases h
            obtain ⟨v, e1, e2⟩ := run_part ρ w ha hs ht (fun e => by cases e)
            rw [e1]
            rcases e2 with ⟨_, rfl⟩ | ⟨e3, _⟩
            · rfl
            · rw [ha] at e3; cases e3
        · cases h
      · cases h
    · cases h
  · cases h

theorem partC_wf {t : TypeId} {xs : List C} {f n : Nat} {u : U} (hw : xs.all (C.wf n) = true) (h : partC P t xs f = some u) : u.wf n = true := by
  unfold partC at h
  split at h
  · split at h
    · exact ldC_wf hw h
    · cases h
  · cases h

theorem run_unC {op : UnOp} {c c' : C} (h : unC op c = some c') (ρ : Nat → Nat) (w : World) : (Op.unary op (c.den ρ)).run P w = .ok (c'.den ρ) w ∧ ∀ n, c'.wf n = true := by
  unfold unC at h
  split at h
  · split at h
    · rename_i l b hc
      cases h
      rw [C.bool_den hc ρ, mkB_den]
      exact ⟨rfl, fun n => mkB_wf _ _ n⟩
    · cases h
  · split at h
    · rename_i l k n hc
      cases h
      rw [C.int_den hc ρ, mkI_den]
      exact ⟨rfl, fun n => mkI_wf _ _ _ n⟩
    · cases h
  · split at h
    · rename_i l k n hc
      cases h
      rw [C.int_den hc ρ, mkI_den]
      exact ⟨rfl, fun n => mkI_wf _ _ _ n⟩
    · cases h
  · cases h

theorem run_convC {src dst : TypeId} {c c' : C} (h : convC P src dst c = some c') (ρ : Nat → Nat) (w : World) : (convert src dst (c.den ρ)).run P w = .ok (c'.den ρ) w ∧ ∀ n, c'.wf n = true := by
  unfold convC at h
  split at h
  · rename_i d k l k0 n hs hd hc
    cases h
    rw [C.int_den hc ρ, mkI_den]
    refine ⟨?_, fun n => mkI_wf _ _ _ n⟩
    simp [convert, run_underlying hs, run_underlying hd, Conv.intToInt, iConv]
  · cases h

theorem run_fieldOff {s : TypeId} {f d : Nat} (h : fieldOff P s f = some d) (b off : Nat) (w : World) : (Instr.fieldAt s (.pointer (some ⟨b, off, none⟩)) f).run P w = .ok (.pointer (some ⟨b, off + d, none⟩)) w := by
  unfold fieldOff at h
  split at h
  · rename_i fs hu
    split at h
    · rename_i fd hf
      split at h
      · rename_i m hs
        cases h
        simp [Instr.fieldAt, run_underlying hu, hf, Instr.sureAddr, fieldPlace, run_sizeOf hs, add_at]
      · cases h
    · cases h
  · cases h

theorem run_idxC {t : TypeId} {x ix c : C} {n : Nat} (h : idxC P t x ix = some c) (hx : x.wf n = true) (ρ : Nat → Nat) (w : World) : (Instr.indexAt t (x.den ρ) (ix.den ρ)).run P w = .ok (c.den ρ) w ∧ c.wf n = true := by
  unfold idxC at h
  split at h
  · rename_i id off len cap k n
    split at h
    · rename_i e hu
      split at h
      · rename_i sz hb hs
        cases h
        have hb' := of_decide_eq_true hb
        refine ⟨?_, hx⟩
        simp [C.den, Instr.indexAt, run_underlying hu, asIntOf, hb'.1, hb'.2, run_sizeOf hs, add_at]
      · cases h
    · cases h
  · rename_i id off k n
    split at h
    · rename_i len e hu
      split at h
      · rename_i sz hb hs
        cases h
        have hb' := of_decide_eq_true hb
        refine ⟨?_, hx⟩
        simp [C.den, Instr.indexAt, run_underlying hu, asIntOf, Instr.sureAddr, hb'.1, hb'.2, run_sizeOf hs, add_at]
      · cases h
    · cases h
  · cases h

end
end Go.Proofs.Ytnlohongffpkpaa.Sx
