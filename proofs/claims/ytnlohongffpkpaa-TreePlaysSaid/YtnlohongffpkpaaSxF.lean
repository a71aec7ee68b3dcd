/- The symbolic executor: regions, code, calls; and that it tells what the machine does. A text of the session's own. -/
import Derived.Test.YtnlohongffpkpaaSxM3
import Derived.LoopN
import Derived.Scope
namespace Go.Proofs.Ytnlohongffpkpaa.Sx
open Go Go.RowKit

/-- What a function over the memory asks, and does. -/
structure MSum where
  pre : Prop
  post : Vars → Prop
  ret : Vars → V
/-- A function that takes and hands back no local pointers and leaves the local heap as it is. -/
structure Sum where
  f : FuncId
  s : List V → Option (List Bool × V)
  ext : Bool := false
  /-- Some ty: the first argument is a pointer to a whole block of that type, whose cells are handed in, and handed back. -/
  hp : Option Nat := none
  /-- Some ty: the first argument is a pointer to a variable that holds a pointer to a whole block of that type; likewise. -/
  bx : Option Nat := none
  /-- That variable's type. -/
  bt : Nat := 0
  /-- A function over the memory. -/
  mm : Option (Mem → List V → Option MSum) := none
  /-- A function that reads the memory, and leaves all as it is. -/
  rd : Option (Mem → List V → Option (Prop × V)) := none
  /-- A function that comes to one memory, and one value. -/
  dm : Option (Mem → List V → Option (Prop × Mem × V)) := none

/-- A function without a text of its own, for which the model stands in. -/
def ExtOK (P : Program) (q : Sum) : Prop :=
  ∀ (args : List V) (bs : List Bool) (r : V) (ρ : Nat → Nat) (w : World), q.s args = some (bs, r) → (∀ b ∈ bs, b = true) → (callFunc q.f (args.map (V.den ρ)).toArray).run P w = .ok (.value (r.den ρ)) w

def HeapOK (P : Program) (q : Sum) (ty : Nat) : Prop :=
  ∀ (cs : List C) (rest : List V) (bs : List Bool) (new : List C) (u : U) (ρ : Nat → Nat) (b : Nat) (w : World), q.s (.u (.agg cs) :: rest) = some (bs, .tup [.agg new, u]) → (∀ b ∈ bs, b = true) →
    w.heap[b]? = some (.cells (dens ρ cs) ty (0, 0)) →
    Calls P q.f (.pointer (some ⟨b, 0, none⟩) :: rest.map (V.den ρ)).toArray w fun e w' => e = .returned (u.den ρ) ∧ Touch b w w' ∧ w'.heap[b]? = some (.cells (dens ρ new) ty (0, 0))

def BoxOK (P : Program) (q : Sum) (ty : Nat) : Prop :=
  ∀ (cs : List C) (rest : List V) (bs : List Bool) (new : List C) (u : U) (ρ : Nat → Nat) (b x : Nat) (w : World), q.s (.u (.agg cs) :: rest) = some (bs, .tup [.agg new, u]) → (∀ b ∈ bs, b = true) →
    w.heap[b]? = some (.cells (dens ρ cs) ty (0, 0)) → w.heap[x]? = some (.cells #[.pointer (some ⟨b, 0, none⟩)] q.bt (0, 0)) → x ≠ b →
    Calls P q.f (.pointer (some ⟨x, 0, none⟩) :: rest.map (V.den ρ)).toArray w fun e w' => e = .returned (u.den ρ) ∧ Touch b w w' ∧ w'.heap[b]? = some (.cells (dens ρ new) ty (0, 0))

def MemOK (P : Program) (q : Sum) (mm : Mem → List V → Option MSum) : Prop :=
  ∀ (m : Mem) (args : List V) (ms : MSum) (ρ : Nat → Nat) (w : World), mm m args = some ms → ms.pre → args.all (V.wf 0) = true → (∀ a o, m a = some o → w.heap[a]? = some o) →
    Calls P q.f (args.map (V.den ρ)).toArray w fun e w' => ∃ y, ms.post y ∧ e = .returned ((ms.ret y).den ρ) ∧ MemTo m y.m w w'

def RdOK (P : Program) (q : Sum) (rd : Mem → List V → Option (Prop × V)) : Prop :=
  ∀ (m : Mem) (args : List V) (pre : Prop) (v : V) (ρ : Nat → Nat) (w : World), rd m args = some (pre, v) → pre → args.all (V.wf 0) = true → (∀ a o, m a = some o → w.heap[a]? = some o) →
    Calls P q.f (args.map (V.den ρ)).toArray w fun e w' => e = .returned (v.den ρ) ∧ Below w.heap.size w w'

def DmOK (P : Program) (q : Sum) (dm : Mem → List V → Option (Prop × Mem × V)) : Prop :=
  ∀ (m : Mem) (args : List V) (pre : Prop) (M : Mem) (v : V) (ρ : Nat → Nat) (w : World), dm m args = some (pre, M, v) → pre → args.all (V.wf 0) = true → (∀ a o, m a = some o → w.heap[a]? = some o) →
    Calls P q.f (args.map (V.den ρ)).toArray w fun e w' => e = .returned (v.den ρ) ∧ MemTo m M w w'

def SumOK (P : Program) (q : Sum) : Prop := ((∀ mm, q.mm = some mm → (∃ fn, P.funcs[q.f]? = some fn ∧ fn.body.isSome = true) ∧ MemOK P q mm) ∧ (∀ rd, q.rd = some rd → (∃ fn, P.funcs[q.f]? = some fn ∧ fn.body.isSome = true) ∧ RdOK P q rd) ∧ (∀ dm, q.dm = some dm → (∃ fn, P.funcs[q.f]? = some fn ∧ fn.body.isSome = true) ∧ DmOK P q dm)) ∧ (
  (∃ ty, q.bx = some ty ∧ q.ext = false ∧ (∃ fn, P.funcs[q.f]? = some fn ∧ fn.body.isSome = true) ∧ BoxOK P q ty) ∨ q.bx = none ∧ (
  (∃ ty, q.hp = some ty ∧ q.ext = false ∧ (∃ fn, P.funcs[q.f]? = some fn ∧ fn.body.isSome = true) ∧ HeapOK P q ty) ∨ q.hp = none ∧ ((q.ext = true ∧ ExtOK P q) ∨ q.ext = false ∧ (∃ fn, P.funcs[q.f]? = some fn ∧ fn.body.isSome = true) ∧ ∀ (args : List V) (bs : List Bool) (r : V) (ρ : Nat → Nat) (w : World), q.s args = some (bs, r) → (∀ b ∈ bs, b = true) →
    Calls P q.f (args.map (V.den ρ)).toArray w fun e w' => e = .returned (r.den ρ) ∧ Below w.heap.size w w')))

/-- What a summary asks, ahead of what follows. -/
def brs : List Bool → Tr → Tr
  | [], t => t
  | b :: l, t => .br b (brs l t) (.no 98)

def kS (o : Option (List Bool × V)) (k : V → Tr) : Tr := match o with | some x => brs x.1 (k x.2) | none => .no 4

def lookS (l : List Sum) (f : Nat) : Option Sum :=
  match l with
  | [] => none
  | q :: r => match Nat.beq q.f f with | true => some q | false => lookS r f

abbrev K := E → St → Tr

/-- the call's arguments -/
def evs (σ : St) : List Operand → List V
  | [] => []
  | x :: r => ev σ x :: evs σ r

/-- the callee and what it has captured -/
def calleeOf (σ : St) (x : Operand) : Option (FuncId × List (Nat × Nat)) :=
  match ev σ x with
  | .u (.c (.fn f cs)) => some (f, cs)
  | _ => none

def ptrC (q : Nat × Nat) : V := .u (.c (.ptr q.1 q.2))

def number : Nat → List V → List (Nat × V)
  | _, [] => []
  | i, v :: r => (i, v) :: number (i + 1) r

/-- what the callee hands back -/
def resC (P : Program) (σ : St) : ResultVar → Option U
  | .tmp t => match look σ.tm t with | .u u => some u | _ => none
  | .cell a t => match look σ.tm a with
    | .u (.c (.ptr id off)) => match lookH σ.hp id with | some b => ldC P t b.1 off | none => none
    | _ => none

def resCs (P : Program) (σ : St) : List ResultVar → Option (List U)
  | [] => some []
  | r :: l => match resC P σ r, resCs P σ l with | some u, some us => some (u :: us) | _, _ => none

def resV (P : Program) (σ : St) (l : List ResultVar) : Option V :=
  match resCs P σ l with
  | some [u] => some (.u u)
  | some us => some (.tup us)
  | none => none

def builtinC (b : Builtin) (args : List V) : Option V :=
  match b, args with
  | .max, [.u (.c x), .u (.c y)] => match x.int?, y.int? with
    | some (lx, kx, nx), some (ly, _, ny) => some (.u (.c (mkI (lx && ly) kx (iMax2 nx ny))))
    | _, _ => none
  | .min, [.u (.c x), .u (.c y)] => match x.int?, y.int? with
    | some (lx, kx, nx), some (ly, _, ny) => some (.u (.c (mkI (lx && ly) kx (iMin2 nx ny))))
    | _, _ => none
  | .len, [.u (.c (.sl _ _ n _))] => some (.u (.c (.li .i64 n)))
  | .len, [.u (.c (.raw (.slice none n _)))] => some (.u (.c (.li .i64 n)))
  | _, _ => none

def isLen (b : Builtin) : Bool := match b with | .len => true | _ => false

/-- a call: by a summary, or by the callee's own text -/
def callx (P : Program) (S : List Sum) (ih : Nat → Code → St → K → Tr) (f : FuncId) (args : List V) (σ : St) (k : V → St → Tr) : Tr :=
  match lookS S f with
  | some q => match q.bx with
    | some ty => (match args with
      | .u (.c (.ptr x off)) :: rest => kO (lookH σ.hp x) fun bb => (match bb.1 with
        | [.ptr id 0] => kO (lookW σ.hp id) fun b => kS (q.s (.u (.agg b.1) :: rest)) fun r =>
          match r with
          | .tup [.agg new, u] => (match Nat.beq off 0, Nat.beq b.2 ty, new.all (C.wf 0), u.wf 0, Nat.beq x id, Nat.beq bb.2 q.bt with
            | true, true, true, true, false, true => k (.u u) { tm := σ.tm, hp := hcons (id, (new, ty)) σ.hp, n := σ.n }
            | _, _, _, _, _, _ => .no 37)
          | _ => .no 38
        | _ => .no 44)
      | _ => .no 39)
    | none => match q.hp with
    | none => kS (q.s args) fun r => match r.wf 0 with | true => k r σ | false => .no 30
    | some ty => match args with
      | .u (.c (.ptr id off)) :: rest => kO (lookW σ.hp id) fun b => kS (q.s (.u (.agg b.1) :: rest)) fun r =>
        match r with
        | .tup [.agg new, u] => match Nat.beq off 0, Nat.beq b.2 ty, new.all (C.wf 0), u.wf 0 with
          | true, true, true, true => k (.u u) { tm := σ.tm, hp := hcons (id, (new, ty)) σ.hp, n := σ.n }
          | _, _, _, _ => .no 37
        | _ => .no 38
      | _ => .no 39
  | none => kO (P.funcs[f]?) fun fn => kO fn.body fun c =>
    match Nat.ble args.length fn.ntmps, args.all (V.wf σ.n) with
    | true, true => ih fn.ntmps c { tm := number 0 args, hp := σ.hp, n := σ.n } fun e σ' =>
      match e with
      | .exit _ => .no 31
      | _ => kO (resV P σ' fn.results.toList) fun r => match r.wf σ'.n with
        | true => k r { tm := σ.tm, hp := σ'.hp, n := σ'.n }
        | false => .no 32
    | _, _ => .no 33

/-- a call, by a summary over the memory first -/
def callX (P : Program) (S : List Sum) (ih : Nat → Code → St → K → Tr) (f : FuncId) (args : List V) (σ : St) (k : V → St → Tr) : Tr :=
  match lookS S f with
  | some q => match q.mm with
    | some mm => kO (mm σ.hp.x args) fun ms => (match args.all (V.wf 0), σ.hp.wr with
      | true, true => .req ms.pre (.any ms.post fun y => (match (ms.ret y).wf 0 with | true => k (ms.ret y) { σ with hp := { σ.hp with x := y.m } } | false => .no 34))
      | _, _ => .no 35)
    | none => (match q.rd with
      | some rd => kO (rd σ.hp.x args) fun r => (match args.all (V.wf 0), r.2.wf 0 with
        | true, true => .req r.1 (k r.2 σ)
        | _, _ => .no 36)
      | none => (match q.dm with
        | some dm => kO (dm σ.hp.x args) fun r => (match args.all (V.wf 0), r.2.2.wf 0, σ.hp.wr with
          | true, true, true => .req r.1 (.letm r.2.1 fun m => k r.2.2 { σ with hp := { σ.hp with x := m } })
          | _, _, _ => .no 36)
        | none => callx P S ih f args σ k))
  | none => callx P S ih f args σ k

def okDst (N : Nat) (d : Option Tmp) : Bool := match d with | some d => Nat.blt d N | none => true

/-- The method of a pointer's type. -/
def methC (P : Program) (t : TypeId) (name : String) : Option FuncId :=
  match P.info? t, P.underlying t with
  | some it, some (.pointer _) => match it.methods.toList.find? (·.name == name) with
    | some m => (match m.path.toList, m.func with
      | [], some (f, true) => some f
      | _, _ => none)
    | none => none
  | _, _ => none

def lenM (σ : St) (args : List V) : Option V :=
  match args with
  | [.u (.c (.mp id))] => (match lookM σ.hp id with | some b => some (.u (.c (.li .i64 b.1.length))) | none => none)
  | _ => none

def opAny (P : Program) (S : List Sum) (ih : Nat → Code → St → K → Tr) (o : Oper) (σ : St) (k : V → St → Tr) : Tr :=
  match o.op with
  | .call c => match c.callee with
    | .value x => kO (calleeOf σ x) fun q => callX P S ih q.1 (evs σ c.args.toList ++ q.2.map ptrC) σ k
    | .builtin b => (match isBM b (evs σ c.args.toList) with
      | true => (match (evs σ c.args.toList).all (V.wf σ.n) with | true => bltM P b c.argTypes.toList (evs σ c.args.toList) σ k | false => .no 46)
      | false => (match isLen b with
      | true => (match c.argTypes.toList with
        | [t] => (match P.underlying t with | some (.slice _) => kO (builtinC .len (evs σ c.args.toList)) fun v => k v σ | some (.map _ _) => kO (lenM σ (evs σ c.args.toList)) fun v => k v σ | _ => .no 34)
        | _ => .no 35)
      | false => (match isDel b with
        | true => (match c.argTypes.toList, c.args.toList with
          | t :: _, [m, x] => kO (delS P σ t m x) fun σ' => k (.tup []) σ'
          | _, _ => .no 45)
        | false => kO (builtinC b (evs σ c.args.toList)) fun v => k v σ)))
    | .invoke r name => match ev σ r with
      | .u (.c (.ifp t id off)) => kO (methC P t name) fun f => callX P S ih f (.u (.c (.ptr id off)) :: evs σ c.args.toList) σ k
      | _ => .no 36
  | op => opX P op σ k

/-- the tmp that a guard asks -/
def guardTmp (ops : Array Oper) (j : Nat) : Option Tmp := match ops[j]? with | some o => o.dst | none => none

def opsx (P : Program) (S : List Sum) (ih : Nat → Code → St → K → Tr) (N : Nat) (ops : Array Oper) : List Oper → St → (St → Tr) → Tr
  | [], σ, k => k σ
  | o :: rest, σ, k =>
    match okDst N o.dst with
    | false => .no 40
    | true =>
      match o.guard with
      | none => opAny P S ih o σ fun v σ' => opsx P S ih N ops rest (σ'.put o.dst v) k
      | some (j, want) =>
        match guardTmp ops j with
        | none => .no 41
        | some t =>
          match Nat.blt t N with
          | false => .no 42
          | true => match look σ.tm t with
            | .u (.c (.lb b)) => (match b == want with
              | true => opAny P S ih o σ fun v σ' => opsx P S ih N ops rest (σ'.put o.dst v) k
              | false => opsx P S ih N ops rest (σ.put o.dst (.tup [])) k)
            | .u (.c (.sb b)) => .br b
                (let σ1 := retell σ (.tmp t) true
                 match true == want with
                 | true => opAny P S ih o σ1 fun v σ' => opsx P S ih N ops rest (σ'.put o.dst v) k
                 | false => opsx P S ih N ops rest (σ1.put o.dst (.tup [])) k)
                (let σ1 := retell σ (.tmp t) false
                 match false == want with
                 | true => opAny P S ih o σ1 fun v σ' => opsx P S ih N ops rest (σ'.put o.dst v) k
                 | false => opsx P S ih N ops rest (σ1.put o.dst (.tup [])) k)
            | .tup [] => opsx P S ih N ops rest (σ.put o.dst (.tup [])) k
            | _ => .no 43

/-- a loop, round by round -/
def loopx (ih : Nat → Code → St → K → Tr) (N : Nat) (x : Code) (k : K) : Nat → St → Tr
  | 0, _ => .no 51
  | m + 1, σ => ih N x σ fun e σ' => match e with
    | .normal => loopx ih N x k m σ'
    | .exit id => k (.exit id) σ'
    | .ret => k .ret σ'

/-- How regions that leave their order open are walked; and which tmps are alive at the heads of which loops (by the tmps' number and the first region's). -/
structure LT where
  /-- tmps and blocks whose cells are variables -/
  tv : List Tmp
  bv : List Nat
  /-- tmps and blocks that stay as they are -/
  tk : List Tmp
  bk : List Nat
/-- A tmp, or a block: which, and its cells. -/
inductive Slot where
  | t (t : Tmp) (agg : Bool)
  | b (id ty : Nat)
/-- What is told where paths meet: how many blocks there are more; what is variable there, with its kinds; what stays. -/
structure CT where
  d : Nat
  sl : List Slot
  cs : List (List C)
  tk : List Tmp
  bk : List Nat
structure DrawX where
  d : (Nat → Code → St → K → Tr) → Nat → Array Oper → St → (St → Tr) → Tr
  lv : Nat → Nat → Option LT
  /-- where paths meet: by the region behind, and how many blocks there are -/
  ct : Nat → Nat → Nat → Option CT

/-! a loop's rounds at once: its cells' numbers and bools are variables -/
def keyOf : Code → Nat
  | .region id _ _ => id
  | .seq x _ => keyOf x
  | .block _ x => keyOf x
  | .loop x => keyOf x
  | _ => 0
def hdI : List Int → Int
  | [] => 0
  | x :: _ => x
def tlI : List Int → List Int
  | [] => []
  | _ :: r => r
def hdB : List Bool → Bool
  | [] => false
  | x :: _ => x
def tlB : List Bool → List Bool
  | [] => []
  | _ :: r => r
/-- What a cell is to a loop: a number or a pointer into the memory, a bool, a value, or what stays. -/
inductive Cls where
  | n (k : Option IntKind) (x : Int)
  | t (b : Bool)
  | v (x : Value)
  | f
def clsC : C → Cls
  | .li k n => .n (some k) n
  | .si k n => .n (some k) n
  | .np p off => (match Nat.beq off 0 with | true => .n none p | false => .f)
  | .nilp => .n none 0
  | .lb b => .t b
  | .sb b => .t b
  | .sv v => .v (pl v)
  | .raw (.slice none n c) => .v (.slice none n c)
  | .raw (.map none) => .v (.map none)
  | .raw .nilIface => .v .nilIface
  | .raw .nilFunc => .v .nilFunc
  | .raw (.string s) => .v (.string s)
  | _ => .f
def iC (c : C) (y : Vars) : C :=
  match clsC c with
  | .n (some k) _ => .si k (hdI y.i)
  | .n none _ => .np (hdI y.i) 0
  | .t _ => .sb (hdB y.b)
  | .v _ => .sv (hdV y.v)
  | .f => c
def rC (c : C) (y : Vars) : Vars :=
  match clsC c with
  | .n _ _ => ⟨tlI y.i, y.b, y.v, y.m⟩
  | .t _ => ⟨y.i, tlB y.b, y.v, y.m⟩
  | .v _ => ⟨y.i, y.b, tlV y.v, y.m⟩
  | .f => y
def samePtrs : List (Nat × Nat) → List (Nat × Nat) → Bool
  | [], [] => true
  | p :: r, q :: s => Nat.beq p.1 q.1 && Nat.beq p.2 q.2 && samePtrs r s
  | _, _ => false
/-- Two cells that are neither numbers nor bools are the same. -/
def eqP : C → C → Bool
  | .ptr i o, .ptr j q => Nat.beq i j && Nat.beq o q
  | .nilp, .nilp => true
  | .fn f l, .fn g r => Nat.beq f g && samePtrs l r
  | .sl i o n c, .sl j q m d => Nat.beq i j && Nat.beq o q && Nat.beq n m && Nat.beq c d
  | .mp i, .mp j => Nat.beq i j
  | .ifp t i o, .ifp u j q => Nat.beq t u && Nat.beq i j && Nat.beq o q
  | .raw .nilIface, .raw .nilIface => true
  | .raw (.map none), .raw (.map none) => true
  | .raw (.slice none n c), .raw (.slice none m d) => Nat.beq n m && Nat.beq c d
  | _, _ => false
def vcat (p q : Vars) : Vars := ⟨p.i ++ q.i, p.b ++ q.b, p.v ++ q.v, q.m⟩
def fitC (c c' : C) : Option Vars :=
  match clsC c, clsC c' with
  | .n k _, .n k' x => (match decide (k = k') with | true => some ⟨[x], [], [], noM⟩ | false => none)
  | .t _, .t b => some ⟨[], [b], [], noM⟩
  | .v _, .v x => some ⟨[], [], [x], noM⟩
  | .f, .f => (match eqP c c' with | true => some ⟨[], [], [], noM⟩ | false => none)
  | _, _ => none
def iL : List C → Vars → List C
  | [], _ => []
  | c :: r, y => iC c y :: iL r (rC c y)
def dL : List C → Vars → Vars
  | [], y => y
  | c :: r, y => dL r (rC c y)
def fitL : List C → List C → Option Vars
  | [], [] => some ⟨[], [], [], noM⟩
  | c :: r, c' :: r' => match fitC c c', fitL r r' with
    | some p, some q => some (vcat p q)
    | _, _ => none
  | _, _ => none
def slotC (σ : St) : Slot → Option (List C)
  | .t t ag => match look σ.tm t, ag with
    | .u (.c c), false => some [c]
    | .u (.agg cs), true => some cs
    | _, _ => none
  | .b id ty => match lookH σ.hp id with
    | some b => (match Nat.beq b.2 ty with | true => some b.1 | false => none)
    | none => none
def slotsC (σ : St) : List Slot → Option (List (List C))
  | [] => some []
  | s :: r => match slotC σ s, slotsC σ r with | some c, some l => some (c :: l) | _, _ => none
def iS : List (List C) → Vars → List (List C)
  | [], _ => []
  | c :: r, y => iL c y :: iS r (dL c y)
def fitS : List (List C) → List (List C) → Option Vars
  | [], [] => some ⟨[], [], [], noM⟩
  | c :: r, c' :: r' => match fitL c c', fitS r r' with
    | some p, some q => some (vcat p q)
    | _, _ => none
  | _, _ => none
def unitOf (ag : Bool) (cs : List C) : V :=
  match ag, cs with
  | false, [c] => .u (.c c)
  | _, cs => .u (.agg cs)
def canT : List Slot → List (List C) → List (Nat × V)
  | .t t ag :: r, c :: l => (t, unitOf ag c) :: canT r l
  | .b _ _ :: r, _ :: l => canT r l
  | _, _ => []
def canH (kb : List (Nat × Blk)) (lim : Nat) (x : Mem) (wr : Bool) (mt : List Nat) : List Slot → List (List C) → Hp
  | .b id ty :: r, c :: l => hcons (id, (c, ty)) (canH kb lim x wr mt r l)
  | .t _ _ :: r, _ :: l => canH kb lim x wr mt r l
  | _, _ => ⟨kb, [], lim, x, wr, mt⟩
def junk (N : Nat) (j : Nat → Value) : List (Nat × V) := (List.range N).map fun t => (t, .u (.c (.raw (j t))))
def beqB : Bool → Bool → Bool
  | true, true => true
  | false, false => true
  | _, _ => false
theorem beqB_eq : ∀ {a b : Bool}, beqB a b = true → a = b
  | true, true, _ => rfl
  | false, false, _ => rfl
  | true, false, h => by cases h
  | false, true, h => by cases h
/-- What stays over the rounds. -/
structure Kept where
  t : List (Nat × V)
  b : List (Nat × Blk)
def keptT (σ : St) : List Tmp → List (Nat × V)
  | [] => []
  | t :: r => (t, look σ.tm t) :: keptT σ r
def keptB (σ : St) : List Nat → List (Nat × Blk)
  | [] => []
  | i :: r => match lookH σ.hp i with | some b => (i, b) :: keptB σ r | none => keptB σ r
def isT (σ : St) : List (Nat × V) → Prop
  | [] => True
  | q :: r => look σ.tm q.1 = q.2 ∧ isT σ r
def isB' (σ : St) : List (Nat × Blk) → Prop
  | [] => True
  | q :: r => lookH σ.hp q.1 = some q.2 ∧ isB' σ r
/-- The state at a round's head. -/
def canon (N n lim : Nat) (x : Mem) (wr : Bool) (mt : List Nat) (kt : Kept) (sl : List Slot) (cs : List (List C)) (j : Nat → Value) : St := { tm := canT sl cs ++ (kt.t ++ junk N j), hp := canH kt.b lim x wr mt sl cs, n := n }
def tSlots (σ : St) : List Tmp → Option (List Slot)
  | [] => some []
  | t :: r => match look σ.tm t, tSlots σ r with
    | .u (.c _), some l => some (.t t false :: l)
    | .u (.agg _), some l => some (.t t true :: l)
    | _, _ => none
def bSlots (σ : St) : List Nat → List Slot
  | [] => []
  | i :: r => match lookH σ.hp i with | some b => .b i b.2 :: bSlots σ r | none => bSlots σ r
def wfS (n : Nat) (cs : List (List C)) : Bool := cs.all fun l => l.all (C.wf n)
def liveOK (N : Nat) : List Slot → Bool
  | [] => true
  | .t t _ :: r => Nat.blt t N && liveOK N r
  | .b _ _ :: r => liveOK N r

def lpx (ih : Nat → Code → St → K → Tr) (N : Nat) (x : Code) (lt : LT) (σ : St) (k : K) : Tr :=
  kO (tSlots σ lt.tv) fun ts => kO (slotsC σ (ts ++ bSlots σ lt.bv)) fun cs => kO (fitS cs cs) fun q =>
  match wfS σ.n cs, liveOK N ts with
  | true, true => .lp ⟨q.i, q.b, q.v, σ.hp.x⟩ fun y j => ih N x (canon N σ.n σ.hp.lim y.m σ.hp.wr σ.hp.mt ⟨keptT σ lt.tk, keptB σ lt.bk⟩ (ts ++ bSlots σ lt.bv) (iS cs y) j) fun e σ' => match e with
    | .normal => kO (slotsC σ' (ts ++ bSlots σ lt.bv)) fun cs' => kO (fitS cs cs') fun q' => (match wfS σ.n cs', beqB σ'.hp.wr σ.hp.wr with
      | true, true => .req (keptT σ' lt.tk = keptT σ lt.tk ∧ keptB σ' lt.bk = keptB σ lt.bk) (.leaf (.again ⟨q'.i, q'.b, q'.v, σ'.hp.x⟩))
      | _, _ => .no 52)
    | .exit id => (k (.exit id) σ').mapL .up
    | .ret => (k .ret σ').mapL .up
  | _, _ => .no 53

def slLt (n : Nat) : List Slot → Bool
  | [] => true
  | .t _ _ :: r => slLt n r
  | .b id _ :: r => Nat.blt id n && slLt n r
/-- Paths meet: told as a loop of two rounds. -/
def cutx (ih : Nat → Code → St → K → Tr) (N : Nat) (x y : Code) (c : CT) (σ : St) (k : K) : Tr :=
  match slLt (σ.n + c.d) c.sl with
  | true => .lp ⟨[0], [], [], σ.hp.x⟩ fun v j => .br (iZero? (hdI v.i))
    (ih N x σ fun e σ' => match e with
      | .normal => kO (slotsC σ' c.sl) fun cs' => kO (fitS c.cs cs') fun q => (match wfS (σ.n + c.d) cs', beqB σ'.hp.wr σ.hp.wr, Nat.ble (σ.n + c.d) σ'.n with
        | true, true, true => .req (keptT σ' c.tk = keptT σ c.tk ∧ keptB σ' c.bk = keptB σ c.bk) (.leaf (.again ⟨1 :: q.i, q.b, q.v, σ'.hp.x⟩))
        | _, _, _ => .no 54)
      | .exit id => (k (.exit id) σ').mapL .up
      | .ret => (k .ret σ').mapL .up)
    (ih N y (canon N (σ.n + c.d) σ.hp.lim v.m σ.hp.wr σ.hp.mt ⟨keptT σ c.tk, keptB σ c.bk⟩ c.sl (iS c.cs ⟨tlI v.i, v.b, v.v, v.m⟩) j) fun e σ' => (k e σ').mapL .up)
  | false => .no 55

def codex (P : Program) (S : List Sum) (D : DrawX) (ih : Nat → Code → St → K → Tr) (N : Nat) (c : Code) (σ : St) (k : K) : Tr :=
  match c with
  | .skip => k .normal σ
  | .label _ => k .normal σ
  | .region _ ops draw => match draw with
    | false => opsx P S ih N ops ops.toList σ (k .normal)
    | true => D.d ih N ops σ (k .normal)
  | .seq x y => match D.ct N (keyOf y) σ.n with
    | some c => cutx ih N x y c σ k
    | none => ih N x σ fun e σ' => match e with
      | .normal => ih N y σ' k
      | .exit id => k (.exit id) σ'
      | .ret => k .ret σ'
  | .cond x t e => decB σ x fun b σ' => match b with | true => ih N t σ' k | false => ih N e σ' k
  | .block id x => ih N x σ fun e σ' => match e with
    | .normal => k .normal σ'
    | .exit id' => (match Nat.beq id' id with | true => k .normal σ' | false => k (.exit id') σ')
    | .ret => k .ret σ'
  | .loop x => match D.lv N (keyOf x) with
    | some live => lpx ih N x live σ k
    | none => loopx ih N x k 5000 σ
  | .exit id => k (.exit id) σ
  | .ret => k .ret σ
  | .scope x => ih N x σ k
  | _ => .no 50


def ex (P : Program) (S : List Sum) (D : DrawX) : Nat → Nat → Code → St → K → Tr
  | 0 => fun _ _ _ _ => .no 60
  | n + 1 => codex P S D (ex P S D n)

end Go.Proofs.Ytnlohongffpkpaa.Sx
