import Derived.Test.YtnlohongffpkpaaLawPlaysW1
import Derived.LoopN
import Derived.Scope
import Derived.Orders
set_option linter.unusedVariables false
set_option linter.unusedSimpArgs false
section
namespace Go.Proofs.Ytnlohongffpkpaa.Sx
open Go Go.RowKit
structure MSum where
  pre : Prop
  post : Vars → Prop
  ret : Vars → V
structure Sum where
  f : FuncId
  s : List V → Option (List Bool × V)
  ext : Bool:=false
  hp : Option Nat:=none
  bx : Option Nat:=none
  bt : Nat:=0
  mm : Option (Mem → List V → Option MSum):=none
  rd : Option (Mem → List V → Option (Prop × V)):=none
  dm : Option (Mem → List V → Option (Prop × Mem × V)):=none
def ExtOK (P : Program) (q : Sum) : Prop :=
  ∀ (args : List V) (bs : List Bool) (r : V) (ρ : Nat → Nat) (w : World),q.s args = some (bs,r) → (∀ b ∈ bs,b = true) → (callFunc q.f (args.map (V.den ρ)).toArray).run P w = .ok (.value (r.den ρ)) w
def HeapOK (P : Program) (q : Sum) (ty : Nat) : Prop :=
  ∀ (cs : List C) (rest : List V) (bs : List Bool) (new : List C) (u : U) (ρ : Nat → Nat) (b : Nat) (w : World),q.s (.u (.agg cs) :: rest) = some (bs,.tup [.agg new,u]) → (∀ b ∈ bs,b = true) →
    w.heap[b]? = some (.cells (dens ρ cs) ty (0,0)) →
    Calls P q.f (.pointer (some ⟨b,0,none⟩) :: rest.map (V.den ρ)).toArray w fun e w' => e = .returned (u.den ρ) ∧ Touch b w w' ∧ w'.heap[b]? = some (.cells (dens ρ new) ty (0,0))
def BoxOK (P : Program) (q : Sum) (ty : Nat) : Prop :=
  ∀ (cs : List C) (rest : List V) (bs : List Bool) (new : List C) (u : U) (ρ : Nat → Nat) (b x : Nat) (w : World),q.s (.u (.agg cs) :: rest) = some (bs,.tup [.agg new,u]) → (∀ b ∈ bs,b = true) →
    w.heap[b]? = some (.cells (dens ρ cs) ty (0,0)) → w.heap[x]? = some (.cells #[.pointer (some ⟨b,0,none⟩)] q.bt (0,0)) → x ≠ b →
    Calls P q.f (.pointer (some ⟨x,0,none⟩) :: rest.map (V.den ρ)).toArray w fun e w' => e = .returned (u.den ρ) ∧ Touch b w w' ∧ w'.heap[b]? = some (.cells (dens ρ new) ty (0,0))
def MemOK (P : Program) (q : Sum) (mm : Mem → List V → Option MSum) : Prop :=
  ∀ (m : Mem) (args : List V) (ms : MSum) (ρ : Nat → Nat) (w : World),mm m args = some ms → ms.pre → args.all (V.wf 0) = true → (∀ a o,m a = some o → w.heap[a]? = some o) →
    Calls P q.f (args.map (V.den ρ)).toArray w fun e w' => ∃ y,ms.post y ∧ e = .returned ((ms.ret y).den ρ) ∧ MemTo m y.m w w'
def RdOK (P : Program) (q : Sum) (rd : Mem → List V → Option (Prop × V)) : Prop :=
  ∀ (m : Mem) (args : List V) (pre : Prop) (v : V) (ρ : Nat → Nat) (w : World),rd m args = some (pre,v) → pre → args.all (V.wf 0) = true → (∀ a o,m a = some o → w.heap[a]? = some o) →
    Calls P q.f (args.map (V.den ρ)).toArray w fun e w' => e = .returned (v.den ρ) ∧ Below w.heap.size w w'
def DmOK (P : Program) (q : Sum) (dm : Mem → List V → Option (Prop × Mem × V)) : Prop :=
  ∀ (m : Mem) (args : List V) (pre : Prop) (M : Mem) (v : V) (ρ : Nat → Nat) (w : World),dm m args = some (pre,M,v) → pre → args.all (V.wf 0) = true → (∀ a o,m a = some o → w.heap[a]? = some o) →
    Calls P q.f (args.map (V.den ρ)).toArray w fun e w' => e = .returned (v.den ρ) ∧ MemTo m M w w'
def SumOK (P : Program) (q : Sum) : Prop:=((∀ mm,q.mm = some mm → (∃ fn,P.funcs[q.f]? = some fn ∧ fn.body.isSome = true) ∧ MemOK P q mm) ∧ (∀ rd,q.rd = some rd → (∃ fn,P.funcs[q.f]? = some fn ∧ fn.body.isSome = true) ∧ RdOK P q rd) ∧ (∀ dm,q.dm = some dm → (∃ fn,P.funcs[q.f]? = some fn ∧ fn.body.isSome = true) ∧ DmOK P q dm)) ∧ (
  (∃ ty,q.bx = some ty ∧ q.ext = false ∧ (∃ fn,P.funcs[q.f]? = some fn ∧ fn.body.isSome = true) ∧ BoxOK P q ty) ∨ q.bx = none ∧ (
  (∃ ty,q.hp = some ty ∧ q.ext = false ∧ (∃ fn,P.funcs[q.f]? = some fn ∧ fn.body.isSome = true) ∧ HeapOK P q ty) ∨ q.hp = none ∧ ((q.ext = true ∧ ExtOK P q) ∨ q.ext = false ∧ (∃ fn,P.funcs[q.f]? = some fn ∧ fn.body.isSome = true) ∧ ∀ (args : List V) (bs : List Bool) (r : V) (ρ : Nat → Nat) (w : World),q.s args = some (bs,r) → (∀ b ∈ bs,b = true) →
    Calls P q.f (args.map (V.den ρ)).toArray w fun e w' => e = .returned (r.den ρ) ∧ Below w.heap.size w w')))
def brs : List Bool → Tr → Tr
  | [],t => t
  | b :: l,t => .br b (brs l t) (.no 98)
def kS (o : Option (List Bool × V)) (k : V → Tr) : Tr:=match o with | some x => brs x.1 (k x.2) | none => .no 4
def lookS (l : List Sum) (f : Nat) : Option Sum :=
  match l with
  | [] => none
  | q :: r => match Nat.beq q.f f with | true => some q | false => lookS r f
abbrev K:=E → St → Tr
def evs (σ : St) : List Operand → List V
  | [] => []
  | x :: r => ev σ x :: evs σ r
def calleeOf (σ : St) (x : Operand) : Option (FuncId × List (Nat × Nat)) :=
  match ev σ x with
  | .u (.c (.fn f cs)) => some (f,cs)
  | _ => none
def ptrC (q : Nat × Nat) : V:=.u (.c (.ptr q.1 q.2))
def number : Nat → List V → List (Nat × V)
  | _,[] => []
  | i,v :: r => (i,v) :: number (i + 1) r
def resC (P : Program) (σ : St) : ResultVar → Option U
  | .tmp t => match look σ.tm t with | .u u => some u | _ => none
  | .cell a t => match look σ.tm a with
    | .u (.c (.ptr id off)) => match lookH σ.hp id with | some b => ldC P t b.1 off | none => none
    | _ => none
def resCs (P : Program) (σ : St) : List ResultVar → Option (List U)
  | [] => some []
  | r :: l => match resC P σ r,resCs P σ l with | some u,some us => some (u :: us) | _,_ => none
def resV (P : Program) (σ : St) (l : List ResultVar) : Option V :=
  match resCs P σ l with
  | some [u] => some (.u u)
  | some us => some (.tup us)
  | none => none
def builtinC (b : Builtin) (args : List V) : Option V :=
  match b,args with
  | .max,[.u (.c x),.u (.c y)] => match x.int?,y.int? with
    | some (lx,kx,nx),some (ly,_,ny) => some (.u (.c (mkI (lx && ly) kx (iMax2 nx ny))))
    | _,_ => none
  | .min,[.u (.c x),.u (.c y)] => match x.int?,y.int? with
    | some (lx,kx,nx),some (ly,_,ny) => some (.u (.c (mkI (lx && ly) kx (iMin2 nx ny))))
    | _,_ => none
  | .len,[.u (.c (.sl _ _ n _))] => some (.u (.c (.li .i64 n)))
  | .len,[.u (.c (.raw (.slice none n _)))] => some (.u (.c (.li .i64 n)))
  | _,_ => none
def isLen (b : Builtin) : Bool:=match b with | .len => true | _ => false
def callx (P : Program) (S : List Sum) (ih : Nat → Code → St → K → Tr) (f : FuncId) (args : List V) (σ : St) (k : V → St → Tr) : Tr :=
  match lookS S f with
  | some q => match q.bx with
    | some ty => (match args with
      | .u (.c (.ptr x off)) :: rest => kO (lookH σ.hp x) fun bb => (match bb.1 with
        | [.ptr id 0] => kO (lookW σ.hp id) fun b => kS (q.s (.u (.agg b.1) :: rest)) fun r =>
          match r with
          | .tup [.agg new,u] => (match Nat.beq off 0,Nat.beq b.2 ty,new.all (C.wf 0),u.wf 0,Nat.beq x id,Nat.beq bb.2 q.bt with
            | true,true,true,true,false,true => k (.u u) { tm:=σ.tm,hp:=hcons (id,(new,ty)) σ.hp,n:=σ.n }
            | _,_,_,_,_,_ => .no 37)
          | _ => .no 38
        | _ => .no 44)
      | _ => .no 39)
    | none => match q.hp with
    | none => kS (q.s args) fun r => match r.wf 0 with | true => k r σ | false => .no 30
    | some ty => match args with
      | .u (.c (.ptr id off)) :: rest => kO (lookW σ.hp id) fun b => kS (q.s (.u (.agg b.1) :: rest)) fun r =>
        match r with
        | .tup [.agg new,u] => match Nat.beq off 0,Nat.beq b.2 ty,new.all (C.wf 0),u.wf 0 with
          | true,true,true,true => k (.u u) { tm:=σ.tm,hp:=hcons (id,(new,ty)) σ.hp,n:=σ.n }
          | _,_,_,_ => .no 37
        | _ => .no 38
      | _ => .no 39
  | none => kO (P.funcs[f]?) fun fn => kO fn.body fun c =>
    match Nat.ble args.length fn.ntmps,args.all (V.wf σ.n) with
    | true,true => ih fn.ntmps c { tm:=number 0 args,hp:=σ.hp,n:=σ.n } fun e σ' =>
      match e with
      | .exit _ => .no 31
      | _ => kO (resV P σ' fn.results.toList) fun r => match r.wf σ'.n with
        | true => k r { tm:=σ.tm,hp:=σ'.hp,n:=σ'.n }
        | false => .no 32
    | _,_ => .no 33
def callX (P : Program) (S : List Sum) (ih : Nat → Code → St → K → Tr) (f : FuncId) (args : List V) (σ : St) (k : V → St → Tr) : Tr :=
  match lookS S f with
  | some q => match q.mm with
    | some mm => kO (mm σ.hp.x args) fun ms => (match args.all (V.wf 0),σ.hp.wr with
      | true,true => .req ms.pre (.any ms.post fun y => (match (ms.ret y).wf 0 with | true => k (ms.ret y) { σ with hp:={ σ.hp with x:=y.m } } | false => .no 34))
      | _,_ => .no 35)
    | none => (match q.rd with
      | some rd => kO (rd σ.hp.x args) fun r => (match args.all (V.wf 0),r.2.wf 0 with
        | true,true => .req r.1 (k r.2 σ)
        | _,_ => .no 36)
      | none => (match q.dm with
        | some dm => kO (dm σ.hp.x args) fun r => (match args.all (V.wf 0),r.2.2.wf 0,σ.hp.wr with
          | true,true,true => .req r.1 (.letm r.2.1 fun m => k r.2.2 { σ with hp:={ σ.hp with x:=m } })
          | _,_,_ => .no 36)
        | none => callx P S ih f args σ k))
  | none => callx P S ih f args σ k
def okDst (N : Nat) (d : Option Tmp) : Bool:=match d with | some d => Nat.blt d N | none => true
def methC (P : Program) (t : TypeId) (name : String) : Option FuncId :=
  match P.info? t,P.underlying t with
  | some it,some (.pointer _) => match it.methods.toList.find? (·.name == name) with
    | some m => (match m.path.toList,m.func with
      | [],some (f,true) => some f
      | _,_ => none)
    | none => none
  | _,_ => none
def lenM (σ : St) (args : List V) : Option V :=
  match args with
  | [.u (.c (.mp id))] => (match lookM σ.hp id with | some b => some (.u (.c (.li .i64 b.1.length))) | none => none)
  | _ => none
def ifX (P : Program) (S : List Sum) (ih : Nat → Code → St → K → Tr) (v : Value) (name : String) (args : List V) (σ : St) (k : V → St → Tr) : List TypeId → Tr
  | [] => .no 37
  | t :: r => .br (ifIs t v) (kO (methC P t name) fun f => callX P S ih f (.u (.c (.np (ifP t v) 0)) :: args) σ k) (ifX P S ih v name args σ k r)
def opAny (P : Program) (S : List Sum) (ih : Nat → Code → St → K → Tr) (o : Oper) (σ : St) (k : V → St → Tr) : Tr :=
  match o.op with
  | .call c => match c.callee with
    | .value x => kO (calleeOf σ x) fun q => callX P S ih q.1 (evs σ c.args.toList ++ q.2.map ptrC) σ k
    | .builtin b => (match isBM b (evs σ c.args.toList) with
      | true => (match (evs σ c.args.toList).all (V.wf σ.n) with | true => bltM P b c.argTypes.toList (evs σ c.args.toList) σ k | false => .no 46)
      | false => (match isLen b with
      | true => (match c.argTypes.toList with
        | [t] => (match P.underlying t with | some (.slice _) => kO (builtinC .len (evs σ c.args.toList)) fun v => k v σ | some (.map _ _) => kO (lenM σ (evs σ c.args.toList)) fun v => k v σ | _ => .no 34)
        | _ => .no 35)
      | false => (match isDel b with
        | true => (match c.argTypes.toList,c.args.toList with
          | t :: _,[m,x] => kO (delS P σ t m x) fun σ' => k (.tup []) σ'
          | _,_ => .no 45)
        | false => kO (builtinC b (evs σ c.args.toList)) fun v => k v σ)))
    | .invoke r name => match ev σ r with
      | .u (.c (.ifp t id off)) => kO (methC P t name) fun f => callX P S ih f (.u (.c (.ptr id off)) :: evs σ c.args.toList) σ k
      | .u (.c (.sv v)) => .br (isIfV (pl v)) (ifX P S ih (pl v) name (evs σ c.args.toList) σ k ifaceTs) (.no 38)
      | _ => .no 36
  | op => match isRng op σ with | true => rngX P op σ k | false => opX P op σ k
def guardTmp (ops : Array Oper) (j : Nat) : Option Tmp:=match ops[j]? with | some o => o.dst | none => none
def opsx (P : Program) (S : List Sum) (ih : Nat → Code → St → K → Tr) (N : Nat) (ops : Array Oper) : List Oper → St → (St → Tr) → Tr
  | [],σ,k => k σ
  | o :: rest,σ,k =>
    match okDst N o.dst with
    | false => .no 40
    | true =>
      match o.guard with
      | none => opAny P S ih o σ fun v σ' => opsx P S ih N ops rest (σ'.put o.dst v) k
      | some (j,want) =>
        match guardTmp ops j with
        | none => .no 41
        | some t =>
          match Nat.blt t N with
          | false => .no 42
          | true => match look σ.tm t with
            | .u (.c (.lb b)) => (match b == want with
              | true => opAny P S ih o σ fun v σ' => opsx P S ih N ops rest (σ'.put o.dst v) k
              | false => opsx P S ih N ops rest (σ.put o.dst (.tup [])) k)
            | .u (.c (.sb b)) => .br b
                (let σ1:=retell σ (.tmp t) true
                 match true == want with
                 | true => opAny P S ih o σ1 fun v σ' => opsx P S ih N ops rest (σ'.put o.dst v) k
                 | false => opsx P S ih N ops rest (σ1.put o.dst (.tup [])) k)
                (let σ1:=retell σ (.tmp t) false
                 match false == want with
                 | true => opAny P S ih o σ1 fun v σ' => opsx P S ih N ops rest (σ'.put o.dst v) k
                 | false => opsx P S ih N ops rest (σ1.put o.dst (.tup [])) k)
            | .tup [] => opsx P S ih N ops rest (σ.put o.dst (.tup [])) k
            | _ => .no 43
def loopx (ih : Nat → Code → St → K → Tr) (N : Nat) (x : Code) (k : K) : Nat → St → Tr
  | 0,_ => .no 51
  | m + 1,σ => ih N x σ fun e σ' => match e with
    | .normal => loopx ih N x k m σ'
    | .exit id => k (.exit id) σ'
    | .ret => k .ret σ'
structure LT where
  tv : List Tmp
  bv : List Nat
  tk : List Tmp
  bk : List Nat
inductive Slot where
  | t (t : Tmp) (agg : Bool)
  | b (id ty : Nat)
structure CT where
  d : Nat
  sl : List Slot
  cs : List (List C)
  tk : List Tmp
  bk : List Nat
structure DrawX where
  d : (Nat → Code → St → K → Tr) → Nat → Array Oper → St → (St → Tr) → Tr
  lv : Nat → Nat → Option LT
  ct : Nat → Nat → Nat → Option CT
def keyOf : Code → Nat
  | .region id _ _ => id
  | .seq x _ => keyOf x
  | .block _ x => keyOf x
  | .loop x => keyOf x
  | .cond _ t _ => 1000 + keyOf t
  | _ => 0
def hdI : List Int → Int
  | [] => 0
  | x :: _ => x
def tlI : List Int → List Int
  | [] => []
  | _ :: r => r
def tlB : List Bool → List Bool
  | [] => []
  | _ :: r => r
inductive Cls where
  | n (k : Option IntKind) (x : Int)
  | t (b : Bool)
  | v (x : Value)
  | f
def clsC : C → Cls
  | .li k n => .n (some k) n
  | .si k n => .n (some k) n
  | .np p off => (match Nat.beq off 0 with | true => .n none p | false => .f)
  | .nilp => .n none 0
  | .lb b => .t b
  | .sb b => .t b
  | .sv v => .v (pl v)
  | .raw (.slice none n c) => .v (.slice none n c)
  | .raw (.map none) => .v (.map none)
  | .raw .nilIface => .v .nilIface
  | .raw .nilFunc => .v .nilFunc
  | .raw (.string s) => .v (.string s)
  | _ => .f
def iC (c : C) (y : Vars) : C :=
  match clsC c with
  | .n (some k) _ => .si k (hdI y.i)
  | .n none _ => .np (hdI y.i) 0
  | .t _ => .sb (hdB y.b)
  | .v _ => .sv (hdV y.v)
  | .f => c
def rC (c : C) (y : Vars) : Vars :=
  match clsC c with
  | .n _ _ => ⟨tlI y.i,y.b,y.v,y.m⟩
  | .t _ => ⟨y.i,tlB y.b,y.v,y.m⟩
  | .v _ => ⟨y.i,y.b,tlV y.v,y.m⟩
  | .f => y
def samePtrs : List (Nat × Nat) → List (Nat × Nat) → Bool
  | [],[] => true
  | p :: r,q :: s => Nat.beq p.1 q.1 && Nat.beq p.2 q.2 && samePtrs r s
  | _,_ => false
def eqP : C → C → Bool
  | .ptr i o,.ptr j q => Nat.beq i j && Nat.beq o q
  | .nilp,.nilp => true
  | .fn f l,.fn g r => Nat.beq f g && samePtrs l r
  | .sl i o n c,.sl j q m d => Nat.beq i j && Nat.beq o q && Nat.beq n m && Nat.beq c d
  | .mp i,.mp j => Nat.beq i j
  | .ifp t i o,.ifp u j q => Nat.beq t u && Nat.beq i j && Nat.beq o q
  | .raw .nilIface,.raw .nilIface => true
  | .raw (.map none),.raw (.map none) => true
  | .raw (.slice none n c),.raw (.slice none m d) => Nat.beq n m && Nat.beq c d
  | _,_ => false
def vcat (p q : Vars) : Vars:=⟨p.i ++ q.i,p.b ++ q.b,p.v ++ q.v,q.m⟩
def fitC (c c' : C) : Option Vars :=
  match clsC c,clsC c' with
  | .n k _,.n k' x => (match decide (k = k') with | true => some ⟨[x],[],[],noM⟩ | false => none)
  | .t _,.t b => some ⟨[],[b],[],noM⟩
  | .v _,.v x => some ⟨[],[],[x],noM⟩
  | .f,.f => (match eqP c c' with | true => some ⟨[],[],[],noM⟩ | false => none)
  | _,_ => none
def iL : List C → Vars → List C
  | [],_ => []
  | c :: r,y => iC c y :: iL r (rC c y)
def dL : List C → Vars → Vars
  | [],y => y
  | c :: r,y => dL r (rC c y)
def fitL : List C → List C → Option Vars
  | [],[] => some ⟨[],[],[],noM⟩
  | c :: r,c' :: r' => match fitC c c',fitL r r' with
    | some p,some q => some (vcat p q)
    | _,_ => none
  | _,_ => none
def slotC (σ : St) : Slot → Option (List C)
  | .t t ag => match look σ.tm t,ag with
    | .u (.c c),false => some [c]
    | .u (.agg cs),true => some cs
    | _,_ => none
  | .b id ty => match lookH σ.hp id with
    | some b => (match Nat.beq b.2 ty with | true => some b.1 | false => none)
    | none => none
def slotsC (σ : St) : List Slot → Option (List (List C))
  | [] => some []
  | s :: r => match slotC σ s,slotsC σ r with | some c,some l => some (c :: l) | _,_ => none
def iS : List (List C) → Vars → List (List C)
  | [],_ => []
  | c :: r,y => iL c y :: iS r (dL c y)
def fitS : List (List C) → List (List C) → Option Vars
  | [],[] => some ⟨[],[],[],noM⟩
  | c :: r,c' :: r' => match fitL c c',fitS r r' with
    | some p,some q => some (vcat p q)
    | _,_ => none
  | _,_ => none
def unitOf (ag : Bool) (cs : List C) : V :=
  match ag,cs with
  | false,[c] => .u (.c c)
  | _,cs => .u (.agg cs)
def canT : List Slot → List (List C) → List (Nat × V)
  | .t t ag :: r,c :: l => (t,unitOf ag c) :: canT r l
  | .b _ _ :: r,_ :: l => canT r l
  | _,_ => []
def canH (kb : List (Nat × Blk)) (lim : Nat) (x : Mem) (wr : Bool) (mt : List Nat) : List Slot → List (List C) → Hp
  | .b id ty :: r,c :: l => hcons (id,(c,ty)) (canH kb lim x wr mt r l)
  | .t _ _ :: r,_ :: l => canH kb lim x wr mt r l
  | _,_ => ⟨kb,[],lim,x,wr,mt⟩
def junk (N : Nat) (j : Nat → Value) : List (Nat × V):=(List.range N).map fun t => (t,.u (.c (.raw (j t))))
def beqB : Bool → Bool → Bool
  | true,true => true
  | false,false => true
  | _,_ => false
theorem beqB_eq : ∀ {a b : Bool},beqB a b = true → a = b
  | true,true,_ => rfl
  | false,false,_ => rfl
  | true,false,h => by cases h
  | false,true,h => by cases h
structure Kept where
  t : List (Nat × V)
  b : List (Nat × Blk)
def keptT (σ : St) : List Tmp → List (Nat × V)
  | [] => []
  | t :: r => (t,look σ.tm t) :: keptT σ r
def keptB (σ : St) : List Nat → List (Nat × Blk)
  | [] => []
  | i :: r => match lookH σ.hp i with | some b => (i,b) :: keptB σ r | none => keptB σ r
def isT (σ : St) : List (Nat × V) → Prop
  | [] => True
  | q :: r => look σ.tm q.1 = q.2 ∧ isT σ r
def isB' (σ : St) : List (Nat × Blk) → Prop
  | [] => True
  | q :: r => lookH σ.hp q.1 = some q.2 ∧ isB' σ r
def canon (N n lim : Nat) (x : Mem) (wr : Bool) (mt : List Nat) (kt : Kept) (sl : List Slot) (cs : List (List C)) (j : Nat → Value) : St:={ tm:=canT sl cs ++ (kt.t ++ junk N j),hp:=canH kt.b lim x wr mt sl cs,n:=n }
def tSlots (σ : St) : List Tmp → Option (List Slot)
  | [] => some []
  | t :: r => match look σ.tm t,tSlots σ r with
    | .u (.c _),some l => some (.t t false :: l)
    | .u (.agg _),some l => some (.t t true :: l)
    | _,_ => none
def bSlots (σ : St) : List Nat → List Slot
  | [] => []
  | i :: r => match lookH σ.hp i with | some b => .b i b.2 :: bSlots σ r | none => bSlots σ r
def wfS (n : Nat) (cs : List (List C)) : Bool:=cs.all fun l => l.all (C.wf n)
def liveOK (N : Nat) : List Slot → Bool
  | [] => true
  | .t t _ :: r => Nat.blt t N && liveOK N r
  | .b _ _ :: r => liveOK N r
def lpx (ih : Nat → Code → St → K → Tr) (N : Nat) (x : Code) (lt : LT) (σ : St) (k : K) : Tr :=
  kO (tSlots σ lt.tv) fun ts => kO (slotsC σ (ts ++ bSlots σ lt.bv)) fun cs => kO (fitS cs cs) fun q =>
  match wfS σ.n cs,liveOK N ts with
  | true,true => .lp ⟨q.i,q.b,q.v,σ.hp.x⟩ fun y j => ih N x (canon N σ.n σ.hp.lim y.m σ.hp.wr σ.hp.mt ⟨keptT σ lt.tk,keptB σ lt.bk⟩ (ts ++ bSlots σ lt.bv) (iS cs y) j) fun e σ' => match e with
    | .normal => kO (slotsC σ' (ts ++ bSlots σ lt.bv)) fun cs' => kO (fitS cs cs') fun q' => (match wfS σ.n cs',beqB σ'.hp.wr σ.hp.wr with
      | true,true => .req (keptT σ' lt.tk = keptT σ lt.tk ∧ keptB σ' lt.bk = keptB σ lt.bk) (.leaf (.again ⟨q'.i,q'.b,q'.v,σ'.hp.x⟩))
      | _,_ => .no 52)
    | .exit id => (k (.exit id) σ').mapL .up
    | .ret => (k .ret σ').mapL .up
  | _,_ => .no 53
def slLt (n : Nat) : List Slot → Bool
  | [] => true
  | .t _ _ :: r => slLt n r
  | .b id _ :: r => Nat.blt id n && slLt n r
def cutx (ih : Nat → Code → St → K → Tr) (N : Nat) (x y : Code) (c : CT) (σ : St) (k : K) : Tr :=
  match slLt (σ.n + c.d) c.sl with
  | true => .lp ⟨[0],[],[],σ.hp.x⟩ fun v j => .br (iZero? (hdI v.i))
    (ih N x σ fun e σ' => match e with
      | .normal => kO (slotsC σ' c.sl) fun cs' => kO (fitS c.cs cs') fun q => (match wfS (σ.n + c.d) cs',beqB σ'.hp.wr σ.hp.wr,Nat.ble (σ.n + c.d) σ'.n with
        | true,true,true => .req (keptT σ' c.tk = keptT σ c.tk ∧ keptB σ' c.bk = keptB σ c.bk) (.leaf (.again ⟨1 :: q.i,q.b,q.v,σ'.hp.x⟩))
        | _,_,_ => .no 54)
      | .exit id => (k (.exit id) σ').mapL .up
      | .ret => (k .ret σ').mapL .up)
    (ih N y (canon N (σ.n + c.d) σ.hp.lim v.m σ.hp.wr σ.hp.mt ⟨keptT σ c.tk,keptB σ c.bk⟩ c.sl (iS c.cs ⟨tlI v.i,v.b,v.v,v.m⟩) j) fun e σ' => (k e σ').mapL .up)
  | false => .no 55
def codex (P : Program) (S : List Sum) (D : DrawX) (ih : Nat → Code → St → K → Tr) (N : Nat) (c : Code) (σ : St) (k : K) : Tr :=
  match c with
  | .skip => k .normal σ
  | .label _ => k .normal σ
  | .region _ ops draw => match draw with
    | false => opsx P S ih N ops ops.toList σ (k .normal)
    | true => D.d ih N ops σ (k .normal)
  | .seq x y => match D.ct N (keyOf y) σ.n with
    | some c => cutx ih N x y c σ k
    | none => ih N x σ fun e σ' => match e with
      | .normal => ih N y σ' k
      | .exit id => k (.exit id) σ'
      | .ret => k .ret σ'
  | .cond x t e => decB σ x fun b σ' => match b with | true => ih N t σ' k | false => ih N e σ' k
  | .block id x => ih N x σ fun e σ' => match e with
    | .normal => k .normal σ'
    | .exit id' => (match Nat.beq id' id with | true => k .normal σ' | false => k (.exit id') σ')
    | .ret => k .ret σ'
  | .loop x => match D.lv N (keyOf x) with
    | some live => lpx ih N x live σ k
    | none => loopx ih N x k 5000 σ
  | .exit id => k (.exit id) σ
  | .ret => k .ret σ
  | .scope x => ih N x σ k
  | _ => .no 50
def ex (P : Program) (S : List Sum) (D : DrawX) : Nat → Nat → Code → St → K → Tr
  | 0 => fun _ _ _ _ => .no 60
  | n + 1 => codex P S D (ex P S D n)
end Go.Proofs.Ytnlohongffpkpaa.Sx
end

section
namespace Go.Proofs.Ytnlohongffpkpaa.Sx
open Go Go.RowKit
def Snd (P : Program) (ih : Nat → Code → St → K → Tr) : Prop :=
  ∀ (W : World) (n0 : NL) (ρ0 : Nat → Nat) (N : Nat) (R : Leaf → Prop) (c : Code) (σ : St) (k : K) (ρ : Nat → Nat) (a : Act) (w : World) (Q : Exit → Act → World → Prop),
    Inv W n0 ρ0 N ρ σ a w → (ih N c σ k).sat R →
    (∀ e σ' ρ' a' w',Inv W n0 ρ0 N ρ' σ' a' w' → Ext σ.n ρ ρ' → σ.n ≤ σ'.n → (k e σ').sat R → Q e.to a' w') → c.wp P Q a w
def DSnd (P : Program) (D : DrawX) : Prop :=
  ∀ (ih : Nat → Code → St → K → Tr),Snd P ih → ∀ (W : World) (n0 : NL) (ρ0 : Nat → Nat) (N : Nat) (R : Leaf → Prop) (id : Nat) (ops : Array Oper) (σ : St) (k : St → Tr) (ρ : Nat → Nat) (a : Act) (w : World) (Q : Exit → Act → World → Prop),
    Inv W n0 ρ0 N ρ σ a w → (D.d ih N ops σ k).sat R →
    (∀ σ' ρ' a' w',Inv W n0 ρ0 N ρ' σ' a' w' → Ext σ.n ρ ρ' → σ.n ≤ σ'.n → (k σ').sat R → Q .normal a' w') → (Code.region id ops true).wp P Q a w
def NameOK (P : Program) : Prop:=∀ (f : Nat) (fn : Func),P.funcs[f]? = some fn → (fn.name == "runtime.NumGoroutine") = false
theorem nameOK_of {P : Program} (h : (P.funcs.all fun fn => !(fn.name == "runtime.NumGoroutine")) = true) : NameOK P:=by
  intro f fn hf
  rw [Array.all_eq_true_iff_forall_mem] at h
  simpa using h fn (Array.mem_of_getElem? hf)
section
variable {P : Program} {S : List Sum} {W : World} {n0 : NL} {ρ0 : Nat → Nat} {N : Nat} {ρ : Nat → Nat} {σ : St} {a : Act} {w : World} {R : Leaf → Prop}
theorem brs_sat : ∀ {l : List Bool} {t : Tr},(brs l t).sat R → (∀ b ∈ l,b = true) ∧ t.sat R
  | [],_,h => ⟨(fun _ hx => nomatch hx),h⟩
  | b :: l,t,h => by
    have hb : b = true:=by
      cases e : b
      · exact (h.2 e).elim
      · rfl
    obtain ⟨h1,h2⟩:=brs_sat (h.1 hb)
    exact ⟨fun c hc => by
      rcases List.mem_cons.1 hc with rfl | hc
      · exact hb
      · exact h1 c hc,h2⟩
theorem kS_sat {o : Option (List Bool × V)} {k : V → Tr} (h : (kS o k).sat R) : ∃ bs x,o = some (bs,x) ∧ (∀ b ∈ bs,b = true) ∧ (k x).sat R:=by
  unfold kS at h
  split at h
  · rename_i x
    obtain ⟨h1,h2⟩:=brs_sat h
    exact ⟨x.1,x.2,rfl,h1,h2⟩
  · exact h.elim
theorem lookS_mem {l : List Sum} {f : Nat} {q : Sum} (h : lookS l f = some q) : q ∈ l ∧ q.f = f:=by
  induction l with
  | nil => cases h
  | cons p r ih =>
    simp only [lookS] at h
    split at h
    · rename_i e
      cases h
      exact ⟨by simp,Nat.eq_of_beq_eq_true e⟩
    · obtain ⟨h1,h2⟩:=ih h
      exact ⟨by simp [h1],h2⟩
theorem evs_den (hI : Inv W n0 ρ0 N ρ σ a w) (l : List Operand) : l.map a.eval = (evs σ l).map (V.den ρ):=by
  induction l with
  | nil => rfl
  | cons x r ih => simp [evs,ih,ev_den hI x]
theorem ptrC_den (ρ : Nat → Nat) (l : List (Nat × Nat)) : (l.map ptrC).map (V.den ρ) = l.map (ptrV ρ):=by
  simp only [List.map_map];rfl
theorem look_number (args : List V) : ∀ (i t : Nat),i ≤ t → look (number i args) t = (args[t - i]?).getD (.tup []):=by
  induction args with
  | nil => intro i t _;simp [number,look]
  | cons v r ih =>
    intro i t hit
    simp only [number,look]
    by_cases e : i = t
    · subst e;simp
    · rw [Nat.beq_eq_false_iff.2 e]
      simp only
      rw [ih (i + 1) t (by omega),show t - i = (t - (i + 1)) + 1 by omega]
      simp
theorem number_mem (args : List V) : ∀ (i : Nat) (q : Nat × V),q ∈ number i args → q.2 ∈ args:=by
  induction args with
  | nil => intro i q h;cases h
  | cons v r ih =>
    intro i q h
    simp only [number,List.mem_cons] at h
    rcases h with rfl | h
    · simp
    · simp [ih _ _ h]
theorem Inv.enter (hI : HInv W n0 ρ0 ρ σ.hp σ.n w) (args : List V) (M : Nat) (hl : args.length ≤ M) (hw : args.all (V.wf σ.n) = true) :
    Inv W n0 ρ0 M ρ { tm:=number 0 args,hp:=σ.hp,n:=σ.n } { tmps:=(args.map (V.den ρ)).toArray ++ Array.replicate (M - (args.map (V.den ρ)).toArray.size) undef,defers:=[] } w:=by
  refine ⟨rfl,by simp;omega,?_,?_,hI⟩
  · intro t
    rw [look_number args 0 t (by omega),Nat.sub_zero]
    by_cases h : t < args.length
    · have h1 : args[t]? = some args[t]:=by simp [h]
      rw [h1]
      simp [Array.getElem?_append,h]
    · have h1 : args[t]? = none:=by simp;omega
      rw [h1]
      simp only [Option.getD_none]
      rw [Array.getD_eq_getD_getElem?,Array.getElem?_append]
      simp only [List.size_toArray,List.length_map,h,if_false]
      rw [Array.getElem?_replicate]
      split <;> rfl
  · intro q hq
    have:=number_mem args 0 q hq
    simp only [List.all_eq_true] at hw
    exact hw _ this
def resOne (tmps : Array Value) : ResultVar → Sem Value
  | .tmp t => pure (tmps.getD t undef)
  | .cell x t => do loadVar t (← asAddr (tmps.getD x undef))
theorem results_eq (fn : Func) (tmps : Array Value) : results fn tmps = (do let vs ← fn.results.mapM (resOne tmps);pure (if h : vs.size = 1 then vs[0] else .tuple vs)):=by
  unfold results
  congr 1
theorem resC_den {r : ResultVar} {u : U} (hI : Inv W n0 ρ0 N ρ σ a w) (h : resC P σ r = some u) :
    (resOne a.tmps r).run P w = .ok (u.den ρ) w:=by
  cases r with
  | tmp t =>
    simp only [resC] at h
    split at h
    · rename_i u' hu
      cases h
      simp only [resOne,Sem.run_pure]
      rw [hI.tm t,hu];rfl
    · cases h
  | cell x t =>
    simp only [resC] at h
    split at h
    · rename_i id off hx
      split at h
      · rename_i b hb
        have hd : a.tmps.getD x undef = .pointer (some ⟨ρ id,off,none⟩):=by rw [hI.tm x,hx];rfl
        simp only [resOne,hd,asAddr,Sem.run_bind,Sem.run_pure,Result.andThen_ok]
        exact run_loadVar hI.H hb h
      · cases h
    · cases h
theorem resCs_den (hI : Inv W n0 ρ0 N ρ σ a w) : ∀ (l : List ResultVar) (us : List U),resCs P σ l = some us →
    (l.mapM (resOne a.tmps) : Sem (List Value)).run P w = .ok (us.map (U.den ρ)) w:=by
  intro l
  induction l with
  | nil => intro us h;simp only [resCs,Option.some.injEq] at h;subst h;simp
  | cons r l ih =>
    intro us h
    simp only [resCs] at h
    split at h
    · rename_i u us' h1 h2
      cases h
      have e:=resC_den hI h1
      simp only [List.mapM_cons,Sem.run_bind]
      rw [e]
      simp only [Result.andThen_ok,ih _ h2,Sem.run_pure,List.map_cons]
    · cases h
theorem resV_den {fn : Func} {v : V} (hI : Inv W n0 ρ0 N ρ σ a w) (h : resV P σ fn.results.toList = some v) : (results fn a.tmps).run P w = .ok (v.den ρ) w:=by
  unfold resV at h
  have key : ∀ us,resCs P σ fn.results.toList = some us → (results fn a.tmps).run P w = .ok (if h : (us.map (U.den ρ)).toArray.size = 1 then (us.map (U.den ρ)).toArray[0] else .tuple (us.map (U.den ρ)).toArray) w:=by
    intro us hu
    have e:=resCs_den hI _ _ hu
    simp only [results_eq,Array.mapM_eq_mapM_toList,Sem.run_bind,Sem.run_map]
    rw [e]
    simp only [Result.andThen_ok,Sem.run_pure]
  split at h
  · rename_i u hu
    cases h
    rw [key _ hu]
    rfl
  · rename_i us hne hu
    cases h
    rw [key _ hu]
    have hn : ¬ (us.map (U.den ρ)).toArray.size = 1:=by
      intro h1
      simp at h1
      match us,h1 with
      | [u],_ => exact hne u rfl
    rw [dif_neg hn]
    rfl
  · cases h
def NextS (W : World) (n0 : NL) (ρ0 : Nat → Nat) (N : Nat) (R : Leaf → Prop) (ρ : Nat → Nat) (σ : St) (a : Act) (k : V → St → Tr) (next : Value → World → Prop) : Prop :=
  ∀ v σ' ρ' w',Inv W n0 ρ0 N ρ' σ' a w' → Ext σ.n ρ ρ' → σ.n ≤ σ'.n → v.wf σ'.n = true → (k v σ').sat R → next (v.den ρ') w'
theorem HInv.touch {hp : Hp} {n : Nat} (h : HInv W n0 ρ0 ρ hp n w) {id : Nat} {b : Blk} (hb : lookH hp id = some b) (hlim : hp.lim ≤ id) {w' : World} (ht : Touch (ρ id) w w') {new : List C} {ty : Nat} (hn : new.all (C.wf 0) = true)
    (hw : w'.heap[ρ id]? = some (.cells (dens ρ new) ty (0,0))) : HInv W n0 ρ0 ρ (hcons (id,(new,ty)) hp) n w':=by
  obtain ⟨hid,_,_⟩:=h.blk id b hb
  refine ⟨fun i hi => Nat.lt_of_lt_of_le (h.lt i hi) ht.size,h.inj,?_,h.le,h.old,h.new,ht.os.trans h.os,ht.tape.trans h.tape,ht.output.trans h.output,Nat.le_trans h.size ht.size,?_,?_,h.lim,h.mem.keep fun a ha hf => ht.far a ha fun e => hf id hid e.symm⟩
  · intro i b' hi
    simp only [lookH_hcons,lookH_hnil] at hi
    by_cases e : id = i
    · subst e
      simp only [Nat.beq_refl] at hi
      cases hi
      refine ⟨hid,?_,hw⟩
      simp only [List.all_eq_true] at hn ⊢
      exact fun x hx => C.wf_mono (Nat.zero_le _) x (hn x hx)
    · rw [Nat.beq_eq_false_iff.2 e] at hi
      obtain ⟨g1,g2,g3⟩:=h.blk i b' hi
      refine ⟨g1,g2,?_⟩
      rw [ht.far (ρ i) (h.lt i g1) (fun x => e (h.inj i id g1 hid x).symm)]
      exact g3
  · intro k hk hx hne
    rw [ht.far k (Nat.lt_of_lt_of_le hk h.size) ?_]
    · exact h.far k hk hx hne
    · intro e
      by_cases hlt : id < n0.n
      · exact hne id (h.lim ▸ hlim) hlt (by rw [e];exact (h.old id hlt).symm)
      · have:=h.new id (by omega) hid
        omega
  · intro i m hm
    rw [lookM_hcons] at hm
    obtain ⟨g1,g2,g3⟩:=h.mblk i m hm
    refine ⟨g1,g2,?_⟩
    rw [ht.far (ρ i) (h.lt i g1) (h.mne hb hm)]
    exact g3
theorem callx_sound (hS : ∀ q ∈ S,SumOK P q) {ih : Nat → Code → St → K → Tr} (hih : Snd P ih) {f : FuncId} {args : List V} {k : V → St → Tr} (hI : Inv W n0 ρ0 N ρ σ a w)
    (h : (callx P S ih f args σ k).sat R) {next : Value → World → Prop} (hn : NextS W n0 ρ0 N R ρ σ a k next) :
    ((∃ fn,P.funcs[f]? = some fn ∧ fn.body.isSome = true) ∧ ∀ R' : Ending → World → Prop,(∀ v w',next v w' → R' (.returned v) w') → Calls P f (args.map (V.den ρ)).toArray w R') ∨
    ∃ v,(callFunc f (args.map (V.den ρ)).toArray).run P w = .ok (.value v) w ∧ next v w:=by
  unfold callx at h
  split at h
  · rename_i q hq
    obtain ⟨hmem,hf⟩:=lookS_mem hq
    split at h
    case h_1 =>
      rename_i ty hty
      have hH:=(hS q hmem).2
      rcases hH with ⟨ty',e1,e2,h1,h2⟩ | ⟨e1,_⟩
      case inr => rw [hty] at e1;cases e1
      rw [hty] at e1
      cases e1
      rw [hf] at h1
      split at h
      · rename_i x off rest
        obtain ⟨bb,hbb,h0s⟩:=kO_sat h
        split at h0s
        · rename_i id hbbc
          obtain ⟨b,hb,h1s⟩:=kO_sat h0s
          obtain ⟨hb,hlim⟩:=lookW_spec hb
          obtain ⟨bs,r,hr,hbs,h2s⟩:=kS_sat h1s
          split at h2s
          · rename_i new u
            split at h2s
            · rename_i ho ht hnw huw hxi hxt0
              have ho:=Nat.eq_of_beq_eq_true ho
              have ht:=Nat.eq_of_beq_eq_true ht
              have hxi:=Nat.beq_eq_false_iff.1 hxi
              have hxt:=Nat.eq_of_beq_eq_true hxt0
              subst ho
              obtain ⟨bcs,bty⟩:=b
              obtain ⟨xcs,xty⟩:=bb
              dsimp only at ht hr hbbc hxt
              subst ht hbbc
              refine .inl ⟨h1,fun R' hR => ?_⟩
              obtain ⟨hid,_,hcell⟩:=hI.H.blk id _ hb
              obtain ⟨hxd,_,hxcell⟩:=hI.H.blk x _ hbb
              have hne : ρ x ≠ ρ id:=fun e => hxi (hI.H.inj x id hxd hid e)
              rw [hxt] at hxcell
              have hc:=h2 bcs rest bs new u ρ (ρ id) (ρ x) w hr hbs hcell hxcell hne
              rw [hf] at hc
              refine Calls.mono hc ?_
              rintro e w' ⟨rfl,htch,hnew⟩
              exact hR _ _ (hn (.u u) _ ρ w' (hI.later (Ext.refl _ _) (Nat.le_refl _) (hI.H.touch hb hlim htch hnw hnew)) (Ext.refl _ _) (Nat.le_refl _) (V.wf_mono (Nat.zero_le _) (.u u) huw) h2s)
            · exact h2s.elim
          · exact h2s.elim
        · exact h0s.elim
      · exact h.elim
    rename_i hbnone
    split at h
    case h_2 =>
      rename_i ty hty
      have hH:=(hS q hmem).2
      rcases hH with ⟨ty',e1,_⟩ | ⟨_,hH⟩
      · rw [hbnone] at e1;cases e1
      rcases hH with ⟨ty',e1,e2,h1,h2⟩ | ⟨e1,_⟩
      case inr => rw [hty] at e1;cases e1
      rw [hty] at e1
      cases e1
      rw [hf] at h1
      split at h
      · rename_i id off rest
        obtain ⟨b,hb,h1s⟩:=kO_sat h
        obtain ⟨hb,hlim⟩:=lookW_spec hb
        obtain ⟨bs,r,hr,hbs,h2s⟩:=kS_sat h1s
        split at h2s
        · rename_i new u
          split at h2s
          · rename_i ho ht hnw huw
            have ho:=Nat.eq_of_beq_eq_true ho
            have ht:=Nat.eq_of_beq_eq_true ht
            subst ho
            obtain ⟨bcs,bty⟩:=b
            dsimp only at ht hr
            subst ht
            refine .inl ⟨h1,fun R' hR => ?_⟩
            obtain ⟨_,_,hcell⟩:=hI.H.blk id _ hb
            have hc:=h2 bcs rest bs new u ρ (ρ id) w hr hbs hcell
            rw [hf] at hc
            refine Calls.mono hc ?_
            rintro e w' ⟨rfl,htch,hnew⟩
            exact hR _ _ (hn (.u u) _ ρ w' (hI.later (Ext.refl _ _) (Nat.le_refl _) (hI.H.touch hb hlim htch hnw hnew)) (Ext.refl _ _) (Nat.le_refl _) (V.wf_mono (Nat.zero_le _) (.u u) huw) h2s)
          · exact h2s.elim
        · exact h2s.elim
      · exact h.elim
    rename_i hnone
    obtain ⟨bs,r,hr,hbs,hs⟩:=kS_sat h
    split at hs
    · rename_i hw
      have hH:=(hS q hmem).2
      rcases hH with ⟨ty',e1,_⟩ | ⟨_,hH⟩
      · rw [hbnone] at e1;cases e1
      rcases hH with ⟨ty',e1,_⟩ | ⟨_,hH⟩
      · rw [hnone] at e1;cases e1
      rcases hH with ⟨_,hx⟩ | ⟨_,h1,h2⟩
      · right
        have hx:=hx args bs r ρ w hr hbs
        rw [hf] at hx
        exact ⟨_,hx,hn r σ ρ w hI (Ext.refl _ _) (Nat.le_refl _) (V.wf_mono (Nat.zero_le _) r hw) hs⟩
      rw [hf] at h1 h2
      refine .inl ⟨h1,fun R' hR => ?_⟩
      refine (h2 args bs r ρ w hr hbs).mono ?_
      rintro e w' ⟨rfl,hb⟩
      exact hR _ _ (hn r σ ρ w' (hI.later (Ext.refl _ _) (Nat.le_refl _) (hI.H.below hb)) (Ext.refl _ _) (Nat.le_refl _) (V.wf_mono (Nat.zero_le _) r hw) hs)
    · exact hs.elim
  · obtain ⟨fn,hfn,hs⟩:=kO_sat h
    obtain ⟨c,hc,hs⟩:=kO_sat hs
    refine .inl ⟨⟨fn,hfn,by rw [hc];rfl⟩,fun R' hR => ?_⟩
    split at hs
    · rename_i hl hw
      have hl':=Nat.le_of_ble_eq_true hl
      have hI':=Inv.enter (ρ:=ρ) hI.H args fn.ntmps hl' hw
      refine calls_of_wp hfn hc ?_
      refine hih W n0 ρ0 fn.ntmps R c _ _ ρ _ w _ hI' hs ?_
      intro e σ' ρ' a' w' hI2 hE hle hk
      have fin : (kO (resV P σ' fn.results.toList) fun r => match r.wf σ'.n with | true => k r { tm:=σ.tm,hp:=σ'.hp,n:=σ'.n } | false => .no 32).sat R →
          a'.defers = [] ∧ ∃ v,(results fn a'.tmps).run P w' = .ok v w' ∧ R' (.returned v) w':=by
        intro hk
        obtain ⟨r,hr,hk⟩:=kO_sat hk
        split at hk
        · rename_i hwr
          exact ⟨hI2.defers,_,resV_den hI2 hr,hR _ _ (hn r _ ρ' w' (hI.later hE hle hI2.H) hE hle hwr hk)⟩
        · exact hk.elim
      cases e with
      | normal => exact fin hk
      | ret => exact fin hk
      | exit id => exact hk.elim
    · exact hs.elim
theorem callX_sound (hS : ∀ q ∈ S,SumOK P q) {ih : Nat → Code → St → K → Tr} (hih : Snd P ih) {f : FuncId} {args : List V} {k : V → St → Tr} (hI : Inv W n0 ρ0 N ρ σ a w)
    (h : (callX P S ih f args σ k).sat R) {next : Value → World → Prop} (hn : NextS W n0 ρ0 N R ρ σ a k next) :
    ((∃ fn,P.funcs[f]? = some fn ∧ fn.body.isSome = true) ∧ ∀ R' : Ending → World → Prop,(∀ v w',next v w' → R' (.returned v) w') → Calls P f (args.map (V.den ρ)).toArray w R') ∨
    ∃ v,(callFunc f (args.map (V.den ρ)).toArray).run P w = .ok (.value v) w ∧ next v w:=by
  unfold callX at h
  split at h
  · rename_i q hq
    obtain ⟨hmem,hf⟩:=lookS_mem hq
    split at h
    · rename_i mm hmm
      obtain ⟨h1,h2⟩:=(hS q hmem).1.1 mm hmm
      rw [hf] at h1
      obtain ⟨ms,hms,hs⟩:=kO_sat h
      split at hs
      · rename_i hw hwr
        obtain ⟨hpre,hs⟩:=hs
        refine .inl ⟨h1,fun R' hR => ?_⟩
        have:=h2 σ.hp.x args ms ρ w hms hpre hw hI.H.mem.sub
        rw [hf] at this
        refine this.mono ?_
        rintro e w' ⟨y,g1,rfl,g2⟩
        have hs:=hs y g1
        dsimp only at hs
        split at hs
        · rename_i hrw
          exact hR _ _ (hn (ms.ret y) _ ρ w' (hI.later (Ext.refl _ _) (Nat.le_refl _) (hI.H.memTo hwr g2)) (Ext.refl _ _) (Nat.le_refl _) (V.wf_mono (Nat.zero_le _) _ hrw) hs)
        · exact hs.elim
      · exact hs.elim
    · split at h
      · rename_i rd hrd
        obtain ⟨h1,h2⟩:=(hS q hmem).1.2.1 rd hrd
        rw [hf] at h1
        obtain ⟨r,hr,hs⟩:=kO_sat h
        split at hs
        · rename_i hw hrw
          obtain ⟨hpre,hs⟩:=hs
          refine .inl ⟨h1,fun R' hR => ?_⟩
          have:=h2 σ.hp.x args r.1 r.2 ρ w hr hpre hw hI.H.mem.sub
          rw [hf] at this
          refine this.mono ?_
          rintro e w' ⟨rfl,g2⟩
          exact hR _ _ (hn r.2 _ ρ w' (hI.later (Ext.refl _ _) (Nat.le_refl _) (hI.H.below g2)) (Ext.refl _ _) (Nat.le_refl _) (V.wf_mono (Nat.zero_le _) _ hrw) hs)
        · exact hs.elim
      · split at h
        · rename_i dm hdm
          obtain ⟨h1,h2⟩:=(hS q hmem).1.2.2 dm hdm
          rw [hf] at h1
          obtain ⟨r,hr,hs⟩:=kO_sat h
          split at hs
          · rename_i hw hrw hwr
            obtain ⟨hpre,hs⟩:=hs
            refine .inl ⟨h1,fun R' hR => ?_⟩
            have:=h2 σ.hp.x args r.1 r.2.1 r.2.2 ρ w hr hpre hw hI.H.mem.sub
            rw [hf] at this
            refine this.mono ?_
            rintro e w' ⟨rfl,g2⟩
            exact hR _ _ (hn r.2.2 _ ρ w' (hI.later (Ext.refl _ _) (Nat.le_refl _) (hI.H.memTo hwr g2)) (Ext.refl _ _) (Nat.le_refl _) (V.wf_mono (Nat.zero_le _) _ hrw) hs)
          · exact hs.elim
        · exact callx_sound hS hih hI h hn
  · exact callx_sound hS hih hI h hn
theorem wp_enter {o : Oper} {f : FuncId} {args : Array Value} {next : Act → World → Prop} {Q : Exit → Act → World → Prop} (h : (execOp a.eval o).run P w = .ok (.enter f args) w)
    (hc : ∀ R' : Ending → World → Prop,(∀ v w',next (a.put o.dst v) w' → R' (.returned v) w') → Calls P f args w R') : o.wp P a w next Q:=by
  simp only [Oper.wp,h,Oper.upon_enter]
  exact hc _ fun v w' hv => hv
theorem run_callFunc (hN : NameOK P) {f : FuncId} {fn : Func} (hf : P.funcs[f]? = some fn) (hb : fn.body.isSome = true) (args : Array Value) (w : World) : (callFunc f args).run P w = .ok (.enter f args) w:=by
  have h1:=hN f fn hf
  have h1' : ¬ fn.name = "runtime.NumGoroutine":=by simpa using h1
  have h2 : ¬ fn.body = none:=by intro e;rw [e] at hb;cases hb
  simp [callFunc,hf,h1',h2]
theorem builtinC_sound {b : Builtin} {args : List V} {v : V} (h : builtinC b args = some v) (hb : b ≠ .len) (ts : Array TypeId) (t : TypeId) (cs : Array Bool) (ρ : Nat → Nat) (w : World) :
    (builtin b ts t cs (args.map (V.den ρ)).toArray).run P w = .ok (.value (v.den ρ)) w ∧ ∀ n,v.wf n = true:=by
  unfold builtinC at h
  split at h
  · split at h
    · rename_i lx kx nx ly ky ny hx hy
      cases h
      refine ⟨?_,fun n => mkI_wf _ _ _ n⟩
      simp only [List.map_cons,List.map_nil,V.den,U.den,C.int_den hx ρ,C.int_den hy ρ,mkI_den]
      simp [builtin,run_max_int2,iMax2]
    · cases h
  · split at h
    · rename_i lx kx nx ly ky ny hx hy
      cases h
      refine ⟨?_,fun n => mkI_wf _ _ _ n⟩
      simp only [List.map_cons,List.map_nil,V.den,U.den,C.int_den hx ρ,C.int_den hy ρ,mkI_den]
      simp [builtin,run_min_int2,iMin2]
    · cases h
  · exact absurd rfl hb
  · exact absurd rfl hb
  · cases h
theorem run_callMethod {t : TypeId} {name : String} {f : FuncId} (h : methC P t name = some f) (p : Option Addr) (args : Array Value) (w : World) :
    (callMethod (.iface t (.pointer p)) name args).run P w = (callFunc f (#[.pointer p] ++ args)).run P w:=by
  unfold methC at h
  split at h
  · rename_i it e hi hu
    split at h
    · rename_i m hm
      split at h
      · rename_i g hpath hfun
        cases h
        have hm' : it.methods.find? (fun m => m.name == name) = some m:=by rw [← Array.find?_toList];exact hm
        have hp : m.path.toList = []:=hpath
        have hmeth : (method (P.types.size + Made.depth) t (.pointer p) name).run P w = .ok (f,.pointer p) w:=by
          obtain ⟨n,hn⟩ : ∃ n,P.types.size + Made.depth = n + 1:=⟨P.types.size + (Made.depth - 1),by simp [Made.depth]⟩
          rw [hn]
          simp only [method,Sem.run_bind,typeInfo,run_program,Result.andThen_ok,hi,Sem.run_pure,hm',hp,follow,hfun,receiverAt,run_underlying hu,Place.get]
        simp only [callMethod,Sem.run_bind,run_program,Result.andThen_ok,hmeth]
      · cases h
    · cases h
  · cases h
theorem opAny_sound (hN : NameOK P) (hS : ∀ q ∈ S,SumOK P q) {ih : Nat → Code → St → K → Tr} (hih : Snd P ih) {o : Oper} {k : V → St → Tr} {next : Act → World → Prop} {Q : Exit → Act → World → Prop}
    (hI : Inv W n0 ρ0 N ρ σ a w) (h : (opAny P S ih o σ k).sat R) (hn : NextS W n0 ρ0 N R ρ σ a k fun v w' => next (a.put o.dst v) w') : o.wp P a w next Q:=by
  unfold opAny at h
  split at h
  · rename_i c hop
    split at h
    · rename_i x hcal
      obtain ⟨q,hq,hs⟩:=kO_sat h
      obtain ⟨f,cs⟩:=q
      unfold calleeOf at hq
      split at hq
      · rename_i f' cs' hx
        cases hq
        have hd : a.eval x = .func (.func f) #[] (cs.map (ptrV ρ)).toArray:=by rw [ev_den hI x,hx];rfl
        have hargs : c.args.map a.eval ++ (cs.map (ptrV ρ)).toArray = ((evs σ c.args.toList ++ cs.map ptrC).map (V.den ρ)).toArray:=by
          apply Array.ext'
          rw [Array.toList_append,Array.toList_map,evs_den hI,List.map_append,ptrC_den]
        have hrun : (execOp a.eval o).run P w = (callFunc f ((evs σ c.args.toList ++ cs.map ptrC).map (V.den ρ)).toArray).run P w:=by
          unfold execOp
          rw [hop]
          simp only [Sem.run_bind,resolve,hcal,hd,Deferred.ofValue,Sem.run_pure,Result.andThen_ok,invoke,Array.empty_append]
          rw [hargs]
        rcases callX_sound hS hih hI hs hn with ⟨⟨fn,hfn,hbody⟩,hcalls⟩ | ⟨v,hv,hnx⟩
        · refine wp_enter (f:=f) (args:=((evs σ c.args.toList ++ cs.map ptrC).map (V.den ρ)).toArray) ?_ hcalls
          rw [hrun]
          exact run_callFunc hN hfn hbody _ _
        · simp only [Oper.wp,hrun,hv,Oper.upon_value]
          exact hnx
      · cases hq
    · rename_i b hcal
      obtain ⟨ks,hre⟩ : ∃ ks,(execOp a.eval o).run P w = (builtin b c.argTypes o.type ks (c.args.map a.eval)).run P w:=by
        unfold execOp
        rw [hop]
        simp only [Sem.run_bind,resolve,hcal,Sem.run_pure,Result.andThen_ok,invoke]
        exact ⟨_,rfl⟩
      have hargs : c.args.map a.eval = ((evs σ c.args.toList).map (V.den ρ)).toArray:=by
        apply Array.ext'
        rw [Array.toList_map,evs_den hI]
      have fin : ∀ v : V,(execOp a.eval o).run P w = .ok (.value (v.den ρ)) w → (∀ n,v.wf n = true) → (k v σ).sat R → o.wp P a w next Q:=by
        intro v hr hw hs
        simp only [Oper.wp,hr,Oper.upon_value]
        exact hn v σ ρ w hI (Ext.refl _ _) (Nat.le_refl _) (hw _) hs
      split at h
      · split at h
        · rename_i hwfa
          obtain ⟨v,σ',ρ',w',g1,g2,g3,g4,g5,g6⟩:=bltM_sound hI hwfa h o.type ks
          have hr : (execOp a.eval o).run P w = .ok (.value (v.den ρ')) w':=by rw [hre,hargs];exact g6
          simp only [Oper.wp,hr,Oper.upon_value]
          exact hn v σ' ρ' w' g1 g2 g3 g4 g5
        · exact h.elim
      split at h
      · rename_i hlen
        have hb : b = .len:=by cases b <;> simp [isLen] at hlen <;> rfl
        subst hb
        split at h
        · rename_i t ht
          split at h
          · rename_i e hu
            obtain ⟨v,hv,hs⟩:=kO_sat h
            generalize hes : evs σ c.args.toList = es at hv hargs
            unfold builtinC at hv
            split at hv
            · rename_i hh;cases hh
            · rename_i hh;cases hh
            · rename_i id off n cap
              cases hv
              refine fin _ ?_ (fun n => rfl) hs
              rw [hre,hargs]
              have hts : c.argTypes = #[t]:=by apply Array.ext';simpa using ht
              simp [builtin,Builtin.len_,hts,run_underlying hu,V.den,U.den,C.den,goInt]
            · rename_i n cap
              cases hv
              refine fin _ ?_ (fun n => rfl) hs
              rw [hre,hargs]
              have hts : c.argTypes = #[t]:=by apply Array.ext';simpa using ht
              simp [builtin,Builtin.len_,hts,run_underlying hu,V.den,U.den,C.den,goInt]
            · cases hv
          · rename_i kt et hu
            obtain ⟨v,hv,hs⟩:=kO_sat h
            generalize hes : evs σ c.args.toList = es at hv hargs
            unfold lenM at hv
            split at hv
            · rename_i id
              split at hv
              · rename_i b hb
                cases hv
                obtain ⟨_,_,hbh⟩:=hI.H.mblk id b hb
                refine fin _ ?_ (fun n => rfl) hs
                rw [hre,hargs]
                have hts : c.argTypes = #[t]:=by apply Array.ext';simpa using ht
                have hsz : (mden ρ b.1).size = b.1.length:=by simp [mden]
                simp [builtin,Builtin.len_,hts,run_underlying hu,V.den,U.den,C.den,goInt,MapKept.run_getObj_map hbh,hsz]
              · cases hv
            · cases hv
          · exact h.elim
        · exact h.elim
      · rename_i hlen
        split at h
        · rename_i hdel
          have hb : b = .delete:=by cases b <;> simp [isDel] at hdel <;> rfl
          subst hb
          split at h
          · rename_i t r m x hts hxs
            obtain ⟨σ',hσ,hs⟩:=kO_sat h
            have hargs' : c.args.map a.eval = #[a.eval m,a.eval x]:=by
              apply Array.ext'
              rw [Array.toList_map,hxs]
              rfl
            have hts' : c.argTypes[0]? = some t:=by rw [← Array.getElem?_toList,hts];rfl
            obtain ⟨w',e1,e2,e3⟩:=run_delS (ts:=c.argTypes) (ty:=o.type) hI hts' hσ
            have hr : (execOp a.eval o).run P w = .ok (.value (.tuple #[])) w':=by
              rw [hre,hargs']
              exact run_v (s:=Builtin.delete_ c.argTypes o.type #[a.eval m,a.eval x]) e1
            simp only [Oper.wp,hr,Oper.upon_value]
            exact hn (.tup []) σ' ρ w' e2 (Ext.refl _ _) (Nat.le_of_eq e3.symm) rfl hs
          · exact h.elim
        obtain ⟨v,hv,hs⟩:=kO_sat h
        have hl : b ≠ .len:=by intro e;subst e;cases hlen
        obtain ⟨e1,e2⟩:=builtinC_sound (P:=P) hv hl c.argTypes o.type ks ρ w
        exact fin v (by rw [hre,hargs];exact e1) e2 hs
    · rename_i r name hcal
      split at h
      · rename_i t id off hr
        obtain ⟨f,hf,hs⟩:=kO_sat h
        have hd : a.eval r = .iface t (.pointer (some ⟨ρ id,off,none⟩)):=by rw [ev_den hI r,hr];rfl
        have hargs : #[Value.pointer (some ⟨ρ id,off,none⟩)] ++ c.args.map a.eval = ((V.u (.c (.ptr id off)) :: evs σ c.args.toList).map (V.den ρ)).toArray:=by
          apply Array.ext'
          rw [Array.toList_append,Array.toList_map,evs_den hI]
          rfl
        have hrun : (execOp a.eval o).run P w = (callFunc f ((V.u (.c (.ptr id off)) :: evs σ c.args.toList).map (V.den ρ)).toArray).run P w:=by
          unfold execOp
          rw [hop]
          simp only [Sem.run_bind,resolve,hcal,hd,Sem.run_pure,Result.andThen_ok,invoke]
          have e0 : (#[Value.iface t (.pointer (some ⟨ρ id,off,none⟩))] ++ c.args.map a.eval)[0]? = some (Value.iface t (.pointer (some ⟨ρ id,off,none⟩))):=by rw [Array.getElem?_append_left (by simp)];rfl
          have e1 : (#[Value.iface t (.pointer (some ⟨ρ id,off,none⟩))] ++ c.args.map a.eval).extract 1 (#[Value.iface t (.pointer (some ⟨ρ id,off,none⟩))] ++ c.args.map a.eval).size = c.args.map a.eval:=by
            generalize c.args.map a.eval = xs
            apply Array.ext'
            simp [List.extract_eq_take_drop]
          simp only [e0,e1]
          rw [run_callMethod hf,hargs]
        rcases callX_sound hS hih hI hs hn with ⟨⟨fn,hfn,hbody⟩,hcalls⟩ | ⟨v,hv,hnx⟩
        · refine wp_enter (f:=f) (args:=((V.u (.c (.ptr id off)) :: evs σ c.args.toList).map (V.den ρ)).toArray) ?_ hcalls
          rw [hrun]
          exact run_callFunc hN hfn hbody _ _
        · simp only [Oper.wp,hrun,hv,Oper.upon_value]
          exact hnx
      · rename_i v hr
        obtain ⟨hif,h⟩ : isIfV (pl v) = true ∧ (ifX P S ih (pl v) name (evs σ c.args.toList) σ k ifaceTs).sat R:=by
          cases hb : isIfV (pl v) with
          | true => exact ⟨rfl,h.1 hb⟩
          | false => exact (h.2 hb).elim
        have key : ∀ l : List TypeId,(ifX P S ih (pl v) name (evs σ c.args.toList) σ k l).sat R → o.wp P a w next Q:=by
          intro l
          induction l with
          | nil => intro h;exact h.elim
          | cons t l ihl =>
            intro h
            obtain ⟨h1,h2⟩:=h
            cases hb : ifIs t (pl v) with
            | false => exact ihl (h2 hb)
            | true =>
              have h:=h1 hb
              obtain ⟨f,hf,hs⟩:=kO_sat h
              obtain ⟨p,hpv,hpp⟩ : ∃ p : Option Addr,pl v = .iface t (.pointer p) ∧ pv (ifP t (pl v)) 0 = .pointer p:=by
                generalize pl v = u at hif hb
                unfold isIfV at hif
                split at hif
                · cases hb
                · rename_i u'
                  have hb' : Nat.beq u' t = true:=hb
                  have hut:=Nat.eq_of_beq_eq_true hb'
                  subst hut
                  exact ⟨none,rfl,rfl⟩
                · rename_i u' b'
                  have hb' : Nat.beq u' t = true:=hb
                  have hut:=Nat.eq_of_beq_eq_true hb'
                  subst hut
                  refine ⟨some ⟨b',0,none⟩,rfl,?_⟩
                  have hp1 : ((b' : Int) + 1).toNat = b' + 1:=by omega
                  simp [ifP,pv,hp1]
                · cases hif
              have hd : a.eval r = .iface t (.pointer p):=by rw [ev_den hI r,hr];exact hpv
              have hargs : #[Value.pointer p] ++ c.args.map a.eval = ((V.u (.c (.np (ifP t (pl v)) 0)) :: evs σ c.args.toList).map (V.den ρ)).toArray:=by
                apply Array.ext'
                rw [Array.toList_append,Array.toList_map,evs_den hI,List.map_cons]
                show [Value.pointer p] ++ _ = pv (ifP t (pl v)) 0 :: _
                rw [hpp];rfl
              have hrun : (execOp a.eval o).run P w = (callFunc f ((V.u (.c (.np (ifP t (pl v)) 0)) :: evs σ c.args.toList).map (V.den ρ)).toArray).run P w:=by
                unfold execOp
                rw [hop]
                simp only [Sem.run_bind,resolve,hcal,hd,Sem.run_pure,Result.andThen_ok,invoke]
                have e0 : (#[Value.iface t (.pointer p)] ++ c.args.map a.eval)[0]? = some (Value.iface t (.pointer p)):=by rw [Array.getElem?_append_left (by simp)];rfl
                have e1 : (#[Value.iface t (.pointer p)] ++ c.args.map a.eval).extract 1 (#[Value.iface t (.pointer p)] ++ c.args.map a.eval).size = c.args.map a.eval:=by
                  generalize c.args.map a.eval = xs
                  apply Array.ext'
                  simp [List.extract_eq_take_drop]
                simp only [e0,e1]
                rw [run_callMethod hf,hargs]
              rcases callX_sound hS hih hI hs hn with ⟨⟨fn,hfn,hbody⟩,hcalls⟩ | ⟨v',hv,hnx⟩
              · refine wp_enter (f:=f) (args:=((V.u (.c (.np (ifP t (pl v)) 0)) :: evs σ c.args.toList).map (V.den ρ)).toArray) ?_ hcalls
                rw [hrun]
                exact run_callFunc hN hfn hbody _ _
              · simp only [Oper.wp,hrun,hv,Oper.upon_value]
                exact hnx
        exact key _ h
      · exact h.elim
  · rename_i hop
    obtain ⟨v,σ',ρ',w',h1,h2,h3,h4,h5,h6⟩ : OpS P W n0 ρ0 N R ρ σ a w (execOp a.eval o) k:=by
      split at h
      · exact rngX_sound hI h
      · exact opX_sound hI h
    rcases h6 with h6 | ⟨h6,rfl⟩
    · simp only [Oper.wp,h6,Oper.upon_value]
      exact hn v σ' ρ' w' h1 h2 h3 h4 h5
    · simp only [Oper.wp,h6,Oper.upon_skip]
      exact hn (.tup []) σ' ρ' w' h1 h2 h3 h4 h5
end
end Go.Proofs.Ytnlohongffpkpaa.Sx
end

section
namespace Go.Proofs.Ytnlohongffpkpaa.Sx
open Go Go.RowKit
section
variable {P : Program} {S : List Sum} {W : World} {n0 : NL} {ρ0 : Nat → Nat} {N : Nat} {ρ : Nat → Nat} {σ : St} {a : Act} {w : World} {R : Leaf → Prop}
theorem okDst_lt {d : Option Tmp} (h : okDst N d = true) : ∀ d',d = some d' → d' < N:=by
  intro d' e;subst e;simpa [okDst] using h
theorem yielded_of {ops : Array Oper} {j t : Nat} {b : Bool} (hI : Inv W n0 ρ0 N ρ σ a w) (hg : guardTmp ops j = some t) (ht : t < N) (hb : (look σ.tm t).den ρ = .bool b) : yielded ops a.tmps j = some b:=by
  have h1 : (ops[j]?).bind (·.dst) = some t:=by
    unfold guardTmp at hg
    split at hg
    · rename_i o ho;rw [ho];exact hg
    · cases hg
  have h2 : a.tmps[t]? = some (.bool b):=by
    have e:=hI.tm t
    rw [hb] at e
    have hlt : t < a.tmps.size:=by rw [hI.sz];exact ht
    rw [Array.getElem?_eq_getElem hlt]
    rw [Array.getD_eq_getD_getElem?,Array.getElem?_eq_getElem hlt] at e
    simpa using e
  simp [yielded,h1,h2]
theorem yielded_undef {ops : Array Oper} {j t : Nat} (hI : Inv W n0 ρ0 N ρ σ a w) (hg : guardTmp ops j = some t) (ht : t < N) (hb : (look σ.tm t).den ρ = .tuple #[]) : yielded ops a.tmps j = none:=by
  have h1 : (ops[j]?).bind (·.dst) = some t:=by
    unfold guardTmp at hg
    split at hg
    · rename_i o ho;rw [ho];exact hg
    · cases hg
  have h2 : a.tmps[t]? = some (.tuple #[]):=by
    have e:=hI.tm t
    rw [hb] at e
    have hlt : t < a.tmps.size:=by rw [hI.sz];exact ht
    rw [Array.getElem?_eq_getElem hlt]
    rw [Array.getD_eq_getD_getElem?,Array.getElem?_eq_getElem hlt] at e
    simpa using e
  simp [yielded,h1,h2]
def wpSeq (P : Program) (ops : Array Oper) (Q : Exit → Act → World → Prop) (Kc : Act → World → Prop) : List Oper → Act → World → Prop
  | [],a,w => Kc a w
  | o :: rest,a,w => if Region.wanted o (yielded ops a.tmps) then o.wp P a w (wpSeq P ops Q Kc rest) Q ∨ (o.asks P a w ∧ LetsOut Q) else wpSeq P ops Q Kc rest (a.put o.dst undef) w
theorem wpSeq_list {P : Program} {ops : Array Oper} {Q : Exit → Act → World → Prop} : ∀ (l : List Oper),wpSeq P ops Q (Q .normal) l = wpList P ops Q l
  | [] => rfl
  | o :: l => by
    funext a w
    simp only [wpSeq,wpList,wpSeq_list l]
theorem opsx_seq (hN : NameOK P) (hS : ∀ q ∈ S,SumOK P q) {ih : Nat → Code → St → K → Tr} (hih : Snd P ih) (ops : Array Oper) {k : St → Tr} {Q : Exit → Act → World → Prop} {Kc : Act → World → Prop} :
    ∀ (l : List Oper) (σ : St) (ρ : Nat → Nat) (a : Act) (w : World),Inv W n0 ρ0 N ρ σ a w → (opsx P S ih N ops l σ k).sat R →
      (∀ σ' ρ' a' w',Inv W n0 ρ0 N ρ' σ' a' w' → Ext σ.n ρ ρ' → σ.n ≤ σ'.n → (k σ').sat R → Kc a' w') → wpSeq P ops Q Kc l a w:=by
  intro l
  induction l with
  | nil => intro σ ρ a w hI h hk;exact hk σ ρ a w hI (Ext.refl _ _) (Nat.le_refl _) h
  | cons o rest ihl =>
    intro σ ρ a w hI h hk
    simp only [opsx] at h
    split at h
    · exact h.elim
    · rename_i hd
      have hd':=okDst_lt hd
      have run : ∀ σ1 : St,Inv W n0 ρ0 N ρ σ1 a w → σ1.n = σ.n → Region.wanted o (yielded ops a.tmps) = true →
          (opAny P S ih o σ1 fun v σ' => opsx P S ih N ops rest (σ'.put o.dst v) k).sat R → wpSeq P ops Q Kc (o :: rest) a w:=by
        intro σ1 hI1 hn hw hs
        unfold wpSeq
        rw [if_pos hw]
        refine .inl (opAny_sound hN hS hih hI1 hs ?_)
        intro v σ' ρ' w' hI' hE hle hv hs'
        have hp:=hI'.put o.dst v hd' hv
        rw [hn] at hE hle
        have hn' : (σ'.put o.dst v).n = σ'.n:=by unfold St.put;split <;> rfl
        exact ihl _ ρ' _ w' hp hs' fun σ2 ρ2 a2 w2 hI2 hE2 hle2 hk2 => hk σ2 ρ2 a2 w2 hI2 (hE.trans (by rw [hn'];exact hle) hE2) (by omega) hk2
      have skip : ∀ σ1 : St,Inv W n0 ρ0 N ρ σ1 a w → σ1.n = σ.n → Region.wanted o (yielded ops a.tmps) = false →
          (opsx P S ih N ops rest (σ1.put o.dst (.tup [])) k).sat R → wpSeq P ops Q Kc (o :: rest) a w:=by
        intro σ1 hI1 hn hw hs
        unfold wpSeq
        rw [if_neg (by simp [hw])]
        have hp:=hI1.put o.dst (.tup []) hd' rfl
        have hn' : (σ1.put o.dst (.tup [])).n = σ1.n:=by unfold St.put;split <;> rfl
        exact ihl _ ρ _ w hp hs fun σ2 ρ2 a2 w2 hI2 hE2 hle2 hk2 => hk σ2 ρ2 a2 w2 hI2 (by rw [hn',hn] at hE2;exact hE2) (by omega) hk2
      split at h
      · rename_i hg
        exact run σ hI rfl (by simp [Region.wanted,hg]) h
      · rename_i j want hg
        split at h
        · exact h.elim
        · rename_i t hgt
          split at h
          · exact h.elim
          · rename_i ht
            have ht' : t < N:=by simpa using ht
            split at h
            · rename_i b hb
              have hy:=yielded_of hI hgt ht' (b:=b) (by rw [hb];rfl)
              split at h
              · rename_i hbw
                exact run σ hI rfl (by simp only [Region.wanted,hg,hy];simpa using hbw) h
              · rename_i hbw
                exact skip σ hI rfl (by simp only [Region.wanted,hg,hy];simpa using hbw) h
            · rename_i b hb
              have hy:=yielded_of hI hgt ht' (b:=b) (by rw [hb];rfl)
              have fin : ∀ c : Bool,b = c → (match c == want with
                  | true => opAny P S ih o (retell σ (.tmp t) c) fun v σ' => opsx P S ih N ops rest (σ'.put o.dst v) k
                  | false => opsx P S ih N ops rest ((retell σ (.tmp t) c).put o.dst (.tup [])) k).sat R → wpSeq P ops Q Kc (o :: rest) a w:=by
                intro c hc hs
                subst hc
                have hI1 : Inv W n0 ρ0 N ρ (retell σ (.tmp t) b) a w:=hI.retell t _ rfl (by rw [hb];rfl)
                split at hs
                · rename_i hbw
                  exact run _ hI1 rfl (by simp only [Region.wanted,hg,hy];simpa using hbw) hs
                · rename_i hbw
                  exact skip _ hI1 rfl (by simp only [Region.wanted,hg,hy];simpa using hbw) hs
              obtain ⟨h1,h2⟩:=h
              cases hbb : b with
              | true => exact fin true hbb (h1 hbb)
              | false => exact fin false hbb (h2 hbb)
            · rename_i hb
              have hy:=yielded_undef hI hgt ht' (by rw [hb];rfl)
              exact skip σ hI rfl (by simp [Region.wanted,hg,hy]) h
            · exact h.elim
theorem opsx_sound (hN : NameOK P) (hS : ∀ q ∈ S,SumOK P q) {ih : Nat → Code → St → K → Tr} (hih : Snd P ih) (ops : Array Oper) {k : St → Tr} {Q : Exit → Act → World → Prop} :
    ∀ (l : List Oper) (σ : St) (ρ : Nat → Nat) (a : Act) (w : World),Inv W n0 ρ0 N ρ σ a w → (opsx P S ih N ops l σ k).sat R →
      (∀ σ' ρ' a' w',Inv W n0 ρ0 N ρ' σ' a' w' → Ext σ.n ρ ρ' → σ.n ≤ σ'.n → (k σ').sat R → Q .normal a' w') → wpList P ops Q l a w:=by
  intro l σ ρ a w hI h hk
  rw [← wpSeq_list]
  exact opsx_seq hN hS hih ops l σ ρ a w hI h hk
theorem loopx_sound {ih : Nat → Code → St → K → Tr} (hih : Snd P ih) (x : Code) {k : K} {Q : Exit → Act → World → Prop} : ∀ (m : Nat) (σ : St) (ρ : Nat → Nat) (a : Act) (w : World),
    Inv W n0 ρ0 N ρ σ a w → (loopx ih N x k m σ).sat R →
    (∀ e σ' ρ' a' w',Inv W n0 ρ0 N ρ' σ' a' w' → Ext σ.n ρ ρ' → σ.n ≤ σ'.n → (k e σ').sat R → Q e.to a' w') → Code.rounds P x Q m a w:=by
  intro m
  induction m with
  | zero => intro σ ρ a w _ h _;exact h.elim
  | succ m ihm =>
    intro σ ρ a w hI h hk
    rw [rounds_succ]
    simp only [loopx] at h
    refine hih W n0 ρ0 N R x σ _ ρ a w _ hI h ?_
    intro e σ' ρ' a' w' h1 h2 h3 h4
    cases e with
    | normal => exact ihm σ' ρ' a' w' h1 h4 fun e2 σ2 ρ2 a2 w2 g1 g2 g3 g4 => hk e2 σ2 ρ2 a2 w2 g1 (h2.trans h3 g2) (by omega) g4
    | exit id => exact hk (.exit id) σ' ρ' a' w' h1 h2 h3 h4
    | ret => exact hk .ret σ' ρ' a' w' h1 h2 h3 h4
theorem samePtrs_eq : ∀ {l r : List (Nat × Nat)},samePtrs l r = true → l = r
  | [],[],_ => rfl
  | (a,b) :: l,(c,d) :: r,h => by
    simp only [samePtrs,Bool.and_eq_true] at h
    obtain ⟨⟨h1,h2⟩,h3⟩:=h
    rw [Nat.eq_of_beq_eq_true h1,Nat.eq_of_beq_eq_true h2,samePtrs_eq h3]
theorem eqP_eq {c c' : C} (h : eqP c c' = true) : c = c':=by
  unfold eqP at h
  split at h
  all_goals first
    | rfl
    | (cases h;done)
    | rw [Nat.eq_of_beq_eq_true h]
    | (simp only [Bool.and_eq_true] at h
       first
         | (obtain ⟨⟨⟨h1,h2⟩,h3⟩,h4⟩:=h;rw [Nat.eq_of_beq_eq_true h1,Nat.eq_of_beq_eq_true h2,Nat.eq_of_beq_eq_true h3,Nat.eq_of_beq_eq_true h4])
         | (obtain ⟨⟨h1,h2⟩,h3⟩:=h;rw [Nat.eq_of_beq_eq_true h1,Nat.eq_of_beq_eq_true h2,Nat.eq_of_beq_eq_true h3])
         | (obtain ⟨h1,h2⟩:=h;rw [Nat.eq_of_beq_eq_true h1,samePtrs_eq h2])
         | (obtain ⟨h1,h2⟩:=h;rw [Nat.eq_of_beq_eq_true h1,Nat.eq_of_beq_eq_true h2]))
theorem pl_pl (v : Value) : pl (pl v) = pl v:=by cases v <;> rfl
theorem cls_raw {v : Value} : clsC (.raw v) = .f ∨ clsC (.raw v) = .v v ∧ pl v = v:=by
  unfold clsC
  split
  all_goals first
    | (rename_i e;cases e;done)
    | (rename_i e;cases e;exact .inr ⟨rfl,rfl⟩)
    | exact .inl rfl
theorem cls_v {c : C} {x : Value} (h : clsC c = .v x) (ρ : Nat → Nat) : c.den ρ = x ∧ pl x = x:=by
  cases c with
  | raw v =>
    rcases cls_raw (v:=v) with e | ⟨e,e2⟩
    · rw [e] at h;cases h
    · rw [e] at h;cases h;exact ⟨rfl,e2⟩
  | np p off => simp only [clsC] at h;split at h <;> cases h
  | sv v => cases h;exact ⟨rfl,pl_pl _⟩
  | _ => cases h
def nval : Option IntKind → Int → Value
  | some k,x => .int k x
  | none,x => pv x 0
theorem cls_n {c : C} {k : Option IntKind} {x : Int} (h : clsC c = .n k x) (ρ : Nat → Nat) : c.den ρ = nval k x:=by
  cases c with
  | raw v =>
    rcases cls_raw (v:=v) with e | ⟨e,e2⟩
    · rw [e] at h;cases h
    · rw [e] at h;cases h
  | np p off =>
    simp only [clsC] at h
    split at h
    · rename_i e;cases h;rw [Nat.eq_of_beq_eq_true e];rfl
    · cases h
  | li k n => cases h;rfl
  | si k n => cases h;rfl
  | nilp => cases h;rfl
  | _ => cases h
theorem cls_t {c : C} {b : Bool} (h : clsC c = .t b) (ρ : Nat → Nat) : c.den ρ = .bool b:=by
  cases c with
  | raw v =>
    rcases cls_raw (v:=v) with e | ⟨e,e2⟩
    · rw [e] at h;cases h
    · rw [e] at h;cases h
  | np p off => simp only [clsC] at h;split at h <;> cases h
  | lb k => cases h;rfl
  | sb k => cases h;rfl
  | _ => cases h
theorem fitC_den {c c' : C} {a : Vars} (h : fitC c c' = some a) (r : Vars) (ρ : Nat → Nat) :
    (iC c (vcat a r)).den ρ = c'.den ρ ∧ rC c (vcat a r) = r ∧ ∀ n,c'.wf n = true → (iC c (vcat a r)).wf n = true:=by
  unfold fitC at h
  split at h
  · rename_i k0 x0 k x hc hc'
    split at h
    · rename_i hk
      have hk:=of_decide_eq_true hk
      subst hk
      cases h
      rw [cls_n hc' ρ]
      simp only [iC,rC,hc]
      cases k0 <;> exact ⟨rfl,rfl,fun _ _ => rfl⟩
    · cases h
  · rename_i b0 b hc hc'
    cases h
    rw [cls_t hc' ρ]
    simp only [iC,rC,hc]
    exact ⟨rfl,rfl,fun _ _ => rfl⟩
  · rename_i x0 x hc hc'
    cases h
    obtain ⟨e1,e2⟩:=cls_v hc' ρ
    rw [e1]
    simp only [iC,rC,hc]
    exact ⟨e2,rfl,fun _ _ => rfl⟩
  · rename_i hc hc'
    split at h
    · rename_i he
      have he:=eqP_eq he
      cases h
      subst he
      have e1 : ∀ y,iC c y = c:=fun y => by simp only [iC,hc]
      have e2 : ∀ y,rC c y = y:=fun y => by simp only [rC,hc]
      rw [e1,e2]
      exact ⟨rfl,rfl,fun _ hw => hw⟩
    · cases h
  · cases h
theorem vcat_assoc (p q r : Vars) : vcat (vcat p q) r = vcat p (vcat q r):=by simp [vcat]
theorem vcat_nil (p : Vars) (m : Mem) : vcat p ⟨[],[],[],m⟩ = ⟨p.i,p.b,p.v,m⟩:=by simp [vcat]
theorem fitL_den (ρ : Nat → Nat) : ∀ {l l' : List C} {a : Vars},fitL l l' = some a → ∀ (r : Vars),
    (iL l (vcat a r)).map (C.den ρ) = l'.map (C.den ρ) ∧ dL l (vcat a r) = r ∧ ∀ n,l'.all (C.wf n) = true → (iL l (vcat a r)).all (C.wf n) = true
  | [],[],a,h,r => by
    cases h
    exact ⟨rfl,rfl,fun _ _ => rfl⟩
  | c :: l,c' :: l',a,h,r => by
    simp only [fitL] at h
    split at h
    · rename_i p q hp hq
      cases h
      obtain ⟨h1,h2,h4⟩:=fitC_den hp (vcat q r) ρ
      obtain ⟨g1,g2,g4⟩:=fitL_den ρ hq r
      simp only [iL,dL,vcat_assoc,h2]
      refine ⟨by simp [h1,g1],g2,fun n hw => ?_⟩
      simp only [List.all_cons,Bool.and_eq_true] at hw ⊢
      exact ⟨h4 n hw.1,g4 n hw.2⟩
    · cases h
theorem fitS_den (ρ : Nat → Nat) : ∀ {l l' : List (List C)} {a : Vars},fitS l l' = some a → ∀ (r : Vars),
    (iS l (vcat a r)).map (List.map (C.den ρ)) = l'.map (List.map (C.den ρ)) ∧ ∀ n,wfS n l' = true → wfS n (iS l (vcat a r)) = true
  | [],[],a,h,r => by
    cases h
    exact ⟨rfl,fun _ _ => rfl⟩
  | c :: l,c' :: l',a,h,r => by
    simp only [fitS] at h
    split at h
    · rename_i p q hp hq
      cases h
      obtain ⟨h1,h2,h4⟩:=fitL_den ρ hp (vcat q r)
      obtain ⟨g1,g4⟩:=fitS_den ρ hq r
      simp only [iS,vcat_assoc,h2]
      refine ⟨by simp [h1,g1],fun n hw => ?_⟩
      simp only [wfS,List.all_cons,Bool.and_eq_true] at hw ⊢
      exact ⟨h4 n hw.1,g4 n hw.2⟩
    · cases h
theorem look_junk (j : Nat → Value) (t : Nat) : ∀ (l : List Nat),look (l.map fun t => (t,V.u (.c (.raw (j t))))) t = if t ∈ l then V.u (.c (.raw (j t))) else .tup []
  | [] => rfl
  | i :: l => by
    simp only [List.map_cons,look]
    by_cases e : i = t
    · subst e;simp
    · rw [Nat.beq_eq_false_iff.2 e]
      simp only [look_junk j t l,List.mem_cons,Ne.symm e,false_or]
theorem unitOf_den {σ' : St} {t : Tmp} {ag : Bool} {c c' : List C} (ρ : Nat → Nat) (hv : slotC σ' (.t t ag) = some c') (h : c.map (C.den ρ) = c'.map (C.den ρ)) : (unitOf ag c).den ρ = (look σ'.tm t).den ρ:=by
  simp only [slotC] at hv
  split at hv
  · rename_i x hx
    cases hv
    rw [hx]
    cases c with
    | nil => cases h
    | cons y c =>
      cases c with
      | nil => simpa [unitOf,V.den,U.den] using h
      | cons z c => simp at h
  · rename_i xs hx
    cases hv
    rw [hx]
    have : unitOf true c = .u (.agg c):=by cases c with | nil => rfl | cons y c => cases c <;> rfl
    rw [this]
    simp only [V.den,U.den,dens,h]
  · cases hv
theorem unitOf_wf {n : Nat} {ag : Bool} {c : List C} (h : c.all (C.wf n) = true) : (unitOf ag c).wf n = true:=by
  unfold unitOf
  split
  · simpa [V.wf,U.wf] using h
  · simpa [V.wf,U.wf] using h
theorem canT_look {σ' : St} (ρ : Nat → Nat) {r : List (Nat × V)} {t : Nat} (hr : (look r t).den ρ = (look σ'.tm t).den ρ) : ∀ {sl : List Slot} {cs cs' : List (List C)},slotsC σ' sl = some cs' → cs.map (List.map (C.den ρ)) = cs'.map (List.map (C.den ρ)) →
    (look (canT sl cs ++ r) t).den ρ = (look σ'.tm t).den ρ
  | [],cs,cs',_,_ => by cases cs <;> exact hr
  | s :: sl,cs,cs',h,hm => by
    simp only [slotsC] at h
    split at h
    · rename_i c' l' hc hl
      cases h
      match cs,hm with
      | c :: cs,hm =>
        simp only [List.map_cons,List.cons.injEq] at hm
        cases s with
        | t t0 ag =>
          simp only [canT,List.cons_append,look]
          by_cases e : t0 = t
          · subst e
            simp only [Nat.beq_refl]
            exact unitOf_den ρ hc hm.1
          · rw [Nat.beq_eq_false_iff.2 e]
            exact canT_look ρ hr hl hm.2
        | b id ty => exact canT_look (sl:=sl) ρ hr hl hm.2
    · cases h
theorem canT_wf {n : Nat} : ∀ {sl : List Slot} {cs : List (List C)},wfS n cs = true → ∀ q ∈ canT sl cs,q.2.wf n = true
  | [],cs,_,q,hq => by cases cs <;> cases hq
  | s :: sl,[],_,q,hq => by cases s <;> cases hq
  | s :: sl,c :: cs,h,q,hq => by
    simp only [wfS,List.all_cons,Bool.and_eq_true] at h
    cases s with
    | t t0 ag =>
      simp only [canT,List.mem_cons] at hq
      rcases hq with rfl | hq
      · exact unitOf_wf h.1
      · exact canT_wf h.2 q hq
    | b id ty => exact canT_wf (sl:=sl) h.2 q hq
theorem canH_m (kb : List (Nat × Blk)) (lim : Nat) (x : Mem) (wr : Bool) (mt : List Nat) : ∀ (sl : List Slot) (cs : List (List C)),(canH kb lim x wr mt sl cs).m = [] ∧ (canH kb lim x wr mt sl cs).lim = lim ∧ (canH kb lim x wr mt sl cs).x = x ∧ (canH kb lim x wr mt sl cs).wr = wr
  | [],cs => by cases cs <;> exact ⟨rfl,rfl,rfl,rfl⟩
  | s :: sl,[] => by cases s <;> exact ⟨rfl,rfl,rfl,rfl⟩
  | s :: sl,c :: cs => by cases s <;> exact canH_m kb lim x wr mt sl cs
theorem keptB_look {σ' : St} {i : Nat} {b : Blk} : ∀ {kb : List (Nat × Blk)},isB' σ' kb → lookL kb i = some b → lookH σ'.hp i = some b ∧ (i,b) ∈ kb
  | [],_,h => by cases h
  | (j,c) :: r,hk,h => by
    simp only [lookL] at h
    split at h
    · rename_i e
      have e:=Nat.eq_of_beq_eq_true e
      subst e
      cases h
      exact ⟨hk.1,by simp⟩
    · obtain ⟨g1,g2⟩:=keptB_look hk.2 h
      exact ⟨g1,by simp [g2]⟩
theorem kept_look {σ' : St} (ρ : Nat → Nat) {j : List (Nat × V)} {t : Nat} (hr : (look j t).den ρ = (look σ'.tm t).den ρ) : ∀ {kt : List (Nat × V)},isT σ' kt → (look (kt ++ j) t).den ρ = (look σ'.tm t).den ρ
  | [],_ => hr
  | (i,v) :: r,h => by
    simp only [List.cons_append,look]
    by_cases e : i = t
    · subst e
      simp only [Nat.beq_refl]
      rw [show look σ'.tm i = v from h.1]
    · rw [Nat.beq_eq_false_iff.2 e]
      exact kept_look ρ hr h.2
theorem canH_look {σ' : St} (ρ : Nat → Nat) {kb : List (Nat × Blk)} {lim n : Nat} {x : Mem} {wr : Bool} {mt : List Nat} {i : Nat} {b : Blk} (hkb : isB' σ' kb) (hkw : ∀ q ∈ kb,q.1 < n ∧ q.2.1.all (C.wf n) = true) : ∀ {sl : List Slot} {cs cs' : List (List C)},slotsC σ' sl = some cs' → cs.map (List.map (C.den ρ)) = cs'.map (List.map (C.den ρ)) → wfS n cs = true → (∀ id ty,Slot.b id ty ∈ sl → id < n) →
    lookH (canH kb lim x wr mt sl cs) i = some b → ∃ b',lookH σ'.hp i = some b' ∧ b'.2 = b.2 ∧ b.1.map (C.den ρ) = b'.1.map (C.den ρ) ∧ b.1.all (C.wf n) = true ∧ i < n
  | [],cs,cs',_,_,_,_,hb => by
    replace hb : lookL kb i = some b:=by cases cs <;> exact hb
    obtain ⟨g1,g2⟩:=keptB_look hkb hb
    obtain ⟨g3,g4⟩:=hkw _ g2
    exact ⟨b,g1,rfl,rfl,g4,g3⟩
  | s :: sl,cs,cs',h,hm,hw,hlt,hb => by
    simp only [slotsC] at h
    split at h
    · rename_i c' l' hc hl
      cases h
      match cs,hm with
      | c :: cs,hm =>
        simp only [List.map_cons,List.cons.injEq] at hm
        simp only [wfS,List.all_cons,Bool.and_eq_true] at hw
        cases s with
        | t t0 ag => exact canH_look ρ hkb hkw hl hm.2 hw.2 (fun id ty hs => hlt id ty (by simp [hs])) hb
        | b id ty =>
          simp only [canH,lookH_hcons] at hb
          split at hb
          · rename_i e
            have e:=Nat.eq_of_beq_eq_true e
            subst e
            cases hb
            simp only [slotC] at hc
            split at hc
            · rename_i b' hb'
              split at hc
              · rename_i hty
                cases hc
                exact ⟨b',hb',Nat.eq_of_beq_eq_true hty,hm.1,hw.1,hlt id ty (by simp)⟩
              · cases hc
            · cases hc
          · exact canH_look ρ hkb hkw hl hm.2 hw.2 (fun id ty hs => hlt id ty (by simp [hs])) hb
    · cases h
structure KeptOK (n : Nat) (kt : Kept) : Prop where
  t : ∀ q ∈ kt.t,q.2.wf n = true
  b : ∀ q ∈ kt.b,q.1 < n ∧ q.2.1.all (C.wf n) = true
theorem canon_inv {σ' : St} {a' : Act} {w' : World} {n : Nat} {kt : Kept} {sl : List Slot} {cs cs' : List (List C)} (hI : Inv W n0 ρ0 N ρ σ' a' w') (hn : n ≤ σ'.n) (h0 : n0.n ≤ n) (hkt : isT σ' kt.t) (hkb : isB' σ' kt.b) (hk : KeptOK n kt) (hs : slotsC σ' sl = some cs') (hm : cs.map (List.map (C.den ρ)) = cs'.map (List.map (C.den ρ)))
    (hw : wfS n cs = true) (hlt : ∀ id ty,Slot.b id ty ∈ sl → id < n) {lim : Nat} {mt : List Nat} (hlim : lim = n0.l) : Inv W n0 ρ0 N ρ (canon N n lim σ'.hp.x σ'.hp.wr mt kt sl cs (fun t => a'.tmps.getD t undef)) a' w':=by
  refine ⟨hI.defers,hI.sz,fun t => ?_,fun q hq => ?_,?_⟩
  · rw [hI.tm t]
    refine (canT_look ρ (kept_look ρ ?_ hkt) hs hm).symm
    rw [junk,look_junk,← hI.tm t]
    split
    · rfl
    · rename_i hlt'
      have : a'.tmps.size ≤ t:=by rw [hI.sz];simpa using hlt'
      rw [Array.getD_eq_getD_getElem?,Array.getElem?_eq_none this]
      rfl
  · simp only [canon,junk,List.mem_append,List.mem_map] at hq
    rcases hq with hq | hq | ⟨t,_,rfl⟩
    · exact canT_wf hw q hq
    · exact hk.t q hq
    · rfl
  · obtain ⟨c1,c2,c3,c4⟩:=canH_m kt.b lim σ'.hp.x σ'.hp.wr mt sl cs
    refine ⟨fun i hi => hI.H.lt i (Nat.lt_of_lt_of_le hi hn),fun i j hi hj => hI.H.inj i j (Nat.lt_of_lt_of_le hi hn) (Nat.lt_of_lt_of_le hj hn),fun i b hb => ?_,h0,hI.H.old,fun i h1 h2 => hI.H.new i h1 (Nat.lt_of_lt_of_le h2 hn),hI.H.os,hI.H.tape,hI.H.output,hI.H.size,hI.H.far,fun i m hm' => ?_,c2.trans hlim,?_⟩
    · obtain ⟨b',g1,g2,g3,g4,g5⟩:=canH_look ρ hkb hk.b hs hm hw hlt hb
      obtain ⟨_,_,g6⟩:=hI.H.blk i b' g1
      exact ⟨g5,g4,by rw [g6,g2,dens,dens,g3]⟩
    · replace hm' : lookL (canH kt.b lim σ'.hp.x σ'.hp.wr mt sl cs).m i = some m:=hm'
      rw [c1] at hm'
      cases hm'
    · show MR W n0.x (canH kt.b lim σ'.hp.x σ'.hp.wr mt sl cs).wr (canH kt.b lim σ'.hp.x σ'.hp.wr mt sl cs).x ρ n w'
      rw [c3,c4]
      exact ⟨hI.H.mem.sub,fun a o e i hi => hI.H.mem.sep a o e i (Nat.lt_of_lt_of_le hi hn),hI.H.mem.dom⟩
theorem keptT_self (σ : St) : ∀ (l : List Tmp),isT σ (keptT σ l)
  | [] => trivial
  | t :: r => ⟨rfl,keptT_self σ r⟩
theorem keptB_self (σ : St) : ∀ (l : List Nat),isB' σ (keptB σ l)
  | [] => trivial
  | i :: r => by
    simp only [keptB]
    split
    · rename_i b hb;exact ⟨hb,keptB_self σ r⟩
    · exact keptB_self σ r
theorem keptT_wf {σ : St} {n : Nat} (h : ∀ q ∈ σ.tm,q.2.wf n = true) : ∀ (l : List Tmp) (q : Nat × V),q ∈ keptT σ l → q.2.wf n = true
  | [],q,hq => by cases hq
  | t :: r,q,hq => by
    simp only [keptT,List.mem_cons] at hq
    rcases hq with rfl | hq
    · exact look_wf h t
    · exact keptT_wf h r q hq
theorem keptB_mem {σ : St} : ∀ {l : List Nat} {q : Nat × Blk},q ∈ keptB σ l → lookH σ.hp q.1 = some q.2
  | [],q,hq => by cases hq
  | i :: r,q,hq => by
    simp only [keptB] at hq
    split at hq
    · rename_i b hb
      rcases List.mem_cons.1 hq with rfl | hq
      · exact hb
      · exact keptB_mem hq
    · exact keptB_mem hq
theorem bSlots_mem {σ : St} {id ty : Nat} : ∀ {l : List Nat},Slot.b id ty ∈ bSlots σ l → id ∈ l
  | [],h => by cases h
  | i :: l,h => by
    simp only [bSlots] at h
    split at h
    · rcases List.mem_cons.1 h with e | h
      · cases e;simp
      · exact List.mem_cons_of_mem _ (bSlots_mem h)
    · exact List.mem_cons_of_mem _ (bSlots_mem h)
theorem tSlots_nob {σ : St} {id ty : Nat} : ∀ {l : List Tmp} {ts : List Slot},tSlots σ l = some ts → Slot.b id ty ∉ ts
  | [],ts,h => by cases h;simp
  | t :: l,ts,h => by
    simp only [tSlots] at h
    split at h
    · rename_i hl;cases h;simp [tSlots_nob hl]
    · rename_i hl;cases h;simp [tSlots_nob hl]
    · cases h
theorem bSlots_lt {σ : St} {id ty : Nat} : ∀ {l : List Nat},Slot.b id ty ∈ bSlots σ l → ∃ b,lookH σ.hp id = some b
  | [],h => by cases h
  | i :: l,h => by
    simp only [bSlots] at h
    split at h
    · rename_i b hb
      rcases List.mem_cons.1 h with e | h
      · cases e;exact ⟨b,hb⟩
      · exact bSlots_lt h
    · exact bSlots_lt h
theorem lpx_sound {ih : Nat → Code → St → K → Tr} (hih : Snd P ih) {x : Code} {lt : LT} {k : K} {Q : Exit → Act → World → Prop} {σ : St} {ρ : Nat → Nat} {a : Act} {w : World}
    (hI : Inv W n0 ρ0 N ρ σ a w) (h : (lpx ih N x lt σ k).sat R)
    (hk : ∀ e σ' ρ' a' w',Inv W n0 ρ0 N ρ' σ' a' w' → Ext σ.n ρ ρ' → σ.n ≤ σ'.n → (k e σ').sat R → Q e.to a' w') : (Code.loop x).wp P Q a w:=by
  unfold lpx at h
  obtain ⟨ts,hts,h⟩:=kO_sat h
  obtain ⟨cs,hcs,h⟩:=kO_sat h
  obtain ⟨q,hq,h⟩:=kO_sat h
  split at h
  case h_2 => exact h.elim
  rename_i hwf _
  obtain ⟨I,μ,hI0,hbody⟩:=h
  have hlt : ∀ id ty,Slot.b id ty ∈ ts ++ bSlots σ lt.bv → id < σ.n:=by
    intro id ty hm
    rcases List.mem_append.1 hm with hm | hm
    · exact absurd hm (tSlots_nob hts)
    · obtain ⟨b,hb⟩:=bSlots_lt hm
      exact (hI.H.blk id b hb).1
  have hkept : KeptOK σ.n ⟨keptT σ lt.tk,keptB σ lt.bk⟩:=⟨keptT_wf hI.tmwf lt.tk,fun q hq => ⟨(hI.H.blk _ _ (keptB_mem hq)).1,(hI.H.blk _ _ (keptB_mem hq)).2.1⟩⟩
  have key : ∀ (m : Nat) (y : Vars) (j : Nat → Value) (ρ' : Nat → Nat) (a' : Act) (w' : World),I y → μ y < m → Inv W n0 ρ0 N ρ' (canon N σ.n σ.hp.lim y.m σ.hp.wr σ.hp.mt ⟨keptT σ lt.tk,keptB σ lt.bk⟩ (ts ++ bSlots σ lt.bv) (iS cs y) j) a' w' → Ext σ.n ρ ρ' → Code.rounds P x Q m a' w':=by
    intro m
    induction m with
    | zero => intro y j ρ' a' w' _ hlt';exact absurd hlt' (Nat.not_lt_zero _)
    | succ m ihm =>
      intro y j ρ' a' w' hIx hμ hInv hE
      rw [rounds_succ]
      refine hih W n0 ρ0 N _ x _ _ ρ' a' w' _ hInv (hbody y j hIx) ?_
      intro e σ2 ρ2 a2 w2 h1 h2 h3 h4
      have hE2 : Ext σ.n ρ ρ2:=hE.trans (Nat.le_refl _) h2
      cases e with
      | normal =>
        obtain ⟨cs2,hcs2,h4⟩:=kO_sat h4
        obtain ⟨q2,hq2,h4⟩:=kO_sat h4
        split at h4
        · rename_i hwf2 hwr
          replace hwr:=beqB_eq hwr
          obtain ⟨⟨k1,k2⟩,g1,g2⟩:=h4
          replace k1 : isT σ2 (keptT σ lt.tk):=by rw [← k1];exact keptT_self σ2 lt.tk
          replace k2 : isB' σ2 (keptB σ lt.bk):=by rw [← k2];exact keptB_self σ2 lt.bk
          obtain ⟨f1,f2⟩:=fitS_den ρ2 hq2 ⟨[],[],[],σ2.hp.x⟩
          rw [vcat_nil] at f1 f2
          exact ihm ⟨q2.i,q2.b,q2.v,σ2.hp.x⟩ _ ρ2 a2 w2 g1 (by omega) (hwr ▸ canon_inv h1 h3 hI.H.le k1 k2 hkept hcs2 f1 (f2 _ hwf2) hlt hI.H.lim) hE2
        · exact h4.elim
      | exit id => exact hk (.exit id) σ2 ρ2 a2 w2 h1 hE2 h3 (mapL_sat (k (.exit id) σ2) .up _ h4)
      | ret => exact hk .ret σ2 ρ2 a2 w2 h1 hE2 h3 (mapL_sat (k .ret σ2) .up _ h4)
  obtain ⟨f1,f2⟩:=fitS_den ρ hq ⟨[],[],[],σ.hp.x⟩
  rw [vcat_nil] at f1 f2
  exact wp_loop_rounds (μ ⟨q.i,q.b,q.v,σ.hp.x⟩ + 1) (key _ ⟨q.i,q.b,q.v,σ.hp.x⟩ _ ρ a w hI0 (Nat.lt_succ_self _) (canon_inv hI (Nat.le_refl _) hI.H.le (keptT_self σ lt.tk) (keptB_self σ lt.bk) hkept hcs f1 (f2 _ hwf) hlt hI.H.lim) (Ext.refl _ _))
theorem slLt_lt {n : Nat} : ∀ {l : List Slot} {id ty : Nat},slLt n l = true → Slot.b id ty ∈ l → id < n
  | [],_,_,_,h => by cases h
  | .t _ _ :: r,id,ty,hl,h => by
    rcases List.mem_cons.1 h with e | h
    · cases e
    · exact slLt_lt (l:=r) hl h
  | .b i t :: r,id,ty,hl,h => by
    simp only [slLt,Bool.and_eq_true] at hl
    rcases List.mem_cons.1 h with e | h
    · cases e;have h1:=hl.1;rw [Nat.blt_eq] at h1;exact h1
    · exact slLt_lt hl.2 h
theorem cutx_sound {ih : Nat → Code → St → K → Tr} (hih : Snd P ih) {x y : Code} {c : CT} {k : K} {Q : Exit → Act → World → Prop} {σ : St} {ρ : Nat → Nat} {a : Act} {w : World}
    (hI : Inv W n0 ρ0 N ρ σ a w) (h : (cutx ih N x y c σ k).sat R)
    (hk : ∀ e σ' ρ' a' w',Inv W n0 ρ0 N ρ' σ' a' w' → Ext σ.n ρ ρ' → σ.n ≤ σ'.n → (k e σ').sat R → Q e.to a' w') : (Code.seq x y).wp P Q a w:=by
  unfold cutx at h
  split at h
  case h_2 => exact h.elim
  rename_i hsl
  obtain ⟨I,μ,hI0,hbody⟩:=h
  have hA:=(hbody _ (fun _ => undef) hI0).1 rfl
  have hkept : KeptOK (σ.n + c.d) ⟨keptT σ c.tk,keptB σ c.bk⟩:=by
    refine ⟨fun q hq => V.wf_mono (Nat.le_add_right _ _) _ (keptT_wf hI.tmwf c.tk q hq),fun q hq => ?_⟩
    obtain ⟨g1,g2,_⟩:=hI.H.blk _ _ (keptB_mem hq)
    refine ⟨Nat.lt_of_lt_of_le g1 (Nat.le_add_right _ _),?_⟩
    simp only [List.all_eq_true] at g2 ⊢
    exact fun z hz => C.wf_mono (Nat.le_add_right _ _) z (g2 z hz)
  refine wp_seq (hih W n0 ρ0 N _ x σ _ ρ a w _ hI hA ?_)
  intro e σ2 ρ2 a2 w2 h1 h2 h3 h4
  cases e with
  | normal =>
    obtain ⟨cs2,hcs2,h4⟩:=kO_sat h4
    obtain ⟨q2,hq2,h4⟩:=kO_sat h4
    split at h4
    · rename_i hwf2 hwr hn
      replace hwr:=beqB_eq hwr
      replace hn:=Nat.le_of_ble_eq_true hn
      obtain ⟨⟨k1,k2⟩,g1,g2⟩:=h4
      replace k1 : isT σ2 (keptT σ c.tk):=by rw [← k1];exact keptT_self σ2 c.tk
      replace k2 : isB' σ2 (keptB σ c.bk):=by rw [← k2];exact keptB_self σ2 c.bk
      obtain ⟨f1,f2⟩:=fitS_den ρ2 hq2 ⟨[],[],[],σ2.hp.x⟩
      rw [vcat_nil] at f1 f2
      have hB:=(hbody ⟨1 :: q2.i,q2.b,q2.v,σ2.hp.x⟩ (fun t => a2.tmps.getD t undef) g1).2 rfl
      have hinv:=canon_inv (mt:=σ.hp.mt) h1 hn (Nat.le_trans hI.H.le (Nat.le_add_right _ _)) k1 k2 hkept hcs2 f1 (f2 _ hwf2) (fun id ty hm => slLt_lt hsl hm) hI.H.lim
      rw [hwr] at hinv
      refine hih W n0 ρ0 N _ y _ _ ρ2 a2 w2 Q hinv hB ?_
      intro e3 σ3 ρ3 a3 w3 r1 r2 r3 r4
      have r3' : σ.n + c.d ≤ σ3.n:=r3
      exact hk e3 σ3 ρ3 a3 w3 r1 (h2.trans (Nat.le_add_right _ c.d) r2) (by omega) (mapL_sat (k e3 σ3) .up _ r4)
    · exact h4.elim
  | exit id => exact hk (.exit id) σ2 ρ2 a2 w2 h1 h2 h3 (mapL_sat (k (.exit id) σ2) .up _ h4)
  | ret => exact hk .ret σ2 ρ2 a2 w2 h1 h2 h3 (mapL_sat (k .ret σ2) .up _ h4)
theorem codex_sound (hN : NameOK P) (hS : ∀ q ∈ S,SumOK P q) {D : DrawX} (hD : DSnd P D) {ih : Nat → Code → St → K → Tr} (hih : Snd P ih) : Snd P (codex P S D ih):=by
  intro W n0 ρ0 N R c σ k ρ a w Q hI h hk
  unfold codex at h
  split at h
  · exact wp_skip (hk .normal σ ρ a w hI (Ext.refl _ _) (Nat.le_refl _) h)
  · exact wp_label (hk .normal σ ρ a w hI (Ext.refl _ _) (Nat.le_refl _) h)
  · rename_i id ops draw
    split at h
    · exact wp_region_list (opsx_sound hN hS hih ops _ σ ρ a w hI h fun σ' ρ' a' w' h1 h2 h3 h4 => hk .normal σ' ρ' a' w' h1 h2 h3 h4)
    · exact hD ih hih W n0 ρ0 N R id ops σ _ ρ a w Q hI h fun σ' ρ' a' w' h1 h2 h3 h4 => hk .normal σ' ρ' a' w' h1 h2 h3 h4
  · rename_i x y
    split at h
    · exact cutx_sound hih hI h hk
    refine wp_seq (hih W n0 ρ0 N R x σ _ ρ a w _ hI h ?_)
    intro e σ' ρ' a' w' h1 h2 h3 h4
    cases e with
    | normal =>
      exact hih W n0 ρ0 N R y σ' k ρ' a' w' Q h1 h4 fun e2 σ2 ρ2 a2 w2 g1 g2 g3 g4 => hk e2 σ2 ρ2 a2 w2 g1 (h2.trans h3 g2) (by omega) g4
    | exit id => exact hk (.exit id) σ' ρ' a' w' h1 h2 h3 h4
    | ret => exact hk .ret σ' ρ' a' w' h1 h2 h3 h4
  · rename_i x t e
    obtain ⟨b,σ',hb,hI',_,en,hs⟩:=decB_sound hI h
    refine wp_cond hb ?_
    cases b
    · exact hih W n0 ρ0 N R e σ' k ρ a w Q hI' hs fun e2 σ2 ρ2 a2 w2 g1 g2 g3 g4 => hk e2 σ2 ρ2 a2 w2 g1 (by rw [← en];exact g2) (by omega) g4
    · exact hih W n0 ρ0 N R t σ' k ρ a w Q hI' hs fun e2 σ2 ρ2 a2 w2 g1 g2 g3 g4 => hk e2 σ2 ρ2 a2 w2 g1 (by rw [← en];exact g2) (by omega) g4
  · rename_i id x
    refine wp_block (hih W n0 ρ0 N R x σ _ ρ a w _ hI h ?_)
    intro e σ' ρ' a' w' h1 h2 h3 h4
    cases e with
    | normal => exact hk .normal σ' ρ' a' w' h1 h2 h3 h4
    | exit id' =>
      simp only at h4
      show Exit.inBlock id Q (.exit id') a' w'
      simp only [Exit.inBlock]
      split at h4
      · rename_i e;rw [if_pos (Nat.eq_of_beq_eq_true e)];exact hk .normal σ' ρ' a' w' h1 h2 h3 h4
      · rename_i e;rw [if_neg (Nat.beq_eq_false_iff.1 e)];exact hk (.exit id') σ' ρ' a' w' h1 h2 h3 h4
    | ret => exact hk .ret σ' ρ' a' w' h1 h2 h3 h4
  · rename_i x
    split at h
    · exact lpx_sound hih hI h hk
    refine wp_loop_rounds 5000 (loopx_sound hih x 5000 σ ρ a w hI h ?_)
    exact hk
  · rename_i id
    exact wp_exit (hk (.exit id) σ ρ a w hI (Ext.refl _ _) (Nat.le_refl _) h)
  · exact wp_ret (hk .ret σ ρ a w hI (Ext.refl _ _) (Nat.le_refl _) h)
  · rename_i x
    refine wp_scope_straight (hih W n0 ρ0 N R x σ k ρ a w _ hI h ?_)
    intro e σ' ρ' a' w' h1 h2 h3 h4
    have:=hk e σ' ρ' a' w' h1 h2 h3 h4
    cases e <;> exact this
  · exact h.elim
theorem ex_sound (hN : NameOK P) (hS : ∀ q ∈ S,SumOK P q) {D : DrawX} (hD : DSnd P D) : ∀ n,Snd P (ex P S D n)
  | 0 => by intro W n0 ρ0 N R c σ k ρ a w Q _ h _;exact h.elim
  | n + 1 => codex_sound hN hS hD (ex_sound hN hS hD n)
def runx (P : Program) (S : List Sum) (D : DrawX) (fuel : Nat) (f : FuncId) (args : List V) (hp : Hp) (n : Nat) : Tr :=
  kO (P.funcs[f]?) fun fn => kO fn.body fun c =>
    match Nat.ble args.length fn.ntmps,args.all (V.wf n) with
    | true,true => ex P S D fuel fn.ntmps c { tm:=number 0 args,hp:=hp,n:=n } fun e σ' =>
      match e with
      | .exit _ => .no 31
      | _ => kO (resV P σ' fn.results.toList) fun r => match r.wf σ'.n with
        | true => .leaf (.ret r σ'.hp σ'.n)
        | false => .no 32
    | _,_ => .no 33
theorem HInv.none (w : World) : HInv w ⟨0,0,noM⟩ (fun _ => 0) (fun _ => 0) hnil 0 w:=by
  refine ⟨fun i hi => by omega,fun i j hi => by omega,(fun i b h => by cases h),Nat.le_refl _,Ext.refl _ _,fun i _ hi => by omega,rfl,rfl,rfl,Nat.le_refl _,fun _ _ _ _ => rfl,(fun i m hm => by cases hm),rfl,MR.none _ _ _ _ _ _⟩
def runp (P : Program) (S : List Sum) (D : DrawX) (fuel : Nat) (f : FuncId) (args : List V) : Tr :=
  kO (P.funcs[f]?) fun fn => kO fn.body fun c =>
    match Nat.ble args.length fn.ntmps,args.all (V.wf 0) with
    | true,true => ex P S D fuel fn.ntmps c { tm:=number 0 args,hp:=hnil,n:=0 } fun e σ' =>
      match e with
      | .exit _ => .no 31
      | _ => kO (resV P σ' fn.results.toList) fun r => match r.wf 0 with
        | true => .leaf (.val r)
        | false => .no 32
    | _,_ => .no 33
def Tr.all (p : V → Prop) : Tr → Prop
  | .leaf (.val v) => p v
  | .leaf _ => False
  | .br b t e => (b = true → t.all p) ∧ (b = false → e.all p)
  | .no _ => False
  | .req q t => q ∧ t.all p
  | .any q f => ∀ x,q x → (f x).all p
  | .letm m f => (f m).all p
  | .lp x f => (Tr.lp x f).sat (fun l => match l with | .val v => p v | _ => False)
theorem Tr.all_sat {p : V → Prop} : ∀ {T : Tr},T.all p → T.sat (fun l => match l with | .val v => p v | _ => False)
  | .leaf l,h => by cases l <;> first | exact h | exact h.elim
  | .br _ _ _,h => ⟨fun e => Tr.all_sat (h.1 e),fun e => Tr.all_sat (h.2 e)⟩
  | .no _,h => h.elim
  | .req _ t,h => ⟨h.1,Tr.all_sat h.2⟩
  | .any _ f,h => fun x hq => Tr.all_sat (h x hq)
  | .letm m f,h => Tr.all_sat (T:=f m) h
  | .lp _ _,h => h
theorem pure_sound (hN : NameOK P) (hS : ∀ q ∈ S,SumOK P q) {D : DrawX} (hD : DSnd P D) (fuel : Nat) {f : Nat} (args : List V) {T : Tr} (hT : runp P S D fuel f args = T) {p : V → Prop}
    (h : T.all p) (ρ : Nat → Nat) (w : World) :
    Calls P f (args.map (V.den ρ)).toArray w fun e w' => ∃ v,p v ∧ e = .returned (v.den ρ) ∧ Below w.heap.size w w':=by
  subst hT
  have h:=Tr.all_sat h
  unfold runp at h
  obtain ⟨fn,hfn,hs⟩:=kO_sat h
  obtain ⟨c,hc,hs⟩:=kO_sat hs
  split at hs
  · rename_i hl hw
    have hl':=Nat.le_of_ble_eq_true hl
    have hI':=Inv.enter (σ:={ tm:=[],hp:=hnil,n:=0 }) (ρ:=fun _ => 0) (HInv.none w) args fn.ntmps hl' hw
    have e0 : ∀ ρ',args.map (V.den ρ') = args.map (V.den ρ):=fun ρ' => by
      simp only [List.all_eq_true] at hw
      exact List.map_congr_left fun v hv => V.den_ext (n:=0) (fun i hi => by omega) v (hw v hv)
    rw [← e0 (fun _ => 0)]
    refine calls_of_wp hfn hc ?_
    refine ex_sound hN hS hD fuel w ⟨0,0,noM⟩ (fun _ => 0) fn.ntmps _ c _ _ _ _ w _ hI' hs ?_
    intro e σ' ρ' a' w' hI2 hE hle hk
    have fin : (kO (resV P σ' fn.results.toList) fun r => match r.wf 0 with | true => Tr.leaf (.val r) | false => .no 32).sat (fun l => match l with | .val v => p v | _ => False) →
        a'.defers = [] ∧ ∃ v,(results fn a'.tmps).run P w' = .ok v w' ∧ ∃ v',p v' ∧ Ending.returned v = .returned (v'.den ρ) ∧ Below w.heap.size w w':=by
      intro hk
      obtain ⟨r,hr,hk⟩:=kO_sat hk
      split at hk
      · rename_i hwr
        refine ⟨hI2.defers,_,resV_den hI2 hr,r,hk,?_,⟨hI2.H.os,hI2.H.tape,hI2.H.output,hI2.H.size,fun k hk => hI2.H.far k hk rfl fun i _ hi => absurd hi (Nat.not_lt_zero _)⟩⟩
        rw [V.den_ext (n:=0) (ρ:=ρ') (ρ':=ρ) (fun i hi => by omega) r hwr]
      · exact hk.elim
    cases e with
    | normal => exact fin hk
    | ret => exact fin hk
    | exit id => exact hk.elim
  · exact hs.elim
theorem all_wf_mono {cs : List C} (h : cs.all (C.wf 0) = true) (n : Nat) : cs.all (C.wf n) = true:=by
  simp only [List.all_eq_true] at h ⊢
  exact fun x hx => C.wf_mono (Nat.zero_le _) x (h x hx)
end
end Go.Proofs.Ytnlohongffpkpaa.Sx
end

section
namespace Go.Proofs.Ytnlohongffpkpaa.Sx
open Go Go.RowKit
section
variable {P : Program} {S : List Sum} {W : World} {n0 : NL} {ρ0 : Nat → Nat} {N : Nat} {ρ : Nat → Nat} {σ : St} {R : Leaf → Prop}
def TM (N : Nat) (ρ : Nat → Nat) (σ : St) : Prop:=(∀ q ∈ σ.tm,q.2.wf σ.n = true) ∧ ∀ t,N ≤ t → (look σ.tm t).den ρ = undef
def virt (N : Nat) (ρ : Nat → Nat) (σ : St) : Act:={ tmps:=((List.range N).map fun t => (look σ.tm t).den ρ).toArray,defers:=[] }
theorem virt_inv (h : TM N ρ σ) {w : World} (hH : HInv W n0 ρ0 ρ σ.hp σ.n w) : Inv W n0 ρ0 N ρ σ (virt N ρ σ) w:=by
  refine ⟨rfl,by simp [virt],?_,h.1,hH⟩
  intro t
  by_cases ht : t < N
  · simp [virt,ht]
  · rw [h.2 t (by omega)]
    simp [virt,ht]
theorem Inv.TM {a : Act} {w : World} (h : Inv W n0 ρ0 N ρ σ a w) : TM N ρ σ:=by
  refine ⟨h.tmwf,fun t ht => ?_⟩
  rw [← h.tm t]
  have : ¬ t < a.tmps.size:=by rw [h.sz];omega
  simp [this]
def OpA (P : Program) (W : World) (n0 : NL) (ρ0 : Nat → Nat) (N : Nat) (R : Leaf → Prop) (ρ : Nat → Nat) (σ : St) (o : Oper) (k : V → St → Tr) : Prop :=
  ∃ v σ',σ'.hp = σ.hp ∧ σ'.n = σ.n ∧ (k v σ').sat R ∧ ∀ a w,Inv W n0 ρ0 N ρ σ a w → Inv W n0 ρ0 N ρ σ' a w ∧ v.wf σ.n = true ∧ (execOp a.eval o).run P w = .ok (.value (v.den ρ)) w
theorem decB_path {x : Operand} {k : Bool → St → Tr} (h : (decB σ x k).sat R) :
    ∃ b σ',σ'.hp = σ.hp ∧ σ'.n = σ.n ∧ (k b σ').sat R ∧ ∀ a w,Inv W n0 ρ0 N ρ σ a w → Inv W n0 ρ0 N ρ σ' a w ∧ a.eval x = .bool b:=by
  unfold decB at h
  split at h
  · rename_i v he
    have hd : ∀ a w,Inv W n0 ρ0 N ρ σ a w → a.eval x = .bool v:=fun a w hI => by rw [ev_den hI x,he];rfl
    split at h
    · exact ⟨true,σ,rfl,rfl,h,fun a w hI => ⟨hI,hd a w hI⟩⟩
    · exact ⟨false,σ,rfl,rfl,h,fun a w hI => ⟨hI,hd a w hI⟩⟩
  · rename_i v he
    refine ⟨v,retell σ x v,(retell_hp σ x v).1,(retell_hp σ x v).2,?_,fun a w hI => ⟨?_,by rw [ev_den hI x,he];rfl⟩⟩
    · cases v
      · exact h.2 rfl
      · exact h.1 rfl
    · unfold retell
      split
      · rename_i t
        exact hI.retell t _ rfl (by simp only [ev] at he;rw [he];rfl)
      · exact hI
  · exact h.elim
def pureOp : Op → Bool
  | .alloc _ => false
  | .box _ _ => false
  | .buildSlice _ _ _ => false
  | .store _ _ _ => false
  | .makeMap _ _ => false
  | .insert _ _ _ _ => false
  | .mapUpdate _ _ _ _ => false
  | _ => true
theorem OpA.mk' {o : Oper} {k : V → St → Tr} (v : V) (hk : (k v σ).sat R)
    (h : ∀ a w,Inv W n0 ρ0 N ρ σ a w → v.wf σ.n = true ∧ (execOp a.eval o).run P w = .ok (.value (v.den ρ)) w) : OpA P W n0 ρ0 N R ρ σ o k :=
  ⟨v,σ,rfl,rfl,hk,fun a w hI => ⟨hI,h a w hI⟩⟩
theorem opxA_sound {o : Oper} {k : V → St → Tr} (hp : pureOp o.op = true) (h : (opx P o.op σ k).sat R) : OpA P W n0 ρ0 N R ρ σ o k:=by
  obtain ⟨dst,op,type,pos,after,guard⟩:=o
  simp only at h hp
  unfold opx at h
  split at h
  · rename_i x
    exact OpA.mk' _ h fun a w hI => ⟨ev_wf hI x,by simp [execOp,ev_den hI x]⟩
  · rename_i x
    exact OpA.mk' _ h fun a w hI => ⟨ev_wf hI x,by simp [execOp,ev_den hI x]⟩
  · rename_i c x y
    obtain ⟨b,σ',e1,e2,hs,hb⟩:=decB_path (W:=W) (n0:=n0) (ρ0:=ρ0) (N:=N) (ρ:=ρ) h
    cases b
    · refine ⟨_,σ',e1,e2,hs,fun a w hI => ?_⟩
      obtain ⟨hI',hb⟩:=hb a w hI
      exact ⟨hI',by rw [← e2];exact ev_wf hI' y,by simp [execOp,hb,asBool,ev_den hI' y]⟩
    · refine ⟨_,σ',e1,e2,hs,fun a w hI => ?_⟩
      obtain ⟨hI',hb⟩:=hb a w hI
      exact ⟨hI',by rw [← e2];exact ev_wf hI' x,by simp [execOp,hb,asBool,ev_den hI' x]⟩
  · cases hp
  · cases hp
  · rename_i t parts
    obtain ⟨cs,hc,hs⟩:=kO_sat h
    split at hs
    · rename_i hw
      refine OpA.mk' _ hs fun a w hI => ⟨hw,?_⟩
      refine run_v (s:=Instr.build t (parts.map fun q => (q.1,a.eval q.2))) ?_
      have:=buildC_built hI hc
      exact run_build w t _ _ (by simpa using this)
    · exact hs.elim
  · cases hp
  · rename_i t x
    split at h
    · rename_i id off hx
      obtain ⟨b,hb,hs⟩:=kO_sat h
      obtain ⟨u,hu,hs⟩:=kO_sat hs
      refine OpA.mk' _ hs fun a w hI => ?_
      obtain ⟨_,hw,_⟩:=hI.H.blk id b hb
      refine ⟨ldC_wf hw hu,?_⟩
      refine run_v (s:=Instr.loadAt t (a.eval x)) ?_
      have hd : a.eval x = .pointer (some ⟨ρ id,off,none⟩):=by rw [ev_den hI x,hx];rfl
      simp only [hd,Instr.loadAt,Instr.sureAddr,Sem.run_bind,Sem.run_pure,Result.andThen_ok]
      exact run_loadVar hI.H hb hu
    · exact h.elim
  · cases hp
  · rename_i x
    split at h
    · rename_i id off hx
      refine OpA.mk' _ h fun a w hI => ?_
      have hd : a.eval x = .pointer (some ⟨ρ id,off,none⟩):=by rw [ev_den hI x,hx];rfl
      have hw:=ev_wf hI x
      rw [hx] at hw
      exact ⟨hw,by simp [execOp,hd,V.den,U.den,C.den]⟩
    · rename_i f cs hx
      refine OpA.mk' _ h fun a w hI => ?_
      have hd : a.eval x = .func (.func f) #[] (cs.map (ptrV ρ)).toArray:=by rw [ev_den hI x,hx];rfl
      have hw:=ev_wf hI x
      rw [hx] at hw
      exact ⟨hw,by simp [execOp,hd,V.den,U.den,C.den]⟩
    · exact h.elim
  · rename_i op t x y ty
    split at h
    · rename_i ux uy hx hy
      have hdx : ∀ a w,Inv W n0 ρ0 N ρ σ a w → a.eval x = ux.den ρ:=fun a w hI => by rw [ev_den hI x,hx];rfl
      have hdy : ∀ a w,Inv W n0 ρ0 N ρ σ a w → a.eval y = uy.den ρ:=fun a w hI => by rw [ev_den hI y,hy];rfl
      have gen : (kO (eqV P op t ux uy) fun c => k (.u (.c c)) σ).sat R → OpA P W n0 ρ0 N R ρ σ ⟨dst,.binOp op t x y ty,type,pos,after,guard⟩ k:=by
        intro hg
        obtain ⟨c,hc,hs⟩:=kO_sat hg
        refine OpA.mk' _ hs fun a w hI => ?_
        obtain ⟨e1,e2⟩:=eqV_run hc x y ρ w
        refine ⟨e2 _,run_v (s:=(do eqGuard op t x y (a.eval x) (a.eval y);binOp op t (a.eval x) (a.eval y))) ?_⟩
        rw [hdx a w hI,hdy a w hI]
        exact e1
      split at h
      · rename_i cx cy
        split at h
        · rename_i lx kx nx ly ky ny hcx hcy
          have ht:=fun w => binI_tells P w op t lx kx nx ly ky ny
          have fin : ∀ c,(∀ w,(binOp op t (.int kx nx) (.int ky ny)).run P w = .ok (c.den ρ) w) → (∀ n,c.wf n = true) → (k (.u (.c c)) σ).sat R →
              OpA P W n0 ρ0 N R ρ σ ⟨dst,.binOp op t x y ty,type,pos,after,guard⟩ k:=by
            intro c hr hw hs
            refine OpA.mk' _ hs fun a w hI => ⟨hw _,?_⟩
            have hg : (eqGuard op t x y (.int kx nx) (.int ky ny)).run P w = .ok () w:=by
              unfold eqGuard
              split <;> simp
            refine run_v (s:=(do eqGuard op t x y (a.eval x) (a.eval y);binOp op t (a.eval x) (a.eval y))) ?_
            rw [hdx a w hI,hdy a w hI]
            simp only [U.den,C.int_den hcx ρ,C.int_den hcy ρ,Sem.run_bind,hg,Result.andThen_ok]
            exact hr w
          split at h
          · rename_i c hb
            rw [hb] at ht
            exact fin c (fun w => (ht w).2 ρ) (ht W).1 h
          · rename_i b c hb
            rw [hb] at ht
            obtain ⟨h1,h2⟩:=h
            cases b
            · exact fin c (fun w => (ht w).2 rfl ρ) (ht W).1 (h2 rfl)
            · exact (h1 rfl).elim
          · exact h.elim
        · split at h
          · rename_i b hb
            obtain ⟨c,hc,hs⟩:=kO_sat h
            refine OpA.mk' _ hs fun a w hI => ?_
            obtain ⟨e1,e2⟩:=refOp_run hb hc hI.H x y rfl
            refine ⟨e2 _,run_v (s:=(do eqGuard op t x y (a.eval x) (a.eval y);binOp op t (a.eval x) (a.eval y))) ?_⟩
            rw [hdx a w hI,hdy a w hI]
            exact e1
          · exact gen h
      · exact gen h
    · exact h.elim
  · rename_i op t x
    split at h
    · rename_i c hx
      obtain ⟨c',hc,hs⟩:=kO_sat h
      refine OpA.mk' _ hs fun a w hI => ?_
      obtain ⟨e1,e2⟩:=run_unC hc ρ w
      have hd : a.eval x = c.den ρ:=by rw [ev_den hI x,hx];rfl
      exact ⟨e2 _,run_v (s:=Op.unary op (a.eval x)) (by rw [hd];exact e1)⟩
    · exact h.elim
  · rename_i src dst' x
    split at h
    · rename_i c hx
      obtain ⟨c',hc,hs⟩:=kO_sat h
      refine OpA.mk' _ hs fun a w hI => ?_
      obtain ⟨e1,e2⟩:=run_convC hc ρ w
      have hd : a.eval x = c.den ρ:=by rw [ev_den hI x,hx];rfl
      exact ⟨e2 _,run_v (s:=convert src dst' (a.eval x)) (by rw [hd];exact e1)⟩
    · exact h.elim
  · rename_i fn first caps
    split at h
    · rename_i f
      split at h
      · rename_i hf
        obtain ⟨ps,hc,hs⟩:=kO_sat h
        refine OpA.mk' _ hs fun a w hI => ?_
        obtain ⟨e1,e2⟩:=ptrsOf_spec hI _ _ hc
        refine ⟨e2,?_⟩
        refine run_v (s:=Instr.makeFunc (.func f) (first.map a.eval) (caps.map a.eval)) ?_
        have h0 : first = #[]:=by simpa using hf
        subst h0
        have h1 : caps.map a.eval = (ps.map (ptrV ρ)).toArray:=by
          apply Array.ext'
          simpa using e1
        rw [h1]
        simp [Instr.makeFunc,V.den,U.den,C.den]
      · exact h.elim
    · exact h.elim
  · rename_i s x f
    split at h
    · rename_i id off hx
      obtain ⟨d,hd0,hs⟩:=kO_sat h
      refine OpA.mk' _ hs fun a w hI => ?_
      have hd : a.eval x = .pointer (some ⟨ρ id,off,none⟩):=by rw [ev_den hI x,hx];rfl
      have hw:=ev_wf hI x
      rw [hx] at hw
      refine ⟨hw,run_v (s:=Instr.fieldAt s (a.eval x) f) ?_⟩
      rw [hd]
      exact run_fieldOff hd0 _ _ _
    · exact h.elim
  · rename_i t x f
    split at h
    · rename_i xs hx
      obtain ⟨u,hu,hs⟩:=kO_sat h
      refine OpA.mk' _ hs fun a w hI => ?_
      have hd : a.eval x = .agg (dens ρ xs):=by rw [ev_den hI x,hx];rfl
      have hw:=ev_wf hI x
      rw [hx] at hw
      refine ⟨partC_wf hw hu,run_v (s:=Instr.field t (a.eval x) f) ?_⟩
      rw [hd]
      exact run_partC hu ρ w
    · exact h.elim
  · rename_i t x ix
    split at h
    · rename_i cx ci hx hix
      obtain ⟨c,hc,hs⟩:=kO_sat h
      refine OpA.mk' _ hs fun a w hI => ?_
      have hd : a.eval x = cx.den ρ:=by rw [ev_den hI x,hx];rfl
      have hd2 : a.eval ix = ci.den ρ:=by rw [ev_den hI ix,hix];rfl
      have hw:=ev_wf hI x
      rw [hx] at hw
      obtain ⟨e1,e2⟩:=run_idxC hc hw ρ w
      refine ⟨e2,run_v (s:=Instr.indexAt t (a.eval x) (a.eval ix)) ?_⟩
      rw [hd,hd2]
      exact e1
    · exact h.elim
  · rename_i x i
    obtain ⟨u,hu,hs⟩:=kO_sat h
    unfold tupC at hu
    split at hu
    · rename_i xs hx
      have hx0 : ev σ x = .tup xs:=hx
      refine OpA.mk' _ hs fun a w hI => ?_
      have hw:=ev_wf hI x
      rw [hx0] at hw
      have hd : a.eval x = .tuple (xs.map (U.den ρ)).toArray:=by rw [ev_den hI x,hx0];rfl
      simp only [V.wf,List.all_eq_true] at hw
      refine ⟨hw u (List.mem_of_getElem? hu),run_v (s:=Instr.extract (a.eval x) i) ?_⟩
      rw [hd]
      simp [Instr.extract,hu,V.den]
    · cases hu
  · cases hp
  · cases hp
  · cases hp
  · rename_i t x ix ok
    obtain ⟨v,hs,hv⟩:=lookup_path (W:=W) (n0:=n0) (ρ0:=ρ0) (N:=N) (ρ:=ρ) h
    exact OpA.mk' v hs fun a w hI => ⟨(hv a w hI).1,run_v (s:=Instr.lookup t (a.eval x) (a.eval ix) ok) (hv a w hI).2⟩
  · rename_i t x
    split at h
    · rename_i c hx
      obtain ⟨c',hc,hs⟩:=kO_sat h
      refine OpA.mk' _ hs fun a w hI => ?_
      have hw:=ev_wf hI x
      rw [hx] at hw
      have hd : a.eval x = c.den ρ:=by rw [ev_den hI x,hx];rfl
      obtain ⟨e1,e2⟩:=run_ifaceC hc ρ w
      refine ⟨show V.wf σ.n (.u (.c c')) = true from e2 _ hw,run_v (s:=Instr.makeInterface t (a.eval x)) ?_⟩
      rw [hd]
      exact e1
    · exact h.elim
  · rename_i x xt t ok
    split at h
    · rename_i c hx
      obtain ⟨v,hc,hs⟩:=kO_sat h
      refine OpA.mk' _ hs fun a w hI => ?_
      have hw:=ev_wf hI x
      rw [hx] at hw
      have hd : a.eval x = c.den ρ:=by rw [ev_den hI x,hx];rfl
      obtain ⟨e1,e2⟩:=run_tassertC (xt:=xt) hc ρ w
      refine ⟨e2 _ hw,run_v (s:=Instr.typeAssert (a.eval x) xt t ok) ?_⟩
      rw [hd]
      exact e1
    · exact h.elim
  · exact h.elim
theorem br_no {b : Bool} {T : Tr} {n : Nat} (h : (Tr.br b T (.no n)).sat R) : b = true ∧ T.sat R:=by
  cases b with
  | true => exact ⟨rfl,h.1 rfl⟩
  | false => exact (h.2 rfl).elim
theorem opxMA_sound {o : Oper} {k : V → St → Tr} (hp : pureOp o.op = true) (h : (opxM P o.op σ k).sat R) : OpA P W n0 ρ0 N R ρ σ o k:=by
  obtain ⟨dst,op,type,pos,after,guard⟩:=o
  simp only at h hp
  unfold opxM at h
  split at h
  · rename_i t x
    split at h
    · rename_i p off hx
      obtain ⟨q,hq,hs⟩:=kO_sat h
      obtain ⟨hok,hs⟩:=br_no hs
      refine OpA.mk' _ hs fun a w hI => ?_
      obtain ⟨b,e1,e2,e3⟩:=run_loadM (P:=P) (zs:=q.1) (u:=q.2) hI.H hq hok
      refine ⟨e3,?_⟩
      refine run_v (s:=Instr.loadAt t (a.eval x)) ?_
      have hd : a.eval x = .pointer (some ⟨b,off,none⟩):=by rw [ev_den hI x,hx];exact pv_at e1
      simp only [hd,Instr.loadAt,Instr.sureAddr,Sem.run_bind,Sem.run_pure,Result.andThen_ok]
      exact e2
    · exact h.elim
  · cases hp
  · rename_i x
    split at h
    · rename_i p off hx
      obtain ⟨hok,hs⟩:=br_no h
      obtain ⟨b,e1⟩:=nz_at hok
      refine OpA.mk' _ hs fun a w hI => ⟨rfl,?_⟩
      have hd : a.eval x = .pointer (some ⟨b,off,none⟩):=by rw [ev_den hI x,hx];exact pv_at e1
      simp [execOp,hd,V.den,U.den,C.den,pv_at e1]
    · exact h.elim
  · rename_i s x f
    split at h
    · rename_i p off hx
      obtain ⟨d,hd0,hs⟩:=kO_sat h
      obtain ⟨hok,hs⟩:=br_no hs
      obtain ⟨b,e1⟩:=nz_at hok
      refine OpA.mk' _ hs fun a w hI => ⟨rfl,?_⟩
      have hd : a.eval x = .pointer (some ⟨b,off,none⟩):=by rw [ev_den hI x,hx];exact pv_at e1
      refine run_v (s:=Instr.fieldAt s (a.eval x) f) ?_
      rw [hd]
      have e2 : V.den ρ (.u (.c (.np p (off + d)))) = .pointer (some ⟨b,off + d,none⟩):=pv_at e1
      rw [e2]
      exact run_fieldOff hd0 _ _ _
    · exact h.elim
  · rename_i op t x y ty
    obtain ⟨p,hx,hs⟩:=kO_sat h
    obtain ⟨q,hy,hs⟩:=kO_sat hs
    split at hs
    · rename_i hz
      obtain ⟨hok,hs⟩:=br_no hs
      have hd : ∀ a w,Inv W n0 ρ0 N ρ σ a w → a.eval x = pv p 0 ∧ a.eval y = pv q 0:=fun a w hI => ⟨by rw [ev_den hI x];exact npOf_den hx ρ,by rw [ev_den hI y];exact npOf_den hy ρ⟩
      split at hs
      · refine OpA.mk' _ hs fun a w hI => ⟨rfl,run_v (s:=(do eqGuard .eql t x y (a.eval x) (a.eval y);binOp .eql t (a.eval x) (a.eval y))) ?_⟩
        obtain ⟨g1,g2,g3⟩:=cmp_run hz hI.H hok
        rw [(hd a w hI).1,(hd a w hI).2]
        simp only [Sem.run_bind,g3,Result.andThen_ok]
        exact g1
      · refine OpA.mk' _ hs fun a w hI => ⟨rfl,run_v (s:=(do eqGuard .neq t x y (a.eval x) (a.eval y);binOp .neq t (a.eval x) (a.eval y))) ?_⟩
        obtain ⟨g1,g2,g3⟩:=cmp_run hz hI.H hok
        rw [(hd a w hI).1,(hd a w hI).2]
        simp only [Sem.run_bind,g3,Result.andThen_ok]
        rw [g2];cases peq p q <;> rfl
      · exact hs.elim
    · exact hs.elim
  · cases hp
  · rename_i t x ix
    obtain ⟨p,off,c,d,hx,e1,hs,ci,hix,hr⟩:=opxM_index (P:=P) (t:=t) (x:=x) (ix:=ix) (k:=k) h
    refine OpA.mk' _ hs fun a w hI => ⟨rfl,run_v (s:=Instr.indexAt t (a.eval x) (a.eval ix)) ?_⟩
    have hd : a.eval x = .pointer (some ⟨c,off,none⟩):=by rw [ev_den hI x,hx];exact pv_at e1
    have hd2 : a.eval ix = ci.den ρ:=by rw [ev_den hI ix,hix];rfl
    have e2 : V.den ρ (.u (.c (.np p d))) = .pointer (some ⟨c,d,none⟩):=pv_at e1
    rw [hd,hd2,e2]
    exact hr ρ w
  · exact h.elim
theorem opxRA_sound {o : Oper} {k : V → St → Tr} (hp : pureOp o.op = true) (h : (opxR P o.op σ k).sat R) : OpA P W n0 ρ0 N R ρ σ o k:=by
  cases hr : pureR o.op with
  | true =>
    obtain ⟨v,hs,hv⟩:=opxR_path (W:=W) (n0:=n0) (ρ0:=ρ0) (N:=N) (ρ:=ρ) hr h
    exact OpA.mk' v hs fun a w hI => hv a w hI
  | false =>
    unfold opxR at h
    split at h
    · rename_i e;rw [e] at hr;cases hr
    · rename_i e;rw [e] at hp;cases hp
    · rename_i e;rw [e] at hr;cases hr
    · rename_i e;rw [e] at hr;cases hr
    · rename_i e;rw [e] at hr;cases hr
    · rename_i e;rw [e] at hp;cases hp
    · rename_i e;rw [e] at hp;cases hp
    · rename_i e;rw [e] at hp;cases hp
    · rename_i e;rw [e] at hr;cases hr
    · rename_i e;rw [e] at hr;cases hr
    · exact h.elim
theorem opXA_sound {o : Oper} {k : V → St → Tr} (hp : pureOp o.op = true) (h : (opX P o.op σ k).sat R) : OpA P W n0 ρ0 N R ρ σ o k:=by
  unfold opX at h
  split at h
  · exact opxRA_sound hp h
  · split at h
    · exact opxMA_sound hp h
    · exact opxA_sound hp h
end
end Go.Proofs.Ytnlohongffpkpaa.Sx
end

section
namespace Go.Proofs.Ytnlohongffpkpaa.Sx
open Go Go.RowKit
abbrev Al:=List (Tmp × Blk)
def allocOp : Op → Bool
  | .alloc _ => true
  | _ => false
def srcIdx : List Oper → Tmp → Option Nat
  | [],_ => none
  | o :: l,t => match o.dst with
    | some d => (match Nat.beq d t with | true => some 0 | false => match srcIdx l t with | some j => some (j + 1) | none => none)
    | none => match srcIdx l t with | some j => some (j + 1) | none => none
def isLate (l : List Oper) (o : Oper) : Bool :=
  o.guard.isNone && o.dst.isNone && match o.op with
    | .store _ x _ => (match x with
      | .tmp d => (match srcIdx l d with | some j => (match l[j]? with | some p => !allocOp p.op | none => false) | none => true)
      | _ => true)
    | _ => false
def alIdx : Al → Tmp → Option Nat
  | [],_ => none
  | p :: r,d => match Nat.beq p.1 d with | true => some 0 | false => (match alIdx r d with | some q => some (q + 1) | none => none)
theorem alIdx_get : ∀ {al : Al} {d : Tmp} {q : Nat},alIdx al d = some q → ∃ b,al[q]? = some (d,b)
  | [],_,_,h => by cases h
  | p :: r,d,q,h => by
    simp only [alIdx] at h
    split at h
    · rename_i e
      cases h
      have e:=Nat.eq_of_beq_eq_true e
      obtain ⟨p1,p2⟩:=p
      exact ⟨p2,by subst e;rfl⟩
    · split at h
      · rename_i q' hq
        cases h
        obtain ⟨b,hb⟩:=alIdx_get hq
        exact ⟨b,by simpa using hb⟩
      · cases h
def Tr.bindV : Tr → (V → Tr) → Tr
  | .leaf (.val v),k => k v
  | .leaf _,_ => .no 60
  | .br b t e,k => .br b (t.bindV k) (e.bindV k)
  | .no n,_ => .no n
  | .req p t,k => .req p (t.bindV k)
  | .any _ _,_ => .no 61
  | .letm m f,k => .letm m fun x => (f x).bindV k
  | .lp _ _,_ => .no 61
def runC (P : Program) (ih : Nat → Code → St → K → Tr) (f : FuncId) (args : List V) (hp : Hp) (n : Nat) : Tr :=
  kO (P.funcs[f]?) fun fn => kO fn.body fun c =>
    match Nat.ble args.length fn.ntmps,args.all (V.wf n) with
    | true,true => ih fn.ntmps c { tm:=number 0 args,hp:=⟨hp.c,hp.m,n,hp.x,false,hp.mt⟩,n:=n } fun e σ' =>
      match e with
      | .exit _ => .no 31
      | _ => kO (resV P σ' fn.results.toList) fun r => .leaf (.val r)
    | _,_ => .no 33
def frontop (P : Program) (S : List Sum) (ih : Nat → Code → St → K → Tr) (o : Oper) (al : Al) (σ : St) (k : Al → St → Tr) : Tr :=
  match o.op with
  | .alloc t => kO (tzero P t) fun u => match u.cells.all C.plain,u.cells.all (C.wf 0),o.dst with
    | true,true,some d => k (al ++ [(d,(u.cells,t))]) σ
    | _,_,_ => .no 80
  | .store t x y => (match x,ev σ y,o.dst,o.guard with
    | .tmp d,.u u,none,none => kO (alIdx al d) fun q => kO (al[q]?) fun b => kO (tsz P t) fun sz =>
      match Nat.beq sz u.cells.length,Nat.beq b.2.1.length u.cells.length,u.cells.all C.plain,u.cells.all (C.wf 0) with
      | true,true,true,true => k (al.set q (d,(u.cells,b.2.2))) σ
      | _,_,_,_ => .no 88
    | _,_,_,_ => .no 89)
  | .call c => match c.callee with
    | .value x => kO (calleeOf σ x) fun q => match lookS S q.1 with
      | some s => (match s.rd with
        | some rd => (match q.2 with
          | [] => kO (rd σ.hp.x (evs σ c.args.toList)) fun r => (match (evs σ c.args.toList).all (V.wf 0),r.2.wf 0 with
            | true,true => .req r.1 (k al (σ.put o.dst r.2))
            | _,_ => .no 90)
          | _ => .no 84)
        | none => match q.2 with
        | [] => kS (match s.ext,s.hp,s.bx with | false,none,none => s.s (evs σ c.args.toList) | _,_,_ => none) fun r => match r.wf 0 with | true => k al (σ.put o.dst r) | false => .no 83
        | _ => .no 84)
      | none => (runC P ih q.1 (evs σ c.args.toList ++ q.2.map ptrC) σ.hp σ.n).bindV fun r => match r.wf σ.n with | true => k al (σ.put o.dst r) | false => .no 83
    | .builtin b => (match isLen b with
      | true => .no 85
      | false => kO (builtinC b (evs σ c.args.toList)) fun v => k al (σ.put o.dst v))
    | _ => .no 86
  | op => match pureOp op with | true => opX P op σ fun v σ' => k al (σ'.put o.dst v) | false => .no 87
def frontx (P : Program) (S : List Sum) (ih : Nat → Code → St → K → Tr) (N : Nat) (ops : Array Oper) (L : List Oper) : List Oper → Al → St → (Al → St → Tr) → Tr
  | [],al,σ,k => k al σ
  | o :: rest,al,σ,k =>
    match okDst N o.dst with
    | false => .no 40
    | true => match isLate L o with
    | true => frontx P S ih N ops L rest al σ k
    | false =>
      match o.guard with
      | none => frontop P S ih o al σ fun al' σ' => frontx P S ih N ops L rest al' σ' k
      | some (j,want) =>
        match guardTmp ops j with
        | none => .no 41
        | some t =>
          match Nat.blt t N with
          | false => .no 42
          | true => match look σ.tm t with
            | .u (.c (.lb b)) => (match b == want with
              | true => frontop P S ih o al σ fun al' σ' => frontx P S ih N ops L rest al' σ' k
              | false => frontx P S ih N ops L rest al (σ.put o.dst (.tup [])) k)
            | .u (.c (.sb b)) => .br b
                (let σ1:=retell σ (.tmp t) true
                 match true == want with
                 | true => frontop P S ih o al σ1 fun al' σ' => frontx P S ih N ops L rest al' σ' k
                 | false => frontx P S ih N ops L rest al (σ1.put o.dst (.tup [])) k)
                (let σ1:=retell σ (.tmp t) false
                 match false == want with
                 | true => frontop P S ih o al σ1 fun al' σ' => frontx P S ih N ops L rest al' σ' k
                 | false => frontx P S ih N ops L rest al (σ1.put o.dst (.tup [])) k)
            | .tup [] => frontx P S ih N ops L rest al (σ.put o.dst (.tup [])) k
            | _ => .no 43
inductive Ent where
  | run (x : V)
  | skip
  | al (q : Nat)
  | st (q : Nat) (u : U)
  | late
def Ent.isL : Ent → Bool
  | .late => true
  | _ => false
def storeOp : Op → Bool
  | .store _ _ _ => true
  | _ => false
section
variable {P : Program} {S : List Sum} {W : World} {n0 : NL} {ρ0 : Nat → Nat} {N : Nat} {ρ : Nat → Nat} {R : Leaf → Prop} {ops : Array Oper} {L : List Oper} {hp : Hp} {n : Nat}
def StabR (P : Program) (W : World) (n0 : NL) (ρ0 ρ : Nat → Nat) (hp : Hp) (n : Nat) (s : Sem Next) (x : Value) : Prop :=
  ∀ w,HInv W n0 ρ0 ρ hp n w → s.run P w = .ok (.value x) w ∨ ∃ f args,s.run P w = .ok (.enter f args) w ∧ Calls P f args w fun e w' => e = .returned x ∧ Below w.heap.size w w'
def StepP (P : Program) (ops : Array Oper) (W : World) (n0 : NL) (ρ0 : Nat → Nat) (N : Nat) (ρ : Nat → Nat) (hp : Hp) (n : Nat) (o : Oper) (al : Al) (σ : St) (f : Ent) (al1 : Al) (σ1 : St) : Prop :=
  match f with
  | .run x => al1 = al ∧ x.wf n = true ∧ (∀ t,(look σ1.tm t).den ρ = if o.dst = some t then x.den ρ else (look σ.tm t).den ρ) ∧
      Region.wanted o (yielded ops (virt N ρ σ).tmps) = true ∧ StabR P W n0 ρ0 ρ hp n (execOp (virt N ρ σ).eval o) (x.den ρ) ∧ storeOp o.op = false
  | .skip => al1 = al ∧ (∀ t,(look σ1.tm t).den ρ = if o.dst = some t then undef else (look σ.tm t).den ρ) ∧ Region.wanted o (yielded ops (virt N ρ σ).tmps) = false ∧ o.guard.isSome = true
  | .al q => (q = al.length ∧ allocOp o.op = true) ∧ (∀ t,(look σ1.tm t).den ρ = (look σ.tm t).den ρ) ∧ Region.wanted o (yielded ops (virt N ρ σ).tmps) = true ∧
      ∃ d cs ty,o.dst = some d ∧ al1 = al ++ [(d,(cs,ty))] ∧ cs.all (C.wf 0) = true ∧
        ∀ (a : Act) (w : World),(execOp a.eval o).run P w = .ok (.value (.pointer (some ⟨w.heap.size,0,none⟩))) (w.alloc (.cells (dens ρ cs) ty))
  | .st q u => (∃ d cs0 ty,al[q]? = some (d,(cs0,ty)) ∧ al1 = al.set q (d,(u.cells,ty)) ∧ cs0.length = u.cells.length ∧ ∃ t y,o.op = .store t (.tmp d) y ∧ (virt N ρ σ).eval y = u.den ρ ∧ tsz P t = some u.cells.length) ∧
      (∀ t,(look σ1.tm t).den ρ = (look σ.tm t).den ρ) ∧ Region.wanted o (yielded ops (virt N ρ σ).tmps) = true ∧ o.dst = none ∧ o.guard = none ∧ u.cells.all C.plain = true ∧ u.cells.all (C.wf 0) = true
  | .late => al1 = al ∧ (∀ t,(look σ1.tm t).den ρ = (look σ.tm t).den ρ) ∧ o.dst = none ∧ o.guard = none
def PathP (P : Program) (ops : Array Oper) (L : List Oper) (W : World) (n0 : NL) (ρ0 : Nat → Nat) (N : Nat) (ρ : Nat → Nat) (hp : Hp) (n : Nat) : List Oper → Al → St → List Ent → Al → St → Prop
  | [],al,σ,[],al',σ' => al' = al ∧ σ' = σ
  | o :: l,al,σ,f :: fs,al',σ' => ∃ al1 σ1,StepP P ops W n0 ρ0 N ρ hp n o al σ f al1 σ1 ∧ f.isL = isLate L o ∧ PathP P ops L W n0 ρ0 N ρ hp n l al1 σ1 fs al' σ'
  | _,_,_,_,_,_ => False
theorem look_put (σ : St) (d : Option Tmp) (v : V) (t : Tmp) : look (σ.put d v).tm t = if d = some t then v else look σ.tm t:=by
  cases d with
  | none => simp [St.put]
  | some d =>
    simp only [St.put,look]
    by_cases e : d = t
    · subst e;simp
    · rw [Nat.beq_eq_false_iff.2 e];simp [e]
theorem put_hp (σ : St) (d : Option Tmp) (v : V) : (σ.put d v).hp = σ.hp ∧ (σ.put d v).n = σ.n:=by
  unfold St.put;split <;> exact ⟨rfl,rfl⟩
theorem TM.put {σ : St} (h : TM N ρ σ) {d : Option Tmp} {v : V} (hd : okDst N d = true) (hv : v.wf σ.n = true) : TM N ρ (σ.put d v):=by
  refine ⟨fun q hq => ?_,fun t ht => ?_⟩
  · rw [(put_hp σ d v).2]
    cases d with
    | none => exact h.1 q hq
    | some d =>
      simp only [St.put,List.mem_cons] at hq
      rcases hq with rfl | hq
      · exact hv
      · exact h.1 q hq
  · rw [look_put,if_neg]
    · exact h.2 t ht
    · intro e
      have:=okDst_lt (N:=N) hd t e
      exact absurd (Nat.lt_of_lt_of_le this ht) (Nat.lt_irrefl _)
theorem virt_get (σ : St) {t : Nat} (ht : t < N) : (virt N ρ σ).tmps[t]? = some ((look σ.tm t).den ρ):=by
  simp [virt,ht]
theorem yielded_virt {σ : St} {j t : Nat} (hg : guardTmp ops j = some t) (ht : t < N) : yielded ops (virt N ρ σ).tmps j = match (look σ.tm t).den ρ with | .bool b => some b | _ => none:=by
  have h1 : (ops[j]?).bind (·.dst) = some t:=by
    unfold guardTmp at hg
    split at hg
    · rename_i o ho;rw [ho];exact hg
    · cases hg
  unfold yielded
  rw [h1]
  simp only [Option.bind_some,virt_get σ ht]
  cases (look σ.tm t).den ρ <;> rfl
theorem bindV_sat {k : V → Tr} : ∀ {T : Tr},(T.bindV k).sat R → ∃ v,T.sat (fun l => l = .val v) ∧ (k v).sat R
  | .leaf (.val v),h => ⟨v,rfl,h⟩
  | .leaf (.ret _ _ _),h => h.elim
  | .leaf (.out _ _),h => h.elim
  | .leaf (.again _),h => h.elim
  | .leaf (.memo _ _),h => h.elim
  | .leaf (.up _),h => h.elim
  | .br b t e,h => by
    cases hb : b with
    | true =>
      obtain ⟨v,h1,h2⟩:=bindV_sat (h.1 hb)
      exact ⟨v,⟨fun _ => h1,fun e => by cases e⟩,h2⟩
    | false =>
      obtain ⟨v,h1,h2⟩:=bindV_sat (h.2 hb)
      exact ⟨v,⟨(fun e => by cases e),fun _ => h1⟩,h2⟩
  | .no _,h => h.elim
  | .req p t,h => by
    obtain ⟨v,h1,h2⟩:=bindV_sat h.2
    exact ⟨v,⟨h.1,h1⟩,h2⟩
  | .any _ _,h => h.elim
  | .letm m f,h => bindV_sat (T:=f m) h
  | .lp _ _,h => h.elim
theorem runC_sound {ih : Nat → Code → St → K → Tr} (hih : Snd P ih) {f : FuncId} {args : List V} {v : V} (h : (runC P ih f args hp n).sat (fun l => l = .val v)) (hv : v.wf n = true) :
    (∃ fn,P.funcs[f]? = some fn ∧ fn.body.isSome = true) ∧ ∀ w,HInv W n0 ρ0 ρ hp n w → Calls P f (args.map (V.den ρ)).toArray w fun e w' => e = .returned (v.den ρ) ∧ Below w.heap.size w w':=by
  unfold runC at h
  obtain ⟨fn,hfn,hs⟩:=kO_sat h
  obtain ⟨c,hc,hs⟩:=kO_sat hs
  refine ⟨⟨fn,hfn,by rw [hc];rfl⟩,?_⟩
  · intro w hH
    split at hs
    · rename_i hl hw
      have hl':=Nat.le_of_ble_eq_true hl
      have hH0 : HInv w ⟨n,n,noM⟩ ρ ρ ⟨hp.c,hp.m,n,hp.x,false,hp.mt⟩ n w :=
        ⟨hH.lt,hH.inj,hH.blk,Nat.le_refl _,Ext.refl _ _,(fun i h1 h2 => absurd h2 (Nat.not_lt.2 h1)),rfl,rfl,rfl,Nat.le_refl _,fun _ _ _ _ => rfl,hH.mblk,rfl,hH.mem.sub,hH.mem.sep,fun e => by cases e⟩
      have hI':=Inv.enter (σ:={ tm:=[],hp:=⟨hp.c,hp.m,n,hp.x,false,hp.mt⟩,n:=n }) (ρ:=ρ) hH0 args fn.ntmps hl' hw
      refine calls_of_wp hfn hc ?_
      refine hih w ⟨n,n,noM⟩ ρ fn.ntmps _ c _ _ ρ _ w _ hI' hs ?_
      intro e σ' ρ' a' w' hI2 hE hle hk
      have fin : (kO (resV P σ' fn.results.toList) fun r => Tr.leaf (.val r)).sat (fun l => l = .val v) →
          a'.defers = [] ∧ ∃ x,(results fn a'.tmps).run P w' = .ok x w' ∧ Ending.returned x = .returned (v.den ρ) ∧ Below w.heap.size w w':=by
        intro hk
        obtain ⟨r,hr,hk⟩:=kO_sat hk
        · cases hk
          refine ⟨hI2.defers,_,resV_den hI2 hr,?_,⟨hI2.H.os,hI2.H.tape,hI2.H.output,hI2.H.size,fun k hk => hI2.H.far k hk rfl fun i h1 h2 => absurd h2 (Nat.not_lt.2 h1)⟩⟩
          rw [V.den_ext hE v hv]
      cases e with
      | normal => exact fin hk
      | ret => exact fin hk
      | exit id => exact hk.elim
    · exact hs.elim
theorem frontop_path (hN : NameOK P) (hS : ∀ q ∈ S,SumOK P q) {ih : Nat → Code → St → K → Tr} (hih : Snd P ih) {w0 : World} (h0 : HInv W n0 ρ0 ρ hp n w0) {o : Oper} {al : Al} {σ : St} {k : Al → St → Tr} (e1 : σ.hp = hp) (e2 : σ.n = n) (hT : TM N ρ σ) (hd : okDst N o.dst = true)
    (hw : Region.wanted o (yielded ops (virt N ρ σ).tmps) = true) (h : (frontop P S ih o al σ k).sat R) :
    ∃ f al1 σ1,(k al1 σ1).sat R ∧ σ1.hp = hp ∧ σ1.n = n ∧ TM N ρ σ1 ∧ f.isL = false ∧ StepP P ops W n0 ρ0 N ρ hp n o al σ f al1 σ1:=by
  subst e1;subst e2
  have hI0:=virt_inv hT h0
  have hT':=hT
  have fin : storeOp o.op = false → ∀ x : V,x.wf σ.n = true → (k al (σ.put o.dst x)).sat R → StabR P W n0 ρ0 ρ σ.hp σ.n (execOp (virt N ρ σ).eval o) (x.den ρ) →
      ∃ f al1 σ1,(k al1 σ1).sat R ∧ σ1.hp = σ.hp ∧ σ1.n = σ.n ∧ TM N ρ σ1 ∧ f.isL = false ∧ StepP P ops W n0 ρ0 N ρ σ.hp σ.n o al σ f al1 σ1:=by
    intro hso x hx hs hst
    refine ⟨.run x,al,σ.put o.dst x,hs,(put_hp _ _ _).1,(put_hp _ _ _).2,hT.put hd hx,rfl,rfl,hx,fun t => ?_,hw,hst,hso⟩
    rw [look_put]
    split <;> rfl
  unfold frontop at h
  split at h
  · rename_i t hop
    obtain ⟨u,hu,hs⟩:=kO_sat h
    split at hs
    · rename_i d hp1 hw1 hd1
      refine ⟨.al al.length,_,σ,hs,rfl,rfl,hT,rfl,⟨rfl,by rw [hop];rfl⟩,fun t => rfl,hw,d,u.cells,t,hd1,rfl,hw1,fun a w => ?_⟩
      unfold execOp
      rw [hop]
      refine run_v (s:=Instr.alloc t true (.tuple #[])) ?_
      simp only [Instr.alloc,Sem.run_bind,run_zeroValue hu ρ,Result.andThen_ok,newVar,newRow,U.den_cells ρ u (plain_of_all hp1),run_newObj,Sem.run_pure]
      simp [World.alloc_eq]
    · exact hs.elim
  · rename_i t x y hop
    split at h
    · rename_i d u hy hdst hg
      obtain ⟨q,hq,hs1⟩:=kO_sat h
      obtain ⟨b,hb,hs2⟩:=kO_sat hs1
      obtain ⟨sz,hz,hs3⟩:=kO_sat hs2
      split at hs3
      · rename_i c1 c2 c3 c4
        have c1:=Nat.eq_of_beq_eq_true c1
        have c2:=Nat.eq_of_beq_eq_true c2
        obtain ⟨b',hb'⟩:=alIdx_get hq
        rw [hb] at hb'
        cases hb'
        obtain ⟨cs0,ty⟩:=b'
        refine ⟨.st q u,_,σ,hs3,rfl,rfl,hT,rfl,⟨d,cs0,ty,hb,rfl,c2,t,y,hop,?_,by rw [hz,c1]⟩,fun t => rfl,hw,hdst,hg,c3,c4⟩
        rw [ev_den hI0 y,hy];rfl
      · exact hs3.elim
    · exact h.elim
  · rename_i c hop
    have hso : storeOp o.op = false:=by rw [hop];rfl
    split at h
    · rename_i x hcal
      obtain ⟨q,hq,hs⟩:=kO_sat h
      obtain ⟨f,cs⟩:=q
      split at hs
      case h_2 =>
        obtain ⟨r,hT,hs⟩:=bindV_sat hs
        split at hs
        · rename_i hrw
          have hq0:=hq
          unfold calleeOf at hq0
          split at hq0
          · rename_i f' cs' hx
            cases hq0
            obtain ⟨⟨fn,hfn,hbody⟩,hcalls⟩:=runC_sound (W:=W) (n0:=n0) (ρ0:=ρ0) (ρ:=ρ) hih hT hrw
            refine fin hso r hrw hs fun w hH => .inr ⟨f,_,?_,hcalls w hH⟩
            have hI:=virt_inv hT' hH
            have hdx : (virt N ρ σ).eval x = .func (.func f) #[] (cs.map (ptrV ρ)).toArray:=by rw [ev_den hI x,hx];rfl
            have hargs : c.args.map (virt N ρ σ).eval ++ (cs.map (ptrV ρ)).toArray = ((evs σ c.args.toList ++ cs.map ptrC).map (V.den ρ)).toArray:=by
              apply Array.ext'
              rw [Array.toList_append,Array.toList_map,evs_den hI,List.map_append,ptrC_den]
            unfold execOp
            rw [hop]
            simp only [Sem.run_bind,resolve,hcal,hdx,Deferred.ofValue,Sem.run_pure,Result.andThen_ok,invoke,Array.empty_append]
            rw [hargs]
            exact run_callFunc hN hfn hbody _ _
          · cases hq0
        · exact hs.elim
      rename_i s hs1
      replace hs1 : lookS S f = some s:=hs1
      split at hs
      · rename_i rd hrd
        split at hs
        · rename_i hcs
          replace hcs : cs = []:=hcs
          subst hcs
          obtain ⟨r,hr,hs⟩:=kO_sat hs
          split at hs
          · rename_i haw hrw
            obtain ⟨hpre,hs⟩:=hs
            obtain ⟨hmem,hf⟩:=lookS_mem hs1
            replace hf : s.f = f:=hf
            obtain ⟨⟨fn,hfn,hbody⟩,hrd2⟩:=(hS s hmem).1.2.1 rd hrd
            rw [hf] at hfn
            refine fin hso r.2 (V.wf_mono (Nat.zero_le _) r.2 hrw) hs fun w hH => .inr ?_
            have hI:=virt_inv hT hH
            have hc:=hrd2 σ.hp.x _ r.1 r.2 ρ w hr hpre haw hH.mem.sub
            rw [hf] at hc
            unfold calleeOf at hq
            split at hq
            · rename_i f' cs' hx
              cases hq
              have hdx : (virt N ρ σ).eval x = .func (.func f) #[] #[]:=by rw [ev_den hI x,hx];rfl
              have hargs : c.args.map (virt N ρ σ).eval = ((evs σ c.args.toList).map (V.den ρ)).toArray:=by
                apply Array.ext'
                rw [Array.toList_map,evs_den hI]
              refine ⟨f,_,?_,hc⟩
              unfold execOp
              rw [hop]
              simp only [Sem.run_bind,resolve,hcal,hdx,Deferred.ofValue,Sem.run_pure,Result.andThen_ok,invoke,Array.empty_append,Array.append_empty]
              rw [hargs]
              exact run_callFunc hN hfn hbody _ _
            · cases hq
          · exact hs.elim
        · exact hs.elim
      split at hs
      · rename_i hcs
        replace hcs : cs = []:=hcs
        subst hcs
        obtain ⟨bs,r,hr,hbs,hs⟩:=kS_sat hs
        obtain ⟨hmem,hf⟩:=lookS_mem hs1
        replace hf : s.f = f:=hf
        split at hs
        · rename_i hrw
          refine fin hso r (V.wf_mono (Nat.zero_le _) r hrw) hs fun w hH => .inr ?_
          have hI:=virt_inv hT hH
          have hext : s.ext = false ∧ s.hp = none ∧ s.bx = none ∧ s.s (evs σ c.args.toList) = some (bs,r):=by
            cases he : s.ext
            · cases hh : s.hp
              · cases hb : s.bx
                · rw [he,hh,hb] at hr;exact ⟨rfl,rfl,rfl,hr⟩
                · rw [he,hh,hb] at hr;cases hr
              · rw [he,hh] at hr;cases hr
            · rw [he] at hr;cases hr
          replace hr:=hext.2.2.2
          obtain ⟨_,hSm⟩:=(hS s hmem).2.resolve_left (fun ⟨ty,x,_⟩ => by rw [hext.2.2.1] at x;cases x)
          obtain ⟨_,hSm⟩:=hSm.resolve_left (fun ⟨ty,x,_⟩ => by rw [hext.2.1] at x;cases x)
          obtain ⟨_,⟨fn,hfn,hbody⟩,hcalls⟩:=hSm.resolve_left (fun x => by rw [hext.1] at x;cases x.1)
          rw [hf] at hfn hcalls
          unfold calleeOf at hq
          split at hq
          · rename_i f' cs' hx
            cases hq
            have hdx : (virt N ρ σ).eval x = .func (.func f) #[] #[]:=by rw [ev_den hI x,hx];rfl
            have hargs : c.args.map (virt N ρ σ).eval = ((evs σ c.args.toList).map (V.den ρ)).toArray:=by
              apply Array.ext'
              rw [Array.toList_map,evs_den hI]
            refine ⟨f,_,?_,hcalls (evs σ c.args.toList) bs r ρ w hr hbs⟩
            unfold execOp
            rw [hop]
            simp only [Sem.run_bind,resolve,hcal,hdx,Deferred.ofValue,Sem.run_pure,Result.andThen_ok,invoke,Array.empty_append,Array.append_empty]
            rw [hargs]
            exact run_callFunc hN hfn hbody _ _
          · cases hq
        · exact hs.elim
      · exact hs.elim
    · rename_i b hcal
      split at h
      · exact h.elim
      · rename_i hlen
        obtain ⟨v,hv,hs⟩:=kO_sat h
        have hl : b ≠ .len:=by intro e;subst e;cases hlen
        have hb:=fun w ks => builtinC_sound (P:=P) hv hl c.argTypes o.type ks ρ w
        refine fin hso v ((hb w0 #[]).2 _) hs fun w hH => .inl ?_
        have hI:=virt_inv hT hH
        have hargs : c.args.map (virt N ρ σ).eval = ((evs σ c.args.toList).map (V.den ρ)).toArray:=by
          apply Array.ext'
          rw [Array.toList_map,evs_den hI]
        unfold execOp
        rw [hop]
        simp only [Sem.run_bind,resolve,hcal,Sem.run_pure,Result.andThen_ok,invoke]
        rw [hargs]
        exact (hb w _).1
    · exact h.elim
  · split at h
    · rename_i hpure
      obtain ⟨v,σ',g1,g2,hs,hv⟩:=opXA_sound (W:=W) (n0:=n0) (ρ0:=ρ0) (N:=N) (ρ:=ρ) hpure h
      obtain ⟨hI',hvw,_⟩:=hv _ _ hI0
      have hT':=hI'.TM
      have same : ∀ t,(look σ'.tm t).den ρ = (look σ.tm t).den ρ:=fun t => by rw [← hI'.tm t,← hI0.tm t]
      refine ⟨.run v,al,σ'.put o.dst v,hs,by rw [(put_hp _ _ _).1,g1],by rw [(put_hp _ _ _).2,g2],hT'.put hd (by rw [g2];exact hvw),rfl,rfl,hvw,fun t => ?_,hw,fun w hH => .inl (hv _ _ (virt_inv hT hH)).2.2,by cases ho : o.op <;> first | rfl | (rw [ho] at hpure;cases hpure)⟩
      rw [look_put]
      split
      · rfl
      · exact same t
    · exact h.elim
theorem frontx_path (hN : NameOK P) (hS : ∀ q ∈ S,SumOK P q) {ih : Nat → Code → St → K → Tr} (hih : Snd P ih) {w0 : World} (h0 : HInv W n0 ρ0 ρ hp n w0) {k : Al → St → Tr} : ∀ (l : List Oper) (al : Al) (σ : St),σ.hp = hp → σ.n = n → TM N ρ σ →
    (frontx P S ih N ops L l al σ k).sat R → ∃ fs al' σ',(k al' σ').sat R ∧ σ'.hp = hp ∧ σ'.n = n ∧ TM N ρ σ' ∧ PathP P ops L W n0 ρ0 N ρ hp n l al σ fs al' σ':=by
  intro l
  induction l with
  | nil => intro al σ e1 e2 hT h;exact ⟨[],al,σ,h,e1,e2,hT,rfl,rfl⟩
  | cons o l ihl =>
    intro al σ e1 e2 hT h
    simp only [frontx] at h
    split at h
    · exact h.elim
    · rename_i hd
      split at h
      · rename_i hL
        obtain ⟨fs,al',σ',b1,b2,b3,b4,b5⟩:=ihl al σ e1 e2 hT h
        have hL':=hL
        simp only [isLate,Bool.and_eq_true,Option.isNone_iff_eq_none] at hL'
        exact ⟨.late :: fs,al',σ',b1,b2,b3,b4,al,σ,⟨rfl,fun _ => rfl,hL'.1.2,hL'.1.1⟩,hL.symm,b5⟩
      rename_i hL
      have run : ∀ σ1 : St,σ1.hp = hp → σ1.n = n → TM N ρ σ1 → (∀ t,(look σ1.tm t).den ρ = (look σ.tm t).den ρ) → Region.wanted o (yielded ops (virt N ρ σ).tmps) = true →
          (frontop P S ih o al σ1 fun al' σ' => frontx P S ih N ops L l al' σ' k).sat R → ∃ fs al' σ',(k al' σ').sat R ∧ σ'.hp = hp ∧ σ'.n = n ∧ TM N ρ σ' ∧ PathP P ops L W n0 ρ0 N ρ hp n (o :: l) al σ fs al' σ':=by
        intro σ1 g1 g2 hT1 hsame hw hs
        have hv : virt N ρ σ1 = virt N ρ σ:=by simp only [virt,hsame]
        obtain ⟨f,al1,σ2,hs2,a1,a2,a3,aL,hstep⟩:=frontop_path (ops:=ops) hN hS hih h0 g1 g2 hT1 hd (by rw [hv];exact hw) hs
        obtain ⟨fs,al',σ',b1,b2,b3,b4,b5⟩:=ihl al1 σ2 a1 a2 a3 hs2
        refine ⟨f :: fs,al',σ',b1,b2,b3,b4,al1,σ2,?_,aL.trans hL.symm,b5⟩
        unfold StepP at hstep ⊢
        cases f with
        | run x => simp only [hv,hsame] at hstep;exact hstep
        | skip => simp only [hv,hsame] at hstep;exact hstep
        | al q => simp only [hv,hsame] at hstep;exact hstep
        | st q u => simp only [hv,hsame] at hstep;exact hstep
        | late => cases aL
      have skip : ∀ σ1 : St,σ1.hp = hp → σ1.n = n → TM N ρ σ1 → (∀ t,(look σ1.tm t).den ρ = (look σ.tm t).den ρ) → Region.wanted o (yielded ops (virt N ρ σ).tmps) = false →
          o.guard.isSome = true → (frontx P S ih N ops L l al (σ1.put o.dst (.tup [])) k).sat R → ∃ fs al' σ',(k al' σ').sat R ∧ σ'.hp = hp ∧ σ'.n = n ∧ TM N ρ σ' ∧ PathP P ops L W n0 ρ0 N ρ hp n (o :: l) al σ fs al' σ':=by
        intro σ1 g1 g2 hT1 hsame hw hgs hs
        obtain ⟨fs,al',σ',b1,b2,b3,b4,b5⟩:=ihl al _ (by rw [(put_hp _ _ _).1];exact g1) (by rw [(put_hp _ _ _).2];exact g2) (hT1.put hd rfl) hs
        refine ⟨.skip :: fs,al',σ',b1,b2,b3,b4,al,_,⟨rfl,fun t => ?_,hw,hgs⟩,hL.symm,b5⟩
        rw [look_put]
        split
        · rfl
        · exact hsame t
      split at h
      · rename_i hg
        exact run σ e1 e2 hT (fun _ => rfl) (by simp [Region.wanted,hg]) h
      · rename_i j want hg
        split at h
        · exact h.elim
        · rename_i t hgt
          split at h
          · exact h.elim
          · rename_i ht
            have ht' : t < N:=by simpa using ht
            have hy:=yielded_virt (ρ:=ρ) (σ:=σ) hgt ht'
            split at h
            · rename_i b hb
              rw [hb] at hy
              replace hy : yielded ops (virt N ρ σ).tmps j = some b:=hy
              split at h
              · rename_i hbw
                exact run σ e1 e2 hT (fun _ => rfl) (by simp only [Region.wanted,hg,hy];simpa using hbw) h
              · rename_i hbw
                exact skip σ e1 e2 hT (fun _ => rfl) (by simp only [Region.wanted,hg,hy];simpa using hbw) (by rw [hg];rfl) h
            · rename_i b hb
              rw [hb] at hy
              replace hy : yielded ops (virt N ρ σ).tmps j = some b:=hy
              have fin : ∀ c : Bool,b = c → (match c == want with
                  | true => frontop P S ih o al (retell σ (.tmp t) c) fun al' σ' => frontx P S ih N ops L l al' σ' k
                  | false => frontx P S ih N ops L l al ((retell σ (.tmp t) c).put o.dst (.tup [])) k).sat R →
                  ∃ fs al' σ',(k al' σ').sat R ∧ σ'.hp = hp ∧ σ'.n = n ∧ TM N ρ σ' ∧ PathP P ops L W n0 ρ0 N ρ hp n (o :: l) al σ fs al' σ':=by
                intro c hc hs
                subst hc
                have hT1 : TM N ρ (retell σ (.tmp t) b):=by
                  refine ⟨fun q hq => ?_,fun u hu => ?_⟩
                  · simp only [retell,List.mem_cons] at hq
                    rcases hq with rfl | hq
                    · rfl
                    · exact hT.1 q hq
                  · simp only [retell,look]
                    rw [Nat.beq_eq_false_iff.2 (Nat.ne_of_lt (Nat.lt_of_lt_of_le ht' hu))]
                    exact hT.2 u hu
                have hsame : ∀ u,(look (retell σ (.tmp t) b).tm u).den ρ = (look σ.tm u).den ρ:=by
                  intro u
                  simp only [retell,look]
                  by_cases e : t = u
                  · subst e;simp only [Nat.beq_refl];rw [hb];rfl
                  · rw [Nat.beq_eq_false_iff.2 e]
                split at hs
                · rename_i hbw
                  exact run (retell σ (.tmp t) b) e1 e2 hT1 hsame (by simp only [Region.wanted,hg,hy];simpa using hbw) hs
                · rename_i hbw
                  exact skip (retell σ (.tmp t) b) e1 e2 hT1 hsame (by simp only [Region.wanted,hg,hy];simpa using hbw) (by rw [hg];rfl) hs
              obtain ⟨h1,h2⟩:=h
              cases hbb : b with
              | true => exact fin true hbb (h1 hbb)
              | false => exact fin false hbb (h2 hbb)
            · rename_i hb
              rw [hb] at hy
              replace hy : yielded ops (virt N ρ σ).tmps j = none:=hy
              exact skip σ e1 e2 hT (fun _ => rfl) (by simp [Region.wanted,hg,hy]) (by rw [hg];rfl) h
            · exact h.elim
end
end Go.Proofs.Ytnlohongffpkpaa.Sx
end

section
namespace Go.Proofs.Ytnlohongffpkpaa.Sx
open Go Go.RowKit
def distinctB : List Oper → Bool
  | [] => true
  | o :: l => match o.dst with
    | some d => (match srcIdx l d with | none => distinctB l | some _ => false)
    | none => distinctB l
def Ent.val (ρ β : Nat → Nat) : Ent → Value
  | .run x => x.den ρ
  | .skip => undef
  | .al q => .pointer (some ⟨β q,0,none⟩)
  | .st _ _ => undef
  | .late => undef
def tval (ρ : Nat → Nat) (b : Value) : Option Ent → Value
  | some (.run x) => x.den ρ
  | some .skip => undef
  | _ => b
theorem srcIdx_get {l : List Oper} {t : Tmp} {j : Nat} (h : srcIdx l t = some j) : ∃ o,l[j]? = some o ∧ o.dst = some t:=by
  induction l generalizing j with
  | nil => cases h
  | cons o l ih =>
    simp only [srcIdx] at h
    split at h
    · rename_i d hd
      split at h
      · rename_i e
        cases h
        exact ⟨o,rfl,by rw [hd,Nat.eq_of_beq_eq_true e]⟩
      · split at h
        · rename_i j' hj
          cases h
          obtain ⟨o',h1,h2⟩:=ih hj
          exact ⟨o',by simpa using h1,h2⟩
        · cases h
    · split at h
      · rename_i j' hj
        cases h
        obtain ⟨o',h1,h2⟩:=ih hj
        exact ⟨o',by simpa using h1,h2⟩
      · cases h
theorem srcIdx_of {l : List Oper} (hd : distinctB l = true) {i : Nat} {o : Oper} {d : Tmp} (h : l[i]? = some o) (ho : o.dst = some d) : srcIdx l d = some i:=by
  induction l generalizing i with
  | nil => cases h
  | cons p l ih =>
    simp only [distinctB] at hd
    split at hd
    · rename_i e he
      split at hd
      · rename_i hn
        cases i with
        | zero =>
          simp only [List.getElem?_cons_zero,Option.some.injEq] at h
          subst h
          rw [he] at ho
          cases ho
          simp [srcIdx,he]
        | succ i =>
          simp only [List.getElem?_cons_succ] at h
          have:=ih hd h
          simp only [srcIdx,he]
          by_cases ed : e = d
          · subst ed;rw [hn] at this;cases this
          · rw [Nat.beq_eq_false_iff.2 ed,this]
      · cases hd
    · rename_i he
      cases i with
      | zero =>
        simp only [List.getElem?_cons_zero,Option.some.injEq] at h
        subst h
        rw [he] at ho
        cases ho
      | succ i =>
        simp only [List.getElem?_cons_succ] at h
        have:=ih hd h
        simp only [srcIdx,he,this]
theorem srcIdx_take {l : List Oper} {t : Tmp} {i : Nat} : srcIdx (l.take i) t = match srcIdx l t with | some j => if j < i then some j else none | none => none:=by
  induction l generalizing i with
  | nil => simp [srcIdx]
  | cons o l ih =>
    cases i with
    | zero =>
      simp only [List.take_zero,srcIdx]
      split <;> rfl
    | succ i =>
      simp only [List.take_succ_cons,srcIdx,ih (i:=i)]
      split
      · rename_i d hd
        split
        · rfl
        · cases srcIdx l t with
          | none => rfl
          | some j => simp only;by_cases h : j < i <;> simp [h]
      · cases srcIdx l t with
        | none => rfl
        | some j => simp only;by_cases h : j < i <;> simp [h]
theorem distinctB_tail {o : Oper} {l : List Oper} (h : distinctB (o :: l) = true) : distinctB l = true ∧ ∀ d,o.dst = some d → srcIdx l d = none:=by
  simp only [distinctB] at h
  split at h
  · rename_i d hd
    split at h
    · rename_i hn;exact ⟨h,fun d' e => by rw [hd] at e;cases e;exact hn⟩
    · cases h
  · rename_i hd
    exact ⟨h,fun d' e => by rw [hd] at e;cases e⟩
theorem distinctB_take {l : List Oper} (i : Nat) (h : distinctB l = true) : distinctB (l.take i) = true:=by
  induction l generalizing i with
  | nil => simp [distinctB]
  | cons o l ih =>
    obtain ⟨h1,h2⟩:=distinctB_tail h
    cases i with
    | zero => simp [distinctB]
    | succ i =>
      simp only [List.take_succ_cons,distinctB]
      cases hd : o.dst with
      | none => exact ih i h1
      | some d =>
        have : srcIdx (l.take i) d = none:=by rw [srcIdx_take,h2 d hd]
        simp only [this]
        exact ih i h1
section
variable {P : Program} {S : List Sum} {W : World} {n0 : NL} {ρ0 : Nat → Nat} {N : Nat} {ρ : Nat → Nat} {R : Leaf → Prop} {ops : Array Oper} {L : List Oper} {hp : Hp} {n : Nat}
theorem path_look : ∀ (l : List Oper) (al : Al) (σ : St) (fs : List Ent) (al' : Al) (σ' : St),PathP P ops L W n0 ρ0 N ρ hp n l al σ fs al' σ' → distinctB l = true → ∀ t,
    (look σ'.tm t).den ρ = match srcIdx l t with | some j => tval ρ ((look σ.tm t).den ρ) fs[j]? | none => (look σ.tm t).den ρ:=by
  intro l
  induction l with
  | nil =>
    intro al σ fs al' σ' h _ t
    cases fs with
    | nil => obtain ⟨_,rfl⟩:=h;rfl
    | cons f fs => exact h.elim
  | cons o l ih =>
    intro al σ fs al' σ' h hd t
    cases fs with
    | nil => exact h.elim
    | cons f fs =>
      obtain ⟨al1,σ1,hs,_,hp'⟩:=h
      obtain ⟨hd1,hd3⟩:=distinctB_tail hd
      rw [ih al1 σ1 fs al' σ' hp' hd1 t]
      have hstep : (look σ1.tm t).den ρ = if o.dst = some t then tval ρ ((look σ.tm t).den ρ) (some f) else (look σ.tm t).den ρ:=by
        cases f with
        | run x => have:=hs.2.2.1 t;simpa [tval] using this
        | skip => have:=hs.2.1 t;simpa [tval] using this
        | al q => have:=hs.2.1 t;simpa [tval] using this
        | st q u => have:=hs.2.1 t;simpa [tval] using this
        | late => have:=hs.2.1 t;simpa [tval] using this
      cases hd2 : o.dst with
      | none =>
        rw [hd2] at hstep
        simp only [reduceCtorEq,if_false] at hstep
        simp only [srcIdx,hd2,hstep]
        cases srcIdx l t with
        | none => rfl
        | some j => simp
      | some d =>
        simp only [srcIdx,hd2]
        rw [hd2] at hstep
        simp only [Option.some.injEq] at hstep
        by_cases e : d = t
        · subst e
          rw [hd3 d hd2]
          simp only [Nat.beq_refl,List.getElem?_cons_zero]
          simpa using hstep
        · rw [Nat.beq_eq_false_iff.2 e]
          rw [if_neg e] at hstep
          rw [hstep]
          cases srcIdx l t with
          | none => rfl
          | some j => simp
theorem path_get : ∀ (l : List Oper) (al : Al) (σ : St) (fs : List Ent) (al' : Al) (σ' : St),PathP P ops L W n0 ρ0 N ρ hp n l al σ fs al' σ' → ∀ (i : Nat) (o : Oper),l[i]? = some o →
    ∃ f al_i σ_i al1 σ1,fs[i]? = some f ∧ PathP P ops L W n0 ρ0 N ρ hp n (l.take i) al σ (fs.take i) al_i σ_i ∧ StepP P ops W n0 ρ0 N ρ hp n o al_i σ_i f al1 σ1:=by
  intro l
  induction l with
  | nil => intro al σ fs al' σ' _ i o h;cases h
  | cons p l ih =>
    intro al σ fs al' σ' h i o hi
    cases fs with
    | nil => exact h.elim
    | cons f fs =>
      obtain ⟨al1,σ1,hs,hl,hp'⟩:=h
      cases i with
      | zero =>
        simp only [List.getElem?_cons_zero,Option.some.injEq] at hi
        subst hi
        exact ⟨f,al,σ,al1,σ1,rfl,⟨rfl,rfl⟩,hs⟩
      | succ i =>
        simp only [List.getElem?_cons_succ] at hi
        obtain ⟨f',al_i,σ_i,al2,σ2,h1,h2,h3⟩:=ih al1 σ1 fs al' σ' hp' i o hi
        exact ⟨f',al_i,σ_i,al2,σ2,by simpa using h1,⟨al1,σ1,hs,hl,h2⟩,h3⟩
theorem path_isL : ∀ (l : List Oper) (al : Al) (σ : St) (fs : List Ent) (al' : Al) (σ' : St),PathP P ops L W n0 ρ0 N ρ hp n l al σ fs al' σ' → ∀ (i : Nat) (o : Oper) (f : Ent),l[i]? = some o → fs[i]? = some f →
    f.isL = isLate L o ∧ (f = .late → o.dst = none):=by
  intro l
  induction l with
  | nil => intro al σ fs al' σ' _ i o f h;cases h
  | cons p l ih =>
    intro al σ fs al' σ' h i o f hi hf
    cases fs with
    | nil => exact h.elim
    | cons f0 fs =>
      obtain ⟨al1,σ1,hs,hl,hp'⟩:=h
      cases i with
      | zero =>
        simp only [List.getElem?_cons_zero,Option.some.injEq] at hi hf
        subst hi;subst hf
        refine ⟨hl,fun e => ?_⟩
        subst e
        exact hs.2.2.1
      | succ i => exact ih al1 σ1 fs al' σ' hp' i o f (by simpa using hi) (by simpa using hf)
def NoSt (fs : List Ent) (q : Nat) : Prop:=∀ (j : Nat) (u : U),fs[j]? ≠ some (.st q u)
theorem NoSt.tail {f : Ent} {fs : List Ent} {q : Nat} (h : NoSt (f :: fs) q) : NoSt fs q:=fun j u e => h (j + 1) u (by simpa using e)
theorem path_al : ∀ (l : List Oper) (al : Al) (σ : St) (fs : List Ent) (al' : Al) (σ' : St),PathP P ops L W n0 ρ0 N ρ hp n l al σ fs al' σ' →
    al.length ≤ al'.length ∧
    (∀ (i : Nat) (o : Oper) (q : Nat),l[i]? = some o → fs[i]? = some (.al q) → al.length ≤ q ∧ ∃ d cs ty cs',al'[q]? = some (d,(cs',ty)) ∧ o.dst = some d ∧ cs.all (C.wf 0) = true ∧ cs.length = cs'.length ∧ (NoSt fs q → cs = cs') ∧
        ∀ (a : Act) (w : World),(execOp a.eval o).run P w = .ok (.value (.pointer (some ⟨w.heap.size,0,none⟩))) (w.alloc (.cells (dens ρ cs) ty))) ∧
    (∀ (i j q : Nat),fs[i]? = some (.al q) → fs[j]? = some (.al q) → i = j) ∧ (∀ q : Nat,al.length ≤ q → q < al'.length → ∃ i : Nat,fs[i]? = some (Ent.al q)) ∧ fs.length = l.length ∧
    (∀ (q : Nat) (d : Tmp) (cs : List C) (ty : Nat),al[q]? = some (d,(cs,ty)) → ∃ cs',al'[q]? = some (d,(cs',ty)) ∧ cs.length = cs'.length ∧ (NoSt fs q → cs = cs')) ∧
    (∀ (i : Nat) (o : Oper) (q : Nat) (u : U),l[i]? = some o → fs[i]? = some (.st q u) → ∃ d ty cs',al'[q]? = some (d,(cs',ty)) ∧ u.cells.length = cs'.length ∧ u.cells.all C.plain = true ∧ u.cells.all (C.wf 0) = true ∧ (∃ t y,o.op = .store t (.tmp d) y ∧ tsz P t = some u.cells.length) ∧ o.dst = none ∧
        ((∀ (j : Nat) (u' : U),fs[j]? = some (.st q u') → j = i) → u.cells = cs')):=by
  intro l
  induction l with
  | nil =>
    intro al σ fs al' σ' h
    cases fs with
    | nil =>
      obtain ⟨rfl,rfl⟩:=h
      exact ⟨Nat.le_refl _,(fun i o q hi => by cases hi),(fun i j q hi => by cases hi),(fun q h1 h2 => by omega),rfl,(fun q d cs ty h => ⟨cs,h,rfl,fun _ => rfl⟩),(fun i o q u hi => by cases hi)⟩
    | cons f fs => exact h.elim
  | cons p l ih =>
    intro al σ fs al' σ' h
    cases fs with
    | nil => exact h.elim
    | cons f fs =>
      obtain ⟨al1,σ1,hs,_,hp'⟩:=h
      obtain ⟨hlen,ih2,ih3,ih4,ih5,ih6,ih7⟩:=ih al1 σ1 fs al' σ' hp'
      -- what holds of whatever first entry that is no alloc and no store
      have plainCase : al1 = al → (∀ q,f ≠ .al q) → (∀ q u,f ≠ .st q u) → al.length ≤ al'.length ∧
    (∀ (i : Nat) (o : Oper) (q : Nat),(p :: l)[i]? = some o → (f :: fs)[i]? = some (.al q) → al.length ≤ q ∧ ∃ d cs ty cs',al'[q]? = some (d,(cs',ty)) ∧ o.dst = some d ∧ cs.all (C.wf 0) = true ∧ cs.length = cs'.length ∧ (NoSt (f :: fs) q → cs = cs') ∧
        ∀ (a : Act) (w : World),(execOp a.eval o).run P w = .ok (.value (.pointer (some ⟨w.heap.size,0,none⟩))) (w.alloc (.cells (dens ρ cs) ty))) ∧
    (∀ (i j q : Nat),(f :: fs)[i]? = some (.al q) → (f :: fs)[j]? = some (.al q) → i = j) ∧ (∀ q : Nat,al.length ≤ q → q < al'.length → ∃ i : Nat,(f :: fs)[i]? = some (Ent.al q)) ∧ (f :: fs).length = (p :: l).length ∧
    (∀ (q : Nat) (d : Tmp) (cs : List C) (ty : Nat),al[q]? = some (d,(cs,ty)) → ∃ cs',al'[q]? = some (d,(cs',ty)) ∧ cs.length = cs'.length ∧ (NoSt (f :: fs) q → cs = cs')) ∧
    (∀ (i : Nat) (o : Oper) (q : Nat) (u : U),(p :: l)[i]? = some o → (f :: fs)[i]? = some (.st q u) → ∃ d ty cs',al'[q]? = some (d,(cs',ty)) ∧ u.cells.length = cs'.length ∧ u.cells.all C.plain = true ∧ u.cells.all (C.wf 0) = true ∧ (∃ t y,o.op = .store t (.tmp d) y ∧ tsz P t = some u.cells.length) ∧ o.dst = none ∧
        ((∀ (j : Nat) (u' : U),(f :: fs)[j]? = some (.st q u') → j = i) → u.cells = cs')):=by
        rintro rfl hna hns
        refine ⟨hlen,?_,?_,?_,by simp [ih5],?_,?_⟩
        · intro i o q hi hf
          cases i with
          | zero => simp only [List.getElem?_cons_zero,Option.some.injEq] at hf;exact absurd hf (hna q)
          | succ i =>
            obtain ⟨g1,d,cs,ty,cs',g2,g3,g4,g5,g6,g7⟩:=ih2 i o q (by simpa using hi) (by simpa using hf)
            exact ⟨g1,d,cs,ty,cs',g2,g3,g4,g5,fun hno => g6 hno.tail,g7⟩
        · intro i j q hi hj
          cases i with
          | zero => simp only [List.getElem?_cons_zero,Option.some.injEq] at hi;exact absurd hi (hna q)
          | succ i => cases j with
            | zero => simp only [List.getElem?_cons_zero,Option.some.injEq] at hj;exact absurd hj (hna q)
            | succ j => rw [ih3 i j q (by simpa using hi) (by simpa using hj)]
        · intro q h1 h2
          obtain ⟨i,hi⟩:=ih4 q h1 h2
          exact ⟨i + 1,by simpa using hi⟩
        · intro q d cs ty hq
          obtain ⟨cs',g1,g2,g3⟩:=ih6 q d cs ty hq
          exact ⟨cs',g1,g2,fun hno => g3 hno.tail⟩
        · intro i o q u hi hf
          cases i with
          | zero => simp only [List.getElem?_cons_zero,Option.some.injEq] at hf;exact absurd hf (hns q u)
          | succ i =>
            obtain ⟨d,ty,cs',g1,g2,g3,g4,g5,g6,g7⟩:=ih7 i o q u (by simpa using hi) (by simpa using hf)
            exact ⟨d,ty,cs',g1,g2,g3,g4,g5,g6,fun hu => g7 fun j u' hj => by have:=hu (j + 1) u' (by simpa using hj);omega⟩
      cases f with
      | run x => exact plainCase hs.1 (fun q e => by cases e) (fun q u e => by cases e)
      | skip => exact plainCase hs.1 (fun q e => by cases e) (fun q u e => by cases e)
      | late => exact plainCase hs.1 (fun q e => by cases e) (fun q u e => by cases e)
      | al q0 =>
        obtain ⟨⟨rfl,_⟩,_,_,d,cs,ty,hd,rfl,hw,hr1⟩:=hs
        simp only [List.length_append,List.length_singleton] at hlen
        refine ⟨by omega,?_,?_,?_,by simp [ih5],?_,?_⟩
        · intro i o q hi hf
          cases i with
          | zero =>
            simp only [List.getElem?_cons_zero,Option.some.injEq] at hi hf
            subst hi
            cases hf
            obtain ⟨cs',g1,g2,g3⟩:=ih6 al.length d cs ty (by simp)
            exact ⟨Nat.le_refl _,d,cs,ty,cs',g1,hd,hw,g2,fun hno => g3 hno.tail,hr1⟩
          | succ i =>
            obtain ⟨g1,d',cs2,ty',cs',g2,g3,g4,g5,g6,g7⟩:=ih2 i o q (by simpa using hi) (by simpa using hf)
            simp only [List.length_append,List.length_singleton] at g1
            exact ⟨by omega,d',cs2,ty',cs',g2,g3,g4,g5,fun hno => g6 hno.tail,g7⟩
        · intro i j q hi hj
          cases i with
          | zero =>
            cases hi
            cases j with
            | zero => rfl
            | succ j =>
              exfalso
              have hj' : fs[j]? = some (.al al.length):=by simpa using hj
              have hlt : j < l.length:=by rw [← ih5];exact (List.getElem?_eq_some_iff.1 hj').1
              have:=(ih2 j l[j] _ (by simp [hlt]) hj').1
              simp at this
              omega
          | succ i => cases j with
            | zero =>
              cases hj
              exfalso
              have hi' : fs[i]? = some (.al al.length):=by simpa using hi
              have hlt : i < l.length:=by rw [← ih5];exact (List.getElem?_eq_some_iff.1 hi').1
              have:=(ih2 i l[i] _ (by simp [hlt]) hi').1
              simp at this
              omega
            | succ j => rw [ih3 i j q (by simpa using hi) (by simpa using hj)]
        · intro q h1 h2
          by_cases e : q = al.length
          · subst e;exact ⟨0,rfl⟩
          · obtain ⟨i,hi⟩:=ih4 q (by simp;omega) h2
            exact ⟨i + 1,by simpa using hi⟩
        · intro q d' cs2 ty' hq
          have hlt : q < al.length:=(List.getElem?_eq_some_iff.1 hq).1
          obtain ⟨cs',g1,g2,g3⟩:=ih6 q d' cs2 ty' (by rw [List.getElem?_append_left hlt];exact hq)
          exact ⟨cs',g1,g2,fun hno => g3 hno.tail⟩
        · intro i o q u hi hf
          cases i with
          | zero => cases hf
          | succ i =>
            obtain ⟨d',ty',cs',g1,g2,g3,g4,g5,g6,g7⟩:=ih7 i o q u (by simpa using hi) (by simpa using hf)
            exact ⟨d',ty',cs',g1,g2,g3,g4,g5,g6,fun hu => g7 fun j u' hj => by have:=hu (j + 1) u' (by simpa using hj);omega⟩
      | st q0 u0 =>
        obtain ⟨⟨d,cs0,ty,hq0,rfl,hl0,t,y,hop,_,hz⟩,_,_,hdst,_,hpl,hwf⟩:=hs
        have hq0lt : q0 < al.length:=(List.getElem?_eq_some_iff.1 hq0).1
        simp only [List.length_set] at hlen
        refine ⟨hlen,?_,?_,?_,by simp [ih5],?_,?_⟩
        · intro i o q hi hf
          cases i with
          | zero => cases hf
          | succ i =>
            obtain ⟨g1,d',cs,ty',cs',g2,g3,g4,g5,g6,g7⟩:=ih2 i o q (by simpa using hi) (by simpa using hf)
            simp only [List.length_set] at g1
            exact ⟨g1,d',cs,ty',cs',g2,g3,g4,g5,fun hno => g6 hno.tail,g7⟩
        · intro i j q hi hj
          cases i with
          | zero => cases hi
          | succ i => cases j with
            | zero => cases hj
            | succ j => rw [ih3 i j q (by simpa using hi) (by simpa using hj)]
        · intro q h1 h2
          obtain ⟨i,hi⟩:=ih4 q (by simpa using h1) h2
          exact ⟨i + 1,by simpa using hi⟩
        · intro q d' cs ty' hq
          by_cases e : q0 = q
          · subst e
            rw [hq0] at hq
            cases hq
            obtain ⟨cs',g1,g2,g3⟩:=ih6 q0 d u0.cells ty (by simp [hq0lt])
            exact ⟨cs',g1,by omega,fun hno => absurd rfl (hno 0 u0)⟩
          · obtain ⟨cs',g1,g2,g3⟩:=ih6 q d' cs ty' (by rw [List.getElem?_set_ne e];exact hq)
            exact ⟨cs',g1,g2,fun hno => g3 hno.tail⟩
        · intro i o q u hi hf
          cases i with
          | zero =>
            simp only [List.getElem?_cons_zero,Option.some.injEq] at hi hf
            subst hi
            cases hf
            obtain ⟨cs',g1,g2,g3⟩:=ih6 q0 d u0.cells ty (by simp [hq0lt])
            refine ⟨d,ty,cs',g1,g2,hpl,hwf,⟨t,y,hop,hz⟩,hdst,fun hu => g3 fun j u' hj => ?_⟩
            have:=hu (j + 1) u' (by simpa using hj)
            omega
          | succ i =>
            obtain ⟨d',ty',cs',g1,g2,g3,g4,g5,g6,g7⟩:=ih7 i o q u (by simpa using hi) (by simpa using hf)
            exact ⟨d',ty',cs',g1,g2,g3,g4,g5,g6,fun hu => g7 fun j u' hj => by have:=hu (j + 1) u' (by simpa using hj);omega⟩
end
end Go.Proofs.Ytnlohongffpkpaa.Sx
end

section
namespace Go.Proofs.Ytnlohongffpkpaa.Sx
open Go Go.RowKit
set_option linter.unusedVariables false
structure Agree (l : List Oper) (fs : List Ent) (base : Tmp → Value) (N : Nat) (ρ : Nat → Nat) (E : Nat → Bool) (β : Nat → Nat) (a : Act) : Prop where
  defers : a.defers = []
  sz : a.tmps.size = N
  tm : ∀ t,a.tmps.getD t undef = match srcIdx l t with | some j => (match E j with | true => (match fs[j]? with | some f => f.val ρ β | none => undef) | false => base t) | none => base t
def Sep (ρ : Nat → Nat) (n : Nat) (hp : Hp) (b : Nat) : Prop:=(∀ k,k < n → ρ k ≠ b) ∧ hp.x b = none
structure SW (W : World) (n0 : NL) (ρ0 ρ : Nat → Nat) (hp : Hp) (n : Nat) (fs : List Ent) (al' : Al) (E : Nat → Bool) (β : Nat → Nat) (w : World) : Prop where
  H : HInv W n0 ρ0 ρ hp n w
  blk : ∀ (i q : Nat),E i = true → fs[i]? = some (.al q) → ∃ d cs ty cs',al'[q]? = some (d,(cs',ty)) ∧ w.heap[β q]? = some (.cells (dens ρ cs) ty (0,0)) ∧ W.heap.size ≤ β q ∧ β q < w.heap.size ∧ Sep ρ n hp (β q) ∧
    cs.all (C.wf 0) = true ∧ cs.length = cs'.length ∧ ((∀ j u,fs[j]? = some (.st q u) → E j = true) → cs = cs')
  inj : ∀ (i j q r : Nat),E i = true → E j = true → fs[i]? = some (.al q) → fs[j]? = some (.al r) → q ≠ r → β q ≠ β r
section
variable {P : Program} {W : World} {n0 : NL} {ρ0 : Nat → Nat} {N : Nat} {ρ : Nat → Nat} {ops : Array Oper} {L : List Oper} {hp : Hp} {n : Nat}
  {l : List Oper} {fs : List Ent} {base : Tmp → Value} {al' : Al} {E : Nat → Bool} {β : Nat → Nat} {a : Act} {w : World}
theorem SW.below (h : SW W n0 ρ0 ρ hp n fs al' E β w) {w' : World} (hb : Below w.heap.size w w') : SW W n0 ρ0 ρ hp n fs al' E β w':=by
  refine ⟨h.H.below hb,?_,h.inj⟩
  intro i q hi hf
  obtain ⟨d,cs,ty,cs',h1,h2,h3,h4,h5⟩:=h.blk i q hi hf
  exact ⟨d,cs,ty,cs',h1,(hb.block _ h4).trans h2,h3,Nat.lt_of_lt_of_le h4 hb.size,h5⟩
theorem Agree.put (h : Agree l fs base N ρ E β a) {i : Nat} {d : Tmp} {f : Ent} {β' : Nat → Nat} (hs : srcIdx l d = some i) (hd : d < N) (hf : fs[i]? = some f)
    (hβ : ∀ j q,E j = true → fs[j]? = some (.al q) → β' q = β q) : Agree l fs base N ρ (fun j => E j || Nat.beq j i) β' (a.put (some d) (f.val ρ β')):=by
  refine ⟨h.defers,by simp [Act.put,h.sz],?_⟩
  intro t
  by_cases e : d = t
  · subst e
    rw [hs]
    have hlt : d < a.tmps.size:=by rw [h.sz];exact hd
    simp [Act.put,hlt,hf]
  · have e1 : (a.put (some d) (f.val ρ β')).tmps.getD t undef = a.tmps.getD t undef:=by simp [Act.put,e]
    rw [e1,h.tm t]
    cases hj : srcIdx l t with
    | none => rfl
    | some j =>
      have hne : j ≠ i:=by
        intro e2
        subst e2
        obtain ⟨o1,g1,g2⟩:=srcIdx_get hs
        obtain ⟨o2,g3,g4⟩:=srcIdx_get hj
        rw [g1] at g3
        cases g3
        rw [g2] at g4
        cases g4
        exact e rfl
      simp only [Nat.beq_eq_false_iff.2 hne,Bool.or_false]
      cases hE : E j with
      | false => rfl
      | true =>
        simp only
        cases hfj : fs[j]? with
        | none => rfl
        | some g =>
          cases g with
          | run x => rfl
          | skip => rfl
          | al q => simp only [Ent.val];rw [hβ j q hE hfj]
          | st q u => rfl
          | late => rfl
theorem Agree.none (h : Agree l fs base N ρ E β a) {i : Nat} {o : Oper} (hi : l[i]? = some o) (ho : o.dst = Option.none) : Agree l fs base N ρ (fun j => E j || Nat.beq j i) β a:=by
  refine ⟨h.defers,h.sz,fun t => ?_⟩
  rw [h.tm t]
  cases hj : srcIdx l t with
  | none => rfl
  | some j =>
    have hne : j ≠ i:=by
      intro e
      subst e
      obtain ⟨o2,g3,g4⟩:=srcIdx_get hj
      rw [hi] at g3
      cases g3
      rw [ho] at g4
      cases g4
    simp only [Nat.beq_eq_false_iff.2 hne,Bool.or_false]
theorem putC_whole : ∀ (l : List C) (p cs : List C),cs.length = l.length → putC (p ++ cs) p.length l = p ++ l
  | [],p,cs,h => by
    have : cs = []:=List.eq_nil_of_length_eq_zero (by simpa using h)
    subst this;simp [putC]
  | c :: r,p,[],h => by simp at h
  | c :: r,p,x :: cs,h => by
    have e1 : (p ++ x :: cs).set p.length c = (p ++ [c]) ++ cs:=by simp
    have e2 : p.length + 1 = (p ++ [c]).length:=by simp
    rw [putC,e1,e2,putC_whole r (p ++ [c]) cs (by simpa using h)]
    simp
theorem run_store_whole {ρ : Nat → Nat} {w : World} {b ty : Nat} {cs : List C} {t : TypeId} {u : U} (hb : w.heap[b]? = some (.cells (dens ρ cs) ty (0,0))) (hw : cs.all (C.wf 0) = true) (hl : cs.length = u.cells.length) (hz : tsz P t = some u.cells.length)
    (hu : u.cells.all (C.wf 0) = true) (hp : u.cells.all C.plain = true) :
    ∃ w',(storeVar t ⟨b,0,Option.none⟩ (u.den ρ)).run P w = .ok () w' ∧ Touch b w w' ∧ w'.heap[b]? = some (.cells (dens ρ u.cells) ty (0,0)):=by
  have hlt : b < w.heap.size:=by
    rcases Nat.lt_or_ge b w.heap.size with h1 | h1
    · exact h1
    · rw [Array.getElem?_eq_none h1] at hb;cases hb
  have hH0 : HInv w ⟨1,0,noM⟩ (fun _ => b) (fun _ => b) (hcons (0,(cs,ty)) hnil) 1 w:=by
    refine ⟨fun _ _ => hlt,fun i j hi hj _ => by omega,?_,Nat.le_refl _,Ext.refl _ _,(fun i h1 h2 => absurd h2 (Nat.not_lt.2 h1)),rfl,rfl,rfl,Nat.le_refl _,fun _ _ _ _ => rfl,(fun i m hm => by cases hm),rfl,MR.none _ _ _ _ _ _⟩
    intro i b' hi
    simp only [lookH_hcons,lookH_hnil] at hi
    split at hi
    · rename_i e
      cases hi
      refine ⟨by have:=Nat.eq_of_beq_eq_true e;omega,all_wf_mono hw 1,?_⟩
      rw [dens_ext (n:=0) (ρ:=ρ) (ρ':=fun _ => b) (fun i hi => by omega) cs hw]
      exact hb
    · cases hi
  have huw : u.wf 0 = true:=by
    cases u with
    | c x => simpa [U.cells,U.wf] using hu
    | agg xs => exact hu
  have hb0 : lookH (hcons (0,(cs,ty)) hnil) 0 = some (cs,ty):=rfl
  obtain ⟨w',e1,e2⟩:=run_storeVar (P:=P) (off:=0) hH0 hb0 (Nat.le_refl 0) hz (by simp [hl]) (U.wf_mono (Nat.zero_le _) u huw) hp
  have ed : U.den (fun _ => b) u = U.den ρ u:=V.den_ext (n:=0) (ρ:=ρ) (ρ':=fun _ => b) (fun i hi => by omega) (.u u) huw
  rw [ed] at e1
  obtain ⟨_,_,g3⟩:=e2.blk 0 (putC cs 0 u.cells,ty) rfl
  have ep : putC cs 0 u.cells = u.cells:=by
    have:=putC_whole u.cells [] cs hl
    simpa using this
  refine ⟨w',e1,⟨e2.os,e2.tape,e2.output,e2.size,fun k hk hne => e2.far k hk rfl fun i _ hi => Ne.symm hne⟩,?_⟩
  rw [g3,ep,dens_ext (n:=0) (ρ:=ρ) (ρ':=fun _ => b) (fun i hi => by omega) u.cells hu]
theorem HInv.touch_far {hp : Hp} {n : Nat} (h : HInv W n0 ρ0 ρ hp n w) {b : Nat} {w' : World} (ht : Touch b w w') (hb : W.heap.size ≤ b) (hne : Sep ρ n hp b) : HInv W n0 ρ0 ρ hp n w':=by
  refine ⟨fun i hi => Nat.lt_of_lt_of_le (h.lt i hi) ht.size,h.inj,?_,h.le,h.old,h.new,ht.os.trans h.os,ht.tape.trans h.tape,ht.output.trans h.output,Nat.le_trans h.size ht.size,?_,?_,h.lim,h.mem.sub' fun a ha o e => ht.far a ha fun e' => by rw [e',hne.2] at e;cases e⟩
  · intro i b' hi
    obtain ⟨g1,g2,g3⟩:=h.blk i b' hi
    exact ⟨g1,g2,by rw [ht.far (ρ i) (h.lt i g1) (hne.1 i g1)];exact g3⟩
  · intro k hk hx hk2
    rw [ht.far k (Nat.lt_of_lt_of_le hk h.size) (by omega)]
    exact h.far k hk hx hk2
  · intro i m hm
    obtain ⟨g1,g2,g3⟩:=h.mblk i m hm
    exact ⟨g1,g2,(ht.far _ (h.lt i g1) (hne.1 i g1)).trans g3⟩
def isAddr (o : Oper) (t : Tmp) : Bool :=
  match o.op,o.guard with
  | .store _ (.tmp d) y,Option.none => Nat.beq d t && (match y with | .tmp s => !Nat.beq s t | _ => true)
  | _,_ => false
theorem tmps_get {a b : Act} {N : Nat} (ha : a.tmps.size = N) (hb : b.tmps.size = N) {t : Nat} (h : a.tmps.getD t undef = b.tmps.getD t undef) : a.tmps[t]? = b.tmps[t]?:=by
  by_cases ht : t < N
  · have h1 : t < a.tmps.size:=by omega
    have h2 : t < b.tmps.size:=by omega
    simp only [Array.getD_eq_getD_getElem?,Array.getElem?_eq_getElem h1,Array.getElem?_eq_getElem h2,Option.getD_some] at h
    rw [Array.getElem?_eq_getElem h1,Array.getElem?_eq_getElem h2,h]
  · rw [Array.getElem?_eq_none (by omega),Array.getElem?_eq_none (by omega)]
theorem looks_congr {o : Oper} (hs : ∀ cs b,o.op ≠ .select cs b) {a b : Act} (ha : a.tmps.size = N) (hb : b.tmps.size = N) (h : ∀ t ∈ o.looksAt ops,a.tmps.getD t undef = b.tmps.getD t undef) :
    execOp a.eval o = execOp b.eval o ∧ Region.wanted o (yielded ops a.tmps) = Region.wanted o (yielded ops b.tmps):=by
  constructor
  · refine execOp_congr o hs fun x hx => ?_
    cases x with
    | tmp t =>
      exact h t (List.mem_append_left _ (List.mem_filterMap.2 ⟨.tmp t,by simpa using hx,rfl⟩))
    | _ => rfl
  · unfold Region.wanted
    cases hg : o.guard with
    | none => rfl
    | some gw =>
      obtain ⟨g,want⟩:=gw
      have : yielded ops a.tmps g = yielded ops b.tmps g:=by
        unfold yielded
        cases ht : (ops[g]?).bind (·.dst) with
        | none => rfl
        | some t =>
          have:=tmps_get ha hb (h t (by simp [Oper.looksAt,hg,ht]))
          simp only [Option.bind_some,this]
      simp only [this]
theorem step_any {hc : Hp} (hsub : ∀ w,HInv W n0 ρ0 ρ hc n w → HInv W n0 ρ0 ρ hp n w) {σ : St} {σ' : St} (hpath : PathP P ops L W n0 ρ0 N ρ hp n l [] σ fs al' σ') (hdist : distinctB l = true) (hbase : ∀ t,base t = (look σ.tm t).den ρ) (hTM : ∀ t,N ≤ t → base t = undef)
    {i : Nat} {o : Oper} (hi : l[i]? = some o) (ho : ops[i]? = some o) (hdN : okDst N o.dst = true) (hsel : ∀ cs b,o.op ≠ .select cs b)
    (hdep : ∀ t ∈ o.looksAt ops,∀ j,srcIdx l t = some j → j < i ∧ E j = true ∧ (isAddr o t = true ∨ ∀ q,fs[j]? ≠ some (.al q)))
    (hst : ∀ (j q : Nat) (u : U),E j = true → fs[j]? = some (.st q u) → ∀ k,fs[k]? = some (.al q) → E k = true) (hone : ∀ (j k q : Nat) (u u' : U),fs[j]? = some (.st q u) → fs[k]? = some (.st q u') → j = k)
    (hdst : (∀ q u,fs[i]? ≠ some (.st q u)) → ∃ d,o.dst = some d)
    (hA : Agree l fs base N ρ E β a) (hW : SW W n0 ρ0 ρ hc n fs al' E β w) {Q : Exit → Act → World → Prop} {K : Act → World → Prop}
    (hE : E i = false) (hnl : fs[i]? ≠ some .late) (hK : ∀ β' a' w',Agree l fs base N ρ (fun j => E j || Nat.beq j i) β' a' → SW W n0 ρ0 ρ hc n fs al' (fun j => E j || Nat.beq j i) β' w' → K a' w') : wpOp P ops Q i K a w:=by
  obtain ⟨f,al_i,σ_i,al1,σ1,hf,hpi,hstep⟩:=path_get l [] σ fs al' σ' hpath i o hi
  obtain ⟨_,hal2,hal3,_,hlen,_,hal7⟩:=path_al l [] σ fs al' σ' hpath
  obtain ⟨_,hpl2,_,hpl4,hpl5,_,_⟩:=path_al (l.take i) [] σ (fs.take i) al_i σ_i hpi
  have hfs : ∀ j,j < i → (fs.take i)[j]? = fs[j]?:=fun j hj => by rw [List.getElem?_take,if_pos hj]
  have hlook:=path_look (l.take i) [] σ (fs.take i) al_i σ_i hpi (distinctB_take i hdist)
  have hval : ∀ t ∈ o.looksAt ops,isAddr o t = false → a.tmps.getD t undef = (virt N ρ σ_i).tmps.getD t undef:=by
    intro t ht hna
    by_cases htN : t < N
    · have hv : (virt N ρ σ_i).tmps.getD t undef = (look σ_i.tm t).den ρ:=by
        rw [Array.getD_eq_getD_getElem?,virt_get σ_i htN];rfl
      rw [hv,hA.tm t,hlook t,srcIdx_take]
      cases hj : srcIdx l t with
      | none => exact hbase t
      | some j =>
        obtain ⟨h1,h2,h3⟩:=hdep t ht j hj
        have h3:=h3.resolve_left (by rw [hna];decide)
        simp only [h1,if_true,h2,hfs j h1]
        cases hfj : fs[j]? with
        | none =>
          exfalso
          obtain ⟨o2,g3,_⟩:=srcIdx_get hj
          have : j < l.length:=(List.getElem?_eq_some_iff.1 g3).1
          have:=List.getElem?_eq_none_iff.1 hfj
          omega
        | some g =>
          cases g with
          | run x => rfl
          | skip => rfl
          | al q => exact absurd hfj (h3 q)
          | late =>
            exfalso
            obtain ⟨o2,g3,g4⟩:=srcIdx_get hj
            have:=(path_isL l [] σ fs al' σ' hpath j o2 _ g3 hfj).2 rfl
            rw [this] at g4
            cases g4
          | st q u =>
            exfalso
            obtain ⟨o2,g3,g4⟩:=srcIdx_get hj
            obtain ⟨_,_,_,_,_,_,_,_,g5,_⟩:=hal7 j o2 q u g3 hfj
            rw [g5] at g4
            cases g4
    · have h1 : a.tmps[t]? = none:=Array.getElem?_eq_none (by rw [hA.sz];exact Nat.le_of_not_lt htN)
      have h2 : (virt N ρ σ_i).tmps[t]? = none:=Array.getElem?_eq_none (by simp only [virt,List.size_toArray,List.length_map,List.length_range];exact Nat.le_of_not_lt htN)
      rw [Array.getD_eq_getD_getElem?,Array.getD_eq_getD_getElem?,h1,h2]
  have hcong : (∀ t,isAddr o t = false) → execOp a.eval o = execOp (virt N ρ σ_i).eval o ∧ Region.wanted o (yielded ops a.tmps) = Region.wanted o (yielded ops (virt N ρ σ_i).tmps) :=
    fun h => looks_congr (ops:=ops) hsel hA.sz (by simp [virt] : (virt N ρ σ_i).tmps.size = N) fun t ht => hval t ht (h t)
  have same : ∀ w',SW W n0 ρ0 ρ hc n fs al' E β w' → (∀ q,f ≠ .al q) → (∀ q u,f ≠ .st q u) → SW W n0 ρ0 ρ hc n fs al' (fun j => E j || Nat.beq j i) β w':=by
    intro w' hW' hne hns
    refine ⟨hW'.H,?_,?_⟩
    · intro j q hj hfj
      by_cases e : j = i
      · subst e;rw [hf] at hfj;cases hfj;exact absurd rfl (hne q)
      · rw [Nat.beq_eq_false_iff.2 e,Bool.or_false] at hj
        obtain ⟨d,cs,ty,cs',g1,g2,g3,g4,g5,g6,g7,g8⟩:=hW'.blk j q hj hfj
        refine ⟨d,cs,ty,cs',g1,g2,g3,g4,g5,g6,g7,fun hall => g8 fun k u hk => ?_⟩
        have hki : k ≠ i:=by intro e;subst e;rw [hf] at hk;cases hk;exact absurd rfl (hns q u)
        have:=hall k u hk
        rwa [Nat.beq_eq_false_iff.2 hki,Bool.or_false] at this
    · intro j k q r hj hk hfj hfk hqr
      have e1 : j ≠ i:=by intro e;subst e;rw [hf] at hfj;cases hfj;exact absurd rfl (hne q)
      have e2 : k ≠ i:=by intro e;subst e;rw [hf] at hfk;cases hfk;exact absurd rfl (hne r)
      rw [Nat.beq_eq_false_iff.2 e1,Bool.or_false] at hj
      rw [Nat.beq_eq_false_iff.2 e2,Bool.or_false] at hk
      exact hW'.inj j k q r hj hk hfj hfk hqr
  unfold wpOp
  simp only [ho]
  cases f with
  | late => exact absurd hf hnl
  | run x =>
    obtain ⟨_,_,_,hw1,hst1,hso⟩:=hstep
    have hna : ∀ t,isAddr o t = false:=fun t => by
      unfold isAddr
      split
      · rename_i hop _;rw [hop] at hso;cases hso
      · rfl
    obtain ⟨hex,hwt⟩:=hcong hna
    rw [hwt]
    obtain ⟨d,hd⟩:=hdst fun q u e => by rw [hf] at e;cases e
    have hsrc:=srcIdx_of hdist hi hd
    rw [if_pos hw1]
    refine .inl ?_
    have hA':=hA.put (β':=β) hsrc (okDst_lt hdN d hd) hf (fun _ _ _ _ => rfl)
    unfold Oper.wp
    rw [hex]
    rcases hst1 w (hsub w hW.H) with hr | ⟨g,args,hr,hc⟩
    · rw [hr,Oper.upon_value,hd]
      exact hK β _ w hA' (same w hW (fun q e => by cases e) (fun q u e => by cases e))
    · rw [hr,Oper.upon_enter]
      refine hc.mono ?_
      rintro e w' ⟨rfl,hb⟩
      simp only [hd]
      exact hK β _ w' hA' (same w' (hW.below hb) (fun q e => by cases e) (fun q u e => by cases e))
  | skip =>
    obtain ⟨_,_,hw1,hgs⟩:=hstep
    have hna : ∀ t,isAddr o t = false:=fun t => by
      unfold isAddr
      split
      · rename_i hg;rw [hg] at hgs;cases hgs
      · rfl
    obtain ⟨hex,hwt⟩:=hcong hna
    rw [hwt]
    obtain ⟨d,hd⟩:=hdst fun q u e => by rw [hf] at e;cases e
    have hsrc:=srcIdx_of hdist hi hd
    rw [if_neg (by simp [hw1])]
    have hA':=hA.put (β':=β) hsrc (okDst_lt hdN d hd) hf (fun _ _ _ _ => rfl)
    rw [hd]
    exact hK β _ w hA' (same w hW (fun q e => by cases e) (fun q u e => by cases e))
  | st q u =>
    obtain ⟨⟨d,cs0,ty0,hq0,_,_,t,y,hop,hy,hz⟩,_,_,hd0,hg,hpl,hwf⟩:=hstep
    have hwt : Region.wanted o (yielded ops a.tmps) = true:=by simp [Region.wanted,hg]
    rw [if_pos hwt]
    refine .inl ?_
    -- the block's own alloc
    have hqlt : q < al_i.length:=(List.getElem?_eq_some_iff.1 hq0).1
    obtain ⟨j,hj⟩:=hpl4 q (by simp) hqlt
    have hjlt : j < (l.take i).length:=by rw [← hpl5];exact (List.getElem?_eq_some_iff.1 hj).1
    have hji : j < i:=by simp at hjlt;omega
    obtain ⟨_,d1,cs1,ty1,cs1',k1,k2,_⟩:=hpl2 j (l.take i)[j] q (List.getElem?_eq_getElem hjlt) hj
    rw [hq0] at k1
    cases k1
    have hlj : l[j]? = some (l.take i)[j]:=by
      have:=List.getElem?_eq_getElem hjlt
      rw [List.getElem?_take,if_pos hji] at this
      exact this
    have hsrc:=srcIdx_of hdist hlj k2
    have hfj : fs[j]? = some (.al q):=by rw [← hfs j hji];exact hj
    have hdl : d ∈ o.looksAt ops:=by
      unfold Oper.looksAt
      refine List.mem_append_left _ (List.mem_filterMap.2 ⟨.tmp d,?_,rfl⟩)
      rw [hop]
      simp [Op.operands]
    obtain ⟨_,hEj,_⟩:=hdep d hdl j hsrc
    obtain ⟨d2,cs2,ty2,cs2',b1,b2,b3,b4,b5,b6,b7,b8⟩:=hW.blk j q hEj hfj
    obtain ⟨d3,ty3,cs3',m1,m2,_,_,_,_,m7⟩:=hal7 i o q u hi hf
    rw [b1] at m1
    cases m1
    obtain ⟨w',e1,ht,hnew⟩:=run_store_whole (P:=P) b2 b6 (by omega) hz hwf hpl
    have hev : a.eval (.tmp d) = .pointer (some ⟨β q,0,none⟩):=by
      show a.tmps.getD d undef = _
      rw [hA.tm d,hsrc]
      simp only [hEj,hfj,Ent.val]
    have hevy : a.eval y = u.den ρ:=by
      rw [← hy]
      cases y with
      | tmp s =>
        refine hval s ?_ ?_
        · unfold Oper.looksAt
          refine List.mem_append_left _ (List.mem_filterMap.2 ⟨.tmp s,?_,rfl⟩)
          rw [hop]
          simp [Op.operands]
        · simp [isAddr,hop,hg]
      | _ => rfl
    have hrun : (execOp a.eval o).run P w = .ok .skip w':=by
      unfold execOp
      rw [hop]
      refine run_u (s:=Instr.storeAt t (a.eval (.tmp d)) (a.eval y)) ?_
      simp only [hev,hevy,Instr.storeAt,Instr.sureAddr,Sem.run_bind,Sem.run_pure,Result.andThen_ok]
      exact e1
    unfold Oper.wp
    rw [hrun,Oper.upon_skip,hd0]
    refine hK β _ w' (hA.none hi hd0) ⟨hW.H.touch_far ht b3 b5,?_,?_⟩
    · intro k r hk hfk
      have hki : k ≠ i:=by intro e;subst e;rw [hf] at hfk;cases hfk
      rw [Nat.beq_eq_false_iff.2 hki,Bool.or_false] at hk
      by_cases hrq : r = q
      · subst hrq
        refine ⟨_,u.cells,_,_,b1,hnew,b3,Nat.lt_of_lt_of_le b4 ht.size,b5,hwf,m2,fun _ => m7 fun j' u' hj' => hone j' i r u' u hj' hf⟩
      · obtain ⟨d4,cs4,ty4,cs4',c1,c2,c3,c4,c5,c6,c7,c8⟩:=hW.blk k r hk hfk
        have hne:=hW.inj k j r q hk hEj hfk hfj hrq
        refine ⟨d4,cs4,ty4,cs4',c1,by rw [ht.far _ c4 hne];exact c2,c3,Nat.lt_of_lt_of_le c4 ht.size,c5,c6,c7,fun hall => c8 fun j' u' hj' => ?_⟩
        have hji' : j' ≠ i:=by intro e;subst e;rw [hf] at hj';cases hj';exact hrq rfl
        have:=hall j' u' hj'
        rwa [Nat.beq_eq_false_iff.2 hji',Bool.or_false] at this
    · intro k m r s hk hm hfk hfm hrs
      have e1 : k ≠ i:=by intro e;subst e;rw [hf] at hfk;cases hfk
      have e2 : m ≠ i:=by intro e;subst e;rw [hf] at hfm;cases hfm
      rw [Nat.beq_eq_false_iff.2 e1,Bool.or_false] at hk
      rw [Nat.beq_eq_false_iff.2 e2,Bool.or_false] at hm
      exact hW.inj k m r s hk hm hfk hfm hrs
  | al q =>
    obtain ⟨⟨_,hao⟩,_,hw1,_⟩:=hstep
    have hna : ∀ t,isAddr o t = false:=fun t => by
      unfold isAddr
      split
      · rename_i hop _;rw [hop] at hao;cases hao
      · rfl
    obtain ⟨hex,hwt⟩:=hcong hna
    rw [hwt]
    obtain ⟨d,hd⟩:=hdst fun q u e => by rw [hf] at e;cases e
    have hsrc:=srcIdx_of hdist hi hd
    obtain ⟨_,d',cs,ty,cs',g1,g2,g3,g5,g6,g4⟩:=hal2 i o q hi hf
    rw [if_pos hw1]
    refine .inl ?_
    have hβ : ∀ j r,E j = true → fs[j]? = some (.al r) → (if r = q then w.heap.size else β r) = β r:=by
      intro j r hj hfj
      have : r ≠ q:=by
        intro e
        subst e
        have:=hal3 j i r hfj hf
        subst this
        rw [hE] at hj
        cases hj
      simp [this]
    have hA':=hA.put (β':=fun x => if x = q then w.heap.size else β x) hsrc (okDst_lt hdN d hd) hf hβ
    unfold Oper.wp
    rw [g4 a w,Oper.upon_value,hd]
    have hval2 : (Ent.al q).val ρ (fun x => if x = q then w.heap.size else β x) = .pointer (some ⟨w.heap.size,0,none⟩):=by simp [Ent.val]
    rw [← hval2]
    have hb : Below w.heap.size w (w.alloc (.cells (dens ρ cs) ty)):=(Below.refl _ _).alloc (Nat.le_refl _) _
    have hW1:=hW.below hb
    have hsz : (w.alloc (.cells (dens ρ cs) ty)).heap.size = w.heap.size + 1:=by rw [heap_alloc];simp
    refine hK _ _ _ hA' ⟨hW1.H,?_,?_⟩
    · intro j r hj hfj
      by_cases e : j = i
      · subst e
        rw [hf] at hfj
        cases hfj
        refine ⟨d',cs,ty,cs',g1,?_,?_,?_,?_,g3,g5,fun hall => g6 fun k u hk => ?_⟩
        · simp only [if_true];rw [heap_alloc];simp
        · simp only [if_true];exact hW.H.size
        · simp only [if_true];omega
        · simp only [if_true]
          exact ⟨fun k hk => Nat.ne_of_lt (hW.H.lt k hk),hW.H.mem.fresh⟩
        · have hkj : k ≠ j:=by intro e;subst e;rw [hf] at hk;cases hk
          have:=hall k u hk
          rw [Nat.beq_eq_false_iff.2 hkj,Bool.or_false] at this
          have:=hst k q u this hk j hf
          rw [hE] at this
          cases this
      · rw [Nat.beq_eq_false_iff.2 e,Bool.or_false] at hj
        obtain ⟨d4,cs4,ty4,cs4',c1,c2,c3,c4,c5,c6,c7,c8⟩:=hW1.blk j r hj hfj
        simp only [hβ j r hj hfj]
        refine ⟨d4,cs4,ty4,cs4',c1,c2,c3,c4,c5,c6,c7,fun hall => c8 fun j' u' hj' => ?_⟩
        have hji' : j' ≠ i:=by intro e;subst e;rw [hf] at hj';cases hj'
        have:=hall j' u' hj'
        rwa [Nat.beq_eq_false_iff.2 hji',Bool.or_false] at this
    · intro j k r s hj hk hfj hfk hrs
      by_cases e1 : j = i
      · subst e1
        rw [hf] at hfj
        cases hfj
        by_cases e2 : k = j
        · subst e2;rw [hf] at hfk;cases hfk;exact absurd rfl hrs
        · rw [Nat.beq_eq_false_iff.2 e2,Bool.or_false] at hk
          simp only [hβ k s hk hfk]
          obtain ⟨_,_,_,_,_,_,_,h4,_⟩:=hW.blk k s hk hfk
          simp only [if_true]
          omega
      · rw [Nat.beq_eq_false_iff.2 e1,Bool.or_false] at hj
        simp only [hβ j r hj hfj]
        by_cases e2 : k = i
        · subst e2
          rw [hf] at hfk
          cases hfk
          obtain ⟨_,_,_,_,_,_,_,h4,_⟩:=hW.blk j r hj hfj
          simp only [if_true]
          omega
        · rw [Nat.beq_eq_false_iff.2 e2,Bool.or_false] at hk
          simp only [hβ k s hk hfk]
          exact hW.inj j k r s hj hk hfj hfk hrs
def eraseL (id : Nat) : List (Nat × Blk) → List (Nat × Blk)
  | [] => []
  | q :: r => match Nat.beq q.1 id with | true => eraseL id r | false => q :: eraseL id r
def eraseH (id : Nat) (h : Hp) : Hp:=⟨eraseL id h.c,h.m,h.lim,h.x,h.wr,h.mt⟩
theorem lookL_erase {id j : Nat} {b : Blk} : ∀ {h : List (Nat × Blk)},lookL (eraseL id h) j = some b → lookL h j = some b ∧ j ≠ id
  | [],e => by cases e
  | q :: r,e => by
    obtain ⟨i,c⟩:=q
    simp only [eraseL] at e
    split at e
    · rename_i hq
      have hq:=Nat.eq_of_beq_eq_true hq
      obtain ⟨h1,h2⟩:=lookL_erase e
      replace hq : i = id:=hq
      refine ⟨?_,h2⟩
      simp only [lookL]
      rw [Nat.beq_eq_false_iff.2 (fun x => h2 (by rw [← x,hq]))]
      exact h1
    · rename_i hq
      have hq : i ≠ id:=Nat.beq_eq_false_iff.1 hq
      simp only [lookL] at e ⊢
      split at e
      · rename_i hij
        have:=Nat.eq_of_beq_eq_true hij
        exact ⟨e,fun x => hq (by rw [this,x])⟩
      · exact lookL_erase e
theorem lookH_erase {id j : Nat} {b : Blk} {h : Hp} (e : lookH (eraseH id h) j = some b) : lookH h j = some b ∧ j ≠ id:=lookL_erase e
def stx (P : Program) (σ : St) (o : Op) : Option (Nat × St) :=
  match o with
  | .store t x y => match ev σ x,ev σ y with
    | .u (.c (.ptr id off)),.u u => match lookW σ.hp id,tsz P t with
      | some b,some sz => (match Nat.beq sz u.cells.length,Nat.ble (off + u.cells.length) b.1.length,u.cells.all C.plain with
        | true,true,true => some (id,{ σ with hp:=hcons (id,(putC b.1 off u.cells,b.2)) σ.hp })
        | _,_,_ => none)
      | _,_ => none
    | _,_ => none
  | _ => none
theorem HInv.own {hp : Hp} {n : Nat} (h : HInv W n0 ρ0 ρ hp n w) : HInv w ⟨n,hp.lim,hp.x⟩ ρ ρ hp n w :=
  ⟨h.lt,h.inj,h.blk,Nat.le_refl _,Ext.refl _ _,(fun i h1 h2 => absurd h2 (Nat.not_lt.2 h1)),rfl,rfl,rfl,Nat.le_refl _,fun _ _ _ _ => rfl,h.mblk,rfl,h.mem.sub,h.mem.sep,fun _ a o e => .inl (by show hp.x a ≠ Option.none;rw [e];simp)⟩
theorem Below.of_run {s : Sem Unit} {w w1 w2 : World} (h : s.run P w = .ok () w1) (k : s.run P w = .ok () w2) : w1 = w2:=by
  rw [h] at k;cases k;rfl
theorem late_val {σ σ' : St} (hpath : PathP P ops L W n0 ρ0 N ρ hp n l [] σ fs al' σ') (hdist : distinctB l = true) (hbase : ∀ t,base t = (look σ.tm t).den ρ) (hA : Agree l fs base N ρ E β a) {t : Tmp}
    (hd : ∀ j,srcIdx l t = some j → E j = true ∧ ∀ q,fs[j]? ≠ some (.al q)) : a.tmps.getD t undef = (look σ'.tm t).den ρ:=by
  obtain ⟨_,hal2,hal3,_,hlen,_,hal7⟩:=path_al l [] σ fs al' σ' hpath
  rw [hA.tm t,path_look l [] σ fs al' σ' hpath hdist t]
  cases hj : srcIdx l t with
  | none => exact hbase t
  | some j =>
    obtain ⟨h1,h2⟩:=hd j hj
    simp only [h1]
    cases hfj : fs[j]? with
    | none =>
      exfalso
      obtain ⟨o2,g3,_⟩:=srcIdx_get hj
      have : j < l.length:=(List.getElem?_eq_some_iff.1 g3).1
      have:=List.getElem?_eq_none_iff.1 hfj
      omega
    | some g =>
      cases g with
      | run x => rfl
      | skip => rfl
      | al q => exact absurd hfj (h2 q)
      | late =>
        exfalso
        obtain ⟨o2,g3,g4⟩:=srcIdx_get hj
        have:=(path_isL l [] σ fs al' σ' hpath j o2 _ g3 hfj).2 rfl
        rw [this] at g4
        cases g4
      | st q u =>
        exfalso
        obtain ⟨o2,g3,g4⟩:=srcIdx_get hj
        obtain ⟨_,_,_,_,_,_,_,_,g5,_⟩:=hal7 j o2 q u g3 hfj
        rw [g5] at g4
        cases g4
theorem late_any {σ σ' σ1 σ2 : St} (hpath : PathP P ops L W n0 ρ0 N ρ hp n l [] σ fs al' σ') (hdist : distinctB l = true) (hbase : ∀ t,base t = (look σ.tm t).den ρ) (hTM : Sx.TM N ρ σ1) (htm : σ1.tm = σ'.tm) (hn : σ1.n = n)
    {i id : Nat} {o : Oper} (ho : ops[i]? = some o) (hg : o.guard = none) (hd0 : o.dst = none)
    (hdep : ∀ t ∈ o.looksAt ops,∀ j,srcIdx l t = some j → E j = true ∧ ∀ q,fs[j]? ≠ some (.al q))
    (hst : stx P σ1 o.op = some (id,σ2))
    (hA : Agree l fs base N ρ E β a) (hW : SW W n0 ρ0 ρ σ1.hp n fs al' E β w) {Q : Exit → Act → World → Prop} {K : Act → World → Prop}
    (hK : ∀ w',SW W n0 ρ0 ρ σ2.hp n fs al' E β w' → K a w') : wpOp P ops Q i K a w:=by
  subst hn
  unfold stx at hst
  split at hst
  · rename_i t x y hop
    split at hst
    · rename_i id' off u hx hy
      split at hst
      · rename_i b sz hb hz
        obtain ⟨hb,hlim⟩:=lookW_spec hb
        split at hst
        · rename_i c1 c2 c3
          cases hst
          have c1:=Nat.eq_of_beq_eq_true c1
          have c2:=Nat.le_of_ble_eq_true c2
          have hI:=virt_inv hTM hW.H
          have hev : ∀ z : Operand,z ∈ o.op.operands → a.eval z = (ev σ1 z).den ρ:=by
            intro z hz
            cases z with
            | tmp s =>
              show a.tmps.getD s undef = (look σ1.tm s).den ρ
              rw [htm]
              refine late_val hpath hdist hbase hA fun j hj => hdep s ?_ j hj
              unfold Oper.looksAt
              exact List.mem_append_left _ (List.mem_filterMap.2 ⟨.tmp s,by simpa using hz,rfl⟩)
            | const v => exact ev_den hI (.const v)
            | global g => exact ev_den hI (.global g)
            | func f => exact ev_den hI (.func f)
          have hevx : a.eval x = .pointer (some ⟨ρ id,off,none⟩):=by rw [hev x (by rw [hop];simp [Op.operands]),hx];rfl
          have hevy : a.eval y = u.den ρ:=by rw [hev y (by rw [hop];simp [Op.operands]),hy];rfl
          have huw : u.wf σ1.n = true:=by
            have:=ev_wf hI y
            rw [hy] at this
            exact this
          obtain ⟨w1,e1,g1⟩:=run_storeVar (P:=P) (t:=t) hW.H hb hlim (by rw [hz,c1]) c2 huw c3
          obtain ⟨w2,e2,g2⟩:=run_storeVar (P:=P) (t:=t) hW.H.own hb hlim (by rw [hz,c1]) c2 huw c3
          have e:=Below.of_run e1 e2
          subst e
          have hwt : Region.wanted o (yielded ops a.tmps) = true:=by simp [Region.wanted,hg]
          unfold wpOp
          simp only [ho]
          rw [if_pos hwt]
          refine .inl ?_
          have hrun : (execOp a.eval o).run P w = .ok .skip w1:=by
            unfold execOp
            rw [hop]
            refine run_u (s:=Instr.storeAt t (a.eval x) (a.eval y)) ?_
            simp only [hevx,hevy,Instr.storeAt,Instr.sureAddr,Sem.run_bind,Sem.run_pure,Result.andThen_ok]
            exact e1
          unfold Oper.wp
          rw [hrun,Oper.upon_skip,hd0]
          refine hK w1 ⟨g1,?_,hW.inj⟩
          intro k r hk hfk
          obtain ⟨d4,cs4,ty4,cs4',a1,a2,a3,a4,a5,a6,a7,a8⟩:=hW.blk k r hk hfk
          exact ⟨d4,cs4,ty4,cs4',a1,by rw [g2.far _ a4 a5.2 fun k _ hk => a5.1 k hk];exact a2,a3,Nat.lt_of_lt_of_le a4 g2.size,a5,a6,a7,a8⟩
        · cases hst
      · cases hst
    · cases hst
  · cases hst
end
end Go.Proofs.Ytnlohongffpkpaa.Sx
end

section
namespace Go.Proofs.Ytnlohongffpkpaa.Sx
open Go Go.RowKit
def befStep (acc : List Nat) (s : Nat) (e : Edge) : Nat:=match Region.binds .any e with | true => s ||| 2 ^ e.on ||| acc.getD e.on 0 | false => s
def befOf (acc : List Nat) (o : Oper) : Nat:=o.after.toList.foldl (befStep acc) 0
def befs : List Oper → List Nat → List Nat
  | [],acc => acc
  | o :: r,acc => befs r (acc ++ [befOf acc o])
def covers (b t : Nat) : Bool:=Nat.beq (b &&& (2 ^ t - 1)) (2 ^ t - 1)
def Closed (ops : Array Oper) (L : Nat → Prop) : Prop:=∀ (i : Nat) (o : Oper),L i → ops[i]? = some o → ∀ e ∈ o.after,Region.binds .any e = true → L e.on
theorem befStep_bit (acc : List Nat) (j : Nat) : ∀ (es : List Edge) (s : Nat),(es.foldl (befStep acc) s).testBit j = true → s.testBit j = true ∨ ∃ e ∈ es,Region.binds .any e = true ∧ (e.on = j ∨ (acc.getD e.on 0).testBit j = true):=by
  intro es
  induction es with
  | nil => intro s h;exact .inl h
  | cons e es ih =>
    intro s h
    rcases ih _ h with h | ⟨e',h1,h2,h3⟩
    · unfold befStep at h
      split at h
      · rename_i hb
        rw [Nat.testBit_or,Nat.testBit_or,Bool.or_eq_true,Bool.or_eq_true] at h
        rcases h with (h | h) | h
        · exact .inl h
        · rw [Nat.testBit_two_pow] at h
          exact .inr ⟨e,by simp,hb,.inl (of_decide_eq_true h)⟩
        · exact .inr ⟨e,by simp,hb,.inr h⟩
      · exact .inl h
    · exact .inr ⟨e',by simp [h1],h2,h3⟩
theorem befs_spec (ops : Array Oper) : ∀ (r : List Oper) (acc : List Nat),(∀ i o,r[i]? = some o → ops[acc.length + i]? = some o) →
    (∀ i j,(acc.getD i 0).testBit j = true → ∀ L,Closed ops L → (∀ o,ops[i]? = some o → ∀ e ∈ o.after,Region.binds .any e = true → L e.on) → L j) →
    (∀ i j,((befs r acc).getD i 0).testBit j = true → ∀ L,Closed ops L → (∀ o,ops[i]? = some o → ∀ e ∈ o.after,Region.binds .any e = true → L e.on) → L j):=by
  intro r
  induction r with
  | nil => intro acc _ h;exact h
  | cons o r ih =>
    intro acc hr hacc
    refine ih (acc ++ [befOf acc o]) ?_ ?_
    · intro i o' hi
      have:=hr (i + 1) o' (by simpa using hi)
      simp only [List.length_append,List.length_singleton]
      rw [show acc.length + 1 + i = acc.length + (i + 1) by omega]
      exact this
    · intro i j hj L hL hready
      by_cases h1 : i < acc.length
      · have e : (acc ++ [befOf acc o]).getD i 0 = acc.getD i 0:=by simp [List.getElem?_append,h1]
        rw [e] at hj
        exact hacc i j hj L hL hready
      · by_cases h2 : i = acc.length
        · subst h2
          have e : (acc ++ [befOf acc o]).getD acc.length 0 = befOf acc o:=by simp
          rw [e] at hj
          have ho:=hr 0 o rfl
          rw [Nat.add_zero] at ho
          rcases befStep_bit acc j _ _ hj with h | ⟨e',g1,g2,g3⟩
          · simp at h
          · have hl:=hready o ho e' (by simpa using g1) g2
            rcases g3 with rfl | g3
            · exact hl
            · exact hacc e'.on j g3 L hL fun o2 ho2 e2 he2 hb2 => hL e'.on o2 hl ho2 e2 he2 hb2
        · have e : (acc ++ [befOf acc o]).getD i 0 = 0:=by
            simp [List.getElem?_append,h1,show ¬ i - acc.length = 0 by omega]
          rw [e] at hj
          simp at hj
theorem covers_bit {b t j : Nat} (h : covers b t = true) (hj : j < t) : b.testBit j = true:=by
  have e:=Nat.eq_of_beq_eq_true h
  have:=congrArg (fun x => Nat.testBit x j) e
  simp only [Nat.testBit_and,Nat.testBit_two_pow_sub_one,hj,decide_true,Bool.and_true] at this
  exact this
def cutOK (bf : List Nat) (s m : Nat) : Bool:=(bf.drop m).all fun b => covers (b ||| (2 ^ s - 1)) m
def segEnd (bf : List Nat) (s : Nat) : Nat → Nat → Nat
  | 0,m => m
  | f + 1,m => match cutOK bf s m with | true => m | false => segEnd bf s f (m + 1)
theorem cutOK_spec {bf : List Nat} {s m t j : Nat} (h : cutOK bf s m = true) (ht : m ≤ t) (htl : t < bf.length) (hs : s ≤ j) (hj : j < m) : (bf.getD t 0).testBit j = true:=by
  unfold cutOK at h
  rw [List.all_eq_true] at h
  have key : ∀ b : Nat,(b ||| (2 ^ s - 1)).testBit j = true → b.testBit j = true:=by
    intro b hb
    rw [Nat.testBit_or,Nat.testBit_two_pow_sub_one] at hb
    have : decide (j < s) = false:=by simp;exact hs
    rw [this,Bool.or_false] at hb
    exact hb
  refine key _ (covers_bit (h _ ?_) hj)
  rw [List.getD_eq_getElem?_getD,List.getElem?_eq_getElem htl,Option.getD_some]
  rw [List.mem_iff_getElem?]
  exact ⟨t - m,by rw [List.getElem?_drop,show m + (t - m) = t by omega,List.getElem?_eq_getElem htl]⟩
theorem befs_length : ∀ (r : List Oper) (acc : List Nat),(befs r acc).length = acc.length + r.length
  | [],acc => rfl
  | o :: r,acc => by
    rw [befs,befs_length r]
    simp
    omega
def nopO : Oper:={ dst:=none,op:=.store 0 (.func 0) (.func 0),type:=0,pos:="",after:=#[],guard:=none }
def segL (ops : Array Oper) (s m : Nat) : List Oper:=List.replicate s nopO ++ (ops.toList.drop s).take (m - s)
theorem segL_length {ops : Array Oper} {s m : Nat} (h : s ≤ m) (hm : m ≤ ops.size) : (segL ops s m).length = m:=by
  simp [segL];omega
theorem segL_get {ops : Array Oper} {s m i : Nat} (h : s ≤ i) (hm : i < m) : (segL ops s m)[i]? = ops[i]?:=by
  unfold segL
  rw [List.getElem?_append_right (by simpa using h),List.length_replicate,List.getElem?_take,if_pos (by omega),List.getElem?_drop,show s + (i - s) = i by omega]
  simp
theorem segL_pad {ops : Array Oper} {s m i : Nat} (h : i < s) : (segL ops s m)[i]? = some nopO:=by
  unfold segL
  rw [List.getElem?_append_left (by simpa using h),List.getElem?_replicate,if_pos h]
def edgeTo (o : Oper) (j : Nat) : Bool:=o.after.toList.any fun e => Region.binds .any e && Nat.beq e.on j
def depOK (ops : Array Oper) (front : List Oper) (i : Nat) (o : Oper) : Bool :=
  (o.looksAt ops).all fun t => match srcIdx front t with
    | none => true
    | some j => Nat.blt j i && edgeTo o j && (match front[j]? with | some p => !allocOp p.op || isAddr o t | none => false)
def depsOK (ops : Array Oper) (front : List Oper) : List Oper → Nat → Bool
  | [],_ => true
  | o :: r,i => depOK ops front i o && depsOK ops front r (i + 1)
def edgesOK : List Oper → Nat → Bool
  | [],_ => true
  | o :: r,i => (o.after.toList.all fun e => !Region.binds .any e || Nat.blt e.on i) && edgesOK r (i + 1)
def storeTmp (o : Oper) : Option Tmp:=match o.op with | .store _ (.tmp d) _ => some d | _ => none
def storesOnce : List Oper → Bool
  | [] => true
  | o :: l => (match storeTmp o with | some d => l.all (fun p => match storeTmp p with | some e => !Nat.beq e d | none => true) | none => true) && storesOnce l
def lateOK (ops : Array Oper) (front : List Oper) (o : Oper) : Bool :=
  (o.looksAt ops).all fun t => match srcIdx front t with
    | none => true
    | some j => edgeTo o j && (match front[j]? with | some p => !allocOp p.op | none => false)
def lateIdx (front : List Oper) (s : Nat) : List Nat:=(List.range front.length).filter fun i => Nat.ble s i && match front[i]? with | some o => isLate front o | none => false
def chainB (front : List Oper) : List Nat → Bool
  | [] => true
  | a :: r => (match r with | [] => true | b :: _ => (match front[b]? with | some o => edgeTo o a | none => false)) && chainB front r
def latesOK (ops : Array Oper) (front : List Oper) (li : List Nat) : Bool:=chainB front li && li.all fun i => match front[i]? with | some o => lateOK ops front o | none => false
def lateId (σ : St) (front : List Oper) : Nat → Operand → Option Nat
  | 0,_ => none
  | f + 1,.tmp t => match srcIdx front t with
    | none => (match look σ.tm t with | .u (.c (.ptr id _)) => some id | _ => none)
    | some j => match front[j]? with
      | some p => (match p.op with
        | .fieldAddr _ y _ => lateId σ front f y
        | .indexAddr _ y _ => lateId σ front f y
        | .nilCheck y => lateId σ front f y
        | .move y => lateId σ front f y
        | .assign y => lateId σ front f y
        | _ => none)
      | none => none
  | _,_ => none
def lateIds (σ : St) (front : List Oper) : List Oper → Option (List Nat)
  | [] => some []
  | o :: r => match o.op with
    | .store _ x _ => (match lateId σ front 50 x,lateIds σ front r with | some i,some l => some (i :: l) | _,_ => none)
    | _ => none
def eraseAll : List Nat → Hp → Hp
  | [],h => h
  | i :: r,h => eraseAll r (eraseH i h)
def laterx (P : Program) (hpE : Hp) : List Oper → St → (St → Tr) → Tr
  | [],σ,k => k σ
  | o :: r,σ,k => match stx P σ o.op with
    | some q => (match lookH hpE q.1 with | none => laterx P hpE r q.2 k | some _ => .no 72)
    | none => .no 73
def drawOK (ops : Array Oper) (N s m : Nat) (l : List Oper) (bf : List Nat) : Bool :=
  Nat.blt s m && Nat.ble m ops.size && cutOK bf s m && distinctB l && depsOK ops l l 0 && storesOnce l && (l.all fun o => o.dst.isSome || storeOp o.op && o.guard.isNone) && (l.all fun o => okDst N o.dst) && latesOK ops l (lateIdx l s)
def adopt (σ : St) : Al → St
  | [] => σ
  | (d,b) :: r => adopt { tm:=(d,.u (.c (.ptr σ.n 0))) :: σ.tm,hp:=hcons (σ.n,b) σ.hp,n:=σ.n + 1 } r
def clusx (P : Program) (S : List Sum) (ih : Nat → Code → St → K → Tr) (N : Nat) (ops : Array Oper) (s m : Nat) (l : List Oper) (bf : List Nat) (σ : St) (k : St → Tr) : Tr :=
  match drawOK ops N s m l bf with
  | true => match lateIds σ l ((lateIdx l s).filterMap fun i => l[i]?) with
    | some ids => frontx P S ih N ops l l [] { σ with hp:=eraseAll ids σ.hp } fun al σ' =>
        laterx P (eraseAll ids σ.hp) ((lateIdx l s).filterMap fun i => l[i]?) { σ' with hp:=σ.hp } fun σ2 => k (adopt σ2 al)
    | none => .no 74
  | false => .no 71
def takeOK (N : Nat) (ops : Array Oper) (s : Nat) (o : Oper) : Option Operand :=
  match o.op,o.guard with
  | .move x,none => (match okDst N o.dst && (ops.toList.drop (s + 1)).all fun p => edgeTo p s || o.apart ops p with | true => some x | false => none)
  | _,_ => none
def segx (P : Program) (S : List Sum) (ih : Nat → Code → St → K → Tr) (N : Nat) (ops : Array Oper) (bf : List Nat) : Nat → Nat → St → (St → Tr) → Tr
  | 0,_,_,_ => .no 70
  | f + 1,s,σ,k => match Nat.ble ops.size s with
    | true => k σ
    | false => match ops[s]? with
      | none => .no 75
      | some o => match cutOK bf s (s + 1) with
        | true => opsx P S ih N ops [o] σ fun σ' => segx P S ih N ops bf f (s + 1) σ' k
        | false => match takeOK N ops s o with
          | some x => segx P S ih N ops bf f (s + 1) (σ.put o.dst (ev σ x)) k
          | none => clusx P S ih N ops s (segEnd bf s ops.size (s + 2)) (segL ops s (segEnd bf s ops.size (s + 2))) bf σ fun σ' => segx P S ih N ops bf f (segEnd bf s ops.size (s + 2)) σ' k
def drawf (P : Program) (S : List Sum) (ih : Nat → Code → St → K → Tr) (N : Nat) (ops : Array Oper) (σ : St) (k : St → Tr) : Tr :=
  match edgesOK ops.toList 0 && Region.noSelect ops with
  | true => segx P S ih N ops (befs ops.toList []) (ops.size + 1) 0 σ k
  | false => .no 71
def drawx (P : Program) (S : List Sum) : DrawX:=⟨drawf P S,fun _ _ => none,fun _ _ _ => none⟩
def drawl (P : Program) (S : List Sum) (lv : Nat → Nat → Option LT) : DrawX:=⟨drawf P S,lv,fun _ _ _ => none⟩
section
variable {P : Program} {W : World} {n0 : NL} {ρ0 : Nat → Nat} {N : Nat} {ρ : Nat → Nat} {ops : Array Oper} {L : List Oper} {hp : Hp} {n : Nat}
theorem edgesOK_spec : ∀ (r : List Oper) (i : Nat),edgesOK r i = true → ∀ k o,r[k]? = some o → ∀ e ∈ o.after,Region.binds .any e = true → e.on < i + k:=by
  intro r
  induction r with
  | nil => intro i _ k o h;cases h
  | cons p r ih =>
    intro i h k o hk e he hb
    simp only [edgesOK,Bool.and_eq_true,List.all_eq_true] at h
    cases k with
    | zero =>
      simp only [List.getElem?_cons_zero,Option.some.injEq] at hk
      subst hk
      have:=h.1 e (by simpa using he)
      simpa [hb] using this
    | succ k =>
      have:=ih (i + 1) h.2 k o (by simpa using hk) e he hb
      omega
theorem depsOK_spec (front : List Oper) : ∀ (r : List Oper) (i : Nat),depsOK ops front r i = true → ∀ k o,r[k]? = some o → depOK ops front (i + k) o = true:=by
  intro r
  induction r with
  | nil => intro i _ k o h;cases h
  | cons p r ih =>
    intro i h k o hk
    simp only [depsOK,Bool.and_eq_true] at h
    cases k with
    | zero => simp only [List.getElem?_cons_zero,Option.some.injEq] at hk;subst hk;exact h.1
    | succ k =>
      have:=ih (i + 1) h.2 k o (by simpa using hk)
      rwa [show i + 1 + k = i + (k + 1) by omega] at this
theorem storesOnce_spec : ∀ (l : List Oper),storesOnce l = true → ∀ (i j : Nat) (o p : Oper) (d : Tmp),l[i]? = some o → l[j]? = some p → storeTmp o = some d → storeTmp p = some d → i = j:=by
  intro l
  induction l with
  | nil => intro _ i j o p d h;cases h
  | cons q l ih =>
    intro h i j o p d hi hj ho hp
    simp only [storesOnce,Bool.and_eq_true] at h
    obtain ⟨h1,h2⟩:=h
    have key : ∀ (k : Nat) (x : Oper),storeTmp q = some d → l[k]? = some x → storeTmp x = some d → False:=by
      intro k x hq hk hx
      rw [hq] at h1
      simp only [List.all_eq_true] at h1
      have:=h1 x (List.mem_of_getElem? hk)
      rw [hx] at this
      simp at this
    cases i with
    | zero =>
      simp only [List.getElem?_cons_zero,Option.some.injEq] at hi
      subst hi
      cases j with
      | zero => rfl
      | succ j => exact (key j p ho (by simpa using hj) hp).elim
    | succ i =>
      cases j with
      | zero =>
        simp only [List.getElem?_cons_zero,Option.some.injEq] at hj
        subst hj
        exact (key i o hp (by simpa using hi) ho).elim
      | succ j => rw [ih h2 i j o p d (by simpa using hi) (by simpa using hj) ho hp]
theorem path_st {l : List Oper} {σ σ' : St} {fs : List Ent} {al' : Al} (hpath : PathP P ops L W n0 ρ0 N ρ hp n l [] σ fs al' σ') (hdist : distinctB l = true) {i q : Nat} {u : U} (hf : fs[i]? = some (.st q u)) :
    ∃ o t d y j,l[i]? = some o ∧ o.op = .store t (.tmp d) y ∧ srcIdx l d = some j ∧ fs[j]? = some (.al q) ∧ j < i ∧ d ∈ o.looksAt ops ∧ ∃ c,al'[q]? = some (d,c):=by
  obtain ⟨_,_,_,_,hlen,_,hal7⟩:=path_al l [] σ fs al' σ' hpath
  have hilt : i < l.length:=by rw [← hlen];exact (List.getElem?_eq_some_iff.1 hf).1
  have hi : l[i]? = some l[i]:=List.getElem?_eq_getElem hilt
  obtain ⟨f,al_i,σ_i,al1,σ1,hf',hpi,hstep⟩:=path_get l [] σ fs al' σ' hpath i _ hi
  rw [hf] at hf'
  cases hf'
  obtain ⟨⟨d,cs0,ty0,hq0,_,_,t,y,hop,_,_⟩,_⟩:=hstep
  obtain ⟨_,hpl2,_,hpl4,hpl5,_,_⟩:=path_al (l.take i) [] σ (fs.take i) al_i σ_i hpi
  have hqlt : q < al_i.length:=(List.getElem?_eq_some_iff.1 hq0).1
  obtain ⟨j,hj⟩:=hpl4 q (by simp) hqlt
  have hjlt : j < (l.take i).length:=by rw [← hpl5];exact (List.getElem?_eq_some_iff.1 hj).1
  have hji : j < i:=by simp at hjlt;omega
  obtain ⟨_,d1,cs1,ty1,cs1',k1,k2,_⟩:=hpl2 j (l.take i)[j] q (List.getElem?_eq_getElem hjlt) hj
  rw [hq0] at k1
  cases k1
  have hlj : l[j]? = some (l.take i)[j]:=by
    have:=List.getElem?_eq_getElem hjlt
    rw [List.getElem?_take,if_pos hji] at this
    exact this
  obtain ⟨d3,ty3,cs3',m1,_,_,_,⟨t3,y3,m5,_⟩,_⟩:=hal7 i _ q u hi hf
  rw [hop] at m5
  cases m5
  refine ⟨_,t,d,y,j,hi,hop,srcIdx_of hdist hlj k2,?_,hji,?_,_,m1⟩
  · rw [List.getElem?_take,if_pos hji] at hj;exact hj
  · unfold Oper.looksAt
    refine List.mem_append_left _ (List.mem_filterMap.2 ⟨.tmp d,?_,rfl⟩)
    rw [hop]
    simp [Op.operands]
theorem done_any {Q : Exit → Act → World → Prop} {fuel : Nat} {listed : Array Bool} {a : Act} {w : World} (hls : listed.size = ops.size) (hl : ∀ i,i < ops.size → listed.getD i false = true) (h : Q .normal a w) : wpAny P .any ops Q fuel listed a w:=by
  have hnil : Region.ready .any ops listed = []:=by
    cases hr : Region.ready .any ops listed with
    | nil => rfl
    | cons i r =>
      have hi : i ∈ Region.ready .any ops listed:=by rw [hr];simp
      obtain ⟨h1,o,ho,_⟩:=mem_ready.1 hi
      have hlt:=(Array.getElem?_eq_some_iff.1 ho).1
      have:=hl i hlt
      simp only [Array.getD_eq_getD_getElem?,Array.getElem?_eq_getElem (show i < listed.size by omega),Option.getD_some] at h1 this
      rw [h1] at this
      cases this
  exact wpAny_done hnil h fuel
theorem one_any {Q : Exit → Act → World → Prop} {t : Nat} (hcov : ∀ u j,t + 1 ≤ u → u < ops.size → t ≤ j → j < t + 1 → ∀ L,Closed ops L → (∀ o,ops[u]? = some o → ∀ e ∈ o.after,Region.binds .any e = true → L e.on) → L j)
    (hedge : ∀ (i : Nat) (o : Oper),ops[i]? = some o → ∀ e ∈ o.after,Region.binds .any e = true → e.on < i) {Kc : Act → World → Prop} {o0 : Oper} (hot : ops[t]? = some o0)
    {fuel : Nat} {listed : Array Bool} {a : Act} {w : World} (hls : listed.size = ops.size) (hl : ∀ i,i < ops.size → (listed.getD i false = true ↔ i < t)) (hf : ops.size - t ≤ fuel)
    (h : wpSeq P ops Q Kc [o0] a w) (hK : ∀ (fuel : Nat) (listed : Array Bool) a w,listed.size = ops.size → (∀ i,i < ops.size → (listed.getD i false = true ↔ i < t + 1)) → ops.size - (t + 1) ≤ fuel → Kc a w → wpAny P .any ops Q fuel listed a w) : wpAny P .any ops Q fuel listed a w:=by
  have htlt : t < ops.size:=(Array.getElem?_eq_some_iff.1 hot).1
  obtain ⟨fuel,rfl⟩ : ∃ f,fuel = f + 1:=⟨fuel - 1,by omega⟩
  have hun : listed.getD t true = false:=by
    have : ¬ listed.getD t false = true:=fun h => Nat.lt_irrefl t ((hl t htlt).1 h)
    simp only [Array.getD_eq_getD_getElem?,Array.getElem?_eq_getElem (show t < listed.size by omega),Option.getD_some] at this ⊢
    simpa using this
  have hready : t ∈ Region.ready .any ops listed:=by
    rw [mem_ready]
    refine ⟨hun,o0,hot,fun e he hb => ?_⟩
    have:=hedge t _ hot e he hb
    exact (hl e.on (by omega)).2 this
  refine ⟨(fun hn => by rw [hn] at hready;cases hready),fun i hi => ?_⟩
  obtain ⟨hiu,o,ho,hall⟩:=mem_ready.1 hi
  have hilt:=(Array.getElem?_eq_some_iff.1 ho).1
  have hit : ¬ i < t:=by
    intro hlt
    have:=(hl i hilt).2 hlt
    simp only [Array.getD_eq_getD_getElem?,Array.getElem?_eq_getElem (show i < listed.size by omega),Option.getD_some] at hiu this
    rw [hiu] at this
    cases this
  have hie : i = t:=by
    by_cases e : i = t
    · exact e
    · exfalso
      have hL : Closed ops (fun j => listed.getD j false = true):=by
        intro j oj hj hoj e he hb
        have hjlt:=(Array.getElem?_eq_some_iff.1 hoj).1
        have h1:=(hl j hjlt).1 hj
        have h2:=hedge j oj hoj e he hb
        exact (hl e.on (by omega)).2 (by omega)
      have:=hcov i t (by omega) hilt (Nat.le_refl _) (by omega) _ hL (fun o' ho' e he hb => by rw [ho] at ho';cases ho';exact hall e he hb)
      have:=(hl t htlt).1 this
      omega
  subst hie
  unfold wpOp
  rw [hot]
  simp only
  simp only [wpSeq] at h
  have next : ∀ a' w',Kc a' w' → wpAny P .any ops Q fuel (listed.setIfInBounds i true) a' w':=by
    intro a' w' h'
    refine hK fuel _ a' w' (by simp [hls]) ?_ (by omega) h'
    intro j hj
    by_cases e : i = j
    · subst e
      simp [show i < listed.size by omega]
    · rw [getD_set_ne false e,hl j hj]
      omega
  split
  · rename_i hw
    rw [if_pos hw] at h
    exact h.imp (Oper.wp_mono next) id
  · rename_i hw
    rw [if_neg hw] at h
    exact next _ _ h
theorem nodup_le : ∀ (l U : List Nat),l.Nodup → (∀ i ∈ l,i ∈ U) → l.length ≤ U.length:=by
  intro l
  induction l with
  | nil => intro U _ _;simp
  | cons x l ih =>
    intro U hn hs
    rw [List.nodup_cons] at hn
    have hx:=hs x (by simp)
    have:=ih (U.erase x) hn.2 fun i hi => by
      have hne : i ≠ x:=fun e => hn.1 (e ▸ hi)
      exact (List.mem_erase_of_ne hne).2 (hs i (by simp [hi]))
    rw [List.length_erase_of_mem hx] at this
    have:=List.length_pos_of_mem hx
    simp
    omega
theorem Agree.congr {l : List Oper} {fs : List Ent} {base : Tmp → Value} {E E' : Nat → Bool} {β : Nat → Nat} {a : Act} (h : Agree l fs base N ρ E β a) (he : ∀ j,j < l.length → E j = E' j) : Agree l fs base N ρ E' β a:=by
  refine ⟨h.defers,h.sz,fun t => ?_⟩
  rw [h.tm t]
  cases hj : srcIdx l t with
  | none => rfl
  | some j =>
    obtain ⟨o,h1,_⟩:=srcIdx_get hj
    simp only [he j (List.getElem?_eq_some_iff.1 h1).1]
theorem SW.congr {fs : List Ent} {al' : Al} {E E' : Nat → Bool} {β : Nat → Nat} {w : World} (h : SW W n0 ρ0 ρ hp n fs al' E β w) (he : ∀ j,j < fs.length → E' j = E j) : SW W n0 ρ0 ρ hp n fs al' E' β w:=by
  refine ⟨h.H,fun i q hi hf => ?_,fun i j q r hi hj hf hg => h.inj i j q r ?_ ?_ hf hg⟩
  · obtain ⟨d,cs,ty,cs',g1,g2,g3,g4,g5,g6,g7,g8⟩:=h.blk i q (by rw [← he i (List.getElem?_eq_some_iff.1 hf).1];exact hi) hf
    exact ⟨d,cs,ty,cs',g1,g2,g3,g4,g5,g6,g7,fun hall => g8 fun j u hj => by rw [← he j (List.getElem?_eq_some_iff.1 hj).1];exact hall j u hj⟩
  · rw [← he i (List.getElem?_eq_some_iff.1 hf).1];exact hi
  · rw [← he j (List.getElem?_eq_some_iff.1 hg).1];exact hj
def LatesP (P : Program) (hpE : Hp) : List Oper → St → St → Prop
  | [],σ,σ' => σ' = σ
  | o :: r,σ,σ' => ∃ id σ1,stx P σ o.op = some (id,σ1) ∧ lookH hpE id = none ∧ LatesP P hpE r σ1 σ'
theorem laterx_path {S : List Sum} {R : Leaf → Prop} {hpE : Hp} {k : St → Tr} : ∀ (l : List Oper) (σ : St),(laterx P hpE l σ k).sat R → ∃ σ',LatesP P hpE l σ σ' ∧ (k σ').sat R
  | [],σ,h => ⟨σ,rfl,h⟩
  | o :: r,σ,h => by
    simp only [laterx] at h
    split at h
    · rename_i q hq
      split at h
      · rename_i hn
        obtain ⟨σ',h1,h2⟩:=laterx_path (S:=S) r q.2 h
        exact ⟨σ',⟨q.1,q.2,hq,hn,h1⟩,h2⟩
      · exact h.elim
    · exact h.elim
def SubH (h h' : Hp) : Prop:=(∀ j b,lookH h j = some b → lookH h' j = some b) ∧ (∀ j b,lookM h j = some b → lookM h' j = some b) ∧ h'.lim = h.lim ∧ h'.x = h.x ∧ h'.wr = h.wr
theorem HInv.sub {hp hp' : Hp} {n : Nat} (hs : SubH hp' hp) {w : World} (h : HInv W n0 ρ0 ρ hp n w) : HInv W n0 ρ0 ρ hp' n w :=
  ⟨h.lt,h.inj,fun i b hb => h.blk i b (hs.1 i b hb),h.le,h.old,h.new,h.os,h.tape,h.output,h.size,h.far,fun i b hb => h.mblk i b (hs.2.1 i b hb),hs.2.2.1 ▸ h.lim,hs.2.2.2.2 ▸ hs.2.2.2.1 ▸ h.mem⟩
theorem eraseAll_sub : ∀ (l : List Nat) (h : Hp),SubH (eraseAll l h) h
  | [],h => ⟨fun j b e => e,fun j b e => e,rfl,rfl,rfl⟩
  | i :: r,h => ⟨fun j b e => (lookH_erase ((eraseAll_sub r _).1 j b e)).1,fun j b e => (eraseAll_sub r (eraseH i h)).2.1 j b e,(eraseAll_sub r (eraseH i h)).2.2⟩
theorem stx_spec {σ σ1 : St} {o : Op} {id : Nat} (h : stx P σ o = some (id,σ1)) : σ1.tm = σ.tm ∧ σ1.n = σ.n ∧ (∀ j,j ≠ id → lookH σ1.hp j = lookH σ.hp j) ∧ (∀ j,lookM σ1.hp j = lookM σ.hp j) ∧ σ1.hp.lim = σ.hp.lim ∧ σ1.hp.x = σ.hp.x ∧ σ1.hp.wr = σ.hp.wr:=by
  unfold stx at h
  split at h
  · split at h
    · split at h
      · split at h
        · cases h
          refine ⟨rfl,rfl,fun j hj => ?_,fun _ => rfl,rfl,rfl,rfl⟩
          simp only [lookH_hcons]
          rw [Nat.beq_eq_false_iff.2 (fun e => hj e.symm)]
        · cases h
      · cases h
    · cases h
  · cases h
theorem SubH.late {hpE : Hp} {σ σ1 : St} {o : Op} {id : Nat} (hs : SubH hpE σ.hp) (h : stx P σ o = some (id,σ1)) (hn : lookH hpE id = none) : SubH hpE σ1.hp:=by
  refine ⟨fun j b hb => ?_,fun j b hb => ?_,(stx_spec h).2.2.2.2.1.trans hs.2.2.1,(stx_spec h).2.2.2.2.2.1.trans hs.2.2.2.1,(stx_spec h).2.2.2.2.2.2.trans hs.2.2.2.2⟩
  · rw [(stx_spec h).2.2.1 j (fun e => by rw [e,hn] at hb;cases hb)]
    exact hs.1 j b hb
  · rw [(stx_spec h).2.2.2.1 j]
    exact hs.2.1 j b hb
theorem LatesP.keeps {hpE : Hp} : ∀ {l : List Oper} {σ σ' : St},LatesP P hpE l σ σ' → σ'.tm = σ.tm ∧ σ'.n = σ.n
  | [],σ,σ',h => by cases h;exact ⟨rfl,rfl⟩
  | o :: r,σ,σ',⟨id,σ1,h1,_,h2⟩ => by
    obtain ⟨a1,a2⟩:=LatesP.keeps h2
    obtain ⟨b1,b2,_⟩:=stx_spec h1
    exact ⟨a1.trans b1,a2.trans b2⟩
theorem lateIdx_mem {front : List Oper} {s i : Nat} : i ∈ lateIdx front s ↔ s ≤ i ∧ ∃ o,front[i]? = some o ∧ isLate front o = true:=by
  unfold lateIdx
  rw [List.mem_filter,List.mem_range,Bool.and_eq_true]
  constructor
  · rintro ⟨h1,h0,h2⟩
    rw [List.getElem?_eq_getElem h1] at h2
    exact ⟨Nat.le_of_ble_eq_true h0,_,List.getElem?_eq_getElem h1,h2⟩
  · rintro ⟨h0,o,h1,h2⟩
    exact ⟨(List.getElem?_eq_some_iff.1 h1).1,Nat.ble_eq_true_of_le h0,by rw [h1];exact h2⟩
theorem lateIdx_nodup (front : List Oper) (s : Nat) : (lateIdx front s).Nodup:=List.nodup_range.sublist List.filter_sublist
theorem chainB_pred {front : List Oper} : ∀ (r : List Nat) (a i : Nat),chainB front (a :: r) = true → i ∈ r → ∃ p o,p ∈ a :: r ∧ front[i]? = some o ∧ edgeTo o p = true
  | [],_,_,_,h => by cases h
  | b :: r,a,i,hc,h => by
    simp only [chainB,Bool.and_eq_true] at hc
    rcases List.mem_cons.1 h with rfl | h
    · have h1:=hc.1
      split at h1
      · rename_i o ho;exact ⟨a,o,by simp,ho,h1⟩
      · cases h1
    · have h2 : chainB front (b :: r) = true:=by simp only [chainB,Bool.and_eq_true];exact hc.2
      obtain ⟨p,o,g1,g2,g3⟩:=chainB_pred r b i h2 h
      exact ⟨p,o,by simp [List.mem_cons.1 g1],g2,g3⟩
theorem chainB_tail {front : List Oper} {a : Nat} {r : List Nat} (h : chainB front (a :: r) = true) : chainB front r = true:=by
  simp only [chainB,Bool.and_eq_true] at h
  exact h.2
theorem front_any {Q : Exit → Act → World → Prop} {s m : Nat} {l : List Oper} (hm : m ≤ ops.size) (hlenl : l.length = m) (hl : ∀ i,s ≤ i → i < m → l[i]? = ops[i]?)
    (hcov : ∀ t j,m ≤ t → t < ops.size → s ≤ j → j < m → ∀ L,Closed ops L → (∀ o,ops[t]? = some o → ∀ e ∈ o.after,Region.binds .any e = true → L e.on) → L j)
    (hedge : ∀ (i : Nat) (o : Oper),ops[i]? = some o → ∀ e ∈ o.after,Region.binds .any e = true → e.on < i) (hsel : Region.noSelect ops = true)
    {σ σ' : St} {fs : List Ent} {al' : Al} {base : Tmp → Value} (hpath : PathP P ops L W n0 ρ0 N ρ hp n l [] σ fs al' σ') (hpad : ∀ i,i < s → fs[i]? = some .late) (hdist : distinctB l = true) (honce : storesOnce l = true) (hsome : ∀ o ∈ l,(o.dst.isSome || storeOp o.op && o.guard.isNone) = true)
    (hn' : σ'.n = n) (hbase : ∀ t,base t = (look σ.tm t).den ρ) (hTM : ∀ t,N ≤ t → base t = undef) (hdst : ∀ o ∈ l,okDst N o.dst = true)
    (hdeps : ∀ k o,l[k]? = some o → depOK ops l k o = true)
    (hT' : Sx.TM N ρ σ') (hlates : ∀ (i : Nat) (o : Oper),l[i]? = some o → isLate L o = true → lateOK ops l o = true) {σ2 : St}
    (hfin : ∀ β a w (fuel : Nat) (listed : Array Bool),listed.size = ops.size → (∀ i,i < ops.size → (listed.getD i false = true ↔ i < m)) → ops.size - m ≤ fuel → Agree l fs base N ρ (fun _ => true) β a → SW W n0 ρ0 ρ σ2.hp n fs al' (fun _ => true) β w → wpAny P .any ops Q fuel listed a w) :
    ∀ (fuel : Nat) (listed : Array Bool) (β : Nat → Nat) (a : Act) (w : World) (rem : List Nat) (σc : St),listed.size = ops.size → (∀ i,i < s → listed.getD i false = true) → Closed ops (fun j => listed.getD j false = true) → (∀ t,m ≤ t → t < ops.size → listed.getD t false = false) →
      (chainB l rem = true ∧ rem.Nodup) → (∀ i ∈ rem,∃ o,l[i]? = some o ∧ isLate L o = true ∧ listed.getD i false = false) → (∀ (i : Nat) (o : Oper),l[i]? = some o → isLate L o = true → listed.getD i false = true ∨ i ∈ rem) →
      LatesP P hp (rem.filterMap fun i => l[i]?) σc σ2 → σc.tm = σ'.tm → σc.n = n → SubH hp σc.hp →
      (∃ U : List Nat,U.Nodup ∧ (∀ i,i < ops.size → listed.getD i false = false → i ∈ U) ∧ U.length ≤ fuel) →
      Agree l fs base N ρ (fun j => listed.getD j false) β a → SW W n0 ρ0 ρ σc.hp n fs al' (fun j => listed.getD j false) β w → wpAny P .any ops Q fuel listed a w:=by
  have hlenf : fs.length = m:=by rw [← hlenl];exact (path_al _ _ _ _ _ _ hpath).2.2.2.2.1
  intro fuel
  induction fuel with
  | zero =>
    intro listed β a w rem σc hls hpre hcl hun hch hrem hlst hpl htmc hnc hsub hU hA hW
    obtain ⟨U,_,hU2,hU3⟩:=hU
    have hall : ∀ i,i < ops.size → listed.getD i false = true:=by
      intro i hi
      cases h : listed.getD i false with
      | true => rfl
      | false => have:=hU2 i hi h;have : U = []:=List.eq_nil_of_length_eq_zero (by omega);subst this;cases ‹i ∈ []›
    have hmm : m = ops.size:=by
      by_cases e : m < ops.size
      · have:=hun m (Nat.le_refl _) e;rw [hall m e] at this;cases this
      · omega
    have hrn : rem = []:=by
      cases rem with
      | nil => rfl
      | cons r0 rs =>
        obtain ⟨o,h1,_,h3⟩:=hrem r0 (by simp)
        have:=(List.getElem?_eq_some_iff.1 h1).1
        rw [hall r0 (by omega)] at h3
        cases h3
    subst hrn
    replace hpl : σ2 = σc:=hpl
    subst hpl
    refine hfin β a w 0 listed hls (fun i hi => ⟨fun _ => by omega,fun _ => hall i hi⟩) (by omega) (hA.congr fun j hj => by rw [hall j (by omega)]) (hW.congr fun j hj => by rw [hall j (by omega)])
  | succ fuel ih =>
    intro listed β a w rem σc hls hpre hcl hun hch hrem hlst hpl htmc hnc hsub hU hA hW
    by_cases hallf : ∀ i,i < m → listed.getD i false = true
    · obtain ⟨U,hU1,hU2,hU3⟩:=hU
      have hrn : rem = []:=by
        cases rem with
        | nil => rfl
        | cons r0 rs =>
          obtain ⟨o,h1,_,h3⟩:=hrem r0 (by simp)
          have:=(List.getElem?_eq_some_iff.1 h1).1
          rw [hallf r0 (by omega)] at h3
          cases h3
      subst hrn
      replace hpl : σ2 = σc:=hpl
      subst hpl
      refine hfin β a w (fuel + 1) listed hls (fun i hi => ⟨fun h => ?_,fun h => hallf i h⟩) ?_ (hA.congr fun j hj => by rw [hallf j (by omega)]) (hW.congr fun j hj => by rw [hallf j (by omega)])
      · by_cases e : i < m
        · exact e
        · have:=hun i (by omega) hi;rw [h] at this;cases this
      · have:=nodup_le (List.range' m (ops.size - m)) U List.nodup_range' fun i hi => by
          rw [List.mem_range'_1] at hi
          exact hU2 i (by omega) (hun i (by omega) (by omega))
        simp at this
        omega
    · refine ⟨fun hn => ?_,fun i hi => ?_⟩
      · exfalso
        have hex : ∃ i,i < m ∧ listed.getD i false = false:=by
          apply Classical.byContradiction
          intro hno
          apply hallf
          intro i hi
          cases h : listed.getD i false with
          | true => rfl
          | false => exact absurd ⟨i,hi,h⟩ hno
        have key : ∀ k i,i ≤ k → i < m → listed.getD i false = false → False:=by
          intro k
          induction k with
          | zero =>
            intro i hik him hif
            have hilt : i < ops.size:=by omega
            have : i ∈ Region.ready .any ops listed:=by
              rw [mem_ready]
              refine ⟨?_,ops[i],by simp [hilt],fun e he hb => ?_⟩
              · simp only [Array.getD_eq_getD_getElem?,Array.getElem?_eq_getElem (show i < listed.size by omega),Option.getD_some] at hif ⊢
                exact hif
              · have:=hedge i ops[i] (by simp [hilt]) e he hb;omega
            rw [hn] at this;cases this
          | succ k ihk =>
            intro i hik him hif
            have hilt : i < ops.size:=by omega
            have : i ∈ Region.ready .any ops listed:=by
              rw [mem_ready]
              refine ⟨?_,ops[i],by simp [hilt],fun e he hb => ?_⟩
              · simp only [Array.getD_eq_getD_getElem?,Array.getElem?_eq_getElem (show i < listed.size by omega),Option.getD_some] at hif ⊢
                exact hif
              · have h1:=hedge i ops[i] (by simp [hilt]) e he hb
                cases h2 : listed.getD e.on false with
                | true => rfl
                | false => exact (ihk e.on (by omega) (by omega) h2).elim
            rw [hn] at this;cases this
        obtain ⟨i,h1,h2⟩:=hex
        exact key i i (Nat.le_refl _) h1 h2
      · obtain ⟨hiu,o,ho,hall⟩:=mem_ready.1 hi
        have hilt:=(Array.getElem?_eq_some_iff.1 ho).1
        have hiu' : listed.getD i false = false:=by
          simp only [Array.getD_eq_getD_getElem?,Array.getElem?_eq_getElem (show i < listed.size by omega),Option.getD_some] at hiu ⊢
          exact hiu
        have him : i < m:=by
          by_cases e : i < m
          · exact e
          · exfalso
            apply hallf
            intro j hj
            rcases Nat.lt_or_ge j s with hjs | hjs
            · exact hpre j hjs
            · exact hcov i j (by omega) hilt hjs (by omega) _ hcl (fun o' ho' e he hb => by rw [ho] at ho';cases ho';exact hall e he hb)
        have his : s ≤ i:=by
          rcases Nat.lt_or_ge i s with his | his
          · have:=hpre i his
            rw [hiu'] at this
            cases this
          · exact his
        have hil : l[i]? = some o:=by
          rw [hl i his him]
          exact ho
        have hedgeL : ∀ j,edgeTo o j = true → listed.getD j false = true:=by
          intro j hj
          simp only [edgeTo,List.any_eq_true,Bool.and_eq_true] at hj
          obtain ⟨e,he,hb,hon⟩:=hj
          have:=hall e (by simpa using he) hb
          rw [Nat.eq_of_beq_eq_true hon] at this
          exact this
        have hfi : ∃ f,fs[i]? = some f:=⟨fs[i],List.getElem?_eq_getElem (by omega)⟩
        obtain ⟨fi,hfi⟩:=hfi
        have hisL:=(path_isL _ _ _ _ _ _ hpath i o fi hil hfi).1
        by_cases hlate : isLate L o = true
        · -- a store into what was there
          have hir : i ∈ rem:=(hlst i o hil hlate).resolve_left (by rw [hiu'];decide)
          cases rem with
          | nil => cases hir
          | cons r0 rs =>
            have hi0 : i = r0:=by
              rcases List.mem_cons.1 hir with e | hirs
              · exact e
              · exfalso
                obtain ⟨p,o2,g1,g2,g3⟩:=chainB_pred rs r0 i hch.1 hirs
                rw [hil] at g2
                cases g2
                obtain ⟨_,_,_,g4⟩:=hrem p g1
                rw [hedgeL p g3] at g4
                cases g4
            subst hi0
            rw [List.filterMap_cons,hil] at hpl
            obtain ⟨id,σ1,g1,g2,g3⟩:=hpl
            obtain ⟨k1,k2,_⟩:=stx_spec g1
            have hTc : Sx.TM N ρ σc:=by
              refine ⟨fun q hq => ?_,fun t ht => ?_⟩
              · rw [htmc] at hq
                have:=hT'.1 q hq
                rw [hnc,← hn'];exact this
              · rw [htmc];exact hT'.2 t ht
            have hlo:=hlates i o hil hlate
            simp only [isLate,Bool.and_eq_true,Option.isNone_iff_eq_none] at hlate
            refine late_any hpath hdist hbase hTc htmc hnc ho hlate.1.1 hlate.1.2 ?_ g1 hA hW fun w' hW' => ?_
            · intro t ht j hj
              simp only [lateOK,List.all_eq_true] at hlo
              have:=hlo t ht
              rw [hj] at this
              simp only [Bool.and_eq_true] at this
              refine ⟨hedgeL j this.1,fun q hq => ?_⟩
              obtain ⟨p,hp1,_⟩:=srcIdx_get hj
              have h2:=this.2
              rw [hp1] at h2
              obtain ⟨f,al_i,σ_i,al1,σ1',hf,_,hstep⟩:=path_get _ _ _ _ _ _ hpath j p hp1
              rw [hq] at hf
              cases hf
              obtain ⟨⟨_,ha⟩,_⟩:=hstep
              simp [ha] at h2
            · have hnd:=hch.2
              rw [List.nodup_cons] at hnd
              refine ih (listed.setIfInBounds i true) β a w' rs σ1 (by simp [hls]) (fun j hj => getD_set_true (hpre j hj)) ?_ ?_ ⟨chainB_tail hch.1,hnd.2⟩ ?_ ?_ g3 (k1.trans htmc) (k2.trans hnc) (hsub.late g1 g2) ?_ ⟨hA.defers,hA.sz,fun t => ?_⟩ ⟨hW'.H,fun k q hk hfk => ?_,fun k k' q r hk hk' hfk hfk' => ?_⟩
              · intro j oj hj hoj e he hb
                by_cases ej : i = j
                · subst ej
                  rw [ho] at hoj
                  cases hoj
                  exact getD_set_true (hall e he hb)
                · rw [getD_set_ne false ej] at hj
                  exact getD_set_true (hcl j oj hj hoj e he hb)
              · intro t h1 h2
                rw [getD_set_ne false (by omega)]
                exact hun t h1 h2
              · intro j hj
                obtain ⟨oj,a1,a2,a3⟩:=hrem j (by simp [hj])
                have : i ≠ j:=fun e => hnd.1 (by rw [e];exact hj)
                exact ⟨oj,a1,a2,by rw [getD_set_ne false this];exact a3⟩
              · intro j oj hj hlj
                by_cases ej : i = j
                · subst ej;left;simp [show i < listed.size by omega]
                · rw [getD_set_ne false ej]
                  rcases hlst j oj hj hlj with e | e
                  · exact .inl e
                  · rcases List.mem_cons.1 e with e | e
                    · exact absurd e.symm ej
                    · exact .inr e
              · obtain ⟨U,hU1,hU2,hU3⟩:=hU
                refine ⟨U.erase i,hU1.erase _,?_,?_⟩
                · intro j hj hjf
                  have hji : i ≠ j:=by
                    intro e
                    subst e
                    simp [show i < listed.size by omega] at hjf
                  rw [getD_set_ne false hji] at hjf
                  exact (hU1.mem_erase_iff).2 ⟨fun e => hji e.symm,hU2 j hj hjf⟩
                · rw [List.length_erase_of_mem (hU2 _ hilt hiu')]
                  omega
              · rw [hA.tm t]
                cases hj : srcIdx l t with
                | none => rfl
                | some j =>
                  obtain ⟨oj,a1,a2⟩:=srcIdx_get hj
                  have : i ≠ j:=by
                    intro e
                    subst e
                    rw [hil] at a1
                    cases a1
                    rw [hlate.1.2] at a2
                    cases a2
                  simp only [getD_set_ne false this]
              · have hki : i ≠ k:=by
                  intro e;subst e
                  rw [hfi] at hfk;cases hfk
                  have : isLate L o = false:=hisL.symm
                  simp only [isLate] at this
                  rw [hlate.1.1,hlate.1.2,hlate.2] at this
                  cases this
                rw [getD_set_ne false hki] at hk
                obtain ⟨d,cs,ty,cs',b1,b2,b3,b4,b5,b6,b7,b8⟩:=hW'.blk k q hk hfk
                refine ⟨d,cs,ty,cs',b1,b2,b3,b4,b5,b6,b7,fun hall' => b8 fun j u hj => ?_⟩
                have hij : i ≠ j:=by
                  intro e;subst e
                  rw [hfi] at hj;cases hj
                  have : isLate L o = false:=hisL.symm
                  simp only [isLate] at this
                  rw [hlate.1.1,hlate.1.2,hlate.2] at this
                  cases this
                have:=hall' j u hj
                rwa [getD_set_ne false hij] at this
              · have hne : ∀ k q,fs[k]? = some (Ent.al q) → i ≠ k:=by
                  intro k q hk e;subst e
                  rw [hfi] at hk;cases hk
                  have : isLate L o = false:=hisL.symm
                  simp only [isLate] at this
                  rw [hlate.1.1,hlate.1.2,hlate.2] at this
                  cases this
                rw [getD_set_ne false (hne k q hfk)] at hk
                rw [getD_set_ne false (hne k' r hfk')] at hk'
                exact hW'.inj k k' q r hk hk' hfk hfk'
        have hlate : isLate L o = false:=by simpa using hlate
        have hnl : fs[i]? ≠ some .late:=by
          intro e
          rw [hfi] at e
          cases e
          rw [hlate] at hisL
          cases hisL
        have hdm:=hdst o (List.mem_of_getElem? hil)
        have hdep:=hdeps i o hil
        have hdd : (∀ q u,fs[i]? ≠ some (.st q u)) → ∃ d,o.dst = some d:=by
          intro hns
          obtain ⟨f,al_i,σ_i,al1,σ1,hf,_,hstep⟩:=path_get _ _ _ _ _ _ hpath i o hil
          have hs:=hsome o (List.mem_of_getElem? hil)
          cases hd : o.dst with
          | some d => exact ⟨d,rfl⟩
          | none =>
            exfalso
            rw [hd] at hs
            simp only [Option.isSome_none,Bool.false_or,Bool.and_eq_true] at hs
            cases f with
            | run x => obtain ⟨_,_,_,_,_,hso⟩:=hstep;rw [hso] at hs;cases hs.1
            | skip => obtain ⟨_,_,_,hgs⟩:=hstep;cases hg : o.guard with
              | none => rw [hg] at hgs;cases hgs
              | some g => rw [hg] at hs;cases hs.2
            | al q => obtain ⟨_,_,_,d,_,_,hd',_⟩:=hstep;rw [hd] at hd';cases hd'
            | st q u => exact hns q u hf
            | late => exact hnl hf
        refine step_any (fun w h => h.sub hsub) hpath hdist hbase hTM hil ho hdm (fun cs b => Region.noSelect_spec hsel i o cs b ho) ?_ ?_ ?_ hdd hA hW hiu' hnl ?_
        · intro t ht j hj
          simp only [depOK,List.all_eq_true] at hdep
          have:=hdep t ht
          rw [hj] at this
          simp only [Bool.and_eq_true,Nat.blt_eq] at this
          obtain ⟨⟨g1,g2⟩,g3⟩:=this
          refine ⟨g1,?_,?_⟩
          · simp only [edgeTo,List.any_eq_true,Bool.and_eq_true] at g2
            obtain ⟨e,he,hb,hon⟩:=g2
            have:=hall e (by simpa using he) hb
            rw [Nat.eq_of_beq_eq_true hon] at this
            exact this
          · cases hia : isAddr o t with
            | true => exact .inl rfl
            | false =>
              refine .inr fun q hq => ?_
              obtain ⟨p,hp1,_⟩:=srcIdx_get hj
              rw [hp1,hia] at g3
              obtain ⟨f,al_i,σ_i,al1,σ1,hf,_,hstep⟩:=path_get _ _ _ _ _ _ hpath j p hp1
              rw [hq] at hf
              cases hf
              obtain ⟨⟨_,ha⟩,_⟩:=hstep
              simp [ha] at g3
        · intro j q u hEj hf k hfk
          obtain ⟨o2,t,d,y,j0,h1,h2,h3,h4,h5,h6,_⟩:=path_st hpath hdist hf
          have hk : k = j0:=(path_al _ _ _ _ _ _ hpath).2.2.1 k j0 q hfk h4
          subst hk
          have hdj:=hdeps j o2 h1
          simp only [depOK,List.all_eq_true] at hdj
          have:=hdj d h6
          rw [h3] at this
          simp only [Bool.and_eq_true,Nat.blt_eq] at this
          obtain ⟨⟨_,g2⟩,_⟩:=this
          simp only [edgeTo,List.any_eq_true,Bool.and_eq_true] at g2
          obtain ⟨e,he,hb,hon⟩:=g2
          have hoj : ops[j]? = some o2:=by
            have hjm : j < m:=by
              have:=(List.getElem?_eq_some_iff.1 h1).1
              omega
            have hjs : s ≤ j:=by
              rcases Nat.lt_or_ge j s with hjs | hjs
              · have:=hpad j hjs
                rw [hf] at this
                cases this
              · exact hjs
            rw [← hl j hjs hjm]
            exact h1
          have:=hcl j o2 hEj hoj e (by simpa using he) hb
          rw [Nat.eq_of_beq_eq_true hon] at this
          exact this
        · intro j k q u u' hfj hfk
          obtain ⟨o1,t1,d1,y1,_,h1,h2,_,_,_,_,c1,h7⟩:=path_st hpath hdist hfj
          obtain ⟨o2,t2,d2,y2,_,k1,k2,_,_,_,_,c2,k7⟩:=path_st hpath hdist hfk
          rw [h7] at k7
          cases k7
          exact storesOnce_spec _ honce j k o1 o2 d1 h1 k1 (by simp [storeTmp,h2]) (by simp [storeTmp,k2])
        · intro β' a' w' hA' hW'
          refine ih (listed.setIfInBounds i true) β' a' w' rem σc (by simp [hls]) (fun j hj => getD_set_true (hpre j hj)) ?_ ?_ hch ?_ ?_ hpl htmc hnc hsub ?_ (hA'.congr fun j hj => ?_) (hW'.congr fun j hj => ?_)
          · intro j oj hj hoj e he hb
            by_cases ej : i = j
            · subst ej
              rw [ho] at hoj
              cases hoj
              exact getD_set_true (hall e he hb)
            · rw [getD_set_ne false ej] at hj
              exact getD_set_true (hcl j oj hj hoj e he hb)
          · intro t h1 h2
            rw [getD_set_ne false (by omega)]
            exact hun t h1 h2
          · intro j hj
            obtain ⟨oj,a1,a2,a3⟩:=hrem j hj
            have : i ≠ j:=by
              intro e;subst e
              rw [hil] at a1
              cases a1
              rw [hlate] at a2
              cases a2
            exact ⟨oj,a1,a2,by rw [getD_set_ne false this];exact a3⟩
          · intro j oj hj hlj
            have : i ≠ j:=by
              intro e;subst e
              rw [hil] at hj
              cases hj
              rw [hlate] at hlj
              cases hlj
            rw [getD_set_ne false this]
            exact hlst j oj hj hlj
          · obtain ⟨U,hU1,hU2,hU3⟩:=hU
            refine ⟨U.erase i,hU1.erase i,?_,?_⟩
            · intro j hj hjf
              have hji : i ≠ j:=by
                intro e
                subst e
                simp [show i < listed.size by omega] at hjf
              rw [getD_set_ne false hji] at hjf
              exact (hU1.mem_erase_iff).2 ⟨fun e => hji e.symm,hU2 j hj hjf⟩
            · rw [List.length_erase_of_mem (hU2 i hilt hiu')]
              omega
          · by_cases ej : i = j
            · subst ej;simp [show i < listed.size by omega]
            · rw [getD_set_ne false ej,Nat.beq_eq_false_iff.2 (fun e => ej e.symm),Bool.or_false]
          · by_cases ej : i = j
            · subst ej;simp [show i < listed.size by omega]
            · rw [getD_set_ne false ej,Nat.beq_eq_false_iff.2 (fun e => ej e.symm),Bool.or_false]
end
end Go.Proofs.Ytnlohongffpkpaa.Sx
end
