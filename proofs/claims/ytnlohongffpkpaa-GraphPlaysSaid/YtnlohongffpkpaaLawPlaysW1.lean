import Derived.WalkKit
import Derived.KernelRfl
import Derived.DeepKeys3
import Derived.LaidEqlPtr
import Derived.MapKept
import Derived.Maps.Keyed
import Derived.Deep.AppendSrc
import Derived.Maps.RangeRun
set_option linter.unusedVariables false
set_option linter.unusedSimpArgs false
section
namespace Go.Proofs.Ytnlohongffpkpaa.Sx
theorem Nat.beq_eq_false_iff {a b : Nat} : Nat.beq a b = false ↔ a ≠ b:=by
  constructor
  · intro h e;subst e;rw [Nat.beq_refl] at h;cases h
  · intro h
    cases hb : Nat.beq a b with
    | false => rfl
    | true => exact absurd (Nat.eq_of_beq_eq_true hb) h
open Go
inductive C where
  | lb (x : Bool)
  | sb (x : Bool)
  | li (k : IntKind) (n : Int)
  | si (k : IntKind) (n : Int)
  | ptr (id off : Nat)
  | nilp
  | fn (f : FuncId) (cs : List (Nat × Nat))
  | sl (id off len cap : Nat)
  | mp (id : Nat)
  | ifp (t id off : Nat)
  | np (p : Int) (off : Nat)
  | sv (v : Value)
  | raw (v : Value)
inductive U where
  | c (x : C)
  | agg (xs : List C)
inductive V where
  | u (x : U)
  | tup (xs : List U)
def ptrV (ρ : Nat → Nat) (q : Nat × Nat) : Value:=.pointer (some ⟨ρ q.1,q.2,none⟩)
def pv (p : Int) (off : Nat) : Value :=
  match p.toNat with
  | 0 => .pointer none
  | a + 1 => .pointer (some ⟨a,off,none⟩)
def pl : Value → Value
  | .agg _ => .bool false
  | .tuple _ => .bool false
  | v => v
def C.den (ρ : Nat → Nat) : C → Value
  | .lb x => .bool x
  | .sb x => .bool x
  | .li k n => .int k n
  | .si k n => .int k n
  | .ptr id off => .pointer (some ⟨ρ id,off,none⟩)
  | .nilp => .pointer none
  | .fn f cs => .func (.func f) #[] (cs.map (ptrV ρ)).toArray
  | .sl id off len cap => .slice (some ⟨ρ id,off,none⟩) len cap
  | .mp id => .map (some (ρ id))
  | .ifp t id off => .iface t (.pointer (some ⟨ρ id,off,none⟩))
  | .np p off => pv p off
  | .sv v => pl v
  | .raw v => v
def dens (ρ : Nat → Nat) (xs : List C) : Array Value:=(xs.map (C.den ρ)).toArray
def U.den (ρ : Nat → Nat) : U → Value
  | .c x => x.den ρ
  | .agg xs => .agg (dens ρ xs)
def V.den (ρ : Nat → Nat) : V → Value
  | .u x => x.den ρ
  | .tup xs => .tuple (xs.map (U.den ρ)).toArray
def C.wf (n : Nat) : C → Bool
  | .ptr id _ => Nat.blt id n
  | .fn _ cs => cs.all fun q => Nat.blt q.1 n
  | .sl id _ _ _ => Nat.blt id n
  | .mp id => Nat.blt id n
  | .ifp _ id _ => Nat.blt id n
  | _ => true
def U.wf (n : Nat) : U → Bool
  | .c x => x.wf n
  | .agg xs => xs.all (C.wf n)
def V.wf (n : Nat) : V → Bool
  | .u x => x.wf n
  | .tup xs => xs.all (U.wf n)
def C.ofValue : Value → C
  | .bool x => .lb x
  | .int k n => .li k n
  | .pointer none => .nilp
  | v => .raw v
def U.ofValue : Value → U
  | .agg cs => .agg (cs.toList.map C.ofValue)
  | v => .c (C.ofValue v)
def V.ofValue : Value → V
  | .tuple vs => .tup (vs.toList.map U.ofValue)
  | v => .u (U.ofValue v)
theorem C.den_ofValue (ρ : Nat → Nat) (v : Value) : (C.ofValue v).den ρ = v:=by
  unfold C.ofValue
  split <;> rfl
theorem U.den_ofValue (ρ : Nat → Nat) (v : Value) : (U.ofValue v).den ρ = v:=by
  unfold U.ofValue
  split
  · rename_i cs
    simp only [U.den,dens,List.map_map]
    have : (C.den ρ ∘ C.ofValue) = id:=funext fun v => C.den_ofValue ρ v
    simp [this]
  · exact C.den_ofValue ρ _
theorem V.den_ofValue (ρ : Nat → Nat) (v : Value) : (V.ofValue v).den ρ = v:=by
  unfold V.ofValue
  split
  · rename_i cs
    simp only [V.den,List.map_map]
    have : (U.den ρ ∘ U.ofValue) = id:=funext fun v => U.den_ofValue ρ v
    simp [this]
  · exact U.den_ofValue ρ _
theorem C.wf_ofValue (n : Nat) (v : Value) : (C.ofValue v).wf n = true:=by
  unfold C.ofValue
  split <;> rfl
theorem U.wf_ofValue (n : Nat) (v : Value) : (U.ofValue v).wf n = true:=by
  unfold U.ofValue
  split
  · simp [U.wf,C.wf_ofValue]
  · simp [U.wf,C.wf_ofValue]
theorem V.wf_ofValue (n : Nat) (v : Value) : (V.ofValue v).wf n = true:=by
  unfold V.ofValue
  split
  · simp [V.wf,U.wf_ofValue]
  · simp [V.wf,U.wf_ofValue]
def Ext (n : Nat) (ρ ρ' : Nat → Nat) : Prop:=∀ i,i < n → ρ' i = ρ i
theorem Ext.refl (n : Nat) (ρ : Nat → Nat) : Ext n ρ ρ:=fun _ _ => rfl
theorem Ext.trans {n m : Nat} {ρ ρ' ρ'' : Nat → Nat} (h : Ext n ρ ρ') (hnm : n ≤ m) (h' : Ext m ρ' ρ'') : Ext n ρ ρ'' :=
  fun i hi => (h' i (Nat.lt_of_lt_of_le hi hnm)).trans (h i hi)
theorem C.den_ext {n : Nat} {ρ ρ' : Nat → Nat} (h : Ext n ρ ρ') (x : C) (hw : x.wf n = true) : x.den ρ' = x.den ρ:=by
  cases x with
  | ptr id off => simp only [C.wf,Nat.blt_eq] at hw;simp [C.den,h id hw]
  | sl id off len cap => simp only [C.wf,Nat.blt_eq] at hw;simp [C.den,h id hw]
  | mp id => simp only [C.wf,Nat.blt_eq] at hw;simp [C.den,h id hw]
  | ifp t id off => simp only [C.wf,Nat.blt_eq] at hw;simp [C.den,h id hw]
  | fn f cs =>
    simp only [C.wf,List.all_eq_true,Nat.blt_eq] at hw
    simp only [C.den]
    congr 2
    exact List.map_congr_left fun q hq => by simp [ptrV,h q.1 (hw q hq)]
  | _ => rfl
theorem dens_ext {n : Nat} {ρ ρ' : Nat → Nat} (h : Ext n ρ ρ') (xs : List C) (hw : xs.all (C.wf n) = true) : dens ρ' xs = dens ρ xs:=by
  simp only [List.all_eq_true] at hw
  simp only [dens]
  congr 1
  exact List.map_congr_left fun x hx => C.den_ext h x (hw x hx)
theorem U.den_ext {n : Nat} {ρ ρ' : Nat → Nat} (h : Ext n ρ ρ') (x : U) (hw : x.wf n = true) : x.den ρ' = x.den ρ:=by
  cases x with
  | c x => exact C.den_ext h x hw
  | agg xs => simp only [U.den,dens_ext h xs hw]
theorem V.den_ext {n : Nat} {ρ ρ' : Nat → Nat} (h : Ext n ρ ρ') (x : V) (hw : x.wf n = true) : x.den ρ' = x.den ρ:=by
  cases x with
  | u x => exact U.den_ext h x hw
  | tup xs =>
    simp only [V.wf,List.all_eq_true] at hw
    simp only [V.den]
    congr 2
    exact List.map_congr_left fun x hx => U.den_ext h x (hw x hx)
theorem C.wf_mono {n m : Nat} (h : n ≤ m) (x : C) (hw : x.wf n = true) : x.wf m = true:=by
  cases x with
  | ptr id off => simp only [C.wf,Nat.blt_eq] at hw ⊢;omega
  | sl id off len cap => simp only [C.wf,Nat.blt_eq] at hw ⊢;omega
  | mp id => simp only [C.wf,Nat.blt_eq] at hw ⊢;omega
  | ifp t id off => simp only [C.wf,Nat.blt_eq] at hw ⊢;omega
  | fn f cs => simp only [C.wf,List.all_eq_true,Nat.blt_eq] at hw ⊢;intro q hq;have:=hw q hq;omega
  | _ => rfl
theorem U.wf_mono {n m : Nat} (h : n ≤ m) (x : U) (hw : x.wf n = true) : x.wf m = true:=by
  cases x with
  | c x => exact C.wf_mono h x hw
  | agg xs => simp only [U.wf,List.all_eq_true] at hw ⊢;exact fun x hx => C.wf_mono h x (hw x hx)
theorem V.wf_mono {n m : Nat} (h : n ≤ m) (x : V) (hw : x.wf n = true) : x.wf m = true:=by
  cases x with
  | u x => exact U.wf_mono h x hw
  | tup xs => simp only [V.wf,List.all_eq_true] at hw ⊢;exact fun x hx => U.wf_mono h x (hw x hx)
abbrev Blk:=List C × Nat
abbrev MBlk:=List (U × U × Nat) × Nat
abbrev Mem:=Nat → Option Obj
def noM : Mem:=fun _ => none
structure Hp where
  c : List (Nat × Blk)
  m : List (Nat × MBlk)
  lim : Nat
  x : Mem
  wr : Bool
  mt : List Nat
def hnil : Hp:=⟨[],[],0,noM,true,[]⟩
def hcons (q : Nat × Blk) (h : Hp) : Hp:=⟨q :: h.c,h.m,h.lim,h.x,h.wr,h.mt⟩
def mcons (q : Nat × MBlk) (h : Hp) : Hp:=⟨h.c,q :: h.m,h.lim,h.x,h.wr,h.mt⟩
structure NL where
  n : Nat
  l : Nat
  x : Mem
def mden (ρ : Nat → Nat) (es : List (U × U × Nat)) : Array MapEntry:=(es.map fun e => ({ key:=e.1.den ρ,val:=e.2.1.den ρ,born:=e.2.2 } : MapEntry)).toArray
def mwf (n : Nat) (es : List (U × U × Nat)) : Bool:=es.all fun e => e.1.wf n && e.2.1.wf n
theorem mden_ext {n : Nat} {ρ ρ' : Nat → Nat} (h : Ext n ρ ρ') (es : List (U × U × Nat)) (hw : mwf n es = true) : mden ρ' es = mden ρ es:=by
  simp only [mwf,List.all_eq_true,Bool.and_eq_true] at hw
  simp only [mden]
  congr 1
  exact List.map_congr_left fun e he => by rw [U.den_ext h _ (hw e he).1,U.den_ext h _ (hw e he).2]
theorem mwf_mono {n m : Nat} (h : n ≤ m) (es : List (U × U × Nat)) (hw : mwf n es = true) : mwf m es = true:=by
  simp only [mwf,List.all_eq_true,Bool.and_eq_true] at hw ⊢
  exact fun e he => ⟨U.wf_mono h _ (hw e he).1,U.wf_mono h _ (hw e he).2⟩
structure St where
  tm : List (Nat × V)
  hp : Hp
  n : Nat
def look (l : List (Nat × V)) (t : Nat) : V :=
  match l with
  | [] => .tup []
  | (i,v) :: r => match Nat.beq i t with | true => v | false => look r t
def lookL {α : Type} (l : List (Nat × α)) (t : Nat) : Option α :=
  match l with
  | [] => none
  | (i,v) :: r => match Nat.beq i t with | true => some v | false => lookL r t
def lookH (h : Hp) (t : Nat) : Option Blk:=lookL h.c t
def lookM (h : Hp) (t : Nat) : Option MBlk:=lookL h.m t
theorem lookH_hnil (t : Nat) : lookH hnil t = none:=rfl
theorem lookH_hcons (i : Nat) (v : Blk) (h : Hp) (t : Nat) : lookH (hcons (i,v) h) t = match Nat.beq i t with | true => some v | false => lookH h t:=rfl
theorem lookM_hcons (q : Nat × Blk) (h : Hp) (t : Nat) : lookM (hcons q h) t = lookM h t:=rfl
theorem lookH_mcons (q : Nat × MBlk) (h : Hp) (t : Nat) : lookH (mcons q h) t = lookH h t:=rfl
theorem lookM_mcons (i : Nat) (v : MBlk) (h : Hp) (t : Nat) : lookM (mcons (i,v) h) t = match Nat.beq i t with | true => some v | false => lookM h t:=rfl
def St.put (σ : St) (d : Option Tmp) (v : V) : St :=
  match d with
  | some d => { σ with tm:=(d,v) :: σ.tm }
  | none => σ
inductive E where
  | normal
  | exit (id : Nat)
  | ret
def E.to : E → Exit
  | .normal => .normal
  | .exit id => .exit id
  | .ret => .ret
structure Vars where
  i : List Int
  b : List Bool
  v : List Value
  m : Mem
inductive Leaf where
  | ret (v : V) (hp : Hp) (n : Nat)
  | out (e : E) (σ : St)
  | val (v : V)
  | again (y : Vars)
  | memo (v : V) (x : Mem)
  | up (l : Leaf)
inductive Tr where
  | leaf (l : Leaf)
  | br (b : Bool) (t e : Tr)
  | no (why : Nat)
  | req (p : Prop) (t : Tr)
  | any (q : Vars → Prop) (f : Vars → Tr)
  | letm (m : Mem) (f : Mem → Tr)
  | lp (y : Vars) (f : Vars → (Nat → Value) → Tr)
def inLoop (I : Vars → Prop) (m : Nat) (μ : Vars → Nat) (R : Leaf → Prop) : Leaf → Prop
  | .again y => I y ∧ μ y < m
  | .up l => R l
  | _ => False
def Tr.sat : (R : Leaf → Prop) → Tr → Prop
  | R,.leaf l => R l
  | R,.br b t e => (b = true → t.sat R) ∧ (b = false → e.sat R)
  | _,.no _ => False
  | R,.req p t => p ∧ t.sat R
  | R,.any q f => ∀ y,q y → (f y).sat R
  | R,.letm m f => (f m).sat R
  | R,.lp x f => ∃ (I : Vars → Prop) (μ : Vars → Nat),I x ∧ ∀ y j,I y → (f y j).sat (inLoop I (μ y) μ R)
def upIn (g : Leaf → Leaf) : Leaf → Leaf
  | .up l => .up (g l)
  | l => l
def Tr.mapL : (g : Leaf → Leaf) → Tr → Tr
  | g,.leaf l => .leaf (g l)
  | g,.br b t e => .br b (t.mapL g) (e.mapL g)
  | _,.no n => .no n
  | g,.req p t => .req p (t.mapL g)
  | g,.any q f => .any q fun x => (f x).mapL g
  | g,.letm m f => .letm m fun x => (f x).mapL g
  | g,.lp x f => .lp x fun y j => (f y j).mapL (upIn g)
theorem inLoop_up (I : Vars → Prop) (m : Nat) (μ : Vars → Nat) (R : Leaf → Prop) (g : Leaf → Leaf) (l : Leaf) : inLoop I m μ R (upIn g l) = inLoop I m μ (fun l => R (g l)) l:=by
  cases l <;> rfl
theorem mapL_sat : ∀ (T : Tr) (g : Leaf → Leaf) (R : Leaf → Prop),(T.mapL g).sat R → T.sat (fun l => R (g l))
  | .leaf l,g,R,h => h
  | .br b t e,g,R,h => ⟨fun hb => mapL_sat t g R (h.1 hb),fun hb => mapL_sat e g R (h.2 hb)⟩
  | .no _,g,R,h => h
  | .req p t,g,R,h => ⟨h.1,mapL_sat t g R h.2⟩
  | .any q f,g,R,h => fun x hq => mapL_sat (f x) g R (h x hq)
  | .letm m f,g,R,h => mapL_sat (f m) g R h
  | .lp x f,g,R,h => by
    obtain ⟨I,μ,h1,h2⟩:=h
    refine ⟨I,μ,h1,fun y j hI => ?_⟩
    have:=mapL_sat (f y j) (upIn g) _ (h2 y j hI)
    have e : (fun l => inLoop I (μ y) μ R (upIn g l)) = inLoop I (μ y) μ (fun l => R (g l)):=funext fun l => inLoop_up I _ μ R g l
    rw [e] at this
    exact this
def lookW (h : Hp) (id : Nat) : Option Blk:=match Nat.ble h.lim id with | true => lookH h id | false => none
def lookMW (h : Hp) (id : Nat) : Option MBlk:=match Nat.ble h.lim id with | true => lookM h id | false => none
theorem lookW_spec {h : Hp} {id : Nat} {b : Blk} (e : lookW h id = some b) : lookH h id = some b ∧ h.lim ≤ id:=by
  unfold lookW at e
  split at e
  · rename_i hl;exact ⟨e,Nat.le_of_ble_eq_true hl⟩
  · cases e
theorem lookMW_spec {h : Hp} {id : Nat} {b : MBlk} (e : lookMW h id = some b) : lookM h id = some b ∧ h.lim ≤ id:=by
  unfold lookMW at e
  split at e
  · rename_i hl;exact ⟨e,Nat.le_of_ble_eq_true hl⟩
  · cases e
structure MR (W : World) (x0 : Mem) (b : Bool) (x : Mem) (ρ : Nat → Nat) (n : Nat) (w : World) : Prop where
  sub : ∀ a o,x a = some o → w.heap[a]? = some o
  sep : ∀ a o,x a = some o → ∀ i,i < n → ρ i ≠ a
  dom : b = true → ∀ a o,x a = some o → x0 a ≠ none ∨ W.heap.size ≤ a
structure HInv (W : World) (n0 : NL) (ρ0 ρ : Nat → Nat) (hp : Hp) (n : Nat) (w : World) : Prop where
  lt : ∀ i,i < n → ρ i < w.heap.size
  inj : ∀ i j,i < n → j < n → ρ i = ρ j → i = j
  blk : ∀ i b,lookH hp i = some b → i < n ∧ b.1.all (C.wf n) = true ∧ w.heap[ρ i]? = some (.cells (dens ρ b.1) b.2 (0,0))
  le : n0.n ≤ n
  old : Ext n0.n ρ0 ρ
  new : ∀ i,n0.n ≤ i → i < n → W.heap.size ≤ ρ i
  os : w.os = W.os
  tape : w.tape = W.tape
  output : w.output = W.output
  size : W.heap.size ≤ w.heap.size
  far : ∀ k,k < W.heap.size → n0.x k = none → (∀ i,n0.l ≤ i → i < n0.n → ρ0 i ≠ k) → w.heap[k]? = W.heap[k]?
  mblk : ∀ i b,lookM hp i = some b → i < n ∧ mwf n b.1 = true ∧ w.heap[ρ i]? = some (.map (mden ρ b.1) b.2)
  lim : hp.lim = n0.l
  mem : MR W n0.x hp.wr hp.x ρ n w
theorem MR.lt {W : World} {x0 x : Mem} {b : Bool} {ρ : Nat → Nat} {n : Nat} {w : World} (h : MR W x0 b x ρ n w) {a : Nat} {o : Obj} (e : x a = some o) : a < w.heap.size:=by
  have:=h.sub a o e
  rcases Nat.lt_or_ge a w.heap.size with h1 | h1
  · exact h1
  · rw [Array.getElem?_eq_none h1] at this;cases this
theorem MR.none (W : World) (x0 : Mem) (b : Bool) (ρ : Nat → Nat) (n : Nat) (w : World) : MR W x0 b noM ρ n w:=⟨fun _ _ h => (by cases h),fun _ _ h => (by cases h),fun _ _ _ h => by cases h⟩
theorem MR.fresh {W : World} {x0 x : Mem} {b : Bool} {ρ : Nat → Nat} {n : Nat} {w : World} (h : MR W x0 b x ρ n w) : x w.heap.size = Option.none:=by
  cases e : x w.heap.size with
  | none => rfl
  | some o => exact absurd (h.lt e) (Nat.lt_irrefl _)
theorem MR.alloc {W : World} {x0 x : Mem} {b : Bool} {ρ : Nat → Nat} {n : Nat} {w : World} (h : MR W x0 b x ρ n w) (o : Obj) : MR W x0 b x (fun i => if i = n then w.heap.size else ρ i) (n + 1) (w.alloc o):=by
  refine ⟨fun a q e => ?_,fun a q e i hi => ?_,h.dom⟩
  · show (w.heap.push o)[a]? = _
    rw [Array.getElem?_push,if_neg (Nat.ne_of_lt (h.lt e))]
    exact h.sub a q e
  · show (if i = n then w.heap.size else ρ i) ≠ a
    have:=h.lt e
    split
    · omega
    · exact h.sep a q e i (by omega)
theorem MR.keep {W : World} {x0 x : Mem} {b : Bool} {ρ : Nat → Nat} {n : Nat} {w w' : World} (h : MR W x0 b x ρ n w) (hk : ∀ a,a < w.heap.size → (∀ i,i < n → ρ i ≠ a) → w'.heap[a]? = w.heap[a]?) : MR W x0 b x ρ n w' :=
  ⟨fun a o e => (hk a (h.lt e) (h.sep a o e)).trans (h.sub a o e),h.sep,h.dom⟩
theorem MR.adopt {W : World} {x0 x : Mem} {b : Bool} {ρ : Nat → Nat} {n : Nat} {w : World} (h : MR W x0 b x ρ n w) {c : Nat} (hc : x c = Option.none) : MR W x0 b x (fun i => if i = n then c else ρ i) (n + 1) w:=by
  refine ⟨h.sub,fun a o e i hi => ?_,h.dom⟩
  show (if i = n then c else ρ i) ≠ a
  split
  · intro e';rw [e',e] at hc;cases hc
  · exact h.sep a o e i (by omega)
theorem MR.sub' {W : World} {x0 x : Mem} {b : Bool} {ρ : Nat → Nat} {n : Nat} {w w' : World} (h : MR W x0 b x ρ n w) (hk : ∀ a,a < w.heap.size → ∀ o,x a = some o → w'.heap[a]? = w.heap[a]?) : MR W x0 b x ρ n w' :=
  ⟨fun a o e => (hk a (h.lt e) o e).trans (h.sub a o e),h.sep,h.dom⟩
structure Inv (W : World) (n0 : NL) (ρ0 : Nat → Nat) (N : Nat) (ρ : Nat → Nat) (σ : St) (a : Act) (w : World) : Prop where
  defers : a.defers = []
  sz : a.tmps.size = N
  tm : ∀ t,a.tmps.getD t undef = (look σ.tm t).den ρ
  tmwf : ∀ q ∈ σ.tm,q.2.wf σ.n = true
  H : HInv W n0 ρ0 ρ σ.hp σ.n w
theorem look_wf {l : List (Nat × V)} {n : Nat} (h : ∀ q ∈ l,q.2.wf n = true) (t : Nat) : (look l t).wf n = true:=by
  induction l with
  | nil => rfl
  | cons q r ih =>
    obtain ⟨i,v⟩:=q
    unfold look
    split
    · exact h (i,v) (by simp)
    · exact ih fun q hq => h q (by simp [hq])
section
variable {W : World} {n0 : NL} {ρ0 : Nat → Nat} {N : Nat} {ρ : Nat → Nat} {σ : St} {a : Act} {w : World}
theorem Inv.put (h : Inv W n0 ρ0 N ρ σ a w) (d : Option Tmp) (v : V) (hd : ∀ d',d = some d' → d' < N) (hv : v.wf σ.n = true) :
    Inv W n0 ρ0 N ρ (σ.put d v) (a.put d (v.den ρ)) w:=by
  cases d with
  | none => exact h
  | some d =>
    refine ⟨h.defers,by simp [Act.put,h.sz],?_,?_,h.H⟩
    · intro t
      simp only [Act.put,St.put,look]
      by_cases e : d = t
      · subst e
        have hd : d < a.tmps.size:=by rw [h.sz];exact hd d rfl
        simp [hd]
      · have e' : Nat.beq d t = false:=Nat.beq_eq_false_iff.2 e
        simp only [e']
        rw [← h.tm t]
        simp [e]
    · intro q hq
      simp only [St.put,List.mem_cons] at hq
      rcases hq with rfl | hq
      · exact hv
      · exact h.tmwf q hq
theorem Inv.retell (h : Inv W n0 ρ0 N ρ σ a w) (d : Tmp) (v : V) (hv : v.wf σ.n = true) (he : (look σ.tm d).den ρ = v.den ρ) :
    Inv W n0 ρ0 N ρ { σ with tm:=(d,v) :: σ.tm } a w:=by
  refine ⟨h.defers,h.sz,?_,?_,h.H⟩
  · intro t
    simp only [look]
    by_cases e : d = t
    · subst e;simp only [Nat.beq_refl];rw [h.tm d,he]
    · have e' : Nat.beq d t = false:=Nat.beq_eq_false_iff.2 e
      simp only [e']
      exact h.tm t
  · intro q hq
    simp only [List.mem_cons] at hq
    rcases hq with rfl | hq
    · exact hv
    · exact h.tmwf q hq
theorem Inv.later (h : Inv W n0 ρ0 N ρ σ a w) {ρ' : Nat → Nat} {hp : Hp} {n : Nat} {w' : World} (hE : Ext σ.n ρ ρ') (hn : σ.n ≤ n) (hH : HInv W n0 ρ0 ρ' hp n w') :
    Inv W n0 ρ0 N ρ' { σ with hp:=hp,n:=n } a w' :=
  ⟨h.defers,h.sz,fun t => (h.tm t).trans (V.den_ext hE _ (look_wf h.tmwf t)).symm,fun q hq => V.wf_mono hn _ (h.tmwf q hq),hH⟩
end
def ev (σ : St) : Operand → V
  | .tmp t => look σ.tm t
  | .const v => V.ofValue v
  | .global g => .u (.c (.raw (.pointer (some ⟨g,0,none⟩))))
  | .func f => .u (.c (.fn f []))
theorem ev_wf {W : World} {n0 : NL} {ρ0 : Nat → Nat} {N : Nat} {ρ : Nat → Nat} {σ : St} {a : Act} {w : World} (h : Inv W n0 ρ0 N ρ σ a w) (x : Operand) : (ev σ x).wf σ.n = true:=by
  cases x with
  | tmp t => exact look_wf h.tmwf t
  | const v => exact V.wf_ofValue _ v
  | global g => rfl
  | func f => rfl
theorem ev_den {W : World} {n0 : NL} {ρ0 : Nat → Nat} {N : Nat} {ρ : Nat → Nat} {σ : St} {a : Act} {w : World} (h : Inv W n0 ρ0 N ρ σ a w) (x : Operand) : a.eval x = (ev σ x).den ρ:=by
  cases x with
  | tmp t => exact h.tm t
  | const v => exact (V.den_ofValue ρ v).symm
  | global g => rfl
  | func f => rfl
end Go.Proofs.Ytnlohongffpkpaa.Sx
end

section
namespace Go.Proofs.Ytnlohongffpkpaa.Sx
open Go
def tsz (P : Program) (t : TypeId) : Option Nat:=(P.info? t).map (·.size)
def tagg (P : Program) (t : TypeId) : Option Bool :=
  match P.underlying t with
  | some (.struct _) => some true
  | some (.array _ _) => some true
  | some _ => some false
  | none => none
def tzero (P : Program) (t : TypeId) : Option U :=
  match P.info? t with
  | some i => match i.zero with | some v => some (U.ofValue v) | none => none
  | none => none
def U.cells : U → List C
  | .c x => [x]
  | .agg xs => xs
def C.plain : C → Bool
  | .raw (.agg _) => false
  | .raw (.tuple _) => false
  | _ => true
theorem dens_size (ρ : Nat → Nat) (xs : List C) : (dens ρ xs).size = xs.length:=by simp [dens]
theorem dens_get (ρ : Nat → Nat) (xs : List C) (i : Nat) : (dens ρ xs)[i]? = (xs[i]?).map (C.den ρ):=by simp [dens]
theorem dens_set (ρ : Nat → Nat) (xs : List C) (i : Nat) (c : C) : dens ρ (xs.set i c) = (dens ρ xs).setIfInBounds i (c.den ρ):=by
  simp [dens,List.map_set]
theorem dens_toList (ρ : Nat → Nat) (xs : List C) : (dens ρ xs).toList = xs.map (C.den ρ):=by simp [dens]
theorem U.den_cells (ρ : Nat → Nat) (u : U) (h : ∀ c,u = .c c → c.plain = true) : (u.den ρ).cells = dens ρ u.cells:=by
  cases u with
  | agg xs => rfl
  | c x =>
    have hp:=h x rfl
    simp only [U.den,U.cells,dens,List.map_cons,List.map_nil]
    cases x with
    | raw v => cases v <;> first | rfl | simp [C.plain] at hp
    | np p off => simp only [C.den,pv];split <;> rfl
    | sv v => cases v <;> rfl
    | _ => rfl
theorem U.cells_wf {n : Nat} (u : U) (h : u.wf n = true) : u.cells.all (C.wf n) = true:=by
  cases u with
  | c x => simpa [U.cells,U.wf] using h
  | agg xs => exact h
section
variable {P : Program} {W : World} {n0 : NL} {ρ0 ρ : Nat → Nat} {hp : Hp} {n : Nat} {w : World}
theorem run_isAgg {t : TypeId} {b : Bool} (h : tagg P t = some b) (w : World) : (isAgg t).run P w = .ok b w:=by
  unfold tagg at h
  simp only [isAgg,Sem.run_bind]
  cases hu : P.underlying t with
  | none => rw [hu] at h;cases h
  | some d =>
    rw [hu] at h
    rw [run_underlying hu]
    cases d <;> cases h <;> simp [Result.andThen]
theorem run_sizeOf {t : TypeId} {k : Nat} (h : tsz P t = some k) (w : World) : (sizeOf t).run P w = .ok k w:=by
  unfold tsz at h
  simp only [sizeOf,typeInfo,Sem.run_bind,run_program,Result.andThen_ok]
  cases hi : P.info? t with
  | none => rw [hi] at h;cases h
  | some i => rw [hi] at h;cases h;simp
theorem run_zeroValue {t : TypeId} {u : U} (h : tzero P t = some u) (ρ : Nat → Nat) (w : World) : (zeroValue t).run P w = .ok (u.den ρ) w:=by
  unfold tzero at h
  simp only [zeroValue,typeInfo,Sem.run_bind,run_program,Result.andThen_ok]
  cases hi : P.info? t with
  | none => rw [hi] at h;cases h
  | some i =>
    rw [hi] at h
    simp only [Sem.run_pure,Result.andThen_ok]
    cases hz : i.zero with
    | none => simp [hz] at h
    | some v =>
      simp only [hz] at h
      cases h
      simp [U.den_ofValue]
theorem heap_alloc (w : World) (o : Obj) : (w.alloc o).heap = w.heap.push o:=rfl
theorem HInv.mne (h : HInv W n0 ρ0 ρ hp n w) {id j : Nat} {b : Blk} {m : MBlk} (hb : lookH hp id = some b) (hm : lookM hp j = some m) : ρ j ≠ ρ id:=by
  obtain ⟨_,_,h1⟩:=h.blk id b hb
  obtain ⟨_,_,h2⟩:=h.mblk j m hm
  intro e
  rw [e,h1] at h2
  cases h2
theorem HInv.alloc (h : HInv W n0 ρ0 ρ hp n w) (cs : List C) (ty : Nat) (hc : cs.all (C.wf n) = true) :
    HInv W n0 ρ0 (fun i => if i = n then w.heap.size else ρ i) (hcons (n,(cs,ty)) hp) (n + 1) (w.alloc (.cells (dens ρ cs) ty)):=by
  have hE : Ext n ρ (fun i => if i = n then w.heap.size else ρ i):=fun i hi => by simp [Nat.ne_of_lt hi]
  refine ⟨?_,?_,?_,by have:=h.le;omega,?_,?_,h.os,h.tape,h.output,by have:=h.size;rw [heap_alloc,Array.size_push];omega,?_,?_,h.lim,h.mem.alloc _⟩
  · intro i hi
    rw [heap_alloc,Array.size_push]
    show (if i = n then w.heap.size else ρ i) < _
    split
    · omega
    · have:=h.lt i (by omega);omega
  · intro i j hi hj he
    replace he : (if i = n then w.heap.size else ρ i) = (if j = n then w.heap.size else ρ j):=he
    split at he <;> split at he
    · omega
    · have:=h.lt j (by omega);omega
    · have:=h.lt i (by omega);omega
    · exact h.inj i j (by omega) (by omega) he
  · intro i b hb
    simp only [lookH_hcons,lookH_hnil] at hb
    by_cases e : n = i
    · subst e
      simp only [Nat.beq_refl] at hb
      cases hb
      refine ⟨by omega,?_,?_⟩
      · simp only [List.all_eq_true] at hc ⊢
        exact fun x hx => C.wf_mono (by omega) x (hc x hx)
      · simp only [if_true]
        rw [dens_ext hE cs hc,heap_alloc]
        simp
    · rw [Nat.beq_eq_false_iff.2 e] at hb
      obtain ⟨h1,h2,h3⟩:=h.blk i b hb
      refine ⟨by omega,?_,?_⟩
      · simp only [List.all_eq_true] at h2 ⊢
        exact fun x hx => C.wf_mono (by omega) x (h2 x hx)
      · show (w.alloc _).heap[if i = n then w.heap.size else ρ i]? = _
        rw [dens_ext hE b.1 h2,if_neg (fun x => e x.symm),heap_alloc]
        rw [Array.getElem?_push,if_neg (by have:=h.lt i h1;omega)]
        exact h3
  · intro i hi
    have:=h.le
    exact (hE i (by omega)).trans (h.old i hi)
  · intro i h1 h2
    show W.heap.size ≤ (if i = n then w.heap.size else ρ i)
    split
    · exact h.size
    · exact h.new i h1 (by omega)
  · intro k hk hx hf
    rw [heap_alloc,Array.getElem?_push,if_neg (by have:=h.size;omega)]
    exact h.far k hk hx hf
  · intro i b hb
    rw [lookM_hcons] at hb
    obtain ⟨h1,h2,h3⟩:=h.mblk i b hb
    refine ⟨by omega,mwf_mono (by omega) _ h2,?_⟩
    show (w.alloc _).heap[if i = n then w.heap.size else ρ i]? = _
    rw [mden_ext hE b.1 h2,if_neg (by omega),heap_alloc]
    rw [Array.getElem?_push,if_neg (by have:=h.lt i h1;omega)]
    exact h3
theorem HInv.allocM (h : HInv W n0 ρ0 ρ hp n w) : HInv W n0 ρ0 (fun i => if i = n then w.heap.size else ρ i) (mcons (n,([],0)) hp) (n + 1) (w.alloc (.map #[] 0)):=by
  have hE : Ext n ρ (fun i => if i = n then w.heap.size else ρ i):=fun i hi => by simp [Nat.ne_of_lt hi]
  refine ⟨?_,?_,?_,by have:=h.le;omega,?_,?_,h.os,h.tape,h.output,by have:=h.size;rw [heap_alloc,Array.size_push];omega,?_,?_,h.lim,h.mem.alloc _⟩
  · intro i hi
    rw [heap_alloc,Array.size_push]
    show (if i = n then w.heap.size else ρ i) < _
    split
    · omega
    · have:=h.lt i (by omega);omega
  · intro i j hi hj he
    replace he : (if i = n then w.heap.size else ρ i) = (if j = n then w.heap.size else ρ j):=he
    split at he <;> split at he
    · omega
    · have:=h.lt j (by omega);omega
    · have:=h.lt i (by omega);omega
    · exact h.inj i j (by omega) (by omega) he
  · intro i b hb
    rw [lookH_mcons] at hb
    obtain ⟨h1,h2,h3⟩:=h.blk i b hb
    refine ⟨by omega,?_,?_⟩
    · simp only [List.all_eq_true] at h2 ⊢
      exact fun x hx => C.wf_mono (by omega) x (h2 x hx)
    · show (w.alloc _).heap[if i = n then w.heap.size else ρ i]? = _
      rw [dens_ext hE b.1 h2,if_neg (by omega),heap_alloc]
      rw [Array.getElem?_push,if_neg (by have:=h.lt i h1;omega)]
      exact h3
  · intro i hi
    have:=h.le
    exact (hE i (by omega)).trans (h.old i hi)
  · intro i h1 h2
    show W.heap.size ≤ (if i = n then w.heap.size else ρ i)
    split
    · exact h.size
    · exact h.new i h1 (by omega)
  · intro k hk hx hf
    rw [heap_alloc,Array.getElem?_push,if_neg (by have:=h.size;omega)]
    exact h.far k hk hx hf
  · intro i b hb
    rw [lookM_mcons] at hb
    by_cases e : n = i
    · subst e
      simp only [Nat.beq_refl] at hb
      cases hb
      refine ⟨by omega,rfl,?_⟩
      simp only [if_true]
      rw [heap_alloc]
      simp [mden]
    · rw [Nat.beq_eq_false_iff.2 e] at hb
      obtain ⟨h1,h2,h3⟩:=h.mblk i b hb
      refine ⟨by omega,mwf_mono (by omega) _ h2,?_⟩
      show (w.alloc _).heap[if i = n then w.heap.size else ρ i]? = _
      rw [mden_ext hE b.1 h2,if_neg (fun x => e x.symm),heap_alloc]
      rw [Array.getElem?_push,if_neg (by have:=h.lt i h1;omega)]
      exact h3
theorem HInv.setM (h : HInv W n0 ρ0 ρ hp n w) {id : Nat} {b : MBlk} (hb : lookM hp id = some b) (hlim : hp.lim ≤ id) (new : MBlk) (hw : mwf n new.1 = true) :
    HInv W n0 ρ0 ρ (mcons (id,new) hp) n { w with heap:=w.heap.setIfInBounds (ρ id) (.map (mden ρ new.1) new.2) }:=by
  obtain ⟨hid,_,hbh⟩:=h.mblk id b hb
  refine ⟨fun i hi => by simpa using h.lt i hi,h.inj,?_,h.le,h.old,h.new,h.os,h.tape,h.output,by simpa using h.size,?_,?_,h.lim,h.mem.keep fun a ha hf => by show (w.heap.setIfInBounds (ρ id) _)[a]? = _;rw [Array.getElem?_setIfInBounds_ne (hf id hid)]⟩
  · intro i c hc
    rw [lookH_mcons] at hc
    obtain ⟨h1,h2,h3⟩:=h.blk i c hc
    refine ⟨h1,h2,?_⟩
    show (w.heap.setIfInBounds (ρ id) _)[ρ i]? = _
    rw [Array.getElem?_setIfInBounds_ne (h.mne hc hb)]
    exact h3
  · intro k hk hx hf
    show (w.heap.setIfInBounds (ρ id) _)[k]? = _
    rw [Array.getElem?_setIfInBounds_ne ?_]
    · exact h.far k hk hx hf
    · intro he
      by_cases hlt : id < n0.n
      · exact hf id (h.lim ▸ hlim) hlt (by rw [← h.old id hlt];exact he)
      · have:=h.new id (by omega) hid;omega
  · intro i c hc
    rw [lookM_mcons] at hc
    by_cases e : id = i
    · subst e
      simp only [Nat.beq_refl] at hc
      cases hc
      refine ⟨hid,hw,?_⟩
      show (w.heap.setIfInBounds (ρ id) _)[ρ id]? = _
      rw [Array.getElem?_setIfInBounds_self_of_lt (h.lt id hid)]
    · rw [Nat.beq_eq_false_iff.2 e] at hc
      obtain ⟨h1,h2,h3⟩:=h.mblk i c hc
      refine ⟨h1,h2,?_⟩
      show (w.heap.setIfInBounds (ρ id) _)[ρ i]? = _
      rw [Array.getElem?_setIfInBounds_ne (fun he => e (h.inj id i hid h1 he))]
      exact h3
theorem HInv.setCell (h : HInv W n0 ρ0 ρ hp n w) {id : Nat} {b : Blk} (hb : lookH hp id = some b) (hlim : hp.lim ≤ id) (off : Nat) (c : C) (hc : c.wf n = true) :
    HInv W n0 ρ0 ρ (hcons (id,(b.1.set off c,b.2)) hp) n (w.setCell ⟨ρ id,off,none⟩ (c.den ρ)):=by
  obtain ⟨hid,hbw,hbh⟩:=h.blk id b hb
  have hsz : (w.setCell ⟨ρ id,off,none⟩ (c.den ρ)).heap.size = w.heap.size:=by simp [World.setCell]
  refine ⟨?_,h.inj,?_,h.le,h.old,h.new,h.os,h.tape,h.output,by rw [hsz];exact h.size,?_,?_,h.lim,h.mem.keep fun a ha hf => by simp only [World.setCell,Array.getElem?_modify];rw [if_neg (hf id hid)]⟩
  · intro i hi;rw [hsz];exact h.lt i hi
  · intro i b' hb'
    simp only [lookH_hcons,lookH_hnil] at hb'
    by_cases e : id = i
    · subst e
      simp only [Nat.beq_refl] at hb'
      cases hb'
      refine ⟨hid,?_,?_⟩
      · simp only [List.all_eq_true] at hbw ⊢
        intro x hx
        rcases List.mem_or_eq_of_mem_set hx with hx | rfl
        · exact hbw x hx
        · exact hc
      · simp only [World.setCell,Array.getElem?_modify,hbh]
        simp [dens_set]
    · rw [Nat.beq_eq_false_iff.2 e] at hb'
      obtain ⟨h1,h2,h3⟩:=h.blk i b' hb'
      refine ⟨h1,h2,?_⟩
      simp only [World.setCell,Array.getElem?_modify]
      rw [if_neg (fun he => e (h.inj id i hid h1 he))]
      exact h3
  · intro k hk hx hf
    simp only [World.setCell,Array.getElem?_modify]
    rw [if_neg ?_]
    · exact h.far k hk hx hf
    · intro he
      by_cases hlt : id < n0.n
      · exact hf id (h.lim ▸ hlim) hlt (by rw [← h.old id hlt];exact he)
      · have:=h.new id (by omega) hid;omega
  · intro i m hm
    rw [lookM_hcons] at hm
    obtain ⟨h1,h2,h3⟩:=h.mblk i m hm
    refine ⟨h1,h2,?_⟩
    simp only [World.setCell,Array.getElem?_modify]
    rw [if_neg (fun he => h.mne hb hm he.symm)]
    exact h3
theorem HInv.below (h : HInv W n0 ρ0 ρ hp n w) {w' : World} (hb : Go.RowKit.Below w.heap.size w w') : HInv W n0 ρ0 ρ hp n w':=by
  refine ⟨fun i hi => Nat.lt_of_lt_of_le (h.lt i hi) hb.size,h.inj,?_,h.le,h.old,h.new,hb.os.trans h.os,hb.tape.trans h.tape,hb.output.trans h.output,Nat.le_trans h.size hb.size,?_,?_,h.lim,h.mem.keep fun a ha _ => hb.block a ha⟩
  · intro i b hi
    obtain ⟨h1,h2,h3⟩:=h.blk i b hi
    exact ⟨h1,h2,(hb.block _ (h.lt i h1)).trans h3⟩
  · intro k hk hx hf
    rw [hb.block k (Nat.lt_of_lt_of_le hk h.size)]
    exact h.far k hk hx hf
  · intro i m hm
    obtain ⟨h1,h2,h3⟩:=h.mblk i m hm
    exact ⟨h1,h2,(hb.block _ (h.lt i h1)).trans h3⟩
theorem HInv.drew (h : HInv W n0 ρ0 ρ hp n w) (d : Nat) : HInv W n0 ρ0 ρ hp n { w with drawn:=d } :=
  ⟨h.lt,h.inj,h.blk,h.le,h.old,h.new,h.os,h.tape,h.output,h.size,h.far,h.mblk,h.lim,h.mem.keep fun _ _ _ => rfl⟩
theorem HInv.cell (h : HInv W n0 ρ0 ρ hp n w) {id : Nat} {b : Blk} (hb : lookH hp id = some b) (off : Nat) : w.cell? ⟨ρ id,off,none⟩ = (b.1[off]?).map (C.den ρ):=by
  obtain ⟨_,_,h3⟩:=h.blk id b hb
  simp [World.cell?,h3,dens_get]
theorem HInv.frozen (h : HInv W n0 ρ0 ρ hp n w) {id : Nat} {b : Blk} (hb : lookH hp id = some b) (off : Nat) : w.frozen? ⟨ρ id,off,none⟩ = false:=by
  obtain ⟨_,_,h3⟩:=h.blk id b hb
  simp [World.frozen?,h3]
theorem add_at (b off k : Nat) : (Addr.add ⟨b,off,none⟩ k) = ⟨b,off + k,none⟩:=by
  unfold Addr.add
  split
  · rename_i h;simp [h]
  · rfl
theorem run_load {a : Addr} {v : Value} (h : w.cell? a = some v) : (load a).run P w = .ok v w:=by
  simp [load,Sem.run,h]
theorem run_loadCellsFrom (a : Addr) (vs : List Value) : ∀ (i : Nat) (acc : Array Value),(∀ j v,vs[j]? = some v → w.cell? (a.add (i + j)) = some v) →
    (loadCellsFrom a i vs.length acc).run P w = .ok (acc ++ vs.toArray) w:=by
  induction vs with
  | nil => intro i acc _;simp [loadCellsFrom]
  | cons v vs ih =>
    intro i acc h
    simp only [List.length_cons,loadCellsFrom,Sem.run_bind]
    rw [run_load (by have:=h 0 v rfl;rwa [Nat.add_zero] at this)]
    simp only [Result.andThen_ok]
    rw [ih (i + 1) (acc.push v) (fun j v' hj => by have:=h (j + 1) v' (by simpa using hj);rw [show i + 1 + j = i + (j + 1) by omega];exact this)]
    simp
def takeC (cs : List C) (off sz : Nat) : Option (List C) :=
  let l:=(cs.drop off).take sz
  match Nat.beq l.length sz with | true => some l | false => none
theorem run_loadVar {t : TypeId} {id off : Nat} {b : Blk} {u : U} (h : HInv W n0 ρ0 ρ hp n w) (hb : lookH hp id = some b)
    (hu : (match tagg P t with
      | some false => (b.1[off]?).map U.c
      | some true => match tsz P t with | some sz => (takeC b.1 off sz).map U.agg | none => none
      | none => none) = some u) : (loadVar t ⟨ρ id,off,none⟩).run P w = .ok (u.den ρ) w:=by
  split at hu
  · rename_i ha
    simp only [loadVar,Sem.run_bind,run_isAgg ha,Result.andThen_ok]
    cases hc : b.1[off]? with
    | none => rw [hc] at hu;cases hu
    | some c =>
      rw [hc] at hu;cases hu
      exact run_load (by rw [h.cell hb,hc];rfl)
  · rename_i ha
    split at hu
    · rename_i sz hs
      simp only [loadVar,Sem.run_bind,run_isAgg ha,Result.andThen_ok,if_true,run_sizeOf hs]
      unfold takeC at hu
      simp only at hu
      split at hu
      · rename_i hl
        cases hu
        have hl':=Nat.eq_of_beq_eq_true hl
        have:=run_loadCellsFrom (P:=P) (w:=w) ⟨ρ id,off,none⟩ (((b.1.drop off).take sz).map (C.den ρ)) 0 #[] (by
          intro j v hj
          rw [add_at,h.cell hb]
          simp only [List.getElem?_map] at hj
          cases hx : ((b.1.drop off).take sz)[j]? with
          | none => rw [hx] at hj;cases hj
          | some c =>
            rw [hx] at hj
            have hjl : j < sz:=by
              have:=(List.getElem?_eq_some_iff.1 hx).1
              omega
            rw [List.getElem?_take,if_pos hjl,List.getElem?_drop] at hx
            rw [Nat.zero_add,hx]
            exact hj)
        simp only [List.length_map,hl',Array.empty_append] at this
        simp only [loadCells,this,Result.andThen_ok,Sem.run_pure]
        rfl
      · cases hu
    · cases hu
  · cases hu
theorem C.den_plain (ρ : Nat → Nat) (c : C) (h : c.plain = true) : (∀ xs,c.den ρ ≠ .agg xs) ∧ (∀ xs,c.den ρ ≠ .tuple xs):=by
  cases c with
  | raw v => cases v <;> simp_all [C.plain,C.den]
  | np p off => simp only [C.den,pv];split <;> simp
  | sv v => cases v <;> simp [C.den,pl]
  | _ => simp [C.den]
theorem run_store1 {a : Addr} {c : C} (hp : c.plain = true) {v : Value} (hv : w.cell? a = some v) (hf : w.frozen? a = false) : (store a (c.den ρ)).run P w = .ok () (w.setCell a (c.den ρ)):=by
  obtain ⟨h1,h2⟩:=C.den_plain ρ c hp
  unfold store
  cases hd : c.den ρ with
  | agg xs => exact absurd hd (h1 xs)
  | tuple xs => exact absurd hd (h2 xs)
  | _ => simp [Sem.run,hv,hf]
def putC (cs : List C) (off : Nat) : List C → List C
  | [] => cs
  | c :: r => putC (cs.set off c) (off + 1) r
theorem run_storeCells {id : Nat} (l : List C) : ∀ (hp : Hp) (w : World) (b : Blk) (off i : Nat),HInv W n0 ρ0 ρ hp n w → lookH hp id = some b → hp.lim ≤ id → off + i + l.length ≤ b.1.length → l.all (C.wf n) = true → l.all C.plain = true →
    ∃ w' hp',(storeCells ⟨ρ id,off,none⟩ (l.map (C.den ρ)) i).run P w = .ok () w' ∧ HInv W n0 ρ0 ρ hp' n w' ∧ (∀ j,lookH hp' j = lookH (hcons (id,(putC b.1 (off + i) l,b.2)) hp) j) ∧ (∀ j,lookM hp' j = lookM hp j) ∧ hp'.lim = hp.lim ∧ hp'.x = hp.x ∧ hp'.wr = hp.wr:=by
  induction l with
  | nil =>
    intro hp w b off i h hb _ _ _ _
    refine ⟨w,hp,by simp [storeCells],h,fun j => ?_,fun _ => rfl,rfl,rfl,rfl⟩
    simp only [lookH_hcons,putC]
    by_cases e : id = j
    · subst e;simp [hb]
    · rw [Nat.beq_eq_false_iff.2 e]
  | cons c r ih =>
    intro hp w b off i h hb hlim hl hw hpl
    simp only [List.all_cons,Bool.and_eq_true,List.length_cons] at hw hpl hl
    have hlt : off + i < b.1.length:=by omega
    obtain ⟨c0,hc0⟩ : ∃ c0,b.1[off + i]? = some c0:=⟨b.1[off + i],by simp [hlt]⟩
    have hcell : w.cell? ⟨ρ id,off + i,none⟩ = some (c0.den ρ):=by rw [h.cell hb,hc0];rfl
    have h1:=run_store1 (P:=P) (ρ:=ρ) hpl.1 hcell (h.frozen hb _)
    have h2:=h.setCell hb hlim (off + i) c hw.1
    obtain ⟨w',hp',e1,e2,e3,e4,e5,e6,e7⟩:=ih _ _ (b.1.set (off + i) c,b.2) off (i + 1) h2 (by simp [lookH_hcons]) hlim (by simp;omega) hw.2 hpl.2
    refine ⟨w',hp',?_,e2,fun j => ?_,fun j => (e4 j).trans (lookM_hcons _ _ j),e5,e6,e7⟩
    · simp only [List.map_cons,storeCells,Sem.run_bind,add_at,h1,Result.andThen_ok]
      exact e1
    · rw [e3 j]
      simp only [lookH_hcons,putC]
      by_cases e : id = j
      · subst e;simp [Nat.add_assoc]
      · rw [Nat.beq_eq_false_iff.2 e]
theorem HInv.congr {hp' : Hp} (h : HInv W n0 ρ0 ρ hp n w) (he : ∀ j,lookH hp j = lookH hp' j) (hm : ∀ j,lookM hp j = lookM hp' j) (hl : hp.lim = hp'.lim) (hx : hp.x = hp'.x) (hy : hp.wr = hp'.wr) : HInv W n0 ρ0 ρ hp' n w :=
  ⟨h.lt,h.inj,fun i b hb => h.blk i b (by rw [he];exact hb),h.le,h.old,h.new,h.os,h.tape,h.output,h.size,h.far,fun i b hb => h.mblk i b (by rw [hm];exact hb),hl ▸ h.lim,hy ▸ hx ▸ h.mem⟩
theorem run_storeVar {t : TypeId} {id off : Nat} {b : Blk} {u : U} (h : HInv W n0 ρ0 ρ hp n w) (hb : lookH hp id = some b) (hlim : hp.lim ≤ id) (hs : tsz P t = some u.cells.length)
    (hl : off + u.cells.length ≤ b.1.length) (hw : u.wf n = true) (hpl : u.cells.all C.plain = true) :
    ∃ w',(storeVar t ⟨ρ id,off,none⟩ (u.den ρ)).run P w = .ok () w' ∧ HInv W n0 ρ0 ρ (hcons (id,(putC b.1 off u.cells,b.2)) hp) n w':=by
  have hcells : (u.den ρ).cells = dens ρ u.cells:=U.den_cells ρ u (fun c hc => by subst hc;simpa [U.cells] using hpl)
  obtain ⟨w',hp',e1,e2,e3,e4,e5,e6,e7⟩:=run_storeCells (P:=P) u.cells hp w b off 0 h hb hlim (by omega) (U.cells_wf u hw) hpl
  refine ⟨w',?_,e2.congr (fun j => by rw [e3 j];simp) (fun j => by rw [e4 j,lookM_hcons]) e5 e6 e7⟩
  simp only [storeVar,Sem.run_bind,run_sizeOf hs,Result.andThen_ok,hcells,dens_size,ne_eq,not_true_eq_false,if_false,Sem.run_pure,dens_toList,Sem.run_ite]
  simpa using e1
end
structure Touch (b : Nat) (w w' : World) : Prop where
  os : w'.os = w.os
  tape : w'.tape = w.tape
  output : w'.output = w.output
  size : w.heap.size ≤ w'.heap.size
  far : ∀ k,k < w.heap.size → k ≠ b → w'.heap[k]? = w.heap[k]?
end Go.Proofs.Ytnlohongffpkpaa.Sx
end

section
namespace Go.Proofs.Ytnlohongffpkpaa.Sx
open Go
def iBit (op : BinOp) (k : IntKind) (x y : Int) : Int :=
  match op with
  | .and => k.wrap ((BitVec.ofInt k.bits x &&& BitVec.ofInt k.bits y).toNat)
  | .or => k.wrap ((BitVec.ofInt k.bits x ||| BitVec.ofInt k.bits y).toNat)
  | .xor => k.wrap ((BitVec.ofInt k.bits x ^^^ BitVec.ofInt k.bits y).toNat)
  | _ => k.wrap ((BitVec.ofInt k.bits x &&& ~~~BitVec.ofInt k.bits y).toNat)
def iAdd (k : IntKind) (x y : Int) : Int:=k.wrap (x + y)
def iSub (k : IntKind) (x y : Int) : Int:=k.wrap (x - y)
def iMul (k : IntKind) (x y : Int) : Int:=k.wrap (x * y)
def iConv (k : IntKind) (x : Int) : Int:=k.wrap x
def iEq (x y : Int) : Bool:=x == y
def iNe (x y : Int) : Bool:=x != y
def iLt (x y : Int) : Bool:=decide (x < y)
def iLe (x y : Int) : Bool:=decide (x ≤ y)
def iGt (x y : Int) : Bool:=decide (x > y)
def iGe (x y : Int) : Bool:=decide (x ≥ y)
def iNeg? (y : Int) : Bool:=decide (y < 0)
def iZero? (y : Int) : Bool:=decide (y = 0)
def iMax2 (x y : Int) : Int:=if y > x then y else x
def iMin2 (x y : Int) : Int:=if y < x then y else x
def bEq (x y : Bool) : Bool:=x == y
def bAnd (x y : Bool) : Bool:=x && y
def bNot (x : Bool) : Bool:=!x
def iArith (op : BinOp) (k : IntKind) (x y : Int) : Option Int :=
  match op with
  | .add => some (iAdd k x y)
  | .sub => some (iSub k x y)
  | .mul => some (iMul k x y)
  | .and => some (iBit .and k x y)
  | .or => some (iBit .or k x y)
  | .xor => some (iBit .xor k x y)
  | .andNot => some (iBit .andNot k x y)
  | _ => none
def iCmp (op : BinOp) (x y : Int) : Option Bool :=
  match op with
  | .eql => some (iEq x y)
  | .neq => some (iNe x y)
  | .lss => some (iLt x y)
  | .leq => some (iLe x y)
  | .gtr => some (iGt x y)
  | .geq => some (iGe x y)
  | _ => none
def iShl (k : IntKind) (x y : Int) : Int:=k.wrap (x * 2 ^ min y.toNat k.bits)
def iShr (k : IntKind) (x y : Int) : Int:=x.fdiv (2 ^ min y.toNat k.bits)
def iQuo (k : IntKind) (x y : Int) : Int:=k.wrap (x.tdiv y)
def iRem (x y : Int) : Int:=x.tmod y
def C.int? : C → Option (Bool × IntKind × Int)
  | .li k n => some (true,k,n)
  | .si k n => some (false,k,n)
  | _ => none
def C.bool? : C → Option (Bool × Bool)
  | .lb x => some (true,x)
  | .sb x => some (false,x)
  | _ => none
def mkI (l : Bool) (k : IntKind) (n : Int) : C:=match l with | true => .li k n | false => .si k n
def mkB (l : Bool) (x : Bool) : C:=match l with | true => .lb x | false => .sb x
theorem C.int_den {c : C} {l : Bool} {k : IntKind} {n : Int} (h : c.int? = some (l,k,n)) (ρ : Nat → Nat) : c.den ρ = .int k n:=by
  cases c <;> simp [C.int?] at h <;> obtain ⟨_,rfl,rfl⟩:=h <;> rfl
theorem C.bool_den {c : C} {l x : Bool} (h : c.bool? = some (l,x)) (ρ : Nat → Nat) : c.den ρ = .bool x:=by
  cases c <;> simp [C.bool?] at h <;> obtain ⟨_,rfl⟩:=h <;> rfl
theorem mkI_den (l : Bool) (k : IntKind) (n : Int) (ρ : Nat → Nat) : (mkI l k n).den ρ = .int k n:=by cases l <;> rfl
theorem mkB_den (l x : Bool) (ρ : Nat → Nat) : (mkB l x).den ρ = .bool x:=by cases l <;> rfl
theorem mkI_wf (l : Bool) (k : IntKind) (n : Int) (m : Nat) : (mkI l k n).wf m = true:=by cases l <;> rfl
theorem mkB_wf (l x : Bool) (m : Nat) : (mkB l x).wf m = true:=by cases l <;> rfl
inductive PR where
  | ok (c : C)
  | unless (b : Bool) (c : C)
  | no
def pick? (l : Bool) (b : Bool) (c : C) : PR :=
  match l with
  | true => (match b with | true => .no | false => .ok c)
  | false => .unless b c
def binI (op : BinOp) (lx : Bool) (kx : IntKind) (x : Int) (ly : Bool) (ky : IntKind) (y : Int) : PR :=
  match op with
  | .shl => pick? ly (iNeg? y) (mkI (lx && ly) kx (iShl kx x y))
  | .shr => pick? ly (iNeg? y) (mkI (lx && ly) kx (iShr kx x y))
  | op =>
    match decide (kx = ky) with
    | false => .no
    | true =>
      match op with
      | .quo => pick? ly (iZero? y) (mkI (lx && ly) kx (iQuo kx x y))
      | .rem => pick? ly (iZero? y) (mkI (lx && ly) kx (iRem x y))
      | op =>
        match iArith op kx x y with
        | some n => .ok (mkI (lx && ly) kx n)
        | none => match iCmp op x y with
          | some b => .ok (mkB (lx && ly) b)
          | none => .no
def PR.tells (r : PR) (P : Program) (w : World) (s : Sem Value) : Prop :=
  match r with
  | .ok c => (∀ n,c.wf n = true) ∧ ∀ ρ,s.run P w = .ok (c.den ρ) w
  | .unless b c => (∀ n,c.wf n = true) ∧ (b = false → ∀ ρ,s.run P w = .ok (c.den ρ) w)
  | .no => True
theorem pick_tells {P : Program} {w : World} {s : Sem Value} (l b : Bool) (c : C) (hw : ∀ n,c.wf n = true) (h : b = false → ∀ ρ,s.run P w = .ok (c.den ρ) w) : (pick? l b c).tells P w s:=by
  unfold pick?
  cases l
  · exact ⟨hw,h⟩
  · cases b
    · exact ⟨hw,h rfl⟩
    · trivial
theorem binI_tells (P : Program) (w : World) (op : BinOp) (t : TypeId) (lx : Bool) (kx : IntKind) (x : Int) (ly : Bool) (ky : IntKind) (y : Int) :
    (binI op lx kx x ly ky y).tells P w (binOp op t (.int kx x) (.int ky y)):=by
  unfold binI
  split
  · refine pick_tells _ _ _ (fun n => mkI_wf _ _ _ n) fun hb ρ => ?_
    simp only [iNeg?,decide_eq_false_iff_not] at hb
    simp [binOp,Op.shift,hb,mkI_den,iShl]
  · refine pick_tells _ _ _ (fun n => mkI_wf _ _ _ n) fun hb ρ => ?_
    simp only [iNeg?,decide_eq_false_iff_not] at hb
    simp [binOp,Op.shift,hb,mkI_den,iShr]
  · rename_i h1 h2
    split
    · trivial
    · rename_i hk
      have hk' : kx = ky:=of_decide_eq_true hk
      subst hk'
      split
      · refine pick_tells _ _ _ (fun n => mkI_wf _ _ _ n) fun hb ρ => ?_
        simp only [iZero?,decide_eq_false_iff_not] at hb
        simp [binOp,Op.intDiv,hb,mkI_den,iQuo]
      · refine pick_tells _ _ _ (fun n => mkI_wf _ _ _ n) fun hb ρ => ?_
        simp only [iZero?,decide_eq_false_iff_not] at hb
        simp [binOp,Op.intDiv,hb,mkI_den,iRem]
      · rename_i h3 h4
        cases op <;> first | (exact absurd rfl h1) | (exact absurd rfl h2) | (exact absurd rfl h3) | (exact absurd rfl h4) | skip
        all_goals
          first
          | exact ⟨fun n => mkI_wf _ _ _ n,fun ρ => by simp [binOp,Op.intArith,Op.intBits,mkI_den,iBit,iAdd,iSub,iMul]⟩
          | exact ⟨fun n => mkB_wf _ _ n,fun ρ => by simp [binOp,Op.intCmp,mkB_den,iEq,iNe,iLt,iLe,iGt,iGe]⟩
def andC (x y : C) : Option C :=
  match x with
  | .lb true => some y
  | .lb false => some (.lb false)
  | .sb a => match y with
    | .lb true => some (.sb a)
    | .lb false => some (.lb false)
    | .sb b => some (.sb (bAnd a b))
    | _ => none
  | _ => none
def eqFs (P : Program) (eq : TypeId → List C → List C → Option C) : List Field → List C → List C → Option C
  | [],_,_ => some (.lb true)
  | f :: fs,xs,ys =>
    match decide (f.name = "_") with
    | true => none
    | false =>
      match tsz P f.type with
      | none => none
      | some sz =>
        match takeC xs f.offset sz,takeC ys f.offset sz with
        | some a,some b =>
          match eq f.type a b,eqFs P eq fs xs ys with
          | some x,some y => andC x y
          | _,_ => none
        | _,_ => none
def eqT (P : Program) : Nat → TypeId → List C → List C → Option C
  | 0,_,_,_ => none
  | d + 1,t,xs,ys =>
    match P.underlying t with
    | some (.int _) => match xs,ys with
      | [x],[y] => match x.int?,y.int? with
        | some (lx,kx,nx),some (ly,ky,ny) => match decide (kx = ky) with | true => some (mkB (lx && ly) (iEq nx ny)) | false => none
        | _,_ => none
      | _,_ => none
    | some .bool => match xs,ys with
      | [x],[y] => match x.bool?,y.bool? with
        | some (lx,bx),some (ly,bY) => some (mkB (lx && ly) (bEq bx bY))
        | _,_ => none
      | _,_ => none
    | some (.struct fs) => match P.stoodInHeld t with
      | true => none
      | false => eqFs P (eqT P d) fs.toList xs ys
    | _ => none
def IsVal (P : Program) (ρ : Nat → Nat) (t : TypeId) (xs : List C) (v : Value) : Prop :=
  (tagg P t = some true ∧ v = .agg (dens ρ xs)) ∨ (tagg P t = some false ∧ ∃ c,xs = [c] ∧ v = c.den ρ)
theorem mkB_bool (l b : Bool) : (mkB l b).bool? = some (l,b):=by cases l <;> rfl
theorem andC_bool {x y z : C} {a b : Bool} {lx ly : Bool} (hx : x.bool? = some (lx,a)) (hy : y.bool? = some (ly,b)) (h : andC x y = some z) : ∃ l,z.bool? = some (l,a && b):=by
  cases x <;> simp [C.bool?] at hx <;> obtain ⟨rfl,rfl⟩:=hx
  · rename_i v
    cases v
    · simp [andC] at h;subst h;exact ⟨true,by simp [C.bool?]⟩
    · simp [andC] at h;subst h;exact ⟨ly,by simpa using hy⟩
  · rename_i v
    cases y <;> simp [C.bool?] at hy <;> obtain ⟨rfl,rfl⟩:=hy
    · rename_i u
      cases u
      · simp [andC] at h;subst h;exact ⟨true,by simp [C.bool?]⟩
      · simp [andC] at h;subst h;exact ⟨false,by simp [C.bool?]⟩
    · simp [andC] at h;subst h;exact ⟨false,by simp [C.bool?,bAnd]⟩
theorem takeC_spec {cs l : List C} {off sz : Nat} (h : takeC cs off sz = some l) : l = (cs.drop off).take sz ∧ l.length = sz:=by
  unfold takeC at h
  simp only at h
  split at h
  · rename_i hl
    cases h
    exact ⟨rfl,Nat.eq_of_beq_eq_true hl⟩
  · cases h
theorem run_part {P : Program} {t : TypeId} {cs l : List C} {off sz : Nat} {b : Bool} (ρ : Nat → Nat) (w : World) (ha : tagg P t = some b) (hs : tsz P t = some sz) (h : takeC cs off sz = some l)
    (h1 : b = false → sz = 1) : ∃ v,(part t (dens ρ cs) off).run P w = .ok v w ∧ IsVal P ρ t l v:=by
  obtain ⟨hl,hn⟩:=takeC_spec h
  simp only [part,Sem.run_bind,run_isAgg ha,Result.andThen_ok]
  cases b with
  | true =>
    refine ⟨.agg ((dens ρ cs).extract off (off + sz)),by simp only [if_true,Sem.run_bind,run_sizeOf hs,Result.andThen_ok,Sem.run_pure],.inl ⟨ha,?_⟩⟩
    congr 1
    subst hl
    apply Array.ext'
    simp [dens,List.map_take,List.map_drop]
  | false =>
    have:=h1 rfl
    subst this
    match l,hn with
    | [c],_ =>
      have hc : cs[off]? = some c:=by
        have e : ((cs.drop off).take 1)[0]? = some c:=by rw [← hl];rfl
        rw [List.getElem?_take,if_pos (by omega),List.getElem?_drop,Nat.add_zero] at e
        exact e
      refine ⟨c.den ρ,?_,.inr ⟨ha,c,rfl,rfl⟩⟩
      simp [dens_get,hc]
theorem eqT_shape {P : Program} {d : Nat} {t : TypeId} {xs ys : List C} {c : C} (h : eqT P d t xs ys = some c) :
    ∃ b,tagg P t = some b ∧ (b = false → xs.length = 1):=by
  cases d with
  | zero => simp [eqT] at h
  | succ d =>
    unfold eqT at h
    split at h
    · rename_i k hu
      refine ⟨false,by simp [tagg,hu],fun _ => ?_⟩
      split at h
      · rfl
      · cases h
    · rename_i hu
      refine ⟨false,by simp [tagg,hu],fun _ => ?_⟩
      split at h
      · rfl
      · cases h
    · rename_i fs hu
      exact ⟨true,by simp [tagg,hu],fun e => by cases e⟩
    · cases h
theorem eqFs_run (P : Program) (d : Nat) (ih : ∀ t xs ys c,eqT P d t xs ys = some c → ∃ b,(∃ l,c.bool? = some (l,b)) ∧ ∀ ρ w vx vy,IsVal P ρ t xs vx → IsVal P ρ t ys vy → (Op.equalIn d t vx vy).run P w = .ok b w)
    (xs ys : List C) : ∀ (fs : List Field) (c : C),eqFs P (eqT P d) fs xs ys = some c → ∃ b,(∃ l,c.bool? = some (l,b)) ∧ ∀ ρ w,(Op.eqFields d (dens ρ xs) (dens ρ ys) fs).run P w = .ok b w:=by
  intro fs
  induction fs with
  | nil =>
    intro c h
    simp only [eqFs,Option.some.injEq] at h
    subst h
    exact ⟨true,⟨true,rfl⟩,fun ρ w => by simp [Op.eqFields]⟩
  | cons f fs ihf =>
    intro c h
    simp only [eqFs] at h
    split at h
    · cases h
    · rename_i hn
      split at h
      · cases h
      · rename_i sz hs
        split at h
        · rename_i a b ha hb
          split at h
          · rename_i x y hx hy
            obtain ⟨b1,⟨l1,e1⟩,r1⟩:=ih _ _ _ _ hx
            obtain ⟨b2,⟨l2,e2⟩,r2⟩:=ihf _ hy
            refine ⟨b1 && b2,andC_bool e1 e2 h,fun ρ w => ?_⟩
            obtain ⟨g,hg,hg1⟩:=eqT_shape hx
            have hsz : g = false → sz = 1:=fun e => by rw [← (takeC_spec ha).2];exact hg1 e
            obtain ⟨va,ea,ia⟩:=run_part ρ w hg hs ha hsz
            obtain ⟨vb,eb,ib⟩:=run_part ρ w hg hs hb hsz
            have hn' : f.name ≠ "_":=by simpa using hn
            simp only [Op.eqFields,ne_eq,hn',not_false_eq_true,if_true,Sem.run_bind,ea,eb,Result.andThen_ok,r1 ρ w va vb ia ib,Sem.run_ite]
            cases b1
            · simp
            · simpa using r2 ρ w
          · cases h
        · cases h
theorem eqT_run (P : Program) : ∀ (d : Nat) (t : TypeId) (xs ys : List C) (c : C),eqT P d t xs ys = some c →
    ∃ b,(∃ l,c.bool? = some (l,b)) ∧ ∀ ρ w vx vy,IsVal P ρ t xs vx → IsVal P ρ t ys vy → (Op.equalIn d t vx vy).run P w = .ok b w:=by
  intro d
  induction d with
  | zero => intro t xs ys c h;simp [eqT] at h
  | succ d ih =>
    intro t xs ys c h
    unfold eqT at h
    split at h
    · rename_i k hu
      have hf : tagg P t = some false:=by simp [tagg,hu]
      split at h
      · rename_i x y
        split at h
        · rename_i lx kx nx ly ky ny hx hy
          split at h
          · rename_i hk
            have hk' : kx = ky:=of_decide_eq_true hk
            subst hk'
            cases h
            refine ⟨_,⟨_,mkB_bool _ _⟩,?_⟩
            rintro ρ w vx vy (⟨h1,_⟩ | ⟨_,c1,e1,rfl⟩) (⟨h2,_⟩ | ⟨_,c2,e2,rfl⟩)
            · rw [hf] at h1;cases h1
            · rw [hf] at h1;cases h1
            · rw [hf] at h2;cases h2
            · cases e1;cases e2
              rw [C.int_den hx ρ,C.int_den hy ρ]
              exact run_equalIn_int w d t _ _ _ _ hu
          · cases h
        · cases h
      · cases h
    · rename_i hu
      have hf : tagg P t = some false:=by simp [tagg,hu]
      split at h
      · rename_i x y
        split at h
        · rename_i lx bx ly bY hx hy
          cases h
          refine ⟨_,⟨_,mkB_bool _ _⟩,?_⟩
          rintro ρ w vx vy (⟨h1,_⟩ | ⟨_,c1,e1,rfl⟩) (⟨h2,_⟩ | ⟨_,c2,e2,rfl⟩)
          · rw [hf] at h1;cases h1
          · rw [hf] at h1;cases h1
          · rw [hf] at h2;cases h2
          · cases e1;cases e2
            rw [C.bool_den hx ρ,C.bool_den hy ρ]
            exact run_equalIn_bool w d t _ _ hu
        · cases h
      · cases h
    · rename_i fs hu
      have hf : tagg P t = some true:=by simp [tagg,hu]
      split at h
      · cases h
      · rename_i hst
        obtain ⟨b,hb,hr⟩:=eqFs_run P d ih xs ys _ _ h
        refine ⟨b,hb,?_⟩
        rintro ρ w vx vy (⟨_,rfl⟩ | ⟨h1,_⟩) (⟨_,rfl⟩ | ⟨h2,_⟩)
        · have hfo : P.underlying t = some (.struct (P.fieldsOf t)):=by simp [Program.fieldsOf,hu]
          rw [run_equalIn_struct w d t _ _ hfo hst]
          have : P.fieldsOf t = fs:=by simp [Program.fieldsOf,hu]
          rw [this]
          exact hr ρ w
        · rw [hf] at h2;cases h2
        · rw [hf] at h1;cases h1
        · rw [hf] at h1;cases h1
    · cases h
def eqU (P : Program) (t : TypeId) (x y : U) : Option C :=
  match x,y with
  | .agg xs,.agg ys => match P.eqGuardType P.depth t,tagg P t with | false,some true => eqT P 10000 t xs ys | _,_ => none
  | .c cx,.c cy => match P.underlying t with | some .bool => eqT P 10000 t [cx] [cy] | _ => none
  | _,_ => none
def notC : C → Option C
  | .lb b => some (.lb (bNot b))
  | .sb b => some (.sb (bNot b))
  | _ => none
def eqV (P : Program) (op : BinOp) (t : TypeId) (x y : U) : Option C :=
  match op with
  | .eql => eqU P t x y
  | .neq => match eqU P t x y with | some c => notC c | none => none
  | _ => none
theorem bool_wf {c : C} {l b : Bool} (h : c.bool? = some (l,b)) (n : Nat) : c.wf n = true:=by
  cases c <;> simp [C.bool?] at h <;> rfl
theorem notC_bool {c z : C} {l b : Bool} (hc : c.bool? = some (l,b)) (h : notC c = some z) : z.bool? = some (l,!b):=by
  cases c <;> simp [C.bool?] at hc <;> obtain ⟨rfl,rfl⟩:=hc <;> cases h <;> rfl
theorem eqU_run {P : Program} {t : TypeId} {x y : U} {c : C} (h : eqU P t x y = some c) :
    ∃ b,(∃ l,c.bool? = some (l,b)) ∧ ∀ (ρ : Nat → Nat) (w : World) (ox oy : Operand),
      (∀ op,(eqGuard op t ox oy (x.den ρ) (y.den ρ)).run P w = .ok () w) ∧
      (binOp .eql t (x.den ρ) (y.den ρ)).run P w = .ok (.bool b) w ∧ (binOp .neq t (x.den ρ) (y.den ρ)).run P w = .ok (.bool (!b)) w:=by
  unfold eqU at h
  split at h
  · rename_i xs ys
    split at h
    · rename_i hg ha
      obtain ⟨b,hb,hr⟩:=eqT_run P _ _ _ _ _ h
      refine ⟨b,hb,fun ρ w ox oy => ?_⟩
      have hr':=hr ρ w (.agg (dens ρ xs)) (.agg (dens ρ ys)) (.inl ⟨ha,rfl⟩) (.inl ⟨ha,rfl⟩)
      refine ⟨fun op => run_eqGuard_agg w op t ox oy _ _ hg,?_,?_⟩
      · show (binOp .eql t (.agg (dens ρ xs)) (.agg (dens ρ ys))).run P w = _
        rw [run_eql_struct,hr'];rfl
      · show (binOp .neq t (.agg (dens ρ xs)) (.agg (dens ρ ys))).run P w = _
        have : (binOp .neq t (.agg (dens ρ xs)) (.agg (dens ρ ys))).run P w = ((Op.equalIn 10000 t (.agg (dens ρ xs)) (.agg (dens ρ ys))).run P w).andThen fun b w' => .ok (.bool (!b)) w':=by
          simp only [binOp]
          simp [Op.equal,Op.maxDepth]
        rw [this,hr'];rfl
    · cases h
  · rename_i cx cy
    split at h
    · rename_i hu
      unfold eqT at h
      rw [hu] at h
      simp only at h
      split at h
      · rename_i lx bx ly bY hx hy
        cases h
        refine ⟨_,⟨_,mkB_bool _ _⟩,fun ρ w ox oy => ?_⟩
        simp only [U.den,C.bool_den hx ρ,C.bool_den hy ρ]
        refine ⟨fun op => ?_,run_eql_bool w t bx bY hu,run_neq_bool w t bx bY hu⟩
        unfold eqGuard
        split <;> simp
      · cases h
    · cases h
  · cases h
theorem eqV_run {P : Program} {op : BinOp} {t : TypeId} {x y : U} {c : C} (h : eqV P op t x y = some c) (ox oy : Operand) (ρ : Nat → Nat) (w : World) :
    ((do eqGuard op t ox oy (x.den ρ) (y.den ρ);binOp op t (x.den ρ) (y.den ρ)) : Sem Value).run P w = .ok (c.den ρ) w ∧ ∀ n,c.wf n = true:=by
  unfold eqV at h
  split at h
  · obtain ⟨b,⟨l,hb⟩,hr⟩:=eqU_run h
    obtain ⟨h1,h2,_⟩:=hr ρ w ox oy
    refine ⟨?_,fun n => bool_wf hb n⟩
    simp only [Sem.run_bind,h1,Result.andThen_ok,h2,C.bool_den hb ρ]
  · split at h
    · rename_i z hz
      obtain ⟨b,⟨l,hb⟩,hr⟩:=eqU_run hz
      obtain ⟨h1,_,h2⟩:=hr ρ w ox oy
      have hb':=notC_bool hb h
      refine ⟨?_,fun n => bool_wf hb' n⟩
      simp only [Sem.run_bind,h1,Result.andThen_ok,h2,C.bool_den hb' ρ]
    · cases h
  · cases h
end Go.Proofs.Ytnlohongffpkpaa.Sx
end

section
namespace Go.Proofs.Ytnlohongffpkpaa.Sx
open Go
def retell (σ : St) (x : Operand) (b : Bool) : St :=
  match x with
  | .tmp t => { σ with tm:=(t,.u (.c (.lb b))) :: σ.tm }
  | _ => σ
def decB (σ : St) (x : Operand) (k : Bool → St → Tr) : Tr :=
  match ev σ x with
  | .u (.c (.lb v)) => (match v with | true => k true σ | false => k false σ)
  | .u (.c (.sb v)) => .br v (k true (retell σ x true)) (k false (retell σ x false))
  | _ => .no 1
def newx (σ : St) (cs : List C) (ty : Nat) (mk : C) (k : V → St → Tr) : Tr :=
  match cs.all (C.wf σ.n) with
  | true => k (.u (.c mk)) { σ with hp:=hcons (σ.n,(cs,ty)) σ.hp,n:=σ.n + 1 }
  | false => .no 2
def ldC (P : Program) (t : TypeId) (cs : List C) (off : Nat) : Option U :=
  match tagg P t with
  | some false => (cs[off]?).map U.c
  | some true => match tsz P t with | some sz => (takeC cs off sz).map U.agg | none => none
  | none => none
def fillC (place : Nat → Option (Nat × Nat)) (cells : List C) : List (Nat × U) → Option (List C)
  | [] => some cells
  | (i,u) :: rest =>
    match place i with
    | none => none
    | some (off,size) =>
      match Nat.beq u.cells.length size,Nat.ble (off + size) cells.length,u.cells.all C.plain with
      | true,true,true => fillC place (putC cells off u.cells) rest
      | _,_,_ => none
def unitsOf (σ : St) : List (Nat × Operand) → Option (List (Nat × U))
  | [] => some []
  | (i,x) :: r => match ev σ x with
    | .u u => match unitsOf σ r with | some l => some ((i,u) :: l) | none => none
    | _ => none
def buildC (P : Program) (σ : St) (t : TypeId) (parts : List (Nat × Operand)) : Option (List C) :=
  match P.info? t,P.underlying t with
  | some it,some (.struct fields) =>
    match it.zero,fields.toList.mapM (fun f => (P.info? f.type).map fun i => (f.offset,i.size)) with
    | some z,some places => match unitsOf σ parts with
      | some us => fillC (places[·]?) (U.ofValue z).cells us
      | none => none
    | _,_ => none
  | some it,some (.array _ e) =>
    match it.zero,P.info? e with
    | some z,some ie => match unitsOf σ parts with
      | some us => fillC (fun i => some (i * ie.size,ie.size)) (U.ofValue z).cells us
      | none => none
    | _,_ => none
  | _,_ => none
def rowC (P : Program) (e : TypeId) (len sz : Nat) : Option (List C) :=
  match Nat.beq (len * sz) 0 with
  | true => some []
  | false => match tzero P e with
    | some u => (match Nat.beq u.cells.length sz,u.cells.all C.plain with
      | true,true => some ((List.range (len * sz)).map fun i => (u.cells[i % sz]?).getD .nilp)
      | _,_ => none)
    | none => none
def slC (P : Program) (σ : St) (t : TypeId) (len : Nat) (parts : List (Nat × Operand)) : Option (List C × Nat) :=
  match P.underlying t with
  | some (.slice e) => match tsz P e with
    | some sz => (match Nat.ble (len * sz) 16777216,rowC P e len sz,unitsOf σ parts with
      | true,some zs,some us => (match fillC (fun i => some (i * sz,sz)) zs us with | some cs => some (cs,e) | none => none)
      | _,_,_ => none)
    | none => none
  | _ => none
def ptrsOf (σ : St) : List Operand → Option (List (Nat × Nat))
  | [] => some []
  | x :: r => match ev σ x with
    | .u (.c (.ptr id off)) => match ptrsOf σ r with | some l => some ((id,off) :: l) | none => none
    | _ => none
def fieldOff (P : Program) (s : TypeId) (f : Nat) : Option Nat :=
  match P.underlying s with
  | some (.struct fs) => match fs[f]? with
    | some fd => match tsz P fd.type with | some (_ + 1) => some fd.offset | _ => none
    | none => none
  | _ => none
def partC (P : Program) (t : TypeId) (xs : List C) (f : Nat) : Option U :=
  match P.underlying t with
  | some (.struct fs) => match fs[f]? with
    | some fd => ldC P fd.type xs fd.offset
    | none => none
  | _ => none
def unC (op : UnOp) (c : C) : Option C :=
  match op with
  | .not => match c.bool? with | some (l,b) => some (mkB l (bNot b)) | none => none
  | .neg => match c.int? with | some (l,k,n) => some (mkI l k (iSub k 0 n)) | none => none
  | .xor => match c.int? with | some (l,k,n) => some (mkI l k (iBit .xor k (if k.signed then -1 else k.max) n)) | none => none
  | _ => none
def convC (P : Program) (src dst : TypeId) (c : C) : Option C :=
  match P.underlying src,P.underlying dst,c.int? with
  | some _,some (.int k),some (l,_,n) => some (mkI l k (iConv k n))
  | _,_,_ => none
def tupC (v : V) (i : Nat) : Option U:=match v with | .tup xs => xs[i]? | _ => none
def idxC (P : Program) (t : TypeId) (x : C) (ix : C) : Option C :=
  match x,ix with
  | .sl id off len _,.li _ n => match P.underlying t with
    | some (.slice e) => match decide (0 ≤ n ∧ n < (len : Int)),tsz P e with
      | true,some sz => some (.ptr id (off + n.toNat * sz))
      | _,_ => none
    | _ => none
  | .ptr id off,.li _ n => match P.underlying t with
    | some (.array len e) => match decide (0 ≤ n ∧ n < (len : Int)),tsz P e with
      | true,some sz => some (.ptr id (off + n.toNat * sz))
      | _,_ => none
    | _ => none
  | _,_ => none
def isCst : Operand → Bool
  | .const _ => true
  | _ => false
def refEq (P : Program) (σ : St) (cst : Bool) (t : TypeId) (x y : C) : Option Bool :=
  match P.underlying t with
  | some (.pointer e) => match x,y with
    | .nilp,.nilp => some true
    | .nilp,.ptr _ _ => some false
    | .ptr _ _,.nilp => some false
    | .ptr i o,.ptr j q => match P.info? e,lookH σ.hp i,lookH σ.hp j with
      | some ie,some _,some _ => (match Nat.beq ie.size 0 with | true => none | false => some (Nat.beq i j && Nat.beq o q))
      | _,_,_ => none
    | _,_ => none
  | some (.map _ _) => match x,y with
    | .mp _,.raw (.map none) => some false
    | .raw (.map none),.mp _ => some false
    | .raw (.map none),.raw (.map none) => some true
    | _,_ => none
  | some (.interface _) => match x,y with
    | .ifp _ _ _,.raw .nilIface => some false
    | .raw .nilIface,.ifp _ _ _ => some false
    | .raw .nilIface,.raw .nilIface => (match cst with | true => some true | false => none)
    | _,_ => none
  | _ => none
def notb : Bool → Bool
  | true => false
  | false => true
def refOp (op : BinOp) (b : Bool) : Option C :=
  match op with
  | .eql => some (.lb b)
  | .neq => some (.lb (notb b))
  | _ => none
def litV (u : U) : Option Value :=
  match u with
  | .c (.li k n) => some (.int k n)
  | .agg xs => (match xs.all fun c => match c with | .li _ _ => true | _ => false with | true => some (.agg (dens (fun _ => 0) xs)) | false => none)
  | _ => none
def keyOKc (P : Program) (kt : TypeId) (v : Value) : Bool:=P.keyTypeAt 8 kt && v.formed P kt && (P.keyLits 10 kt v.cells.toList).isSome
def scanS (P : Program) (kt : TypeId) (x : List C) : Nat → List (U × U × Nat) → Option (Option (Nat × U × U))
  | _,[] => some none
  | i,e :: r => match e.1 with
    | .agg ys => match eqT P 10000 kt x ys with
      | some (.lb true) => some (some (i,e.1,e.2.1))
      | some (.lb false) => scanS P kt x (i + 1) r
      | _ => none
    | _ => none
def setE (k v : U) : Nat → List (U × U × Nat) → List (U × U × Nat)
  | _,[] => []
  | 0,e :: r => (k,v,e.2.2) :: r
  | i + 1,e :: r => e :: setE k v i r
def delE : Nat → List (U × U × Nat) → List (U × U × Nat)
  | _,[] => []
  | 0,_ :: r => r
  | i + 1,e :: r => e :: delE i r
def structT (P : Program) (t : TypeId) : Option (TypeId × TypeId) :=
  match P.underlying t with
  | some (.map kt et) => match P.underlying kt with | some (.struct _) => some (kt,et) | _ => none
  | _ => none
def insS (P : Program) (σ : St) (t : TypeId) (m x v : Operand) : Option St :=
  match structT P t,ev σ m,ev σ x,ev σ v with
  | some q,.u (.c (.mp id)),.u (.agg xs),.u uv => match litV (.agg xs),lookMW σ.hp id with
    | some lv,some b => (match keyOKc P q.1 lv,tagg P q.1,scanS P q.1 xs 0 b.1 with
      | true,some true,some none => some { σ with hp:=mcons (id,(b.1 ++ [(.agg xs,uv,b.2)],b.2 + 1)) σ.hp }
      | true,some true,some (some r) => (match litV r.2.1 with
        | some ov => (match Instr.sameBits 10000 ov lv with
          | true => some { σ with hp:=mcons (id,(setE (.agg xs) uv r.1 b.1,b.2)) σ.hp }
          | false => none)
        | none => none)
      | _,_,_ => none)
    | _,_ => none
  | _,_,_,_ => none
def delS (P : Program) (σ : St) (t : TypeId) (m x : Operand) : Option St :=
  match structT P t,ev σ m,ev σ x with
  | some q,.u (.c (.mp id)),.u (.agg xs) => match litV (.agg xs),lookMW σ.hp id with
    | some lv,some b => (match keyOKc P q.1 lv,tagg P q.1,scanS P q.1 xs 0 b.1 with
      | true,some true,some none => some { σ with hp:=mcons (id,b) σ.hp }
      | true,some true,some (some r) => some { σ with hp:=mcons (id,(delE r.1 b.1,b.2)) σ.hp }
      | _,_,_ => none)
    | _,_ => none
  | _,_,_ => none
def isDel (b : Builtin) : Bool:=match b with | .delete => true | _ => false
def litI (u : U) : Option (IntKind × Int):=match u with | .c (.li k n) => some (k,n) | _ => none
def keysFresh (kd : IntKind) (n : Int) : List (U × U × Nat) → Bool
  | [] => true
  | e :: r => match litI e.1 with
    | some q => (decide (q.1 = kd) && !decide (n = q.2)) && keysFresh kd n r
    | none => false
def insx (P : Program) (σ : St) (t : TypeId) (m x v : Operand) : Option St :=
  match P.underlying t with
  | some (.map kt _) => match P.underlying kt with
    | some (.int _) => match ev σ m,ev σ x,ev σ v with
      | .u (.c (.mp id)),.u ux,.u uv => match litI ux,lookMW σ.hp id with
        | some q,some b => (match keysFresh q.1 q.2 b.1 with
          | true => some { σ with hp:=mcons (id,(b.1 ++ [(ux,uv,b.2)],b.2 + 1)) σ.hp }
          | false => none)
        | _,_ => none
      | _,_,_ => none
    | _ => none
  | _ => none
def lookx (kd : IntKind) (l : Bool) (x : Int) (found : U → Tr) (gone : Tr) : List (U × U × Nat) → Tr
  | [] => gone
  | e :: r => match litI e.1 with
    | some q => (match decide (q.1 = kd) with
      | true => (match l with
        | true => (match decide (x = q.2) with | true => found e.2.1 | false => lookx kd l x found gone r)
        | false => .br (iEq x q.2) (found e.2.1) (lookx kd l x found gone r))
      | false => .no 22)
    | none => .no 23
def lookR (ok : Bool) (u : U) (b : Bool) : V:=match ok with | true => .tup [u,.c (.lb b)] | false => .u u
def mapT (P : Program) (t : TypeId) : Option TypeId :=
  match P.underlying t with
  | some (.map kt et) => match P.underlying kt with | some (.int _) => some et | _ => none
  | _ => none
def kO {α : Type} (o : Option α) (k : α → Tr) : Tr:=match o with | some x => k x | none => .no 3
def ifaceC (P : Program) (t : TypeId) (c : C) : Option C :=
  match P.underlying t,c with
  | some (.pointer _),.ptr id off => some (.ifp t id off)
  | _,_ => none
def failC (P : Program) (t : TypeId) (ok : Bool) : Option V :=
  match ok with
  | true => (match tzero P t with | some z => some (lookR true z false) | none => none)
  | false => none
def tassertC (P : Program) (c : C) (t : TypeId) (ok : Bool) : Option V :=
  match P.underlying t with
  | some (.pointer _) => match c with
    | .ifp t' id off => (match Nat.beq t' t with
      | true => some (lookR ok (.c (.ptr id off)) true)
      | false => failC P t ok)
    | .raw .nilIface => failC P t ok
    | _ => none
  | _ => none
def opx (P : Program) (o : Op) (σ : St) (k : V → St → Tr) : Tr :=
  match o with
  | .move x => k (ev σ x) σ
  | .assign x => k (ev σ x) σ
  | .pick c x y => decB σ c fun b σ' => match b with | true => k (ev σ' x) σ' | false => k (ev σ' y) σ'
  | .alloc t => kO (tzero P t) fun u => match u.cells.all C.plain with | true => newx σ u.cells t (.ptr σ.n 0) k | false => .no 4
  | .box t x => match ev σ x with
    | .u u => (match u.cells.all C.plain with | true => newx σ u.cells t (.ptr σ.n 0) k | false => .no 4)
    | _ => .no 5
  | .build t parts => kO (buildC P σ t parts.toList) fun cs => match cs.all (C.wf σ.n) with | true => k (.u (.agg cs)) σ | false => .no 6
  | .buildSlice t len parts => kO (slC P σ t len parts.toList) fun q => newx σ q.1 q.2 (.sl σ.n 0 len len) k
  | .load t x => match ev σ x with
    | .u (.c (.ptr id off)) => kO (lookH σ.hp id) fun b => kO (ldC P t b.1 off) fun u => k (.u u) σ
    | _ => .no 7
  | .store t x y => match ev σ x,ev σ y with
    | .u (.c (.ptr id off)),.u u => kO (lookW σ.hp id) fun b => kO (tsz P t) fun sz =>
      match Nat.beq sz u.cells.length,Nat.ble (off + u.cells.length) b.1.length,u.cells.all C.plain with
      | true,true,true => k (.tup []) { σ with hp:=hcons (id,(putC b.1 off u.cells,b.2)) σ.hp }
      | _,_,_ => .no 8
    | _,_ => .no 9
  | .nilCheck x => match ev σ x with
    | .u (.c (.ptr id off)) => k (.u (.c (.ptr id off))) σ
    | .u (.c (.fn f cs)) => k (.u (.c (.fn f cs))) σ
    | _ => .no 10
  | .binOp op t x y _ => match ev σ x,ev σ y with
    | .u ux,.u uy =>
      (match ux,uy with
      | .c cx,.c cy => (match cx.int?,cy.int? with
        | some (lx,kx,nx),some (ly,ky,ny) => (match binI op lx kx nx ly ky ny with
          | .ok c => k (.u (.c c)) σ
          | .unless b c => .br b (.no 11) (k (.u (.c c)) σ)
          | .no => .no 12)
        | _,_ => (match refEq P σ (isCst x || isCst y) t cx cy with
          | some b => kO (refOp op b) fun c => k (.u (.c c)) σ
          | none => kO (eqV P op t ux uy) fun c => k (.u (.c c)) σ))
      | _,_ => kO (eqV P op t ux uy) fun c => k (.u (.c c)) σ)
    | _,_ => .no 13
  | .unOp op _ x => match ev σ x with
    | .u (.c c) => kO (unC op c) fun c' => k (.u (.c c')) σ
    | _ => .no 14
  | .convert src dst x => match ev σ x with
    | .u (.c c) => kO (convC P src dst c) fun c' => k (.u (.c c')) σ
    | _ => .no 15
  | .makeFunc fn first caps => match fn with
    | .func f => (match first.toList with
      | [] => kO (ptrsOf σ caps.toList) fun ps => k (.u (.c (.fn f ps))) σ
      | _ => .no 16)
    | _ => .no 17
  | .fieldAddr s x f => match ev σ x with
    | .u (.c (.ptr id off)) => kO (fieldOff P s f) fun d => k (.u (.c (.ptr id (off + d)))) σ
    | _ => .no 18
  | .field t x f => match ev σ x with
    | .u (.agg xs) => kO (partC P t xs f) fun u => k (.u u) σ
    | _ => .no 19
  | .indexAddr t x ix => match ev σ x,ev σ ix with
    | .u (.c cx),.u (.c ci) => kO (idxC P t cx ci) fun c => k (.u (.c c)) σ
    | _,_ => .no 20
  | .extract x i => kO (tupC (ev σ x) i) fun u => k (.u u) σ
  | .makeMap _ r => match r with
    | none => k (.u (.c (.mp σ.n))) { σ with hp:=mcons (σ.n,([],0)) σ.hp,n:=σ.n + 1 }
    | some _ => .no 24
  | .insert t m x v => kO (insx P σ t m x v) fun σ' => k (.tup []) σ'
  | .mapUpdate t m x v => (match structT P t with
    | some _ => kO (insS P σ t m x v) fun σ' => k (.tup []) σ'
    | none => kO (insx P σ t m x v) fun σ' => k (.tup []) σ')
  | .lookup t x ix ok => match ev σ x,ev σ ix with
    | .u (.c (.mp id)),.u (.c ci) => kO (ci.int?) fun q => kO (lookM σ.hp id) fun b => kO (mapT P t) fun et => kO (tzero P et) fun z =>
      lookx q.2.1 q.1 q.2.2 (fun u => k (lookR ok u true) σ) (k (lookR ok z false) σ) b.1
    | .u (.c (.mp id)),.u (.agg xs) => kO (structT P t) fun q => kO (litV (.agg xs)) fun lv => kO (lookM σ.hp id) fun b => kO (tzero P q.2) fun z =>
      (match keyOKc P q.1 lv,tagg P q.1 with
      | true,some true => kO (scanS P q.1 xs 0 b.1) fun r => (match r with | some r => k (lookR ok r.2.2 true) σ | none => k (lookR ok z false) σ)
      | _,_ => .no 27)
    | _,_ => .no 25
  | .makeInterface t x => match ev σ x with
    | .u (.c c) => kO (ifaceC P t c) fun c' => k (.u (.c c')) σ
    | _ => .no 28
  | .typeAssert x _ t ok => match ev σ x with
    | .u (.c c) => kO (tassertC P c t ok) fun v => k v σ
    | _ => .no 29
  | _ => .no 21
section
variable {P : Program} {W : World} {n0 : NL} {ρ0 : Nat → Nat} {N : Nat} {ρ : Nat → Nat} {σ : St} {a : Act} {w : World} {R : Leaf → Prop}
theorem retell_hp (σ : St) (x : Operand) (b : Bool) : (retell σ x b).hp = σ.hp ∧ (retell σ x b).n = σ.n:=by
  unfold retell;split <;> exact ⟨rfl,rfl⟩
theorem decB_sound {x : Operand} {k : Bool → St → Tr} (hI : Inv W n0 ρ0 N ρ σ a w) (h : (decB σ x k).sat R) :
    ∃ b σ',a.eval x = .bool b ∧ Inv W n0 ρ0 N ρ σ' a w ∧ σ'.hp = σ.hp ∧ σ'.n = σ.n ∧ (k b σ').sat R:=by
  have hd:=ev_den hI x
  unfold decB at h
  split at h
  · rename_i v he
    rw [he] at hd
    split at h
    · exact ⟨true,σ,hd,hI,rfl,rfl,h⟩
    · exact ⟨false,σ,hd,hI,rfl,rfl,h⟩
  · rename_i v he
    have hd' : a.eval x = .bool v:=by rw [hd,he];rfl
    refine ⟨v,retell σ x v,hd',?_,(retell_hp σ x v).1,(retell_hp σ x v).2,?_⟩
    · unfold retell
      split
      · rename_i t
        exact hI.retell t _ rfl (by simp only [ev] at he;rw [he];rfl)
      · exact hI
    · cases v
      · exact h.2 rfl
      · exact h.1 rfl
  · exact h.elim
theorem kO_sat {α : Type} {o : Option α} {k : α → Tr} (h : (kO o k).sat R) : ∃ x,o = some x ∧ (k x).sat R:=by
  unfold kO at h
  split at h
  · exact ⟨_,rfl,h⟩
  · exact h.elim
def OpS (P : Program) (W : World) (n0 : NL) (ρ0 : Nat → Nat) (N : Nat) (R : Leaf → Prop) (ρ : Nat → Nat) (σ : St) (a : Act) (w : World) (s : Sem Next) (k : V → St → Tr) : Prop :=
  ∃ v σ' ρ' w',Inv W n0 ρ0 N ρ' σ' a w' ∧ Ext σ.n ρ ρ' ∧ σ.n ≤ σ'.n ∧ v.wf σ'.n = true ∧ (k v σ').sat R ∧
    (s.run P w = .ok (.value (v.den ρ')) w' ∨ (s.run P w = .ok .skip w' ∧ v = .tup []))
theorem OpS.pure {s : Sem Next} {k : V → St → Tr} {v : V} (hI : Inv W n0 ρ0 N ρ σ a w) (hv : v.wf σ.n = true) (hk : (k v σ).sat R) (hr : s.run P w = .ok (.value (v.den ρ)) w) :
    OpS P W n0 ρ0 N R ρ σ a w s k :=
  ⟨v,σ,ρ,w,hI,Ext.refl _ _,Nat.le_refl _,hv,hk,.inl hr⟩
theorem plain_of_all {u : U} (h : u.cells.all C.plain = true) : ∀ c,u = .c c → c.plain = true:=by
  intro c hc;subst hc;simpa [U.cells] using h
theorem newx_sound {cs : List C} {ty : Nat} {mk : C} {k : V → St → Tr} {s : Sem Next} (hI : Inv W n0 ρ0 N ρ σ a w) (h : (newx σ cs ty mk k).sat R) (hmk : mk.wf (σ.n + 1) = true)
    (hr : s.run P w = .ok (.value (mk.den fun i => if i = σ.n then w.heap.size else ρ i)) (w.alloc (.cells (dens ρ cs) ty))) : OpS P W n0 ρ0 N R ρ σ a w s k:=by
  unfold newx at h
  split at h
  · rename_i hw
    have hE : Ext σ.n ρ (fun i => if i = σ.n then w.heap.size else ρ i):=fun i hi => by simp [Nat.ne_of_lt hi]
    exact ⟨_,_,_,_,hI.later hE (Nat.le_succ _) (hI.H.alloc cs ty hw),hE,Nat.le_succ _,(show V.wf (σ.n + 1) (.u (.c mk)) = true from hmk),h,.inl hr⟩
  · exact h.elim
theorem putC_dens (ρ : Nat → Nat) (l : List C) : ∀ (cs : List C) (off : Nat),dens ρ (putC cs off l) = ((l.map (C.den ρ)).zipIdx).foldl (fun xs (q : Value × Nat) => xs.setIfInBounds (off + q.2) q.1) (dens ρ cs):=by
  suffices H : ∀ (l : List C) (cs : List C) (off i : Nat),dens ρ (putC cs (off + i) l) = ((l.map (C.den ρ)).zipIdx i).foldl (fun xs (q : Value × Nat) => xs.setIfInBounds (off + q.2) q.1) (dens ρ cs) from fun cs off => by
    have:=H l cs off 0;simpa using this
  intro l
  induction l with
  | nil => intro cs off i;simp [putC]
  | cons c r ih =>
    intro cs off i
    simp only [putC,List.map_cons,List.zipIdx_cons,List.foldl_cons]
    rw [Nat.add_assoc,ih (cs.set (off + i) c) off (i + 1),dens_set]
theorem fillC_fill (ρ : Nat → Nat) (place : Nat → Option (Nat × Nat)) : ∀ (us : List (Nat × U)) (cells cs : List C),fillC place cells us = some cs →
    Instr.fill place (dens ρ cells) (us.map fun q => (q.1,q.2.den ρ)) = some (dens ρ cs):=by
  intro us
  induction us with
  | nil => intro cells cs h;simp only [fillC,Option.some.injEq] at h;subst h;rfl
  | cons q r ih =>
    obtain ⟨i,u⟩:=q
    intro cells cs h
    simp only [fillC] at h
    split at h
    · cases h
    · rename_i off size hp
      split at h
      · rename_i h1 h2 h3
        have h1':=Nat.eq_of_beq_eq_true h1
        have h2':=Nat.le_of_ble_eq_true h2
        have hc:=U.den_cells ρ u (plain_of_all h3)
        simp only [List.map_cons,Instr.fill,hp,hc,dens_size]
        rw [if_neg (by simp;omega)]
        have e:=putC_dens ρ u.cells cells off
        rw [← ih _ _ h,e]
        congr 1
        rw [← Array.foldl_toList]
        simp [dens]
      · cases h
theorem unitsOf_spec (hI : Inv W n0 ρ0 N ρ σ a w) : ∀ (l : List (Nat × Operand)) (us : List (Nat × U)),unitsOf σ l = some us → (l.map fun q => (q.1,a.eval q.2)) = us.map fun q => (q.1,q.2.den ρ):=by
  intro l
  induction l with
  | nil => intro us h;simp only [unitsOf,Option.some.injEq] at h;subst h;rfl
  | cons q r ih =>
    obtain ⟨i,x⟩:=q
    intro us h
    simp only [unitsOf] at h
    split at h
    · rename_i u hu
      split at h
      · rename_i l' hl
        cases h
        simp only [List.map_cons,ih _ hl,ev_den hI x,hu]
        rfl
      · cases h
    · cases h
theorem zero_cells (ρ : Nat → Nat) (z : Value) : dens ρ (U.ofValue z).cells = z.cells:=by
  have e:=U.den_ofValue ρ z
  unfold U.ofValue at e ⊢
  split
  · rename_i xs
    simp only at e
    simp only [U.cells]
    have:=congrArg Value.cells e
    simpa [U.den,Value.cells] using this
  · rename_i hna
    simp only [U.cells,dens,List.map_cons,List.map_nil,C.den_ofValue]
    cases z <;> first | rfl | exact absurd rfl (hna _)
theorem buildC_built (hI : Inv W n0 ρ0 N ρ σ a w) {t : TypeId} {parts : List (Nat × Operand)} {cs : List C} (h : buildC P σ t parts = some cs) :
    P.built t (parts.map fun q => (q.1,a.eval q.2)) = some (dens ρ cs):=by
  unfold buildC at h
  split at h
  · rename_i it fields hi hu
    split at h
    · rename_i z places hz hp
      split at h
      · rename_i us hus
        unfold Program.built
        simp only [hi,hu,hz,hp]
        rw [unitsOf_spec hI _ _ hus]
        have:=fillC_fill ρ _ _ _ _ h
        rw [← zero_cells ρ z]
        simpa using this
      · cases h
    · cases h
  · rename_i it len e hi hu
    split at h
    · rename_i z ie hz hie
      split at h
      · rename_i us hus
        unfold Program.built
        simp only [hi,hu,hz,hie]
        rw [unitsOf_spec hI _ _ hus]
        have:=fillC_fill ρ _ _ _ _ h
        rw [← zero_cells ρ z]
        exact this
      · cases h
    · cases h
  · cases h
theorem ptrsOf_spec (hI : Inv W n0 ρ0 N ρ σ a w) : ∀ (l : List Operand) (ps : List (Nat × Nat)),ptrsOf σ l = some ps → l.map a.eval = ps.map (ptrV ρ) ∧ ps.all (fun q => Nat.blt q.1 σ.n) = true:=by
  intro l
  induction l with
  | nil => intro ps h;simp only [ptrsOf,Option.some.injEq] at h;subst h;exact ⟨rfl,rfl⟩
  | cons x r ih =>
    intro ps h
    simp only [ptrsOf] at h
    split at h
    · rename_i id off hu
      split at h
      · rename_i l' hl
        cases h
        obtain ⟨e1,e2⟩:=ih _ hl
        have hw:=ev_wf hI x
        rw [hu] at hw
        refine ⟨?_,?_⟩
        · simp only [List.map_cons,e1,ev_den hI x,hu];rfl
        · simp only [List.all_cons,e2,Bool.and_true];exact hw
      · cases h
    · cases h
theorem mem_wf_drop {n : Nat} {cs l : List C} {off sz : Nat} (hw : cs.all (C.wf n) = true) (h : takeC cs off sz = some l) : l.all (C.wf n) = true:=by
  obtain ⟨rfl,_⟩:=takeC_spec h
  simp only [List.all_eq_true] at hw ⊢
  exact fun x hx => hw x (List.mem_of_mem_drop (List.mem_of_mem_take hx))
theorem ldC_wf {t : TypeId} {cs : List C} {off n : Nat} {u : U} (hw : cs.all (C.wf n) = true) (h : ldC P t cs off = some u) : u.wf n = true:=by
  unfold ldC at h
  split at h
  · cases hc : cs[off]? with
    | none => rw [hc] at h;cases h
    | some c => rw [hc] at h;cases h;simp only [List.all_eq_true] at hw;exact hw c (List.mem_of_getElem? hc)
  · split at h
    · rename_i sz _
      cases ht : takeC cs off sz with
      | none => rw [ht] at h;cases h
      | some l => rw [ht] at h;cases h;exact mem_wf_drop hw ht
    · cases h
  · cases h
theorem run_partC {t : TypeId} {xs : List C} {f : Nat} {u : U} (h : partC P t xs f = some u) (ρ : Nat → Nat) (w : World) : (Instr.field t (.agg (dens ρ xs)) f).run P w = .ok (u.den ρ) w:=by
  unfold partC at h
  split at h
  · rename_i fs hu
    split at h
    · rename_i fd hf
      simp only [Instr.field,Sem.run_bind,run_underlying hu,Result.andThen_ok,hf,asAgg,Sem.run_pure]
      unfold ldC at h
      split at h
      · rename_i ha
        cases hc : xs[fd.offset]? with
        | none => rw [hc] at h;cases h
        | some c =>
          rw [hc] at h;cases h
          simp [part,run_isAgg ha,dens_get,hc,U.den]
      · rename_i ha
        split at h
        · rename_i sz hs
          cases ht : takeC xs fd.offset sz with
          | none => rw [ht] at h;cases h
          | some l =>
            rw [ht] at h;cases h
            obtain ⟨v,e1,e2⟩:=run_part ρ w ha hs ht (fun e => by cases e)
            rw [e1]
            rcases e2 with ⟨_,rfl⟩ | ⟨e3,_⟩
            · rfl
            · rw [ha] at e3;cases e3
        · cases h
      · cases h
    · cases h
  · cases h
theorem partC_wf {t : TypeId} {xs : List C} {f n : Nat} {u : U} (hw : xs.all (C.wf n) = true) (h : partC P t xs f = some u) : u.wf n = true:=by
  unfold partC at h
  split at h
  · split at h
    · exact ldC_wf hw h
    · cases h
  · cases h
theorem run_unC {op : UnOp} {c c' : C} (h : unC op c = some c') (ρ : Nat → Nat) (w : World) : (Op.unary op (c.den ρ)).run P w = .ok (c'.den ρ) w ∧ ∀ n,c'.wf n = true:=by
  unfold unC at h
  split at h
  · split at h
    · rename_i l b hc
      cases h
      rw [C.bool_den hc ρ,mkB_den]
      exact ⟨rfl,fun n => mkB_wf _ _ n⟩
    · cases h
  · split at h
    · rename_i l k n hc
      cases h
      rw [C.int_den hc ρ,mkI_den]
      exact ⟨rfl,fun n => mkI_wf _ _ _ n⟩
    · cases h
  · split at h
    · rename_i l k n hc
      cases h
      rw [C.int_den hc ρ,mkI_den]
      exact ⟨rfl,fun n => mkI_wf _ _ _ n⟩
    · cases h
  · cases h
theorem run_convC {src dst : TypeId} {c c' : C} (h : convC P src dst c = some c') (ρ : Nat → Nat) (w : World) : (convert src dst (c.den ρ)).run P w = .ok (c'.den ρ) w ∧ ∀ n,c'.wf n = true:=by
  unfold convC at h
  split at h
  · rename_i d k l k0 n hs hd hc
    cases h
    rw [C.int_den hc ρ,mkI_den]
    refine ⟨?_,fun n => mkI_wf _ _ _ n⟩
    simp [convert,run_underlying hs,run_underlying hd,Conv.intToInt,iConv]
  · cases h
theorem run_fieldOff {s : TypeId} {f d : Nat} (h : fieldOff P s f = some d) (b off : Nat) (w : World) : (Instr.fieldAt s (.pointer (some ⟨b,off,none⟩)) f).run P w = .ok (.pointer (some ⟨b,off + d,none⟩)) w:=by
  unfold fieldOff at h
  split at h
  · rename_i fs hu
    split at h
    · rename_i fd hf
      split at h
      · rename_i m hs
        cases h
        simp [Instr.fieldAt,run_underlying hu,hf,Instr.sureAddr,fieldPlace,run_sizeOf hs,add_at]
      · cases h
    · cases h
  · cases h
theorem run_idxC {t : TypeId} {x ix c : C} {n : Nat} (h : idxC P t x ix = some c) (hx : x.wf n = true) (ρ : Nat → Nat) (w : World) : (Instr.indexAt t (x.den ρ) (ix.den ρ)).run P w = .ok (c.den ρ) w ∧ c.wf n = true:=by
  unfold idxC at h
  split at h
  · rename_i id off len cap k n
    split at h
    · rename_i e hu
      split at h
      · rename_i sz hb hs
        cases h
        have hb':=of_decide_eq_true hb
        refine ⟨?_,hx⟩
        simp [C.den,Instr.indexAt,run_underlying hu,asIntOf,hb'.1,hb'.2,run_sizeOf hs,add_at]
      · cases h
    · cases h
  · rename_i id off k n
    split at h
    · rename_i len e hu
      split at h
      · rename_i sz hb hs
        cases h
        have hb':=of_decide_eq_true hb
        refine ⟨?_,hx⟩
        simp [C.den,Instr.indexAt,run_underlying hu,asIntOf,Instr.sureAddr,hb'.1,hb'.2,run_sizeOf hs,add_at]
      · cases h
    · cases h
  · cases h
end
end Go.Proofs.Ytnlohongffpkpaa.Sx
end

section
namespace Go.Proofs.Ytnlohongffpkpaa.Sx
open Go
section
variable {P : Program} {W : World} {n0 : NL} {ρ0 : Nat → Nat} {N : Nat} {ρ : Nat → Nat} {σ : St} {a : Act} {w : World} {R : Leaf → Prop}
theorem run_v {s : Sem Value} {v : Value} {w w' : World} (h : s.run P w = .ok v w') : (do pure (Next.value (← s)) : Sem Next).run P w = .ok (.value v) w':=by
  simp [h]
theorem run_u {s : Sem Unit} {w w' : World} (h : s.run P w = .ok () w') : (do s;pure Next.skip : Sem Next).run P w = .ok .skip w':=by
  simp [h]
theorem rowC_den {e : TypeId} {len sz : Nat} {zs : List C} (h : rowC P e len sz = some zs) (ρ : Nat → Nat) :
    (len * sz = 0 ∧ zs = []) ∨ (len * sz ≠ 0 ∧ ∃ u,tzero P e = some u ∧ u.cells.all C.plain = true ∧
      (Array.range (len * sz)).map (fun x => (dens ρ u.cells)[x % (dens ρ u.cells).size]!) = dens ρ zs):=by
  unfold rowC at h
  split at h
  · rename_i hz
    have hz:=Nat.eq_of_beq_eq_true hz
    cases h
    exact .inl ⟨hz,rfl⟩
  · rename_i hz
    have hz:=Nat.beq_eq_false_iff.1 hz
    split at h
    · rename_i u hu
      split at h
      · rename_i hl hp
        cases h
        have hl:=Nat.eq_of_beq_eq_true hl
        refine .inr ⟨hz,u,hu,hp,?_⟩
        apply Array.ext
        · simp [dens]
        · intro i h1 h2
          have hpos : 0 < sz:=by
            cases sz with
            | zero => simp at hz
            | succ n => omega
          have hm : i % sz < u.cells.length:=by rw [hl];exact Nat.mod_lt _ hpos
          simp [dens,hl,List.getElem?_eq_getElem hm]
      · cases h
    · cases h
theorem run_buildSlice {t : TypeId} {len : Nat} {parts : List (Nat × Operand)} {q : List C × Nat} (hI : Inv W n0 ρ0 N ρ σ a w) (h : slC P σ t len parts = some q) :
    (Instr.buildSlice t len (parts.map fun q => (q.1,a.eval q.2)).toArray).run P w = .ok (.slice (some ⟨w.heap.size,0,none⟩) len len) (w.alloc (.cells (dens ρ q.1) q.2)):=by
  unfold slC at h
  split at h
  · rename_i e hu
    split at h
    · rename_i sz hz
      split at h
      · rename_i zs us hb hr hus
        split at h
        · rename_i cs hf
          cases h
          have hb:=Nat.le_of_ble_eq_true hb
          have hfill:=fillC_fill ρ _ _ _ _ hf
          have hrow:=rowC_den hr ρ
          unfold Instr.buildSlice
          simp only [Sem.run_bind,run_underlying hu,run_sizeOf hz,Result.andThen_ok]
          rw [if_neg (by omega)]
          rcases hrow with ⟨h0,rfl⟩ | ⟨h0,u,hu',hp,hmap⟩
          · rw [if_pos h0]
            have e0 : ∀ g : Nat → Value,(Array.range (len * sz)).map g = dens ρ []:=fun g => by rw [h0];simp [dens]
            simp only [Sem.run_pure,Sem.run_bind,Result.andThen_ok,e0]
            rw [unitsOf_spec hI _ _ hus,hfill]
            simp only [newRow,Sem.run_bind,run_newObj,Result.andThen_ok,Sem.run_pure]
            simp [World.alloc_eq]
          · rw [if_neg h0]
            simp only [Sem.run_pure,Sem.run_bind,Result.andThen_ok,run_zeroValue hu' ρ,U.den_cells ρ u (plain_of_all hp),hmap]
            rw [unitsOf_spec hI _ _ hus,hfill]
            simp only [newRow,Sem.run_bind,run_newObj,Result.andThen_ok,Sem.run_pure]
            simp [World.alloc_eq]
        · cases h
      · cases h
    · cases h
  · cases h
theorem refEq_run {t : TypeId} {x y : C} {b cst : Bool} (h : refEq P σ cst t x y = some b) (hH : HInv W n0 ρ0 ρ σ.hp σ.n w) :
    (binOp .eql t (x.den ρ) (y.den ρ)).run P w = .ok (.bool b) w ∧ (binOp .neq t (x.den ρ) (y.den ρ)).run P w = .ok (.bool (notb b)) w ∧
      ∀ (op : BinOp) (ox oy : Operand),cst = (isCst ox || isCst oy) → (eqGuard op t ox oy (x.den ρ) (y.den ρ)).run P w = .ok () w:=by
  have key : ∀ vx vy : Value,(∀ k n,vx ≠ .int k n) → (∀ k n,vx ≠ .float k n) → (∀ k n m,vx ≠ .complex k n m) → (∀ s,vx ≠ .string s) → (∀ d,(Op.equalIn (d + 1) t vx vy).run P w = .ok b w) →
      (binOp .eql t vx vy).run P w = .ok (.bool b) w ∧ (binOp .neq t vx vy).run P w = .ok (.bool (notb b)) w:=by
    intro vx vy h1 h2 h3 h4 hr
    have e:=hr 9999
    constructor
    · cases vx <;> first | exact absurd rfl (h1 _ _) | exact absurd rfl (h2 _ _) | exact absurd rfl (h3 _ _ _) | exact absurd rfl (h4 _) | simp [binOp,Op.equal,Op.maxDepth,e]
    · cases vx <;> first | exact absurd rfl (h1 _ _) | exact absurd rfl (h2 _ _) | exact absurd rfl (h3 _ _ _) | exact absurd rfl (h4 _) | (simp only [binOp,Op.equal,Op.maxDepth,Sem.run_bind,e,Result.andThen_ok,Sem.run_pure];cases b <;> rfl)
  have grdP : ∀ (p : Option Addr) (vy : Value) (op : BinOp) (ox oy : Operand),cst = (isCst ox || isCst oy) → (eqGuard op t ox oy (.pointer p) vy).run P w = .ok () w:=by
    intro p vy op ox oy _
    unfold eqGuard
    split <;> simp
  have grdM : ∀ (p : Option Nat) (vy : Value) (op : BinOp) (ox oy : Operand),cst = (isCst ox || isCst oy) → (eqGuard op t ox oy (.map p) vy).run P w = .ok () w:=by
    intro p vy op ox oy _
    unfold eqGuard
    split <;> simp
  unfold refEq at h
  split at h
  · rename_i e hu
    split at h
    · cases h
      obtain ⟨g1,g2⟩:=key (.pointer none) (.pointer none) (fun _ _ h => by cases h) (fun _ _ h => by cases h) (fun _ _ _ h => by cases h) (fun _ h => by cases h) (fun d => by simp [Op.equalIn,run_underlying hu])
      exact ⟨g1,g2,grdP _ _⟩
    · rename_i i o
      cases h
      obtain ⟨g1,g2⟩:=key (.pointer none) (.pointer (some ⟨ρ i,o,none⟩)) (fun _ _ h => by cases h) (fun _ _ h => by cases h) (fun _ _ _ h => by cases h) (fun _ h => by cases h) (fun d => by simp [Op.equalIn,run_underlying hu])
      exact ⟨g1,g2,grdP _ _⟩
    · rename_i i o
      cases h
      obtain ⟨g1,g2⟩:=key (.pointer (some ⟨ρ i,o,none⟩)) (.pointer none) (fun _ _ h => by cases h) (fun _ _ h => by cases h) (fun _ _ _ h => by cases h) (fun _ h => by cases h) (fun d => by simp [Op.equalIn,run_underlying hu])
      exact ⟨g1,g2,grdP _ _⟩
    · rename_i i o j q
      split at h
      · rename_i ie b1 b2 hie hb1 hb2
        split at h
        · cases h
        · rename_i hz
          have hz:=Nat.beq_eq_false_iff.1 hz
          cases h
          obtain ⟨i1,_,i3⟩:=hH.blk i b1 hb1
          obtain ⟨j1,_,j3⟩:=hH.blk j b2 hb2
          have main : (binOp .eql t (.pointer (some ⟨ρ i,o,none⟩)) (.pointer (some ⟨ρ j,q,none⟩))).run P w = .ok (.bool (Nat.beq i j && Nat.beq o q)) w ∧
              (binOp .neq t (.pointer (some ⟨ρ i,o,none⟩)) (.pointer (some ⟨ρ j,q,none⟩))).run P w = .ok (.bool (notb (Nat.beq i j && Nat.beq o q))) w:=by
            refine key _ _ (fun _ _ h => by cases h) (fun _ _ h => by cases h) (fun _ _ _ h => by cases h) (fun _ h => by cases h) (fun d => ?_)
            by_cases hij : i = j ∧ o = q
            · obtain ⟨rfl,rfl⟩:=hij
              simp [Op.equalIn,run_underlying hu,sizeOf,typeInfo,hie,run_sameAddr_same]
            · have hne : (⟨ρ i,o,none⟩ : Addr) ≠ ⟨ρ j,q,none⟩:=by
                intro e
                simp only [Addr.mk.injEq,and_true] at e
                exact hij ⟨hH.inj i j i1 j1 e.1,e.2⟩
              have hf : (Nat.beq i j && Nat.beq o q) = false:=by
                cases e1 : Nat.beq i j
                · rfl
                · cases e2 : Nat.beq o q
                  · rfl
                  · exact absurd ⟨Nat.eq_of_beq_eq_true e1,Nat.eq_of_beq_eq_true e2⟩ hij
              rw [hf]
              simp [Op.equalIn,run_underlying hu,sizeOf,typeInfo,hie,hz,run_sameAddr_other w hne i3 j3]
          exact ⟨main.1,main.2,grdP _ _⟩
      · cases h
    · cases h
  · rename_i k e hu
    split at h
    · rename_i i
      cases h
      obtain ⟨g1,g2⟩:=key (.map (some (ρ i))) (.map none) (fun _ _ h => by cases h) (fun _ _ h => by cases h) (fun _ _ _ h => by cases h) (fun _ h => by cases h) (fun d => by simp [Op.equalIn,run_underlying hu])
      exact ⟨g1,g2,grdM _ _⟩
    · rename_i i
      cases h
      obtain ⟨g1,g2⟩:=key (.map none) (.map (some (ρ i))) (fun _ _ h => by cases h) (fun _ _ h => by cases h) (fun _ _ _ h => by cases h) (fun _ h => by cases h) (fun d => by simp [Op.equalIn,run_underlying hu])
      exact ⟨g1,g2,grdM _ _⟩
    · cases h
      obtain ⟨g1,g2⟩:=key (.map none) (.map none) (fun _ _ h => by cases h) (fun _ _ h => by cases h) (fun _ _ _ h => by cases h) (fun _ h => by cases h) (fun d => by simp [Op.equalIn,run_underlying hu])
      exact ⟨g1,g2,grdM _ _⟩
    · cases h
  · rename_i ms hu
    split at h
    · rename_i t' i o
      cases h
      obtain ⟨g1,g2⟩:=key (.iface t' (.pointer (some ⟨ρ i,o,none⟩))) .nilIface (fun _ _ h => by cases h) (fun _ _ h => by cases h) (fun _ _ _ h => by cases h) (fun _ h => by cases h) (fun d => by simp [Op.equalIn,run_underlying hu])
      exact ⟨g1,g2,fun op ox oy _ => by unfold eqGuard;split <;> simp [C.den]⟩
    · rename_i t' i o
      cases h
      obtain ⟨g1,g2⟩:=key .nilIface (.iface t' (.pointer (some ⟨ρ i,o,none⟩))) (fun _ _ h => by cases h) (fun _ _ h => by cases h) (fun _ _ _ h => by cases h) (fun _ h => by cases h) (fun d => by simp [Op.equalIn,run_underlying hu])
      exact ⟨g1,g2,fun op ox oy _ => by unfold eqGuard;split <;> simp [C.den]⟩
    · split at h
      · cases h
        obtain ⟨g1,g2⟩:=key .nilIface .nilIface (fun _ _ h => by cases h) (fun _ _ h => by cases h) (fun _ _ _ h => by cases h) (fun _ h => by cases h) (fun d => by simp [Op.equalIn,run_underlying hu])
        refine ⟨g1,g2,fun op ox oy hc => ?_⟩
        simp only [C.den,eqGuard]
        cases op <;> cases ox <;> cases oy <;> first | (simp [isCst] at hc;done) | simp
      · cases h
    · cases h
  · cases h
theorem refOp_run {op : BinOp} {t : TypeId} {x y : C} {b cst : Bool} {c : C} (h : refEq P σ cst t x y = some b) (hc : refOp op b = some c) (hH : HInv W n0 ρ0 ρ σ.hp σ.n w) (ox oy : Operand) (hcst : cst = (isCst ox || isCst oy)) :
    ((do eqGuard op t ox oy (x.den ρ) (y.den ρ);binOp op t (x.den ρ) (y.den ρ)) : Sem Value).run P w = .ok (c.den ρ) w ∧ ∀ n,c.wf n = true:=by
  obtain ⟨e1,e2,e3⟩:=refEq_run h hH
  unfold refOp at hc
  split at hc
  · cases hc
    exact ⟨by simp only [Sem.run_bind,e3 _ ox oy hcst,Result.andThen_ok,e1];rfl,fun _ => rfl⟩
  · cases hc
    exact ⟨by simp only [Sem.run_bind,e3 _ ox oy hcst,Result.andThen_ok,e2];rfl,fun _ => rfl⟩
  · cases hc
theorem litI_den {u : U} {q : IntKind × Int} (h : litI u = some q) (ρ : Nat → Nat) : u.den ρ = .int q.1 q.2:=by
  unfold litI at h
  split at h
  · cases h;rfl
  · cases h
theorem litI_wf {u : U} {q : IntKind × Int} (h : litI u = some q) (n : Nat) : u.wf n = true:=by
  unfold litI at h
  split at h
  · rfl
  · cases h
theorem tzero_wf {t : TypeId} {u : U} (h : tzero P t = some u) (n : Nat) : u.wf n = true:=by
  unfold tzero at h
  split at h
  · split at h
    · cases h;exact U.wf_ofValue n _
    · cases h
  · cases h
def ment (ρ : Nat → Nat) (e : U × U × Nat) : MapEntry:={ key:=e.1.den ρ,val:=e.2.1.den ρ,born:=e.2.2 }
theorem mden_list (ρ : Nat → Nat) (es : List (U × U × Nat)) : (mden ρ es).toList = es.map (ment ρ):=rfl
theorem run_checkKey_int {kt : TypeId} {kk : IntKind} (hk : P.underlying kt = some (.int kk)) (e : Bool) (m : Nat) (kd : IntKind) (n : Int) (w : World) : (Instr.checkKey e (m + 1) kt (.int kd n)).run P w = .ok () w:=by
  simp only [Instr.checkKey,Sem.run_bind,run_underlying hk,Result.andThen_ok,Sem.run_pure]
theorem fresh_find (kk kd : IntKind) (n : Int) (ρ : Nat → Nat) : ∀ (es : List (U × U × Nat)) (i : Nat),keysFresh kd n es = true → Instr.findNow (.int kk) (.int kd n) (es.map (ment ρ)) i = some none
  | [],i,_ => rfl
  | e :: r,i,h => by
    simp only [keysFresh] at h
    split at h
    · rename_i q hq
      simp only [Bool.and_eq_true,decide_eq_true_eq,Bool.not_eq_true',decide_eq_false_iff_not] at h
      obtain ⟨⟨h1,h2⟩,h3⟩:=h
      have hk : (ment ρ e).key = .int kd q.2:=by show e.1.den ρ = _;rw [litI_den hq ρ,h1]
      have hb : (n == q.2) = false:=by simpa using h2
      simp only [List.map_cons,Instr.findNow,hk,Instr.sameNow,if_true,hb]
      exact fresh_find kk kd n ρ r (i + 1) h3
    · cases h
theorem lookx_find (kk kd : IntKind) (l : Bool) (x : Int) (ρ : Nat → Nat) (found : U → Tr) (gone : Tr) : ∀ (es : List (U × U × Nat)) (i : Nat),(lookx kd l x found gone es).sat R →
    (∃ (j : Nat) (e : U × U × Nat),e ∈ es ∧ Instr.findNow (.int kk) (.int kd x) (es.map (ment ρ)) i = some (some (j,e.2.1.den ρ)) ∧ (found e.2.1).sat R) ∨ (Instr.findNow (.int kk) (.int kd x) (es.map (ment ρ)) i = some none ∧ gone.sat R)
  | [],i,h => .inr ⟨rfl,h⟩
  | e :: r,i,h => by
    simp only [lookx] at h
    split at h
    · rename_i q hq
      split at h
      · rename_i hd
        have hd:=of_decide_eq_true hd
        have hk : (ment ρ e).key = .int kd q.2:=by show e.1.den ρ = _;rw [litI_den hq ρ,hd]
        have hit : x = q.2 → (found e.2.1).sat R → (∃ (j : Nat) (e' : U × U × Nat),e' ∈ e :: r ∧ Instr.findNow (.int kk) (.int kd x) ((e :: r).map (ment ρ)) i = some (some (j,e'.2.1.den ρ)) ∧ (found e'.2.1).sat R):=by
          intro hx hs
          refine ⟨i,e,by simp,?_,hs⟩
          have hb : (x == q.2) = true:=by simpa using hx
          simp only [List.map_cons,Instr.findNow,hk,Instr.sameNow,if_true,hb]
          rfl
        have miss : ¬ x = q.2 → (lookx kd l x found gone r).sat R → (∃ (j : Nat) (e' : U × U × Nat),e' ∈ e :: r ∧ Instr.findNow (.int kk) (.int kd x) ((e :: r).map (ment ρ)) i = some (some (j,e'.2.1.den ρ)) ∧ (found e'.2.1).sat R) ∨ (Instr.findNow (.int kk) (.int kd x) ((e :: r).map (ment ρ)) i = some none ∧ gone.sat R):=by
          intro hx hs
          have hb : (x == q.2) = false:=by simpa using hx
          simp only [List.map_cons,Instr.findNow,hk,Instr.sameNow,if_true,hb]
          rcases lookx_find kk kd l x ρ found gone r (i + 1) hs with ⟨j,e',h1,h2,h3⟩ | h3
          · exact .inl ⟨j,e',by simp [h1],h2,h3⟩
          · exact .inr h3
        split at h
        · split at h
          · rename_i hx;exact .inl (hit (of_decide_eq_true hx) h)
          · rename_i hx;exact miss (of_decide_eq_false hx) h
        · by_cases hx : x = q.2
          · exact .inl (hit hx (h.1 (by simpa [iEq] using hx)))
          · exact miss hx (h.2 (by simpa [iEq] using hx))
      · exact h.elim
    · exact h.elim
theorem run_makeMap (t : TypeId) (w : World) : (Instr.makeMap t none).run P w = .ok (.map (some w.heap.size)) (w.alloc (.map #[] 0)):=by
  simp only [Instr.makeMap,Sem.run_bind,run_newObj,Result.andThen_ok,Sem.run_pure]
  simp [World.alloc_eq]
theorem run_insx {σ' : St} {t : TypeId} {m x v : Operand} (hI : Inv W n0 ρ0 N ρ σ a w) (h : insx P σ t m x v = some σ') :
    ∃ w',(Instr.mapUpdate t (a.eval m) (a.eval x) (a.eval v)).run P w = .ok () w' ∧ Inv W n0 ρ0 N ρ σ' a w' ∧ σ'.n = σ.n:=by
  unfold insx at h
  split at h
  · rename_i kt et hu
    split at h
    · rename_i kk hk
      split at h
      · rename_i id ux uv hm hx hv
        split at h
        · rename_i q b hq hb
          split at h
          · rename_i hf
            cases h
            obtain ⟨hb,hlim⟩:=lookMW_spec hb
            obtain ⟨hid,hbw,hbh⟩:=hI.H.mblk id b hb
            have d1 : a.eval m = .map (some (ρ id)):=by rw [ev_den hI m,hm];rfl
            have d2 : a.eval x = .int q.1 q.2:=by rw [ev_den hI x,hx];exact litI_den hq ρ
            have d3 : a.eval v = uv.den ρ:=by rw [ev_den hI v,hv];rfl
            have hvw : uv.wf σ.n = true:=by have:=ev_wf hI v;rw [hv] at this;exact this
            have hnew : mwf σ.n (b.1 ++ [(ux,uv,b.2)]) = true:=by
              simp only [mwf,List.all_append,List.all_cons,List.all_nil,Bool.and_true,Bool.and_eq_true] at hbw ⊢
              exact ⟨hbw,litI_wf hq _,hvw⟩
            have hH:=hI.H.setM hb hlim (b.1 ++ [(ux,uv,b.2)],b.2 + 1) hnew
            refine ⟨_,?_,hI.later (Ext.refl _ _) (Nat.le_refl _) hH,rfl⟩
            have hfind:=fresh_find kk q.1 q.2 ρ b.1 0 hf
            have hmden : mden ρ (b.1 ++ [(ux,uv,b.2)]) = (mden ρ b.1).push { key:=.int q.1 q.2,val:=uv.den ρ,born:=b.2 }:=by
              apply Array.ext'
              rw [Array.toList_push,mden_list,mden_list,List.map_append]
              simp only [List.map_cons,List.map_nil,ment,litI_den hq ρ]
            rw [d1,d2,d3]
            simp only [Instr.mapUpdate,Sem.run_bind,run_underlying hu,Result.andThen_ok,MapKept.run_getObj_map hbh]
            rw [show (10000 : Nat) = 9999 + 1 from rfl,run_checkKey_int hk]
            simp only [Instr.findKey,Sem.run_bind,run_underlying hk,Result.andThen_ok,Sem.run_pure,mden_list,hfind]
            rw [MapKept.run_setObj_map _ hbh,hmden]
          · cases h
        · cases h
      · cases h
    · cases h
  · cases h
theorem litV_den {u : U} {v : Value} (h : litV u = some v) (ρ : Nat → Nat) : u.den ρ = v:=by
  unfold litV at h
  split at h
  · cases h;rfl
  · rename_i xs
    split at h
    · rename_i hall
      cases h
      have hw : xs.all (C.wf 0) = true:=by
        simp only [List.all_eq_true] at hall ⊢
        intro c hc
        have:=hall c hc
        cases c <;> first | rfl | cases this
      show Value.agg (dens ρ xs) = _
      rw [dens_ext (n:=0) (ρ:=fun _ => 0) (ρ':=ρ) (fun i hi => by omega) xs hw]
    · cases h
  · cases h
theorem litV_wf {u : U} {v : Value} (h : litV u = some v) (n : Nat) : u.wf n = true:=by
  unfold litV at h
  split at h
  · rfl
  · rename_i xs
    split at h
    · rename_i hall
      simp only [U.wf,List.all_eq_true] at hall ⊢
      intro c hc
      have:=hall c hc
      cases c <;> first | rfl | cases this
    · cases h
  · cases h
theorem run_checkKeyS {kt : TypeId} {v : Value} (h : keyOKc P kt v = true) (e : Bool) (w : World) : (Instr.checkKey e 10000 kt v).run P w = .ok () w:=by
  simp only [keyOKc,Bool.and_eq_true] at h
  obtain ⟨⟨h1,h2⟩,h3⟩:=h
  obtain ⟨la,hla⟩:=Option.isSome_iff_exists.1 h3
  exact run_checkKey_deep e 9992 8 kt h1 w 10 v la h2 hla
theorem scan_find {kt : TypeId} (x : List C) (ha : tagg P kt = some true) : ∀ (es : List (U × U × Nat)) (i : Nat) (r : Option (Nat × U × U)),scanS P kt x i es = some r → ∀ w,
    (r = none → (Instr.findAsking kt (.agg (dens ρ x)) (es.map (ment ρ)) i).run P w = .ok none w) ∧
    (∀ q,r = some q → ∃ e,e ∈ es ∧ i ≤ q.1 ∧ es[q.1 - i]? = some e ∧ e.1 = q.2.1 ∧ e.2.1 = q.2.2 ∧ (Instr.findAsking kt (.agg (dens ρ x)) (es.map (ment ρ)) i).run P w = .ok (some (q.1,q.2.2.den ρ)) w)
  | [],i,r,h,w => by
    cases h
    exact ⟨fun _ => by simp [Instr.findAsking],fun u hu => by cases hu⟩
  | e :: es,i,r,h,w => by
    simp only [scanS] at h
    split at h
    · rename_i ys hy
      have hk : (ment ρ e).key = .agg (dens ρ ys):=by show e.1.den ρ = _;rw [hy];rfl
      split at h
      · rename_i hc
        cases h
        obtain ⟨b,⟨l,hb⟩,hr⟩:=eqT_run P _ _ _ _ _ hc
        simp only [C.bool?,Option.some.injEq,Prod.mk.injEq] at hb
        have:=hr ρ w (.agg (dens ρ x)) (.agg (dens ρ ys)) (.inl ⟨ha,rfl⟩) (.inl ⟨ha,rfl⟩)
        rw [← hb.2] at this
        refine ⟨fun hn => (by cases hn),fun u hu => ⟨e,by simp,by cases hu;exact Nat.le_refl _,by cases hu;simp,by cases hu;rfl,by cases hu;rfl,?_⟩⟩
        cases hu
        simp only [List.map_cons,Instr.findAsking,Sem.run_bind,hk,Op.equal,Op.maxDepth,this,Result.andThen_ok,if_true,Sem.run_pure]
        rfl
      · rename_i hc
        obtain ⟨b,⟨l,hb⟩,hr⟩:=eqT_run P _ _ _ _ _ hc
        simp only [C.bool?,Option.some.injEq,Prod.mk.injEq] at hb
        have:=hr ρ w (.agg (dens ρ x)) (.agg (dens ρ ys)) (.inl ⟨ha,rfl⟩) (.inl ⟨ha,rfl⟩)
        rw [← hb.2] at this
        obtain ⟨g1,g2⟩:=scan_find x ha es (i + 1) r h w
        have step : (Instr.findAsking kt (.agg (dens ρ x)) ((e :: es).map (ment ρ)) i).run P w = (Instr.findAsking kt (.agg (dens ρ x)) (es.map (ment ρ)) (i + 1)).run P w:=by
          simp only [List.map_cons,Instr.findAsking,Sem.run_bind,hk,Op.equal,Op.maxDepth,this,Result.andThen_ok,Bool.false_eq_true,if_false]
        rw [step]
        refine ⟨g1,fun u hu => ?_⟩
        obtain ⟨e',a1,a0,a5,a4,a2,a3⟩:=g2 u hu
        refine ⟨e',by simp [a1],by omega,?_,a4,a2,a3⟩
        rw [show u.1 - i = (u.1 - (i + 1)) + 1 by omega,List.getElem?_cons_succ]
        exact a5
      · cases h
    · cases h
theorem mden_setE (ρ : Nat → Nat) (k v : U) : ∀ (i : Nat) (es : List (U × U × Nat)),mden ρ (setE k v i es) = (mden ρ es).modify i fun e => { e with key:=k.den ρ,val:=v.den ρ }:=by
  have : ∀ (i : Nat) (es : List (U × U × Nat)),(setE k v i es).map (fun e => ({ key:=e.1.den ρ,val:=e.2.1.den ρ,born:=e.2.2 } : MapEntry)) =
      (es.map (fun e => ({ key:=e.1.den ρ,val:=e.2.1.den ρ,born:=e.2.2 } : MapEntry))).modify i fun e => { e with key:=k.den ρ,val:=v.den ρ }:=by
    intro i es
    induction es generalizing i with
    | nil => cases i <;> simp [setE]
    | cons e r ih => cases i <;> simp [setE,ih]
  intro i es
  apply Array.ext'
  simp only [mden,this,Array.toList_modify]
theorem mden_delE (ρ : Nat → Nat) : ∀ (i : Nat) (es : List (U × U × Nat)),mden ρ (delE i es) = (mden ρ es).eraseIdxIfInBounds i:=by
  have : ∀ (i : Nat) (es : List (U × U × Nat)),(delE i es).map (fun e => ({ key:=e.1.den ρ,val:=e.2.1.den ρ,born:=e.2.2 } : MapEntry)) =
      (es.map (fun e => ({ key:=e.1.den ρ,val:=e.2.1.den ρ,born:=e.2.2 } : MapEntry))).eraseIdx i:=by
    intro i es
    induction es generalizing i with
    | nil => cases i <;> simp [delE]
    | cons e r ih => cases i <;> simp [delE,ih]
  intro i es
  apply Array.ext'
  simp only [mden,this,Array.toList_eraseIdxIfInBounds]
theorem setE_wf {n : Nat} {k v : U} (hk : k.wf n = true) (hv : v.wf n = true) : ∀ (i : Nat) (es : List (U × U × Nat)),mwf n es = true → mwf n (setE k v i es) = true:=by
  intro i es
  induction es generalizing i with
  | nil => intro h;cases i <;> exact h
  | cons e r ih =>
    intro h
    simp only [mwf,List.all_cons,Bool.and_eq_true] at h
    cases i with
    | zero => simp only [setE,mwf,List.all_cons,Bool.and_eq_true,hk,hv];exact ⟨⟨trivial,trivial⟩,h.2⟩
    | succ i => simp only [setE,mwf,List.all_cons,Bool.and_eq_true];exact ⟨h.1,ih i h.2⟩
theorem delE_wf {n : Nat} : ∀ (i : Nat) (es : List (U × U × Nat)),mwf n es = true → mwf n (delE i es) = true:=by
  intro i es
  induction es generalizing i with
  | nil => intro h;cases i <;> exact h
  | cons e r ih =>
    intro h
    simp only [mwf,List.all_cons,Bool.and_eq_true] at h
    cases i with
    | zero => exact h.2
    | succ i => simp only [delE,mwf,List.all_cons,Bool.and_eq_true];exact ⟨h.1,ih i h.2⟩
theorem run_findS {kt : TypeId} {fs : Array Field} (hk : P.underlying kt = some (.struct fs)) (x : List C) (es : List (U × U × Nat)) (w : World) :
    (Instr.findKey kt (.agg (dens ρ x)) (es.map (ment ρ))).run P w = (Instr.findAsking kt (.agg (dens ρ x)) (es.map (ment ρ)) 0).run P w:=by
  cases es with
  | nil => simp [Instr.findKey,run_underlying hk,Instr.findNow,Instr.findAsking]
  | cons e r =>
    have : Instr.findNow (.struct fs) (.agg (dens ρ x)) ((e :: r).map (ment ρ)) 0 = none:=by
      simp only [List.map_cons,Instr.findNow,Instr.sameNow]
    simp only [Instr.findKey,Sem.run_bind,run_underlying hk,Result.andThen_ok,this]
theorem run_insS {σ' : St} {t : TypeId} {m x v : Operand} (hI : Inv W n0 ρ0 N ρ σ a w) (h : insS P σ t m x v = some σ') :
    ∃ w',(Instr.mapUpdate t (a.eval m) (a.eval x) (a.eval v)).run P w = .ok () w' ∧ Inv W n0 ρ0 N ρ σ' a w' ∧ σ'.n = σ.n:=by
  unfold insS at h
  split at h
  · rename_i q id xs uv hq hm hx hv
    split at h
    · rename_i lv b hlv hb
      split at h
      · rename_i hok hta hsc
        cases h
        unfold structT at hq
        split at hq
        · rename_i kt et hu
          split at hq
          · rename_i fs hk
            cases hq
            obtain ⟨hb,hlim⟩:=lookMW_spec hb
            obtain ⟨hid,hbw,hbh⟩:=hI.H.mblk id b hb
            have d1 : a.eval m = .map (some (ρ id)):=by rw [ev_den hI m,hm];rfl
            have d2 : a.eval x = .agg (dens ρ xs):=by rw [ev_den hI x,hx];rfl
            have d2' : Value.agg (dens ρ xs) = lv:=litV_den hlv ρ
            have d3 : a.eval v = uv.den ρ:=by rw [ev_den hI v,hv];rfl
            have hvw : uv.wf σ.n = true:=by have:=ev_wf hI v;rw [hv] at this;exact this
            have hnew : mwf σ.n (b.1 ++ [(.agg xs,uv,b.2)]) = true:=by
              simp only [mwf,List.all_append,List.all_cons,List.all_nil,Bool.and_true,Bool.and_eq_true] at hbw ⊢
              exact ⟨hbw,litV_wf hlv _,hvw⟩
            have hH:=hI.H.setM hb hlim (b.1 ++ [(.agg xs,uv,b.2)],b.2 + 1) hnew
            refine ⟨_,?_,hI.later (Ext.refl _ _) (Nat.le_refl _) hH,rfl⟩
            have hfind:=(scan_find (ρ:=ρ) xs hta b.1 0 none hsc w).1 rfl
            have hmden : mden ρ (b.1 ++ [(.agg xs,uv,b.2)]) = (mden ρ b.1).push { key:=.agg (dens ρ xs),val:=uv.den ρ,born:=b.2 }:=by
              apply Array.ext'
              rw [Array.toList_push,mden_list,mden_list,List.map_append]
              rfl
            rw [d1,d2,d3]
            simp only [Instr.mapUpdate,Sem.run_bind,run_underlying hu,Result.andThen_ok,MapKept.run_getObj_map hbh]
            have hck : (Instr.checkKey false 10000 kt (.agg (dens ρ xs))).run P w = .ok () w:=by rw [d2'];exact run_checkKeyS hok _ w
            rw [hck]
            simp only [Result.andThen_ok,mden_list,run_findS hk,hfind]
            rw [MapKept.run_setObj_map _ hbh,hmden]
          · cases hq
        · cases hq
      · rename_i r hok hta hsc
        split at h
        · rename_i ov hov
          split at h
          · rename_i hsame
            cases h
            unfold structT at hq
            split at hq
            · rename_i kt et hu
              split at hq
              · rename_i fs hk
                cases hq
                obtain ⟨hb,hlim⟩:=lookMW_spec hb
                obtain ⟨hid,hbw,hbh⟩:=hI.H.mblk id b hb
                have d1 : a.eval m = .map (some (ρ id)):=by rw [ev_den hI m,hm];rfl
                have d2 : a.eval x = .agg (dens ρ xs):=by rw [ev_den hI x,hx];rfl
                have d2' : Value.agg (dens ρ xs) = lv:=litV_den hlv ρ
                have d3 : a.eval v = uv.den ρ:=by rw [ev_den hI v,hv];rfl
                have hvw : uv.wf σ.n = true:=by have:=ev_wf hI v;rw [hv] at this;exact this
                have hH:=hI.H.setM hb hlim (setE (.agg xs) uv r.1 b.1,b.2) (setE_wf (litV_wf hlv _) hvw _ _ hbw)
                refine ⟨_,?_,hI.later (Ext.refl _ _) (Nat.le_refl _) hH,rfl⟩
                obtain ⟨e,_,_,he,hek,hev,hfind⟩:=(scan_find (ρ:=ρ) xs hta b.1 0 (some r) hsc w).2 r rfl
                rw [Nat.sub_zero] at he
                rw [d1,d2,d3]
                simp only [Instr.mapUpdate,Sem.run_bind,run_underlying hu,Result.andThen_ok,MapKept.run_getObj_map hbh]
                have hck : (Instr.checkKey false 10000 kt (.agg (dens ρ xs))).run P w = .ok () w:=by rw [d2'];exact run_checkKeyS hok _ w
                rw [hck]
                have hold : (((mden ρ b.1)[r.1]?).map (·.key)).getD (.agg (dens ρ xs)) = ov:=by
                  simp only [mden,List.getElem?_toArray,List.getElem?_map,he,Option.map_some,Option.getD_some]
                  rw [hek]
                  exact litV_den hov ρ
                simp only [Result.andThen_ok,mden_list,run_findS hk,hfind,Sem.run_bind,hold,Instr.keyThatStays]
                rw [d2',if_pos hsame]
                simp only [Sem.run_pure,Result.andThen_ok]
                rw [MapKept.run_setObj_map _ hbh,mden_setE]
                simp only [U.den,d2']
              · cases hq
            · cases hq
          · cases h
        · cases h
      · cases h
    · cases h
  · cases h
theorem run_delS {σ' : St} {t : TypeId} {m x : Operand} {ts : Array TypeId} {ty : TypeId} (hI : Inv W n0 ρ0 N ρ σ a w) (ht : ts[0]? = some t) (h : delS P σ t m x = some σ') :
    ∃ w',(Builtin.delete_ ts ty #[a.eval m,a.eval x]).run P w = .ok (.tuple #[]) w' ∧ Inv W n0 ρ0 N ρ σ' a w' ∧ σ'.n = σ.n:=by
  unfold delS at h
  split at h
  · rename_i q id xs hq hm hx
    split at h
    · rename_i lv b hlv hb
      have key : ∀ (kt et : TypeId) (fs : Array Field) (new : MBlk) (hu : P.underlying t = some (.map kt et)) (hk : P.underlying kt = some (.struct fs)) (hok : keyOKc P kt lv = true),mwf σ.n new.1 = true →
          (∀ w,∃ r,(Instr.findAsking kt (.agg (dens ρ xs)) (b.1.map (ment ρ)) 0).run P w = .ok r w ∧ (match r with | some (i,_) => (mden ρ b.1).eraseIdxIfInBounds i | none => mden ρ b.1) = mden ρ new.1) → new.2 = b.2 →
          ∃ w',(Builtin.delete_ ts ty #[a.eval m,a.eval x]).run P w = .ok (.tuple #[]) w' ∧ Inv W n0 ρ0 N ρ { σ with hp:=mcons (id,new) σ.hp } a w':=by
        intro kt et fs new hu hk hok hnew hfind hclock
        obtain ⟨hb,hlim⟩:=lookMW_spec hb
        obtain ⟨hid,hbw,hbh⟩:=hI.H.mblk id b hb
        have d1 : a.eval m = .map (some (ρ id)):=by rw [ev_den hI m,hm];rfl
        have d2 : a.eval x = .agg (dens ρ xs):=by rw [ev_den hI x,hx];rfl
        have d2' : Value.agg (dens ρ xs) = lv:=litV_den hlv ρ
        have hH:=hI.H.setM hb hlim new hnew
        refine ⟨_,?_,hI.later (Ext.refl _ _) (Nat.le_refl _) hH⟩
        obtain ⟨r,hr,hnd⟩:=hfind w
        rw [d1,d2]
        have hck : (Instr.checkKey (mden ρ b.1).isEmpty 10000 kt (.agg (dens ρ xs))).run P w = .ok () w:=by rw [d2'];exact run_checkKeyS hok _ w
        simp only [Builtin.delete_,ht,List.getElem?_toArray,List.getElem?_cons_zero,List.getElem?_cons_succ,Sem.run_bind,run_underlying hu,Result.andThen_ok,MapKept.run_getObj_map hbh]
        rw [hck]
        simp only [Result.andThen_ok,mden_list,run_findS hk,hr]
        cases r with
        | none =>
          simp only at hnd ⊢
          rw [Sem.run_bind,MapKept.run_setObj_map _ hbh]
          simp only [Result.andThen_ok,Sem.run_pure,hnd,hclock]
        | some p =>
          simp only at hnd ⊢
          rw [Sem.run_bind,MapKept.run_setObj_map _ hbh]
          simp only [Result.andThen_ok,Sem.run_pure,hnd,hclock]
      unfold structT at hq
      split at hq
      · rename_i kt et hu
        split at hq
        · rename_i fs hk
          cases hq
          have hbw:=(hI.H.mblk id b (lookMW_spec hb).1).2.1
          split at h
          · rename_i hok hta hsc
            cases h
            obtain ⟨w',e1,e2⟩:=key kt et fs b hu hk hok hbw (fun w => ⟨none,(scan_find (ρ:=ρ) xs hta b.1 0 none hsc w).1 rfl,rfl⟩) rfl
            exact ⟨w',e1,e2,rfl⟩
          · rename_i r hok hta hsc
            cases h
            obtain ⟨w',e1,e2⟩:=key kt et fs (delE r.1 b.1,b.2) hu hk hok (delE_wf _ _ hbw) (fun w => by
              obtain ⟨e,_,_,_,_,_,hf⟩:=(scan_find (ρ:=ρ) xs hta b.1 0 (some r) hsc w).2 r rfl
              exact ⟨_,hf,(mden_delE ρ _ _).symm⟩) rfl
            exact ⟨w',e1,e2,rfl⟩
          · cases h
        · cases hq
      · cases hq
    · cases h
  · cases h
theorem run_ifaceC {t : TypeId} {c c' : C} (h : ifaceC P t c = some c') (ρ : Nat → Nat) (w : World) : (Instr.makeInterface t (c.den ρ)).run P w = .ok (c'.den ρ) w ∧ ∀ n,c.wf n = true → c'.wf n = true:=by
  unfold ifaceC at h
  split at h
  · rename_i e id off hu
    cases h
    exact ⟨by simp [Instr.makeInterface,run_underlying hu,C.den],fun n hn => hn⟩
  · cases h
theorem run_tassertC {t xt : TypeId} {c : C} {ok : Bool} {v : V} (h : tassertC P c t ok = some v) (ρ : Nat → Nat) (w : World) : (Instr.typeAssert (c.den ρ) xt t ok).run P w = .ok (v.den ρ) w ∧ ∀ n,c.wf n = true → v.wf n = true:=by
  unfold tassertC at h
  split at h
  · rename_i e hu
    have fail : failC P t ok = some v → (do if ok then pure (Value.tuple #[← zeroValue t,.bool false]) else runtimePanic (.typeAssertion (some xt) none t "") : Sem Value).run P w = .ok (v.den ρ) w ∧ (∀ d,(do if ok then pure (Value.tuple #[← zeroValue t,.bool false]) else runtimePanic (.typeAssertion (some xt) (some d) t "") : Sem Value).run P w = .ok (v.den ρ) w) ∧ ∀ n,v.wf n = true:=by
      intro hf
      unfold failC at hf
      split at hf
      · split at hf
        · rename_i z hz
          cases hf
          have e:=run_zeroValue hz ρ w
          refine ⟨by simp [e,lookR,V.den];rfl,fun d => by simp [e,lookR,V.den];rfl,fun n => ?_⟩
          simp only [lookR,V.wf,List.all_cons,List.all_nil,tzero_wf hz n,Bool.true_and,Bool.and_true];rfl
        · cases hf
      · cases hf
    split at h
    · rename_i t' id off
      split at h
      · rename_i ht
        have ht:=Nat.eq_of_beq_eq_true ht
        subst ht
        cases h
        refine ⟨?_,fun n hn => ?_⟩
        · simp only [Instr.typeAssert,Sem.run_bind,run_underlying hu,Result.andThen_ok,C.den,if_true,Sem.run_pure]
          cases ok <;> simp [lookR,V.den,U.den,C.den]
        · cases ok
          · exact hn
          · simp only [lookR,V.wf,List.all_cons,List.all_nil,Bool.and_true]
            show (U.wf n (.c (.ptr id off)) && true) = true
            rw [Bool.and_true];exact hn
      · rename_i ht
        have ht:=Nat.beq_eq_false_iff.1 ht
        obtain ⟨_,f2,f3⟩:=fail h
        refine ⟨?_,fun n _ => f3 n⟩
        simp only [Instr.typeAssert,Sem.run_bind,run_underlying hu,Result.andThen_ok,C.den,if_neg ht]
        exact f2 t'
    · obtain ⟨f1,_,f3⟩:=fail h
      refine ⟨?_,fun n _ => f3 n⟩
      simp only [Instr.typeAssert,Sem.run_bind,run_underlying hu,Result.andThen_ok,C.den]
      exact f1
    · cases h
  · cases h
theorem run_lookup {id : Nat} {b : MBlk} {t et : TypeId} {kd : IntKind} {x : Int} {ok : Bool} {u : U} {is : Bool} {z : U} (hH : HInv W n0 ρ0 ρ σ.hp σ.n w) (hb : lookM σ.hp id = some b) (ht : mapT P t = some et) (hz : tzero P et = some z)
    (h : ∀ kk,(∃ j,Instr.findNow (.int kk) (.int kd x) (b.1.map (ment ρ)) 0 = some (some (j,u.den ρ)) ∧ is = true) ∨ (Instr.findNow (.int kk) (.int kd x) (b.1.map (ment ρ)) 0 = some none ∧ u = z ∧ is = false)) :
    (Instr.lookup t (.map (some (ρ id))) (.int kd x) ok).run P w = .ok ((lookR ok u is).den ρ) w:=by
  obtain ⟨hid,hbw,hbh⟩:=hH.mblk id b hb
  unfold mapT at ht
  split at ht
  · rename_i kt et' hu
    split at ht
    · rename_i kk hk
      cases ht
      simp only [Instr.lookup,Sem.run_bind,run_underlying hu,Result.andThen_ok,MapKept.run_getObj_map hbh,Sem.run_pure]
      rw [show (10000 : Nat) = 9999 + 1 from rfl,run_checkKey_int hk]
      simp only [Instr.findKey,Sem.run_bind,run_underlying hk,Result.andThen_ok,Sem.run_pure,mden_list]
      rcases h kk with ⟨j,h1,rfl⟩ | ⟨h1,rfl,rfl⟩
      · simp only [h1,Sem.run_pure,Result.andThen_ok]
        cases ok <;> simp [lookR,V.den,U.den,C.den]
      · have e:=run_zeroValue hz ρ w
        simp only [h1,Sem.run_pure,Sem.run_bind,Result.andThen_ok,e]
        cases ok
        · simp [lookR,V.den,e]
        · simp only [lookR,V.den,List.map_cons,List.map_nil];simp [e];rfl
    · cases ht
  · cases ht
theorem lookup_path {t : TypeId} {x ix : Operand} {ok : Bool} {k : V → St → Tr} (h : (opx P (.lookup t x ix ok) σ k).sat R) :
    ∃ v,(k v σ).sat R ∧ ∀ a w,Inv W n0 ρ0 N ρ σ a w → v.wf σ.n = true ∧ (Instr.lookup t (a.eval x) (a.eval ix) ok).run P w = .ok (v.den ρ) w:=by
  simp only [opx] at h
  split at h
  · rename_i id ci hx hix
    obtain ⟨q,hq,hs⟩:=kO_sat h
    obtain ⟨b,hb,hs⟩:=kO_sat hs
    obtain ⟨et,ht,hs⟩:=kO_sat hs
    obtain ⟨z,hz,hs⟩:=kO_sat hs
    obtain ⟨l,kd,n⟩:=q
    have hfin : ∀ (u : U) (is : Bool),(∀ a w,Inv W n0 ρ0 N ρ σ a w → u.wf σ.n = true) → (k (lookR ok u is) σ).sat R → (∀ kk,(∃ j,Instr.findNow (.int kk) (.int kd n) (b.1.map (ment ρ)) 0 = some (some (j,u.den ρ)) ∧ is = true) ∨ (Instr.findNow (.int kk) (.int kd n) (b.1.map (ment ρ)) 0 = some none ∧ u = z ∧ is = false)) →
        ∃ v,(k v σ).sat R ∧ ∀ a w,Inv W n0 ρ0 N ρ σ a w → v.wf σ.n = true ∧ (Instr.lookup t (a.eval x) (a.eval ix) ok).run P w = .ok (v.den ρ) w:=by
      intro u is hw hs hf
      refine ⟨_,hs,fun a w hI => ⟨?_,?_⟩⟩
      · have hw:=hw a w hI
        cases ok
        · exact hw
        · simp only [lookR,V.wf,List.all_cons,List.all_nil,hw,Bool.true_and,Bool.and_true];rfl
      · have d1 : a.eval x = .map (some (ρ id)):=by rw [ev_den hI x,hx];rfl
        have d2 : a.eval ix = .int kd n:=by rw [ev_den hI ix,hix];exact C.int_den hq ρ
        rw [d1,d2]
        exact run_lookup hI.H hb ht hz hf
    have kkind : ∀ kk kk' : IntKind,∀ (es : List MapEntry) (i : Nat),Instr.findNow (.int kk) (.int kd n) es i = Instr.findNow (.int kk') (.int kd n) es i:=by
      intro kk kk' es
      induction es with
      | nil => intro i;rfl
      | cons e r ih =>
        intro i
        simp only [Instr.findNow]
        have : Instr.sameNow (.int kk) (.int kd n) e.key = Instr.sameNow (.int kk') (.int kd n) e.key:=by
          cases e.key <;> rfl
        rw [this,ih]
    rcases lookx_find kd kd l n ρ _ _ b.1 0 hs with ⟨j,e,he,h1,h2⟩ | ⟨h1,h2⟩
    · refine hfin e.2.1 true (fun a w hI => ?_) h2 fun kk => .inl ⟨j,by rw [kkind kk kd];exact h1,rfl⟩
      obtain ⟨_,hbw,_⟩:=hI.H.mblk id b hb
      simp only [mwf,List.all_eq_true,Bool.and_eq_true] at hbw
      exact (hbw e he).2
    · exact hfin z false (fun _ _ _ => tzero_wf hz _) h2 fun kk => .inr ⟨by rw [kkind kk kd];exact h1,rfl,rfl⟩
  · rename_i id xs hx hix
    obtain ⟨q,hq,hs⟩:=kO_sat h
    obtain ⟨lv,hlv,hs⟩:=kO_sat hs
    obtain ⟨b,hb,hs⟩:=kO_sat hs
    obtain ⟨z,hz,hs⟩:=kO_sat hs
    split at hs
    · rename_i hok hta
      obtain ⟨r,hr,hs⟩:=kO_sat hs
      unfold structT at hq
      split at hq
      · rename_i kt et hu
        split at hq
        · rename_i fs hk
          cases hq
          cases r with
          | none =>
            refine ⟨_,hs,fun a w hI => ?_⟩
            obtain ⟨_,hbw,hbh⟩:=hI.H.mblk id b hb
            have d1 : a.eval x = .map (some (ρ id)):=by rw [ev_den hI x,hx];rfl
            have d2 : a.eval ix = .agg (dens ρ xs):=by rw [ev_den hI ix,hix];rfl
            have hck : (Instr.checkKey (mden ρ b.1).isEmpty 10000 kt (.agg (dens ρ xs))).run P w = .ok () w:=by rw [show Value.agg (dens ρ xs) = lv from litV_den hlv ρ];exact run_checkKeyS hok _ w
            obtain ⟨g1,g2⟩:=scan_find (ρ:=ρ) xs hta b.1 0 _ hr w
            refine ⟨?_,?_⟩
            · have:=tzero_wf hz σ.n
              cases ok
              · exact this
              · simp only [lookR,V.wf,List.all_cons,List.all_nil,this,Bool.true_and,Bool.and_true];rfl
            · rw [d1,d2]
              have e:=run_zeroValue hz ρ w
              simp only [Instr.lookup,Sem.run_bind,run_underlying hu,Result.andThen_ok,MapKept.run_getObj_map hbh,Sem.run_pure]
              rw [hck]
              simp only [Result.andThen_ok,mden_list,run_findS hk,g1 rfl,Sem.run_bind,e,Sem.run_pure]
              cases ok
              · simp [lookR,V.den,e]
              · simp only [lookR,V.den,List.map_cons,List.map_nil];simp [e];rfl
          | some u =>
            refine ⟨_,hs,fun a w hI => ?_⟩
            obtain ⟨_,hbw,hbh⟩:=hI.H.mblk id b hb
            have d1 : a.eval x = .map (some (ρ id)):=by rw [ev_den hI x,hx];rfl
            have d2 : a.eval ix = .agg (dens ρ xs):=by rw [ev_den hI ix,hix];rfl
            have hck : (Instr.checkKey (mden ρ b.1).isEmpty 10000 kt (.agg (dens ρ xs))).run P w = .ok () w:=by rw [show Value.agg (dens ρ xs) = lv from litV_den hlv ρ];exact run_checkKeyS hok _ w
            obtain ⟨g1,g2⟩:=scan_find (ρ:=ρ) xs hta b.1 0 _ hr w
            obtain ⟨e',a1,_,_,_,a2,a3⟩:=g2 u rfl
            have hw : u.2.2.wf σ.n = true:=by
              simp only [mwf,List.all_eq_true,Bool.and_eq_true] at hbw
              rw [← a2];exact (hbw e' a1).2
            refine ⟨?_,?_⟩
            · cases ok
              · exact hw
              · simp only [lookR,V.wf,List.all_cons,List.all_nil,hw,Bool.true_and,Bool.and_true];rfl
            · rw [d1,d2]
              simp only [Instr.lookup,Sem.run_bind,run_underlying hu,Result.andThen_ok,MapKept.run_getObj_map hbh,Sem.run_pure]
              rw [hck]
              simp only [Result.andThen_ok,mden_list,run_findS hk,a3,Sem.run_pure]
              cases ok <;> simp [lookR,V.den,U.den,C.den]
        · cases hq
      · cases hq
    · exact hs.elim
  · exact h.elim
theorem opx_sound {o : Oper} {k : V → St → Tr} (hI : Inv W n0 ρ0 N ρ σ a w) (h : (opx P o.op σ k).sat R) : OpS P W n0 ρ0 N R ρ σ a w (execOp a.eval o) k:=by
  obtain ⟨dst,op,type,pos,after,guard⟩:=o
  simp only at h
  unfold opx at h
  split at h
  · rename_i x
    exact OpS.pure hI (ev_wf hI x) h (by simp [execOp,ev_den hI x])
  · rename_i x
    exact OpS.pure hI (ev_wf hI x) h (by simp [execOp,ev_den hI x])
  · rename_i c x y
    obtain ⟨b,σ',hb,hI',e1,e2,hs⟩:=decB_sound hI h
    cases b
    · exact ⟨_,σ',ρ,w,hI',Ext.refl _ _,Nat.le_of_eq e2.symm,ev_wf hI' y,hs,.inl (by simp [execOp,hb,asBool,ev_den hI' y])⟩
    · exact ⟨_,σ',ρ,w,hI',Ext.refl _ _,Nat.le_of_eq e2.symm,ev_wf hI' x,hs,.inl (by simp [execOp,hb,asBool,ev_den hI' x])⟩
  · rename_i t
    obtain ⟨u,hu,hs⟩:=kO_sat h
    split at hs
    · rename_i hp
      refine newx_sound hI hs (by simp [C.wf]) ?_
      refine run_v (s:=Instr.alloc t true (.tuple #[])) ?_
      simp only [Instr.alloc,Sem.run_bind,run_zeroValue hu ρ,Result.andThen_ok,newVar,newRow,U.den_cells ρ u (plain_of_all hp),run_newObj,Sem.run_pure]
      simp [C.den,World.alloc_eq]
    · exact hs.elim
  · rename_i t x
    split at h
    · rename_i u hu
      split at h
      · rename_i hp
        refine newx_sound hI h (by simp [C.wf]) ?_
        refine run_v (s:=Instr.box t (a.eval x)) ?_
        have hd : a.eval x = u.den ρ:=by rw [ev_den hI x,hu];rfl
        rw [hd]
        simp only [Instr.box,Sem.run_bind,newVar,newRow,U.den_cells ρ u (plain_of_all hp),run_newObj,Result.andThen_ok,Sem.run_pure]
        simp [C.den,World.alloc_eq]
      · exact h.elim
    · exact h.elim
  · rename_i t parts
    obtain ⟨cs,hc,hs⟩:=kO_sat h
    split at hs
    · rename_i hw
      refine OpS.pure hI (show V.wf σ.n (.u (.agg cs)) = true from hw) hs ?_
      refine run_v (s:=Instr.build t (parts.map fun q => (q.1,a.eval q.2))) ?_
      have:=buildC_built hI hc
      exact run_build w t _ _ (by simpa using this)
    · exact hs.elim
  · rename_i t len parts
    obtain ⟨q,hq,hs⟩:=kO_sat h
    refine newx_sound hI hs (by simp [C.wf]) ?_
    have e:=run_buildSlice hI hq
    have e2 : (parts.toList.map fun q => (q.1,a.eval q.2)).toArray = parts.map fun q => (q.1,a.eval q.2):=by
      apply Array.ext';simp
    rw [e2] at e
    have e3:=run_v e
    have e4 : C.den (fun i => if i = σ.n then w.heap.size else ρ i) (.sl σ.n 0 len len) = .slice (some ⟨w.heap.size,0,none⟩) len len:=by simp [C.den]
    rw [e4]
    exact e3
  · rename_i t x
    split at h
    · rename_i id off hx
      obtain ⟨b,hb,hs⟩:=kO_sat h
      obtain ⟨u,hu,hs⟩:=kO_sat hs
      obtain ⟨_,hw,_⟩:=hI.H.blk id b hb
      refine OpS.pure hI (show V.wf σ.n (.u u) = true from ldC_wf hw hu) hs ?_
      refine run_v (s:=Instr.loadAt t (a.eval x)) ?_
      have hd : a.eval x = .pointer (some ⟨ρ id,off,none⟩):=by rw [ev_den hI x,hx];rfl
      simp only [hd,Instr.loadAt,Instr.sureAddr,Sem.run_bind,Sem.run_pure,Result.andThen_ok]
      exact run_loadVar hI.H hb hu
    · exact h.elim
  · rename_i t x y
    split at h
    · rename_i id off u hx hy
      obtain ⟨b,hb,hs⟩:=kO_sat h
      obtain ⟨hb,hlim⟩:=lookW_spec hb
      obtain ⟨sz,hz,hs⟩:=kO_sat hs
      split at hs
      · rename_i h1 h2 h3
        have h1':=Nat.eq_of_beq_eq_true h1
        have h2':=Nat.le_of_ble_eq_true h2
        have hwu : u.wf σ.n = true:=by have:=ev_wf hI y;rw [hy] at this;exact this
        subst h1'
        obtain ⟨w',e1,e2⟩:=run_storeVar (P:=P) hI.H hb hlim hz h2' hwu h3
        have hd : a.eval x = .pointer (some ⟨ρ id,off,none⟩):=by rw [ev_den hI x,hx];rfl
        have hd2 : a.eval y = u.den ρ:=by rw [ev_den hI y,hy];rfl
        refine ⟨_,_,ρ,w',hI.later (Ext.refl _ _) (Nat.le_refl _) e2,Ext.refl _ _,Nat.le_refl _,rfl,hs,.inr ⟨?_,rfl⟩⟩
        refine run_u (s:=Instr.storeAt t (a.eval x) (a.eval y)) ?_
        simp only [hd,hd2,Instr.storeAt,Instr.sureAddr,Sem.run_bind,Sem.run_pure,Result.andThen_ok]
        exact e1
      · exact hs.elim
    · exact h.elim
  · rename_i x
    split at h
    · rename_i id off hx
      have hd : a.eval x = .pointer (some ⟨ρ id,off,none⟩):=by rw [ev_den hI x,hx];rfl
      have hw:=ev_wf hI x
      rw [hx] at hw
      exact OpS.pure hI hw h (by simp [execOp,hd,V.den,U.den,C.den])
    · rename_i f cs hx
      have hd : a.eval x = .func (.func f) #[] (cs.map (ptrV ρ)).toArray:=by rw [ev_den hI x,hx];rfl
      have hw:=ev_wf hI x
      rw [hx] at hw
      exact OpS.pure hI hw h (by simp [execOp,hd,V.den,U.den,C.den])
    · exact h.elim
  · rename_i op t x y ty
    split at h
    · rename_i ux uy hx hy
      have hdx : a.eval x = ux.den ρ:=by rw [ev_den hI x,hx];rfl
      have hdy : a.eval y = uy.den ρ:=by rw [ev_den hI y,hy];rfl
      have gen : (kO (eqV P op t ux uy) fun c => k (.u (.c c)) σ).sat R → OpS P W n0 ρ0 N R ρ σ a w (execOp a.eval ⟨dst,.binOp op t x y ty,type,pos,after,guard⟩) k:=by
        intro hg
        obtain ⟨c,hc,hs⟩:=kO_sat hg
        obtain ⟨e1,e2⟩:=eqV_run hc x y ρ w
        refine OpS.pure hI (show V.wf σ.n (.u (.c c)) = true from e2 _) hs ?_
        refine run_v (s:=(do eqGuard op t x y (a.eval x) (a.eval y);binOp op t (a.eval x) (a.eval y))) ?_
        rw [hdx,hdy]
        exact e1
      split at h
      · rename_i cx cy
        split at h
        · rename_i lx kx nx ly ky ny hcx hcy
          have ht:=binI_tells P w op t lx kx nx ly ky ny
          have hg : (eqGuard op t x y (.int kx nx) (.int ky ny)).run P w = .ok () w:=by
            unfold eqGuard
            split <;> simp
          have fin : ∀ c,(binOp op t (.int kx nx) (.int ky ny)).run P w = .ok (c.den ρ) w → (∀ n,c.wf n = true) → (k (.u (.c c)) σ).sat R →
              OpS P W n0 ρ0 N R ρ σ a w (execOp a.eval ⟨dst,.binOp op t x y ty,type,pos,after,guard⟩) k:=by
            intro c hr hw hs
            refine OpS.pure hI (show V.wf σ.n (.u (.c c)) = true from hw _) hs ?_
            refine run_v (s:=(do eqGuard op t x y (a.eval x) (a.eval y);binOp op t (a.eval x) (a.eval y))) ?_
            rw [hdx,hdy]
            simp only [U.den,C.int_den hcx ρ,C.int_den hcy ρ,Sem.run_bind,hg,Result.andThen_ok]
            exact hr
          split at h
          · rename_i c hb
            rw [hb] at ht
            exact fin c (ht.2 ρ) ht.1 h
          · rename_i b c hb
            rw [hb] at ht
            obtain ⟨h1,h2⟩:=h
            cases b
            · exact fin c (ht.2 rfl ρ) ht.1 (h2 rfl)
            · exact (h1 rfl).elim
          · exact h.elim
        · split at h
          · rename_i b hb
            obtain ⟨c,hc,hs⟩:=kO_sat h
            obtain ⟨e1,e2⟩:=refOp_run hb hc hI.H x y rfl
            refine OpS.pure hI (show V.wf σ.n (.u (.c c)) = true from e2 _) hs ?_
            refine run_v (s:=(do eqGuard op t x y (a.eval x) (a.eval y);binOp op t (a.eval x) (a.eval y))) ?_
            rw [hdx,hdy]
            exact e1
          · exact gen h
      · exact gen h
    · exact h.elim
  · rename_i op t x
    split at h
    · rename_i c hx
      obtain ⟨c',hc,hs⟩:=kO_sat h
      obtain ⟨e1,e2⟩:=run_unC hc ρ w
      have hd : a.eval x = c.den ρ:=by rw [ev_den hI x,hx];rfl
      exact OpS.pure hI (show V.wf σ.n (.u (.c c')) = true from e2 _) hs (run_v (s:=Op.unary op (a.eval x)) (by rw [hd];exact e1))
    · exact h.elim
  · rename_i src dst' x
    split at h
    · rename_i c hx
      obtain ⟨c',hc,hs⟩:=kO_sat h
      obtain ⟨e1,e2⟩:=run_convC hc ρ w
      have hd : a.eval x = c.den ρ:=by rw [ev_den hI x,hx];rfl
      exact OpS.pure hI (show V.wf σ.n (.u (.c c')) = true from e2 _) hs (run_v (s:=convert src dst' (a.eval x)) (by rw [hd];exact e1))
    · exact h.elim
  · rename_i fn first caps
    split at h
    · rename_i f
      split at h
      · rename_i hf
        obtain ⟨ps,hc,hs⟩:=kO_sat h
        obtain ⟨e1,e2⟩:=ptrsOf_spec hI _ _ hc
        refine OpS.pure hI (show V.wf σ.n (.u (.c (.fn f ps))) = true from e2) hs ?_
        refine run_v (s:=Instr.makeFunc (.func f) (first.map a.eval) (caps.map a.eval)) ?_
        have h0 : first = #[]:=by simpa using hf
        subst h0
        have h1 : caps.map a.eval = (ps.map (ptrV ρ)).toArray:=by
          apply Array.ext'
          simpa using e1
        rw [h1]
        simp [Instr.makeFunc,V.den,U.den,C.den]
      · exact h.elim
    · exact h.elim
  · rename_i s x f
    split at h
    · rename_i id off hx
      obtain ⟨d,hd0,hs⟩:=kO_sat h
      have hd : a.eval x = .pointer (some ⟨ρ id,off,none⟩):=by rw [ev_den hI x,hx];rfl
      have hw:=ev_wf hI x
      rw [hx] at hw
      refine OpS.pure hI (show V.wf σ.n (.u (.c (.ptr id (off + d)))) = true from hw) hs ?_
      refine run_v (s:=Instr.fieldAt s (a.eval x) f) ?_
      rw [hd]
      exact run_fieldOff hd0 _ _ _
    · exact h.elim
  · rename_i t x f
    split at h
    · rename_i xs hx
      obtain ⟨u,hu,hs⟩:=kO_sat h
      have hd : a.eval x = .agg (dens ρ xs):=by rw [ev_den hI x,hx];rfl
      have hw:=ev_wf hI x
      rw [hx] at hw
      refine OpS.pure hI (show V.wf σ.n (.u u) = true from partC_wf hw hu) hs ?_
      refine run_v (s:=Instr.field t (a.eval x) f) ?_
      rw [hd]
      exact run_partC hu ρ w
    · exact h.elim
  · rename_i t x ix
    split at h
    · rename_i cx ci hx hix
      obtain ⟨c,hc,hs⟩:=kO_sat h
      have hd : a.eval x = cx.den ρ:=by rw [ev_den hI x,hx];rfl
      have hd2 : a.eval ix = ci.den ρ:=by rw [ev_den hI ix,hix];rfl
      have hw:=ev_wf hI x
      rw [hx] at hw
      obtain ⟨e1,e2⟩:=run_idxC hc hw ρ w
      refine OpS.pure hI (show V.wf σ.n (.u (.c c)) = true from e2) hs ?_
      refine run_v (s:=Instr.indexAt t (a.eval x) (a.eval ix)) ?_
      rw [hd,hd2]
      exact e1
    · exact h.elim
  · rename_i x i
    obtain ⟨u,hu,hs⟩:=kO_sat h
    have hw:=ev_wf hI x
    unfold tupC at hu
    split at hu
    · rename_i xs hx
      have hx0 : ev σ x = .tup xs:=hx
      rw [hx0] at hw
      have hd : a.eval x = .tuple (xs.map (U.den ρ)).toArray:=by rw [ev_den hI x,hx0];rfl
      simp only [V.wf,List.all_eq_true] at hw
      refine OpS.pure hI (show V.wf σ.n (.u u) = true from hw u (List.mem_of_getElem? hu)) hs ?_
      refine run_v (s:=Instr.extract (a.eval x) i) ?_
      rw [hd]
      simp [Instr.extract,hu,V.den]
    · cases hu
  · rename_i t r
    split at h
    · have hE : Ext σ.n ρ (fun i => if i = σ.n then w.heap.size else ρ i):=fun i hi => by simp [Nat.ne_of_lt hi]
      refine ⟨.u (.c (.mp σ.n)),_,_,_,hI.later hE (Nat.le_succ _) hI.H.allocM,hE,Nat.le_succ _,by simp [V.wf,U.wf,C.wf],h,.inl ?_⟩
      have e : C.den (fun i => if i = σ.n then w.heap.size else ρ i) (.mp σ.n) = .map (some w.heap.size):=by simp [C.den]
      show (execOp a.eval _).run P w = .ok (.value (C.den (fun i => if i = σ.n then w.heap.size else ρ i) (.mp σ.n))) _
      rw [e]
      exact run_v (s:=Instr.makeMap t none) (run_makeMap t w)
    · exact h.elim
  · rename_i t m x v
    obtain ⟨σ',hσ,hs⟩:=kO_sat h
    obtain ⟨w',e1,e2,e3⟩:=run_insx hI hσ
    exact ⟨_,σ',ρ,w',e2,Ext.refl _ _,Nat.le_of_eq e3.symm,rfl,hs,.inr ⟨run_u (s:=Instr.mapUpdate t (a.eval m) (a.eval x) (a.eval v)) e1,rfl⟩⟩
  · rename_i t m x v
    split at h
    · obtain ⟨σ',hσ,hs⟩:=kO_sat h
      obtain ⟨w',e1,e2,e3⟩:=run_insS hI hσ
      exact ⟨_,σ',ρ,w',e2,Ext.refl _ _,Nat.le_of_eq e3.symm,rfl,hs,.inr ⟨run_u (s:=Instr.mapUpdate t (a.eval m) (a.eval x) (a.eval v)) e1,rfl⟩⟩
    · obtain ⟨σ',hσ,hs⟩:=kO_sat h
      obtain ⟨w',e1,e2,e3⟩:=run_insx hI hσ
      exact ⟨_,σ',ρ,w',e2,Ext.refl _ _,Nat.le_of_eq e3.symm,rfl,hs,.inr ⟨run_u (s:=Instr.mapUpdate t (a.eval m) (a.eval x) (a.eval v)) e1,rfl⟩⟩
  · rename_i t x ix ok
    obtain ⟨v,hs,hv⟩:=lookup_path (W:=W) (n0:=n0) (ρ0:=ρ0) (N:=N) (ρ:=ρ) h
    obtain ⟨h1,h2⟩:=hv a w hI
    exact OpS.pure hI h1 hs (run_v (s:=Instr.lookup t (a.eval x) (a.eval ix) ok) h2)
  · rename_i t x
    split at h
    · rename_i c hx
      obtain ⟨c',hc,hs⟩:=kO_sat h
      have hw:=ev_wf hI x
      rw [hx] at hw
      have hd : a.eval x = c.den ρ:=by rw [ev_den hI x,hx];rfl
      obtain ⟨e1,e2⟩:=run_ifaceC hc ρ w
      refine OpS.pure hI (show V.wf σ.n (.u (.c c')) = true from e2 _ hw) hs (run_v (s:=Instr.makeInterface t (a.eval x)) ?_)
      rw [hd]
      exact e1
    · exact h.elim
  · rename_i x xt t ok
    split at h
    · rename_i c hx
      obtain ⟨v,hc,hs⟩:=kO_sat h
      have hw:=ev_wf hI x
      rw [hx] at hw
      have hd : a.eval x = c.den ρ:=by rw [ev_den hI x,hx];rfl
      obtain ⟨e1,e2⟩:=run_tassertC (xt:=xt) hc ρ w
      refine OpS.pure hI (e2 _ hw) hs (run_v (s:=Instr.typeAssert (a.eval x) xt t ok) ?_)
      rw [hd]
      exact e1
    · exact h.elim
  · exact h.elim
end
end Go.Proofs.Ytnlohongffpkpaa.Sx
end

section
namespace Go.Proofs.Ytnlohongffpkpaa.Sx
open Go
def mget (m : Mem) (p : Int) : Option (Array Value) :=
  match p.toNat with
  | 0 => none
  | a + 1 => match m a with | some (.cells cs _ _) => some cs | _ => none
def mgetW (m : Mem) (p : Int) : Option (Array Value) :=
  match p.toNat with
  | 0 => none
  | a + 1 => match m a with | some (.cells cs _ (0,0)) => some cs | _ => none
def mcell (m : Mem) (p : Int) (k : Nat) : Value:=match mget m p with | some cs => (cs[k]?).getD undef | none => undef
def vI : Value → Int
  | .int _ n => n
  | _ => 0
def vB : Value → Bool
  | .bool b => b
  | _ => false
def vP : Value → Int
  | .pointer (some ⟨a,0,none⟩) => (a : Int) + 1
  | _ => 0
def gI (m : Mem) (p : Int) (k : Nat) : Int:=vI (mcell m p k)
def gB (m : Mem) (p : Int) (k : Nat) : Bool:=vB (mcell m p k)
def gP (m : Mem) (p : Int) (k : Nat) : Int:=vP (mcell m p k)
def rdC (z : C) (m : Mem) (p : Int) (k : Nat) : C :=
  match z with
  | .lb _ => .sb (gB m p k)
  | .li kd _ => .si kd (gI m p k)
  | .nilp => .np (gP m p k) 0
  | _ => .sv (mcell m p k)
def rdL (m : Mem) (p : Int) : Nat → List C → List C
  | _,[] => []
  | k,z :: r => rdC z m p k :: rdL m p (k + 1) r
def isK : IntKind → Value → Bool
  | kd,.int kd' _ => decide (kd = kd')
  | _,_ => false
def isB : Value → Bool
  | .bool _ => true
  | _ => false
def isP : Value → Bool
  | .pointer none => true
  | .pointer (some ⟨_,0,none⟩) => true
  | _ => false
def isPlain : Value → Bool
  | .agg _ => false
  | .tuple _ => false
  | _ => true
def okC (z : C) (v : Value) : Bool :=
  match z with
  | .lb _ => isB v
  | .li kd _ => isK kd v
  | .nilp => isP v
  | _ => isPlain v
def okR (cs : Array Value) : Nat → List C → Bool
  | _,[] => true
  | k,z :: r => (match cs[k]? with | some v => okC z v | none => false) && okR cs (k + 1) r
def okL (m : Mem) (p : Int) (off : Nat) (zs : List C) : Bool:=match mget m p with | some cs => okR cs off zs | none => false
def okS (m : Mem) (p : Int) (off sz : Nat) : Bool:=match mgetW m p with | some cs => Nat.ble (off + sz) cs.size | none => false
def putV (cs : Array Value) (k : Nat) : List Value → Array Value
  | [] => cs
  | v :: r => putV (cs.setIfInBounds k v) (k + 1) r
def wrL (m : Mem) (p : Int) (off : Nat) (vs : List Value) : Mem:=fun a =>
  if a + 1 = p.toNat then (match m a with | some (.cells cs ty q) => some (.cells (putV cs off vs) ty q) | o => o) else m a
theorem mget_at {m : Mem} {p : Int} {cs : Array Value} (h : mget m p = some cs) : ∃ a ty q,p.toNat = a + 1 ∧ m a = some (.cells cs ty q):=by
  unfold mget at h
  split at h
  · cases h
  · rename_i a e
    split at h
    · rename_i cs' ty q e2;cases h;exact ⟨a,ty,q,e,e2⟩
    · cases h
theorem mgetW_at {m : Mem} {p : Int} {cs : Array Value} (h : mgetW m p = some cs) : ∃ a ty,p.toNat = a + 1 ∧ m a = some (.cells cs ty (0,0)):=by
  unfold mgetW at h
  split at h
  · cases h
  · rename_i a e
    split at h
    · rename_i cs' ty e2;cases h;exact ⟨a,ty,e,e2⟩
    · cases h
theorem mgetW_get {m : Mem} {p : Int} {cs : Array Value} (h : mgetW m p = some cs) : mget m p = some cs:=by
  obtain ⟨a,ty,e1,e2⟩:=mgetW_at h
  unfold mget;rw [e1];simp [e2]
theorem rdC_den (ρ : Nat → Nat) {z : C} {m : Mem} {p : Int} {k : Nat} {v : Value} (hv : mcell m p k = v) (h : okC z v = true) : (rdC z m p k).den ρ = v:=by
  cases z with
  | lb b => cases v <;> simp [okC,isB] at h;simp [rdC,gB,hv,C.den,vB]
  | li kd n => cases v <;> simp [okC,isK] at h;simp [rdC,gI,hv,C.den,vI,h]
  | nilp =>
    simp only [rdC,C.den,gP,hv]
    replace h : isP v = true:=h
    unfold isP at h
    split at h
    · rfl
    · rename_i a
      simp only [vP,pv]
      rw [show ((a : Int) + 1).toNat = a + 1 by omega]
    · cases h
  | _ => simp only [rdC,C.den,hv];cases v <;> first | rfl | (cases h;done)
theorem rdC_wf (z : C) (m : Mem) (p : Int) (k n : Nat) : (rdC z m p k).wf n = true:=by cases z <;> rfl
theorem rdL_wf (m : Mem) (p : Int) (n : Nat) : ∀ (zs : List C) (k : Nat),(rdL m p k zs).all (C.wf n) = true
  | [],_ => rfl
  | z :: r,k => by simp [rdL,rdC_wf,rdL_wf m p n r]
theorem rdL_length (m : Mem) (p : Int) : ∀ (zs : List C) (k : Nat),(rdL m p k zs).length = zs.length
  | [],_ => rfl
  | z :: r,k => by simp [rdL,rdL_length m p r]
theorem rdL_get (ρ : Nat → Nat) {m : Mem} {p : Int} {cs : Array Value} (hm : mget m p = some cs) : ∀ {zs : List C} {k : Nat},okR cs k zs = true → ∀ {j : Nat} {v : Value},((rdL m p k zs).map (C.den ρ))[j]? = some v → cs[k + j]? = some v
  | [],k,_,j,v,h => by cases h
  | z :: r,k,hok,j,v,h => by
    simp only [okR,Bool.and_eq_true] at hok
    obtain ⟨h1,h2⟩:=hok
    cases j with
    | zero =>
      split at h1
      · rename_i v' e
        have : mcell m p k = v':=by unfold mcell;rw [hm];simp [e]
        have:=rdC_den ρ this h1
        simp [rdL,this] at h
        rw [Nat.add_zero,e,h]
      · cases h1
    | succ j =>
      have:=rdL_get ρ hm h2 (j:=j) (v:=v) (by simpa [rdL] using h)
      rw [show k + (j + 1) = k + 1 + j by omega]
      exact this
section
variable {P : Program} {W : World} {n0 : NL} {ρ0 ρ : Nat → Nat} {hp : Hp} {n : Nat} {w : World}
def ldM (P : Program) (t : TypeId) (m : Mem) (p : Int) (off : Nat) : Option (List C × U) :=
  match tzero P t,tagg P t with
  | some (.c z),some false => some ([z],.c (rdC z m p off))
  | some (.agg zs),some true => match tsz P t with
    | some sz => (match Nat.beq sz zs.length with | true => some (zs,.agg (rdL m p off zs)) | false => none)
    | none => none
  | _,_ => none
theorem run_loadM {t : TypeId} {p : Int} {off : Nat} {zs : List C} {u : U} (h : HInv W n0 ρ0 ρ hp n w) (hu : ldM P t hp.x p off = some (zs,u)) (hok : okL hp.x p off zs = true) :
    ∃ a,p.toNat = a + 1 ∧ (loadVar t ⟨a,off,none⟩).run P w = .ok (u.den ρ) w ∧ u.wf n = true:=by
  unfold okL at hok
  split at hok
  rotate_left
  · cases hok
  rename_i cs hm
  obtain ⟨a,ty,q,e1,e2⟩:=mget_at hm
  have hb:=h.mem.sub a _ e2
  have hcell : ∀ j,w.cell? ⟨a,j,none⟩ = cs[j]?:=fun j => by simp [World.cell?,hb]
  refine ⟨a,e1,?_⟩
  unfold ldM at hu
  split at hu
  · rename_i z hz ha
    cases hu
    refine ⟨?_,rdC_wf _ _ _ _ _⟩
    simp only [loadVar,Sem.run_bind,run_isAgg ha,Result.andThen_ok]
    refine run_load ?_
    rw [hcell]
    exact rdL_get ρ hm hok (j:=0) (by simp [rdL];rfl)
  · rename_i zs' hz ha
    split at hu
    · rename_i sz hs
      split at hu
      · rename_i hl
        cases hu
        have hl:=Nat.eq_of_beq_eq_true hl
        subst hl
        refine ⟨?_,rdL_wf _ _ _ _ _⟩
        simp only [loadVar,Sem.run_bind,run_isAgg ha,Result.andThen_ok,if_true,run_sizeOf hs]
        have:=run_loadCellsFrom (P:=P) (w:=w) ⟨a,off,none⟩ ((rdL hp.x p off zs).map (C.den ρ)) 0 #[] (by
          intro j v hj
          rw [add_at,hcell,Nat.zero_add]
          exact rdL_get ρ hm hok hj)
        simp only [List.length_map,rdL_length,Array.empty_append] at this
        simp only [loadCells,this,Result.andThen_ok,Sem.run_pure]
        rfl
      · cases hu
    · cases hu
  · cases hu
theorem HInv.write (h : HInv W n0 ρ0 ρ hp n w) {a : Nat} {o o' : Obj} (ha : hp.x a = some o) (hwr : hp.wr = true) {w' : World} (ht : Touch a w w') (hw : w'.heap[a]? = some o') {x' : Mem} (hx' : ∀ b,x' b = if b = a then some o' else hp.x b) :
    HInv W n0 ρ0 ρ { hp with x:=x' } n w':=by
  have hne:=h.mem.sep a o ha
  refine ⟨fun i hi => Nat.lt_of_lt_of_le (h.lt i hi) ht.size,h.inj,fun i b hb => ?_,h.le,h.old,h.new,ht.os.trans h.os,ht.tape.trans h.tape,ht.output.trans h.output,Nat.le_trans h.size ht.size,fun k hk hx hf => ?_,fun i m hm => ?_,h.lim,⟨fun b q e => ?_,fun b q e i hi => ?_,fun e0 b q e => ?_⟩⟩
  · obtain ⟨g1,g2,g3⟩:=h.blk i b hb
    exact ⟨g1,g2,(ht.far _ (h.lt i g1) (hne i g1)).trans g3⟩
  · rw [ht.far k (Nat.lt_of_lt_of_le hk h.size) ?_]
    · exact h.far k hk hx hf
    · intro e
      subst e
      rcases h.mem.dom hwr k o ha with h1 | h1
      · exact h1 hx
      · omega
  · obtain ⟨g1,g2,g3⟩:=h.mblk i m hm
    exact ⟨g1,g2,(ht.far _ (h.lt i g1) (hne i g1)).trans g3⟩
  · replace e : x' b = some q:=e
    rw [hx'] at e
    split at e
    · rename_i eb;subst eb;cases e;exact hw
    · rename_i eb;exact (ht.far b (h.mem.lt e) eb).trans (h.mem.sub b q e)
  · replace e : x' b = some q:=e
    rw [hx'] at e
    split at e
    · rename_i eb;subst eb;exact hne i hi
    · exact h.mem.sep b q e i hi
  · replace e : x' b = some q:=e
    rw [hx'] at e
    split at e
    · rename_i eb;subst eb;exact h.mem.dom e0 b o ha
    · exact h.mem.dom e0 b q e
theorem putC_putV (ρ : Nat → Nat) : ∀ (us : List C) (cs : List C) (off : Nat),dens ρ (putC cs off us) = putV (dens ρ cs) off (us.map (C.den ρ))
  | [],cs,off => rfl
  | u :: us,cs,off => by
    simp only [putC,List.map_cons,putV]
    rw [putC_putV ρ us,dens_set]
theorem run_storeM {t : TypeId} {p : Int} {off : Nat} {u : U} (h : HInv W n0 ρ0 ρ hp n w) (hs : tsz P t = some u.cells.length) (hpl : u.cells.all C.plain = true) (huw : u.wf 0 = true) (hwr : hp.wr = true) (hok : okS hp.x p off u.cells.length = true) :
    ∃ a w',p.toNat = a + 1 ∧ (storeVar t ⟨a,off,none⟩ (u.den ρ)).run P w = .ok () w' ∧ HInv W n0 ρ0 ρ { hp with x:=wrL hp.x p off (u.cells.map (C.den fun _ => 0)) } n w':=by
  unfold okS at hok
  split at hok
  rotate_left
  · cases hok
  rename_i cs hm
  have hok:=Nat.le_of_ble_eq_true hok
  obtain ⟨a,ty,e1,e2⟩:=mgetW_at hm
  have hb:=h.mem.sub a _ e2
  have hlt:=h.mem.lt e2
  have ecs : dens (fun _ => a) (cs.toList.map C.raw) = cs:=by
    simp only [dens,List.map_map]
    have : (C.den (fun _ => a) ∘ C.raw) = id:=funext fun v => rfl
    simp [this]
  have hH0 : HInv w ⟨1,0,noM⟩ (fun _ => a) (fun _ => a) (hcons (0,(cs.toList.map C.raw,ty)) hnil) 1 w:=by
    refine ⟨fun _ _ => hlt,fun i j hi hj _ => by omega,?_,Nat.le_refl _,Ext.refl _ _,(fun i h1 h2 => absurd h2 (Nat.not_lt.2 h1)),rfl,rfl,rfl,Nat.le_refl _,fun _ _ _ _ => rfl,(fun i m hm => by cases hm),rfl,MR.none _ _ _ _ _ _⟩
    intro i b' hi
    simp only [lookH_hcons,lookH_hnil] at hi
    split at hi
    · rename_i e
      cases hi
      refine ⟨by have:=Nat.eq_of_beq_eq_true e;omega,?_,?_⟩
      · simp only [List.all_map,List.all_eq_true];exact fun _ _ => rfl
      · rw [ecs];exact hb
    · cases hi
  obtain ⟨w',r1,r2⟩:=run_storeVar (P:=P) (t:=t) (off:=off) hH0 (id:=0) (b:=(cs.toList.map C.raw,ty)) rfl (Nat.le_refl 0) hs (by simpa using hok) (U.wf_mono (Nat.zero_le _) u huw) hpl
  have ed : U.den (fun _ => a) u = U.den ρ u:=V.den_ext (n:=0) (ρ:=ρ) (ρ':=fun _ => a) (fun i hi => by omega) (.u u) huw
  rw [ed] at r1
  obtain ⟨_,_,g3⟩:=r2.blk 0 (putC (cs.toList.map C.raw) off u.cells,ty) rfl
  refine ⟨a,w',e1,r1,h.write e2 hwr ⟨r2.os,r2.tape,r2.output,r2.size,fun k hk hne => r2.far k hk rfl fun i _ hi => Ne.symm hne⟩ g3 fun b => ?_⟩
  show (if b + 1 = p.toNat then _ else _) = _
  rw [e1]
  by_cases e : b = a
  · subst e
    rw [if_pos rfl,if_pos rfl,e2,putC_putV,ecs]
    have : u.cells.map (C.den fun _ => 0) = u.cells.map (C.den fun _ => b):=by
      have:=U.cells_wf u huw
      simp only [List.all_eq_true] at this
      exact List.map_congr_left fun x hx => C.den_ext (n:=0) (fun i hi => by omega) x (this x hx)
    rw [this]
  · rw [if_neg (by omega),if_neg e]
def alM (m : Mem) (p : Int) (vs : Array Value) (ty : Nat) : Mem:=fun a => if a + 1 = p.toNat then some (.cells vs ty (0,0)) else m a
def newQ (m : Mem) (vs : Array Value) (ty : Nat) : Vars → Prop:=fun y => ∃ a : Nat,y.i = [(a : Int) + 1] ∧ m a = none ∧ y.m = alM m ((a : Int) + 1) vs ty
theorem HInv.fresh (h : HInv W n0 ρ0 ρ hp n w) (vs : Array Value) (ty : Nat) : HInv W n0 ρ0 ρ { hp with x:=alM hp.x ((w.heap.size : Int) + 1) vs ty } n (w.alloc (.cells vs ty)):=by
  have hsz : (w.alloc (.cells vs ty)).heap.size = w.heap.size + 1:=by rw [heap_alloc,Array.size_push]
  have hget : ∀ k,k < w.heap.size → (w.alloc (.cells vs ty)).heap[k]? = w.heap[k]?:=fun k hk => by rw [heap_alloc,Array.getElem?_push,if_neg (Nat.ne_of_lt hk)]
  have ex : ∀ b,alM hp.x ((w.heap.size : Int) + 1) vs ty b = if b = w.heap.size then some (.cells vs ty (0,0)) else hp.x b:=by
    intro b
    unfold alM
    rw [show ((w.heap.size : Int) + 1).toNat = w.heap.size + 1 by omega]
    by_cases e : b = w.heap.size
    · rw [if_pos (by omega),if_pos e]
    · rw [if_neg (by omega),if_neg e]
  refine ⟨fun i hi => by have:=h.lt i hi;omega,h.inj,fun i b hb => ?_,h.le,h.old,h.new,h.os,h.tape,h.output,by have:=h.size;omega,fun k hk hx hf => ?_,fun i m hm => ?_,h.lim,⟨fun b q e => ?_,fun b q e i hi => ?_,fun e0 b q e => ?_⟩⟩
  · obtain ⟨g1,g2,g3⟩:=h.blk i b hb
    exact ⟨g1,g2,(hget _ (h.lt i g1)).trans g3⟩
  · have:=h.size
    rw [hget k (by omega)]
    exact h.far k hk hx hf
  · obtain ⟨g1,g2,g3⟩:=h.mblk i m hm
    exact ⟨g1,g2,(hget _ (h.lt i g1)).trans g3⟩
  · replace e:=(ex b).symm.trans e
    split at e
    · rename_i eb;subst eb;cases e
      rw [heap_alloc,Array.getElem?_push,if_pos rfl]
    · exact (hget b (h.mem.lt e)).trans (h.mem.sub b q e)
  · replace e:=(ex b).symm.trans e
    split at e
    · rename_i eb;subst eb;exact Nat.ne_of_lt (h.lt i hi)
    · exact h.mem.sep b q e i hi
  · replace e:=(ex b).symm.trans e
    split at e
    · rename_i eb;subst eb;exact .inr h.size
    · exact h.mem.dom e0 b q e
structure MemTo (m m' : Mem) (w w' : World) : Prop where
  os : w'.os = w.os
  tape : w'.tape = w.tape
  output : w'.output = w.output
  size : w.heap.size ≤ w'.heap.size
  sub : ∀ a o,m' a = some o → w'.heap[a]? = some o
  far : ∀ k,k < w.heap.size → m k = none → w'.heap[k]? = w.heap[k]?
  dom : ∀ a o,m' a = some o → m a ≠ none ∨ w.heap.size ≤ a
theorem HInv.memTo (h : HInv W n0 ρ0 ρ hp n w) (hwr : hp.wr = true) {m' : Mem} {w' : World} (ht : MemTo hp.x m' w w') : HInv W n0 ρ0 ρ { hp with x:=m' } n w':=by
  have hloc : ∀ i,i < n → hp.x (ρ i) = none:=fun i hi => by
    cases e : hp.x (ρ i) with
    | none => rfl
    | some o => exact absurd rfl (h.mem.sep _ o e i hi)
  refine ⟨fun i hi => Nat.lt_of_lt_of_le (h.lt i hi) ht.size,h.inj,fun i b hb => ?_,h.le,h.old,h.new,ht.os.trans h.os,ht.tape.trans h.tape,ht.output.trans h.output,Nat.le_trans h.size ht.size,fun k hk hx hf => ?_,fun i m hm => ?_,h.lim,⟨ht.sub,fun b q e i hi => ?_,fun _ b q e => ?_⟩⟩
  · obtain ⟨g1,g2,g3⟩:=h.blk i b hb
    exact ⟨g1,g2,(ht.far _ (h.lt i g1) (hloc i g1)).trans g3⟩
  · rw [ht.far k (Nat.lt_of_lt_of_le hk h.size) ?_]
    · exact h.far k hk hx hf
    · cases e : hp.x k with
      | none => rfl
      | some o =>
        rcases h.mem.dom hwr k o e with h1 | h1
        · exact absurd hx h1
        · omega
  · obtain ⟨g1,g2,g3⟩:=h.mblk i m hm
    exact ⟨g1,g2,(ht.far _ (h.lt i g1) (hloc i g1)).trans g3⟩
  · intro e1
    rcases ht.dom b q e with h1 | h1
    · rw [← e1] at h1;exact h1 (hloc i hi)
    · have:=h.lt i hi;omega
  · rcases ht.dom b q e with h1 | h1
    · cases e1 : hp.x b with
      | none => exact absurd e1 h1
      | some o => exact h.mem.dom hwr b o e1
    · exact .inr (Nat.le_trans h.size h1)
end
end Go.Proofs.Ytnlohongffpkpaa.Sx
end

section
namespace Go.Proofs.Ytnlohongffpkpaa.Sx
open Go
def isNp : V → Bool
  | .u (.c (.np _ _)) => true
  | _ => false
def onM (o : Op) (σ : St) : Bool :=
  match o with
  | .load _ x => isNp (ev σ x)
  | .store _ x _ => isNp (ev σ x)
  | .nilCheck x => isNp (ev σ x)
  | .fieldAddr _ x _ => isNp (ev σ x)
  | .binOp _ _ x y _ => isNp (ev σ x) || isNp (ev σ y)
  | .alloc t => σ.hp.mt.any (Nat.beq t)
  | .indexAddr _ x _ => isNp (ev σ x)
  | _ => false
def nzp (p : Int) : Bool:=Nat.blt 0 p.toNat
def npOf : V → Option Int
  | .u (.c (.np p 0)) => some p
  | .u (.c .nilp) => some 0
  | _ => none
def cmpOK (m : Mem) (p q : Int) : Bool:=Nat.beq p.toNat 0 || (Nat.beq q.toNat 0 || ((mgetW m p).isSome && (mgetW m q).isSome))
def peq (p q : Int) : Bool:=Nat.beq p.toNat q.toNat
def ptrSz (P : Program) (t : TypeId) : Bool :=
  match P.underlying t with
  | some (.pointer e) => (match P.info? e with | some ie => notb (Nat.beq ie.size 0) | none => false)
  | _ => false
def pI : List Int → Int
  | p :: _ => p
  | [] => 0
def idxM (P : Program) (t : TypeId) (p : Int) (off : Nat) (kd : IntKind) (n : Int) (k : V → Tr) : Tr :=
  kO (idxC P t (.ptr 0 off) (.li kd n)) fun c => match c with | .ptr _ d => .br (nzp p) (k (.u (.c (.np p d)))) (.no 81) | _ => .no 81
def arrE (P : Program) (t : TypeId) : Option (Nat × Nat):=match P.underlying t with | some (.array len e) => (match tsz P e with | some sz => some (len,sz) | none => none) | _ => none
def aOff (off : Nat) (n : Int) (sz : Nat) : Nat:=off + n.toNat * sz
def inR (n : Int) (len : Nat) : Bool:=decide (0 ≤ n ∧ n < (len : Int))
def opxM (P : Program) (o : Op) (σ : St) (k : V → St → Tr) : Tr :=
  match o with
  | .load t x => match ev σ x with
    | .u (.c (.np p off)) => kO (ldM P t σ.hp.x p off) fun q => .br (okL σ.hp.x p off q.1) (k (.u q.2) σ) (.no 70)
    | _ => .no 71
  | .store t x y => match ev σ x,ev σ y with
    | .u (.c (.np p off)),.u u => kO (tsz P t) fun sz => (match Nat.beq sz u.cells.length,u.cells.all C.plain,u.wf 0,σ.hp.wr with
      | true,true,true,true => .br (okS σ.hp.x p off u.cells.length) (.letm (wrL σ.hp.x p off (u.cells.map (C.den fun _ => 0))) fun m => k (.tup []) { σ with hp:={ σ.hp with x:=m } }) (.no 72)
      | _,_,_,_ => .no 73)
    | _,_ => .no 74
  | .nilCheck x => match ev σ x with
    | .u (.c (.np p off)) => .br (nzp p) (k (.u (.c (.np p off))) σ) (.no 75)
    | _ => .no 75
  | .fieldAddr s x f => match ev σ x with
    | .u (.c (.np p off)) => kO (fieldOff P s f) fun d => .br (nzp p) (k (.u (.c (.np p (off + d)))) σ) (.no 76)
    | _ => .no 76
  | .binOp op t x y _ => kO (npOf (ev σ x)) fun p => kO (npOf (ev σ y)) fun q => (match ptrSz P t with
    | true => .br (cmpOK σ.hp.x p q) (match op with
      | .eql => k (.u (.c (.sb (peq p q)))) σ
      | .neq => k (.u (.c (.sb (bNot (peq p q))))) σ
      | _ => .no 77) (.no 78)
    | false => .no 79)
  | .alloc t => kO (tzero P t) fun u => (match u.cells.all C.plain with
    | true => .any (newQ σ.hp.x (dens (fun _ => 0) u.cells) t) fun y => k (.u (.c (.np (pI y.i) 0))) { σ with hp:={ σ.hp with x:=y.m } }
    | false => .no 80)
  | .indexAddr t x ix => match ev σ x,ev σ ix with
    | .u (.c (.np p off)),.u (.c (.li kd n)) => idxM P t p off kd n fun v => k v σ
    | .u (.c (.np p off)),.u (.c (.si _ n)) => kO (arrE P t) fun q => .br (nzp p) (.br (inR n q.1) (k (.u (.c (.np p (aOff off n q.2)))) σ) (.no 82)) (.no 81)
    | _,_ => .no 82
  | _ => .no 71
section
variable {P : Program} {W : World} {n0 : NL} {ρ0 : Nat → Nat} {N : Nat} {ρ : Nat → Nat} {σ : St} {a : Act} {w : World} {R : Leaf → Prop}
theorem npOf_den {v : V} {p : Int} (h : npOf v = some p) (ρ : Nat → Nat) : v.den ρ = pv p 0:=by
  unfold npOf at h
  split at h
  · cases h;rfl
  · cases h;rfl
  · cases h
theorem nz_at {p : Int} (h : nzp p = true) : ∃ a,p.toNat = a + 1:=by
  have : 0 < p.toNat:=by simpa [nzp,Nat.blt_eq] using h
  exact ⟨p.toNat - 1,by omega⟩
theorem pv_at {p : Int} {a off : Nat} (h : p.toNat = a + 1) : pv p off = .pointer (some ⟨a,off,none⟩):=by
  unfold pv;rw [h]
theorem cmp_run {t : TypeId} {p q : Int} {hp : Hp} {n : Nat} (hz : ptrSz P t = true) (hH : HInv W n0 ρ0 ρ hp n w) (hok : cmpOK hp.x p q = true) :
    (binOp .eql t (pv p 0) (pv q 0)).run P w = .ok (.bool (peq p q)) w ∧ (binOp .neq t (pv p 0) (pv q 0)).run P w = .ok (.bool (notb (peq p q))) w ∧
      ∀ (op : BinOp) (ox oy : Operand),(eqGuard op t ox oy (pv p 0) (pv q 0)).run P w = .ok () w:=by
  have key : ∀ (x y : Option Addr) (b : Bool),(∀ d,(Op.equalIn (d + 1) t (.pointer x) (.pointer y)).run P w = .ok b w) →
      (binOp .eql t (.pointer x) (.pointer y)).run P w = .ok (.bool b) w ∧ (binOp .neq t (.pointer x) (.pointer y)).run P w = .ok (.bool (notb b)) w ∧
      ∀ (op : BinOp) (ox oy : Operand),(eqGuard op t ox oy (.pointer x) (.pointer y)).run P w = .ok () w:=by
    intro x y b hr
    have e:=hr 9999
    refine ⟨by simp [binOp,Op.equal,Op.maxDepth,e],?_,fun op ox oy => by unfold eqGuard;split <;> simp⟩
    simp only [binOp,Op.equal,Op.maxDepth,Sem.run_bind,e,Result.andThen_ok,Sem.run_pure];cases b <;> rfl
  unfold ptrSz at hz
  split at hz
  rotate_left
  · cases hz
  rename_i e hu
  split at hz
  rotate_left
  · cases hz
  rename_i ie hie
  have hz : ie.size ≠ 0:=by
    intro e0;rw [e0] at hz;cases hz
  unfold pv peq
  cases hp0 : p.toNat with
  | zero =>
    cases hq0 : q.toNat with
    | zero => exact key none none true (fun d => by simp [Op.equalIn,run_underlying hu])
    | succ b => exact key none (some ⟨b,0,none⟩) false (fun d => by simp [Op.equalIn,run_underlying hu])
  | succ a0 =>
    cases hq0 : q.toNat with
    | zero => exact key (some ⟨a0,0,none⟩) none false (fun d => by simp [Op.equalIn,run_underlying hu])
    | succ b =>
      refine key (some ⟨a0,0,none⟩) (some ⟨b,0,none⟩) _ (fun d => ?_)
      by_cases hab : a0 = b
      · subst hab
        simp [Op.equalIn,run_underlying hu,sizeOf,typeInfo,hie,run_sameAddr_same]
      · have hne : (⟨a0,0,none⟩ : Addr) ≠ ⟨b,0,none⟩:=by
          intro e;simp only [Addr.mk.injEq,and_true] at e;exact hab e
        have hf : Nat.beq (a0 + 1) (b + 1) = false:=Nat.beq_eq_false_iff.2 (by omega)
        simp only [cmpOK,hp0,hq0,Nat.beq,Bool.false_or,Bool.and_eq_true] at hok
        obtain ⟨c1,g1⟩:=Option.isSome_iff_exists.1 hok.1
        obtain ⟨c2,g2⟩:=Option.isSome_iff_exists.1 hok.2
        obtain ⟨a1,ty1,f1,k1⟩:=mgetW_at g1
        obtain ⟨a2,ty2,f2,k2⟩:=mgetW_at g2
        obtain rfl : a1 = a0:=by omega
        obtain rfl : a2 = b:=by omega
        rw [hf]
        simp [Op.equalIn,run_underlying hu,sizeOf,typeInfo,hie,hz,run_sameAddr_other w hne (hH.mem.sub _ _ k1) (hH.mem.sub _ _ k2)]
theorem idxM_run {t : TypeId} {p : Int} {off : Nat} {kd : IntKind} {n : Int} {k : V → Tr} (h : (idxM P t p off kd n k).sat R) :
    ∃ a d,p.toNat = a + 1 ∧ (k (.u (.c (.np p d)))).sat R ∧ ∀ w,(Instr.indexAt t (.pointer (some ⟨a,off,none⟩)) (.int kd n)).run P w = .ok (.pointer (some ⟨a,d,none⟩)) w:=by
  unfold idxM at h
  obtain ⟨c,hc,h⟩:=kO_sat h
  split at h
  · rename_i i d
    have hok : nzp p = true:=by
      cases e : nzp p with
      | true => rfl
      | false => exact (h.2 e).elim
    obtain ⟨a,e1⟩:=nz_at hok
    refine ⟨a,d,e1,h.1 hok,fun w => ?_⟩
    exact (run_idxC (n:=1) hc rfl (fun _ => a) w).1
  · exact h.elim
theorem opxM_index {t : TypeId} {x ix : Operand} {k : V → St → Tr} (h : (opxM P (.indexAddr t x ix) σ k).sat R) :
    ∃ p off a d,ev σ x = .u (.c (.np p off)) ∧ p.toNat = a + 1 ∧ (k (.u (.c (.np p d))) σ).sat R ∧ ∃ ci,ev σ ix = .u (.c ci) ∧ ∀ ρ w,(Instr.indexAt t (.pointer (some ⟨a,off,none⟩)) (C.den ρ ci)).run P w = .ok (.pointer (some ⟨a,d,none⟩)) w:=by
  unfold opxM at h
  simp only at h
  split at h
  · rename_i p off kd n hx hix
    obtain ⟨a,d,e1,hs,e2⟩:=idxM_run h
    exact ⟨p,off,a,d,hx,e1,hs,_,hix,fun ρ w => e2 w⟩
  · rename_i p off kd n hx hix
    obtain ⟨q,hq,h⟩:=kO_sat h
    have hok : nzp p = true:=by
      cases e : nzp p with
      | true => rfl
      | false => exact (h.2 e).elim
    replace h:=h.1 hok
    have hin : inR n q.1 = true:=by
      cases e : inR n q.1 with
      | true => rfl
      | false => exact (h.2 e).elim
    replace h:=h.1 hin
    obtain ⟨a,e1⟩:=nz_at hok
    refine ⟨p,off,a,aOff off n q.2,hx,e1,h,_,hix,fun ρ w => ?_⟩
    have hb:=of_decide_eq_true hin
    unfold arrE at hq
    split at hq
    · rename_i len e hu
      split at hq
      · rename_i sz hs
        cases hq
        simp [C.den,Instr.indexAt,run_underlying hu,asIntOf,Instr.sureAddr,hb.1,hb.2,run_sizeOf hs,add_at,aOff]
      · cases hq
    · cases hq
  · exact h.elim
theorem opxM_sound {o : Oper} {k : V → St → Tr} (hI : Inv W n0 ρ0 N ρ σ a w) (h : (opxM P o.op σ k).sat R) : OpS P W n0 ρ0 N R ρ σ a w (execOp a.eval o) k:=by
  obtain ⟨dst,op,type,pos,after,guard⟩:=o
  simp only at h
  unfold opxM at h
  split at h
  · rename_i t x
    split at h
    · rename_i p off hx
      obtain ⟨q,hq,hs⟩:=kO_sat h
      have hok : okL σ.hp.x p off q.1 = true:=by
        cases e : okL σ.hp.x p off q.1 with
        | true => rfl
        | false => exact (hs.2 e).elim
      obtain ⟨b,e1,e2,e3⟩:=run_loadM (P:=P) (zs:=q.1) (u:=q.2) hI.H hq hok
      refine OpS.pure hI (show V.wf σ.n (.u q.2) = true from e3) (hs.1 hok) ?_
      refine run_v (s:=Instr.loadAt t (a.eval x)) ?_
      have hd : a.eval x = .pointer (some ⟨b,off,none⟩):=by rw [ev_den hI x,hx];exact pv_at e1
      simp only [hd,Instr.loadAt,Instr.sureAddr,Sem.run_bind,Sem.run_pure,Result.andThen_ok]
      exact e2
    · exact h.elim
  · rename_i t x y
    split at h
    · rename_i p off u hx hy
      obtain ⟨sz,hz,hs⟩:=kO_sat h
      split at hs
      · rename_i h1 h2 h3 h4
        have h1':=Nat.eq_of_beq_eq_true h1
        subst h1'
        have hok : okS σ.hp.x p off u.cells.length = true:=by
          cases e : okS σ.hp.x p off u.cells.length with
          | true => rfl
          | false => exact (hs.2 e).elim
        obtain ⟨b,w',e1,e2,e3⟩:=run_storeM (P:=P) hI.H hz h2 h3 h4 hok
        have hd : a.eval x = .pointer (some ⟨b,off,none⟩):=by rw [ev_den hI x,hx];exact pv_at e1
        have hd2 : a.eval y = u.den ρ:=by rw [ev_den hI y,hy];rfl
        refine ⟨_,_,ρ,w',hI.later (Ext.refl _ _) (Nat.le_refl _) e3,Ext.refl _ _,Nat.le_refl _,rfl,hs.1 hok,.inr ⟨?_,rfl⟩⟩
        refine run_u (s:=Instr.storeAt t (a.eval x) (a.eval y)) ?_
        simp only [hd,hd2,Instr.storeAt,Instr.sureAddr,Sem.run_bind,Sem.run_pure,Result.andThen_ok]
        exact e2
      · exact hs.elim
    · exact h.elim
  · rename_i x
    split at h
    · rename_i p off hx
      have hok : nzp p = true:=by
        cases e : nzp p with
        | true => rfl
        | false => exact (h.2 e).elim
      obtain ⟨b,e1⟩:=nz_at hok
      have hd : a.eval x = .pointer (some ⟨b,off,none⟩):=by rw [ev_den hI x,hx];exact pv_at e1
      exact OpS.pure hI rfl (h.1 hok) (by simp [execOp,hd,V.den,U.den,C.den,pv_at e1])
    · exact h.elim
  · rename_i s x f
    split at h
    · rename_i p off hx
      obtain ⟨d,hd0,hs⟩:=kO_sat h
      have hok : nzp p = true:=by
        cases e : nzp p with
        | true => rfl
        | false => exact (hs.2 e).elim
      obtain ⟨b,e1⟩:=nz_at hok
      have hd : a.eval x = .pointer (some ⟨b,off,none⟩):=by rw [ev_den hI x,hx];exact pv_at e1
      refine OpS.pure hI rfl (hs.1 hok) ?_
      refine run_v (s:=Instr.fieldAt s (a.eval x) f) ?_
      rw [hd]
      have e2 : V.den ρ (.u (.c (.np p (off + d)))) = .pointer (some ⟨b,off + d,none⟩):=pv_at e1
      rw [e2]
      exact run_fieldOff hd0 _ _ _
    · exact h.elim
  · rename_i op t x y ty
    obtain ⟨p,hx,hs⟩:=kO_sat h
    obtain ⟨q,hy,hs⟩:=kO_sat hs
    split at hs
    · rename_i hz
      have hok : cmpOK σ.hp.x p q = true:=by
        cases e : cmpOK σ.hp.x p q with
        | true => rfl
        | false => exact (hs.2 e).elim
      obtain ⟨g1,g2,g3⟩:=cmp_run hz hI.H hok
      have hdx : a.eval x = pv p 0:=by rw [ev_den hI x];exact npOf_den hx ρ
      have hdy : a.eval y = pv q 0:=by rw [ev_den hI y];exact npOf_den hy ρ
      have hs:=hs.1 hok
      split at hs
      · refine OpS.pure hI rfl hs (run_v (s:=(do eqGuard .eql t x y (a.eval x) (a.eval y);binOp .eql t (a.eval x) (a.eval y))) ?_)
        rw [hdx,hdy]
        simp only [Sem.run_bind,g3,Result.andThen_ok]
        exact g1
      · refine OpS.pure hI rfl hs (run_v (s:=(do eqGuard .neq t x y (a.eval x) (a.eval y);binOp .neq t (a.eval x) (a.eval y))) ?_)
        rw [hdx,hdy]
        simp only [Sem.run_bind,g3,Result.andThen_ok]
        rw [g2];cases peq p q <;> rfl
      · exact hs.elim
    · exact hs.elim
  · rename_i t
    obtain ⟨u,hu,hs⟩:=kO_sat h
    split at hs
    · rename_i hp
      have hw:=tzero_wf hu 0
      have hs:=hs ⟨[(w.heap.size : Int) + 1],[],[],alM σ.hp.x ((w.heap.size : Int) + 1) (dens (fun _ => 0) u.cells) t⟩ ⟨w.heap.size,rfl,hI.H.mem.fresh,rfl⟩
      have ed : dens (fun _ => 0) u.cells = dens ρ u.cells:=dens_ext (n:=0) (fun i hi => by omega) u.cells (U.cells_wf u hw)
      refine ⟨_,_,ρ,w.alloc (.cells (dens ρ u.cells) t),hI.later (Ext.refl _ _) (Nat.le_refl _) (hI.H.fresh _ _),Ext.refl _ _,Nat.le_refl _,rfl,(ed ▸ hs),.inl ?_⟩
      refine run_v (s:=Instr.alloc t true (.tuple #[])) ?_
      simp only [Instr.alloc,Sem.run_bind,run_zeroValue hu ρ,Result.andThen_ok,newVar,newRow,U.den_cells ρ u (plain_of_all hp),run_newObj,Sem.run_pure]
      simp [C.den,V.den,U.den,pI,pv,World.alloc_eq]
    · exact hs.elim
  · rename_i t x ix
    obtain ⟨p,off,c,d,hx,e1,hs,ci,hix,hr⟩:=opxM_index (P:=P) (t:=t) (x:=x) (ix:=ix) (k:=k) h
    refine OpS.pure hI rfl hs (run_v (s:=Instr.indexAt t (a.eval x) (a.eval ix)) ?_)
    have hd : a.eval x = .pointer (some ⟨c,off,none⟩):=by rw [ev_den hI x,hx];exact pv_at e1
    have hd2 : a.eval ix = ci.den ρ:=by rw [ev_den hI ix,hix];rfl
    have e2 : V.den ρ (.u (.c (.np p d))) = .pointer (some ⟨c,d,none⟩):=pv_at e1
    rw [hd,hd2,e2]
    exact hr ρ w
  · exact h.elim
end
end Go.Proofs.Ytnlohongffpkpaa.Sx
end

section
namespace Go.Proofs.Ytnlohongffpkpaa.Sx
open Go
def smp : Value → Bool
  | .int _ _ => true
  | .bool _ => true
  | .string _ => true
  | _ => false
def cEq : Value → Value → Bool
  | .int k a,.int k' b => decide (k = k') && decide (a = b)
  | .bool a,.bool b => decide (a = b)
  | .string a,.string b => decide (a.data.toList = b.data.toList)
  | _,_ => false
def cEqL : List Value → List Value → Bool
  | [],[] => true
  | a :: r,b :: s => cEq a b && cEqL r s
  | _,_ => false
def kEq : Value → Value → Bool
  | .agg xs,.agg ys => cEqL xs.toList ys.toList
  | .agg _,_ => false
  | a,b => cEq a b
def kSmp : Value → Bool
  | .agg xs => xs.toList.all smp
  | v => smp v
theorem cEq_iff {a b : Value} (h : smp a = true) : cEq a b = true ↔ a = b:=by
  cases a <;> simp [smp] at h <;> cases b <;> simp [cEq]
  constructor
  · intro e
    rename_i x y
    cases x;cases y
    simp only [ByteArray.mk.injEq] at e ⊢
    exact e
  · intro e;rw [e]
theorem cEqL_iff : ∀ {xs ys : List Value},xs.all smp = true → (cEqL xs ys = true ↔ xs = ys)
  | [],[],_ => by simp [cEqL]
  | [],_ :: _,_ => by simp [cEqL]
  | _ :: _,[],_ => by simp [cEqL]
  | a :: r,b :: s,h => by
    simp only [List.all_cons,Bool.and_eq_true] at h
    simp [cEqL,cEq_iff h.1,cEqL_iff h.2]
theorem kEq_iff {a b : Value} (h : kSmp a = true) : kEq a b = true ↔ a = b:=by
  cases a with
  | agg xs =>
    cases b with
    | agg ys =>
      simp only [kEq,Value.agg.injEq]
      rw [cEqL_iff (by simpa [kSmp] using h)]
      constructor
      · exact fun e => Array.ext' e
      · exact fun e => by rw [e]
    | _ => simp [kEq]
  | int _ _ => exact cEq_iff rfl
  | bool _ => exact cEq_iff rfl
  | string _ => exact cEq_iff rfl
  | _ => cases h
def mpE (m : Mem) (v : Value) : List MapEntry :=
  match v with
  | .map (some r) => (match m r with | some (.map es _) => es.toList | _ => [])
  | _ => []
def efind (k : Value) : List MapEntry → Nat → Option (Nat × Value)
  | [],_ => none
  | e :: r,i => match kEq k e.key with | true => some (i,e.val) | false => efind k r (i + 1)
def mlook (m : Mem) (v k : Value) : Option Value:=(efind k (mpE m v) 0).map (·.2)
def mhas (m : Mem) (v k : Value) : Bool:=(mlook m v k).isSome
def mlen (m : Mem) (v : Value) : Int:=(mpE m v).length
def okM (P : Program) (kt : TypeId) (m : Mem) (v : Value) : Prop :=
  v = .map none ∨ ∃ r es c,v = .map (some r) ∧ m r = some (.map es c) ∧ (∀ e ∈ es.toList,∃ l,keyOf P kt e.key = some l) ∧ es.toList.Pairwise (fun a b => a.key ≠ b.key)
def okKey (P : Program) (kt : TypeId) (k : Value) : Prop:=(∃ l,keyOf P kt k = some l) ∧ kSmp k = true
def esPut (k x : Value) (c : Nat) (es : Array MapEntry) : Obj :=
  match efind k es.toList 0 with
  | some q => .map (es.modify q.1 fun e => { e with key:=k,val:=x }) c
  | none => .map (es.push { key:=k,val:=x,born:=c }) (c + 1)
def esDel (k : Value) (c : Nat) (es : Array MapEntry) : Obj :=
  match efind k es.toList 0 with
  | some q => .map (es.eraseIdxIfInBounds q.1) c
  | none => .map es c
def mchg (g : Nat → Array MapEntry → Obj) (m : Mem) (v : Value) : Mem :=
  match v with
  | .map (some r) => fun a => if a = r then (match m a with | some (.map es c) => some (g c es) | o => o) else m a
  | _ => m
def mput (m : Mem) (v k x : Value) : Mem:=mchg (fun c es => esPut k x c es) m v
def mdel (m : Mem) (v k : Value) : Mem:=mchg (fun c es => esDel k c es) m v
def isMpV : Value → Bool
  | .map _ => true
  | _ => false
def isNilM : Value → Bool
  | .map none => true
  | _ => false
theorem efind_none {k : Value} (hk : kSmp k = true) : ∀ {es : List MapEntry} {i : Nat},(∀ e ∈ es,e.key ≠ k) → efind k es i = none
  | [],_,_ => rfl
  | e :: r,i,h => by
    have : kEq k e.key = false:=by
      cases hb : kEq k e.key with
      | false => rfl
      | true => exact absurd ((kEq_iff hk).1 hb).symm (h e (by simp))
    simp only [efind,this]
    exact efind_none hk fun e he => h e (by simp [he])
theorem efind_some {k : Value} (hk : kSmp k = true) : ∀ {es : List MapEntry} {i j : Nat} {e : MapEntry},es.Pairwise (fun a b => a.key ≠ b.key) → es[j]? = some e → e.key = k → efind k es i = some (i + j,e.val)
  | [],_,_,_,_,h,_ => by cases h
  | a :: r,i,0,e,_,h,he => by
    cases h
    simp only [efind,(kEq_iff hk).2 he.symm]
    rfl
  | a :: r,i,j + 1,e,hd,h,he => by
    obtain ⟨h1,h2⟩:=List.pairwise_cons.1 hd
    have h' : r[j]? = some e:=by simpa using h
    have : kEq k a.key = false:=by
      cases hb : kEq k a.key with
      | false => rfl
      | true => exact absurd (((kEq_iff hk).1 hb).symm.trans he.symm) (h1 e (List.mem_of_getElem? h'))
    simp only [efind,this]
    rw [efind_some hk h2 h' he,show i + 1 + j = i + (j + 1) by omega]
section
variable {P : Program} {w : World}
theorem find_run {kt : TypeId} (K : Go.Maps.Keyed P kt) {k : Value} (hk : okKey P kt k) {es : List MapEntry} (hes : ∀ e ∈ es,∃ l,keyOf P kt e.key = some l) (hd : es.Pairwise (fun a b => a.key ≠ b.key)) :
    (Instr.findKey kt k es).run P w = .ok (efind k es 0) w ∧ ∀ i x,efind k es 0 = some (i,x) → ∃ e,es[i]? = some e ∧ e.key = k ∧ e.val = x:=by
  obtain ⟨⟨l,hl⟩,hs⟩:=hk
  rcases K.find w hl es hes with ⟨h1,h2⟩ | ⟨j,e,h1,h2,h3⟩
  · have:=efind_none hs (i:=0) h2
    exact ⟨by rw [this];exact h1,fun i x hx => by rw [this] at hx;cases hx⟩
  · have:=efind_some hs (i:=0) hd h2 h3
    rw [Nat.zero_add] at this
    exact ⟨by rw [this];exact h1,fun i x hx => by rw [this] at hx;cases hx;exact ⟨e,h2,h3,rfl⟩⟩
theorem run_lookupM {kt et t : TypeId} (K : Go.Maps.Keyed P kt) (hu : P.underlying t = some (.map kt et)) {m : Mem} {v k z : Value} (hsub : ∀ a o,m a = some o → w.heap[a]? = some o) (hm : okM P kt m v) (hk : okKey P kt k)
    (hz : (zeroValue et).run P w = .ok z w) (ok : Bool) :
    (Instr.lookup t v k ok).run P w = .ok (if ok then .tuple #[(mlook m v k).getD z,.bool (mhas m v k)] else (mlook m v k).getD z) w:=by
  have hck : ∀ em,(Instr.checkKey em 10000 kt k).run P w = .ok () w:=fun em => K.check w em hk.1.choose_spec
  rcases hm with rfl | ⟨r,es,c,rfl,hr,hes,hd⟩
  · have : mlook m (.map none) k = none:=rfl
    simp only [Instr.lookup,Sem.run_bind,run_underlying hu,Result.andThen_ok,Sem.run_pure,hck,mhas,this]
    have hf : (Instr.findKey kt k (#[] : Array MapEntry).toList).run P w = .ok none w:=(find_run K hk (es:=[]) (fun _ h => by cases h) List.Pairwise.nil).1
    rw [hf]
    simp only [Result.andThen_ok,Sem.run_bind,hz,Sem.run_pure]
    cases ok <;> simp
  · have hE : mpE m (.map (some r)) = es.toList:=by simp only [mpE,hr]
    obtain ⟨hf,_⟩:=find_run (w:=w) K hk hes hd
    simp only [Instr.lookup,Sem.run_bind,run_underlying hu,Result.andThen_ok,MapKept.run_getObj_map (hsub _ _ hr),Sem.run_pure,hck,hf,mhas,mlook,hE]
    cases he : efind k es.toList 0 with
    | none =>
      simp only [Sem.run_bind,hz,Result.andThen_ok,Sem.run_pure]
      cases ok <;> simp
    | some q =>
      simp only [Sem.run_pure,Result.andThen_ok]
      cases ok <;> simp
end
section
variable {P : Program} {W : World} {n0 : NL} {ρ0 ρ : Nat → Nat} {hp : Hp} {n : Nat} {w : World}
theorem HInv.chg (h : HInv W n0 ρ0 ρ hp n w) (hwr : hp.wr = true) {r : Nat} {es : Array MapEntry} {c : Nat} (hr : hp.x r = some (.map es c)) (g : Nat → Array MapEntry → Obj) :
    HInv W n0 ρ0 ρ { hp with x:=mchg g hp.x (.map (some r)) } n { w with heap:=w.heap.setIfInBounds r (g c es) }:=by
  have hlt:=h.mem.lt hr
  refine h.write hr hwr (o':=g c es) (x':=mchg g hp.x (.map (some r))) (w':={ w with heap:=w.heap.setIfInBounds r (g c es) }) ⟨rfl,rfl,rfl,by simp,fun k hk hne => ?_⟩ ?_ fun b => ?_
  · show (w.heap.setIfInBounds r _)[k]? = _
    rw [Array.getElem?_setIfInBounds_ne (Ne.symm hne)]
  · show (w.heap.setIfInBounds r _)[r]? = _
    rw [Array.getElem?_setIfInBounds_self_of_lt hlt]
  · show (if b = r then _ else _) = _
    split
    · rename_i e;subst e;rw [hr]
    · rfl
theorem run_updateM {kt et t : TypeId} (K : Go.Maps.Keyed P kt) (hu : P.underlying t = some (.map kt et)) (h : HInv W n0 ρ0 ρ hp n w) (hwr : hp.wr = true) {v k x : Value} (hm : okM P kt hp.x v) (hn : isNilM v = false) (hk : okKey P kt k) :
    ∃ w',(Instr.mapUpdate t v k x).run P w = .ok () w' ∧ HInv W n0 ρ0 ρ { hp with x:=mput hp.x v k x } n w':=by
  rcases hm with rfl | ⟨r,es,c,rfl,hr,hes,hd⟩
  · cases hn
  have hb:=h.mem.sub _ _ hr
  refine ⟨_,?_,h.chg hwr hr _⟩
  obtain ⟨l,hl⟩:=hk.1
  obtain ⟨hf,hsp⟩:=find_run (w:=w) K hk hes hd
  have hck:=K.check w false hl
  simp only [Instr.mapUpdate,Sem.run_bind,run_underlying hu,Result.andThen_ok,MapKept.run_getObj_map hb,hck,hf,esPut]
  cases he : efind k es.toList 0 with
  | none => simp only;rw [MapKept.run_setObj_map _ hb]
  | some q =>
    obtain ⟨i,y⟩:=q
    obtain ⟨e,h1,h2,h3⟩:=hsp i y he
    have hold : ((es[i]?).map (·.key)).getD k = k:=by
      rw [← Array.getElem?_toList,h1]
      exact h2
    simp only [Sem.run_bind,hold,K.stays w hl,Result.andThen_ok]
    rw [MapKept.run_setObj_map _ hb]
theorem run_deleteM {kt et t ty : TypeId} {ts : Array TypeId} (ht : ts[0]? = some t) (K : Go.Maps.Keyed P kt) (hu : P.underlying t = some (.map kt et)) (h : HInv W n0 ρ0 ρ hp n w) (hwr : hp.wr = true) {v k : Value} (hm : okM P kt hp.x v) (hk : okKey P kt k) :
    ∃ w',(Builtin.delete_ ts ty #[v,k]).run P w = .ok (.tuple #[]) w' ∧ HInv W n0 ρ0 ρ { hp with x:=mdel hp.x v k } n w':=by
  obtain ⟨l,hl⟩:=hk.1
  rcases hm with rfl | ⟨r,es,c,rfl,hr,hes,hd⟩
  · refine ⟨w,?_,h⟩
    have hck:=K.check w true hl
    simp only [Builtin.delete_,ht,List.getElem?_toArray,List.getElem?_cons_zero,List.getElem?_cons_succ,Sem.run_bind,run_underlying hu,Result.andThen_ok,hck,Sem.run_pure]
  have hb:=h.mem.sub _ _ hr
  refine ⟨_,?_,h.chg hwr hr _⟩
  obtain ⟨hf,hsp⟩:=find_run (w:=w) K hk hes hd
  have hck:=K.check w es.isEmpty hl
  simp only [Builtin.delete_,ht,List.getElem?_toArray,List.getElem?_cons_zero,List.getElem?_cons_succ,Sem.run_bind,run_underlying hu,Result.andThen_ok,MapKept.run_getObj_map hb,hck,hf,esDel]
  cases he : efind k es.toList 0 with
  | none => simp only;rw [Sem.run_bind,MapKept.run_setObj_map _ hb];simp only [Result.andThen_ok,Sem.run_pure]
  | some q => simp only;rw [Sem.run_bind,MapKept.run_setObj_map _ hb];simp only [Result.andThen_ok,Sem.run_pure]
theorem run_lenM {t kt et : TypeId} {ty : TypeId} {ts : Array TypeId} (ht : ts[0]? = some t) (hu : P.underlying t = some (.map kt et)) {m : Mem} {v : Value} (hsub : ∀ a o,m a = some o → w.heap[a]? = some o) (hm : okM P kt m v) :
    (Builtin.len_ ts ty #[v]).run P w = .ok (.int .i64 (mlen m v)) w:=by
  rcases hm with rfl | ⟨r,es,c,rfl,hr,_⟩
  · simp [Builtin.len_,ht,run_underlying hu,goInt,mlen,mpE]
  · simp [Builtin.len_,ht,run_underlying hu,goInt,mlen,mpE,hr,MapKept.run_getObj_map (hsub _ _ hr)]
end
section
variable {P : Program} {W : World} {n0 : NL} {ρ0 ρ : Nat → Nat} {hp : Hp} {n : Nat} {w : World}
theorem HInv.freshO (h : HInv W n0 ρ0 ρ hp n w) (o : Obj) : HInv W n0 ρ0 ρ { hp with x:=fun b => if b = w.heap.size then some o else hp.x b } n (w.alloc o):=by
  have hsz : (w.alloc o).heap.size = w.heap.size + 1:=by rw [heap_alloc,Array.size_push]
  have hget : ∀ k,k < w.heap.size → (w.alloc o).heap[k]? = w.heap[k]?:=fun k hk => by rw [heap_alloc,Array.getElem?_push,if_neg (Nat.ne_of_lt hk)]
  refine ⟨fun i hi => by have:=h.lt i hi;omega,h.inj,fun i b hb => ?_,h.le,h.old,h.new,h.os,h.tape,h.output,by have:=h.size;omega,fun k hk hx hf => ?_,fun i m hm => ?_,h.lim,⟨fun b q e => ?_,fun b q e i hi => ?_,fun e0 b q e => ?_⟩⟩
  · obtain ⟨g1,g2,g3⟩:=h.blk i b hb
    exact ⟨g1,g2,(hget _ (h.lt i g1)).trans g3⟩
  · have:=h.size
    rw [hget k (by omega)]
    exact h.far k hk hx hf
  · obtain ⟨g1,g2,g3⟩:=h.mblk i m hm
    exact ⟨g1,g2,(hget _ (h.lt i g1)).trans g3⟩
  · replace e : (if b = w.heap.size then some o else hp.x b) = some q:=e
    split at e
    · rename_i eb;subst eb;cases e
      rw [heap_alloc,Array.getElem?_push,if_pos rfl]
    · exact (hget b (h.mem.lt e)).trans (h.mem.sub b q e)
  · replace e : (if b = w.heap.size then some o else hp.x b) = some q:=e
    split at e
    · rename_i eb;subst eb;exact Nat.ne_of_lt (h.lt i hi)
    · exact h.mem.sep b q e i hi
  · replace e : (if b = w.heap.size then some o else hp.x b) = some q:=e
    split at e
    · rename_i eb;subst eb;exact .inr h.size
    · exact h.mem.dom e0 b q e
end
def slB : Value → Int
  | .slice (some ⟨a,_,none⟩) _ _ => (a : Int) + 1
  | _ => 0
def slO : Value → Nat
  | .slice (some ⟨_,o,none⟩) _ _ => o
  | _ => 0
def slN : Value → Nat
  | .slice _ n _ => n
  | _ => 0
def slK : Value → Nat
  | .slice _ _ c => c
  | _ => 0
def isSl : Value → Bool
  | .slice none n c => Nat.beq n 0 && Nat.beq c 0
  | .slice (some ⟨_,_,none⟩) n c => Nat.ble n c
  | _ => false
def inSl (v : Value) (i : Int) : Bool:=isSl v && decide (0 ≤ i ∧ i < (slN v : Int))
def cutSl (v : Value) (l h : Int) : Bool:=isSl v && decide (0 ≤ l ∧ l ≤ h ∧ h ≤ (slK v : Int))
def cutV (v : Value) (sz : Nat) (l h : Int) : Value :=
  match v with
  | .slice (some ⟨a,o,none⟩) _ c => .slice (some ⟨a,if c = l.toNat then o else o + l.toNat * sz,none⟩) (h.toNat - l.toNat) (c - l.toNat)
  | v => v
def rowL (m : Mem) (v : Value) (sz : Nat) : List Value :=
  match mget m (slB v) with
  | some cs => (cs.toList.drop (slO v)).take (slN v * sz)
  | none => []
def okSl (m : Mem) (v : Value) (sz : Nat) : Bool :=
  match v with
  | .slice none n c => Nat.beq n 0 && Nat.beq c 0
  | .slice (some ⟨a,o,none⟩) n c => Nat.ble n c && (match mgetW m ((a : Int) + 1) with | some cs => Nat.ble (o + c * sz) cs.size && cs.toList.all isPlain | none => false)
  | _ => false
def fitsN (v : Value) (n : Nat) : Bool:=Nat.ble (slN v + n) (slK v)
def moreV (v : Value) (n : Nat) : Value :=
  match v with
  | .slice a l c => .slice a (l + n) c
  | v => v
def appQ (m : Mem) (v : Value) (sz : Nat) (zs : List Value) (e : TypeId) (n : Nat) (vs : List Value) (y : Vars) : Prop :=
  (fitsN v n = true ∧ y.v = [moreV v n] ∧ y.m = wrL m (slB v) (slO v + slN v * sz) vs) ∨
  (fitsN v n = false ∧ ∃ a c,m a = none ∧ slN v + n ≤ c ∧ y.v = [.slice (some ⟨a,0,none⟩) (slN v + n) c] ∧
    y.m = alM m ((a : Int) + 1) ((rowL m v sz ++ vs).toArray ++ Builtin.zeroCells zs.toArray (c - (slN v + n))) e)
def appOK (m : Mem) (v : Value) (sz bytes n : Nat) (vs : List Value) : Bool :=
  okSl m v sz && decide (vs.length = n * sz) && vs.all isPlain && decide ((slN v + n) * bytes ≤ 140737488355328) && decide (slN v + n ≤ 9223372036854775807)
section
variable {P : Program} {W : World} {n0 : NL} {ρ0 ρ : Nat → Nat} {hp : Hp} {n : Nat} {w : World}
theorem slB_at {v : Value} (h : isSl v = true) (h0 : 0 < slN v) : ∃ a o c,v = .slice (some ⟨a,o,none⟩) (slN v) c ∧ slB v = (a : Int) + 1 ∧ slO v = o:=by
  unfold isSl at h
  split at h
  · rename_i l c
    simp only [Bool.and_eq_true] at h
    have:=Nat.eq_of_beq_eq_true h.1
    simp only [slN] at h0
    omega
  · rename_i a o l c
    exact ⟨a,o,c,rfl,rfl,rfl⟩
  · cases h
theorem oneCell_of {v : Value} (h : isPlain v = true) : v.oneCell' = true:=by
  cases v <;> first | rfl | cases h
theorem mget_cell {m : Mem} (hsub : ∀ a o,m a = some o → w.heap[a]? = some o) {a : Nat} {cs : Array Value} (h : mgetW m ((a : Int) + 1) = some cs) (k : Nat) : w.cell? ⟨a,k,none⟩ = cs[k]? ∧ w.frozen? ⟨a,k,none⟩ = false:=by
  obtain ⟨b,ty,e1,e2⟩:=mgetW_at h
  have : b = a:=by omega
  subst this
  have:=hsub _ _ e2
  exact ⟨by simp [World.cell?,this],by simp [World.frozen?,this]⟩
theorem run_append_M {t tx ty e : TypeId} {i : TypeInfo} {z : Value} (ht : P.underlying t = some (.slice e)) (hi : P.info? e = some i) (hz : i.zero = some z) (h : HInv W n0 ρ0 ρ hp n w) (hwr : hp.wr = true)
    {v x : Value} {k : Nat} {vs : List Value} (hok : appOK hp.x v i.size i.bytes k vs = true) (hs : Src P i.size tx x k vs w) :
    ∃ w' y,(Builtin.append_ #[t,tx] ty #[v,x]).run P w = .ok ((y.v.headD undef)) w' ∧ appQ hp.x v i.size z.cells.toList e k vs y ∧ HInv W n0 ρ0 ρ { hp with x:=y.m } n w':=by
  simp only [appOK,Bool.and_eq_true,decide_eq_true_eq] at hok
  obtain ⟨⟨⟨⟨h1,h2⟩,h3⟩,h4⟩,h5⟩:=hok
  have hsub:=h.mem.sub
  have hgrow : ∀ (base : Option Addr) (sl sc : Nat),v = .slice base sl sc → sc < sl + k → (Builtin.firstCells i.size sl (.slice base sl sc)).run P w.drew = .ok (rowL hp.x v i.size).toArray w.drew →
      ∃ w' y,(Builtin.append_ #[t,tx] ty #[v,x]).run P w = .ok ((y.v.headD undef)) w' ∧ appQ hp.x v i.size z.cells.toList e k vs y ∧ HInv W n0 ρ0 ρ { hp with x:=y.m } n w':=by
    intro base sl sc hv hlt hold
    have hn : slN v = sl:=by rw [hv];rfl
    have hK : slK v = sc:=by rw [hv];rfl
    have hr:=run_append_grow_src (P:=P) w t tx ty e i z ht hi hz base sl sc (rowL hp.x v i.size) hold x k vs hs hlt (by rw [hn] at h5;omega) (growslice_fits hlt (by rw [hn] at h4;exact h4))
    have hD : HInv W n0 ρ0 ρ hp n w.drew:=h.drew _
    have hf:=hD.fresh (((rowL hp.x v i.size ++ vs).toArray ++ Builtin.zeroCells z.cells (grownCap w (sl + k) sc e - (sl + k)))) e
    refine ⟨_,⟨[],[],[.slice (some ⟨w.heap.size,0,none⟩) (sl + k) (grownCap w (sl + k) sc e)],alM hp.x ((w.heap.size : Int) + 1) ((rowL hp.x v i.size ++ vs).toArray ++ Builtin.zeroCells z.cells (grownCap w (sl + k) sc e - (sl + k))) e⟩,by rw [hv];rw [hv] at hr;exact hr,.inr ⟨?_,w.heap.size,grownCap w (sl + k) sc e,h.mem.fresh,?_,?_,?_⟩,?_⟩
    · simp only [fitsN,hn,hK]
      cases hb : Nat.ble (sl + k) sc with
      | false => rfl
      | true => have:=Nat.le_of_ble_eq_true hb;omega
    · rw [hn];exact grownCap_ge w _ _ _
    · rw [hn]
    · have e2 : z.cells.toList.toArray = z.cells:=by simp
      rw [hn,e2]
    · rw [hv] at hf ⊢;exact hf
  cases v with
  | slice a sl sc =>
    cases a with
    | none =>
      simp only [okSl,Bool.and_eq_true] at h1
      have e1:=Nat.eq_of_beq_eq_true h1.1
      have e2:=Nat.eq_of_beq_eq_true h1.2
      subst e1;subst e2
      by_cases hk : k = 0
      · subst hk
        have hvs : vs = []:=by simpa using h2
        subst hvs
        refine ⟨w,⟨[],[],[.slice none 0 0],hp.x⟩,?_,.inl ⟨rfl,rfl,?_⟩,h⟩
        · rcases hs.kind with ⟨e',hk⟩ | hk <;> simp [Builtin.append_,run_underlying ht,run_underlying hk,sizeOf,typeInfo,hi,hs.len,hs.cells]
        · show hp.x = wrL hp.x 0 _ []
          funext b
          simp [wrL]
      · refine hgrow none 0 0 rfl (by omega) ?_
        have : rowL hp.x (.slice none 0 0) i.size = []:=rfl
        rw [this]
        exact run_firstCells_none w.drew i.size 0 0 0
    | some ad =>
      obtain ⟨b,off,sp⟩:=ad
      cases sp with
      | some _ => cases h1
      | none =>
        simp only [okSl,Bool.and_eq_true] at h1
        obtain ⟨h1,h6⟩:=h1
        have h1:=Nat.le_of_ble_eq_true h1
        split at h6
        rotate_left
        · cases h6
        rename_i cs hcs
        simp only [Bool.and_eq_true] at h6
        have h7:=Nat.le_of_ble_eq_true h6.1
        have h8:=h6.2
        simp only [List.all_eq_true] at h8
        have hcell:=mget_cell hsub hcs
        by_cases hfit : sl + k ≤ sc
        · have hsz : (sl + k) * i.size ≤ sc * i.size:=Nat.mul_le_mul_right _ hfit
          rw [Nat.add_mul] at hsz
          have hr:=run_append_room_src (P:=P) w t tx ty e i ht hi b off sl sc x k vs hs hfit (fun j hj => by rw [(hcell _).1,Array.getElem?_eq_getElem (by omega)];rfl) (fun j hj => (hcell _).2)
          obtain ⟨b',ty',e1,e2⟩:=mgetW_at hcs
          have : b' = b:=by omega
          subst this
          have hblk:=hsub _ _ e2
          have hset : ∀ (vs : List Value) (o : Nat) (w : World) (cs : Array Value),w.heap[b']? = some (.cells cs ty' (0,0)) → (w.setCells b' o vs).heap[b']? = some (.cells (putV cs o vs) ty' (0,0)) ∧ (w.setCells b' o vs).os = w.os ∧ (w.setCells b' o vs).tape = w.tape ∧ (w.setCells b' o vs).output = w.output ∧ (w.setCells b' o vs).heap.size = w.heap.size ∧ ∀ c,c ≠ b' → (w.setCells b' o vs).heap[c]? = w.heap[c]?:=by
            intro vs
            induction vs with
            | nil => intro o w cs hw;exact ⟨hw,rfl,rfl,rfl,rfl,fun _ _ => rfl⟩
            | cons u us ih =>
              intro o w cs hw
              have h1 : (w.setCell ⟨b',o,none⟩ u).heap[b']? = some (.cells (cs.setIfInBounds o u) ty' (0,0)):=by
                simp [World.setCell,Array.getElem?_modify,hw]
              obtain ⟨g1,g2,g3,g4,g5,g6⟩:=ih (o + 1) (w.setCell ⟨b',o,none⟩ u) _ h1
              refine ⟨g1,g2,g3,g4,g5.trans (by simp [World.setCell]),fun c hc => (g6 c hc).trans ?_⟩
              simp only [World.setCell,Array.getElem?_modify]
              rw [if_neg (Ne.symm hc)]
          obtain ⟨g1,g2,g3,g4,g5,g6⟩:=hset vs (off + sl * i.size) w cs hblk
          refine ⟨_,⟨[],[],[moreV (.slice (some ⟨b',off,none⟩) sl sc) k],wrL hp.x ((b' : Int) + 1) (off + sl * i.size) vs⟩,hr,.inl ⟨Nat.ble_eq_true_of_le hfit,rfl,rfl⟩,?_⟩
          refine h.write e2 hwr ⟨g2,g3,g4,by omega,fun c _ hc => g6 c hc⟩ g1 fun c => ?_
          show (if c + 1 = ((b' : Int) + 1).toNat then _ else _) = _
          by_cases e : c = b'
          · subst e
            rw [if_pos (by omega),if_pos rfl,e2]
          · rw [if_neg (by omega),if_neg e]
        · refine hgrow (some ⟨b,off,none⟩) sl sc rfl (by omega) ?_
          have hR : rowL hp.x (.slice (some ⟨b,off,none⟩) sl sc) i.size = (cs.toList.drop off).take (sl * i.size):=by
            simp only [rowL,slB,slO,slN,mgetW_get hcs]
          rw [hR]
          have hsz : sl * i.size ≤ sc * i.size:=Nat.mul_le_mul_right _ h1
          refine run_firstCells_some (P:=P) w.drew i.size sl ⟨b,off,none⟩ sl sc _ ?_ fun j u hu => ?_
          · rw [List.length_take,List.length_drop,Array.length_toList];omega
          · rw [add_at]
            have:=(hcell (off + j)).1
            have hj : j < sl * i.size:=by
              have:=(List.getElem?_eq_some_iff.1 hu).1
              rw [List.length_take] at this;omega
            rw [List.getElem?_take_of_lt hj,List.getElem?_drop,Array.getElem?_toList] at hu
            simpa using this.trans hu
  | _ => cases h1
end
end Go.Proofs.Ytnlohongffpkpaa.Sx
end

section
namespace Go.Proofs.Ytnlohongffpkpaa.Sx
open Go
def hdV : List Value → Value
  | [] => undef
  | x :: _ => x
def tlV : List Value → List Value
  | [] => []
  | _ :: r => r
def isSv : V → Bool
  | .u (.c (.sv _)) => true
  | _ => false
def mapKT (P : Program) (t : TypeId) : Option (TypeId × TypeId):=match P.underlying t with | some (.map kt et) => some (kt,et) | _ => none
def slE (P : Program) (t : TypeId) : Option TypeId:=match P.underlying t with | some (.slice e) => some e | _ => none
def rdE (z : C) (w : Value) : C :=
  match z with
  | .lb _ => .sb (vB w)
  | .li kd _ => .si kd (vI w)
  | .nilp => .np (vP w) 0
  | _ => .sv w
def cellAt (w : Value) (k : Nat) : Value:=match w with | .agg ws => (ws[k]?).getD undef | _ => undef
def rdEl (w : Value) : Nat → List C → List C
  | _,[] => []
  | k,z :: r => rdE z (cellAt w k) :: rdEl w (k + 1) r
def rdU (z : U) (w : Value) : U:=match z with | .c c => .c (rdE c w) | .agg zs => .agg (rdEl w 0 zs)
def okU (z : U) (w : Value) : Bool :=
  match z with
  | .c c => okC c w
  | .agg zs => (match w with | .agg ws => Nat.beq ws.size zs.length && okR ws 0 zs | _ => false)
def den0 (u : U) : Value:=u.den fun _ => 0
def lkZ (m : Mem) (v k z : Value) : Value:=(mlook m v k).getD z
def lkR (ok : Bool) (u : U) (b : Bool) : V:=match ok with | true => .tup [u,.c (.sb b)] | false => .u u
def svOf : V → Option Value
  | .u (.c (.sv v)) => some (pl v)
  | .u (.c (.raw (.slice none n c))) => some (.slice none n c)
  | _ => none
def bndOf (σ : St) (o : Option Operand) (d : Int) : Option Int :=
  match o with
  | none => some d
  | some x => match ev σ x with
    | .u (.c c) => (match c.int? with | some q => some q.2.2 | none => none)
    | _ => none
def isNilS : Value → Bool
  | .slice none _ _ => true
  | _ => false
def isSlV : Value → Bool
  | .slice _ _ _ => true
  | _ => false
def isIfV : Value → Bool
  | .nilIface => true
  | .iface _ (.pointer none) => true
  | .iface _ (.pointer (some ⟨_,0,none⟩)) => true
  | _ => false
def isNilIf : Value → Bool
  | .nilIface => true
  | _ => false
def ifIs (t : TypeId) : Value → Bool
  | .iface u _ => Nat.beq u t
  | _ => false
def ifP (t : TypeId) : Value → Int
  | .iface u (.pointer (some ⟨a,0,none⟩)) => (match Nat.beq u t with | true => (a : Int) + 1 | false => 0)
  | _ => 0
def mkIf (t : TypeId) (p : Int) : Value:=.iface t (pv p 0)
def isNpV : V → Bool
  | .u (.c (.np _ _)) => true
  | _ => false
def slOf (p : Int) (n : Nat) : Value:=match p.toNat with | 0 => .slice none 0 0 | a + 1 => .slice (some ⟨a,0,none⟩) n n
def ifaceTs : List TypeId:=[112,24]
def constO : Operand → Bool
  | .const _ => true
  | _ => false
def nilQ (P : Program) (t : TypeId) (c : Bool) (x y : V) : Option (Bool × Bool) :=
  match P.underlying t with
  | some (.map _ _) => (match x,y with
    | .u (.c (.sv v)),.u (.c (.raw (.map none))) => some (isMpV (pl v),isNilM (pl v))
    | _,_ => none)
  | some (.slice _) => (match x,y with
    | .u (.c (.sv v)),.u (.c (.raw (.slice none 0 0))) => some (isSlV (pl v),isNilS (pl v))
    | _,_ => none)
  | some (.interface _) => (match c,x,y with
    | true,.u (.c (.sv v)),.u (.c (.raw .nilIface)) => some (isIfV (pl v),isNilIf (pl v))
    | _,_,_ => none)
  | _ => none
def bO (op : BinOp) (b : Bool) : Option C :=
  match op with
  | .eql => some (.sb b)
  | .neq => some (.sb (bNot b))
  | _ => none
def alO (m : Mem) (a : Nat) (o : Obj) : Mem:=fun b => if b = a then some o else m b
def newMQ (m : Mem) (y : Vars) : Prop:=∃ a : Nat,m a = none ∧ y.v = [.map (some a)] ∧ y.m = alO m a (.map #[] 0)
def onR (o : Op) (σ : St) : Bool :=
  match o with
  | .lookup _ x _ _ => isSv (ev σ x)
  | .mapUpdate _ x _ _ => isSv (ev σ x)
  | .indexAddr _ x _ => isSv (ev σ x)
  | .slice _ _ _ _ _ => true
  | .binOp _ _ x y _ => isSv (ev σ x) || isSv (ev σ y)
  | .makeMap t _ => σ.hp.mt.any (Nat.beq t)
  | .box t _ => σ.hp.mt.any (Nat.beq t)
  | .buildSlice t _ _ => σ.hp.mt.any (Nat.beq t)
  | .typeAssert x _ _ _ => isSv (ev σ x)
  | .makeInterface _ x => isNpV (ev σ x)
  | _ => false
def opxR (P : Program) (o : Op) (σ : St) (k : V → St → Tr) : Tr :=
  match o with
  | .lookup t x ix ok => (match ev σ x,ev σ ix with
    | .u (.c (.sv v)),.u uk => kO (mapKT P t) fun q => kO (tzero P q.2) fun z => (match uk.wf 0 with
      | true => .req (Go.Maps.Keyed P q.1 ∧ okM P q.1 σ.hp.x (pl v) ∧ okKey P q.1 (den0 uk) ∧ okU z (lkZ σ.hp.x (pl v) (den0 uk) (den0 z)) = true)
          (k (lkR ok (rdU z (lkZ σ.hp.x (pl v) (den0 uk) (den0 z))) (mhas σ.hp.x (pl v) (den0 uk))) σ)
      | false => .no 100)
    | _,_ => .no 101)
  | .mapUpdate t m x v => (match ev σ m,ev σ x,ev σ v with
    | .u (.c (.sv mv)),.u uk,.u uv => kO (mapKT P t) fun q => (match uk.wf 0,uv.wf 0,σ.hp.wr with
      | true,true,true => .req (Go.Maps.Keyed P q.1 ∧ okM P q.1 σ.hp.x (pl mv) ∧ isNilM (pl mv) = false ∧ okKey P q.1 (den0 uk))
          (.letm (mput σ.hp.x (pl mv) (den0 uk) (den0 uv)) fun m => k (.tup []) { σ with hp:={ σ.hp with x:=m } })
      | _,_,_ => .no 102)
    | _,_,_ => .no 103)
  | .indexAddr t x ix => (match ev σ x,ev σ ix with
    | .u (.c (.sv v)),.u (.c ci) => kO ci.int? fun q => kO (slE P t) fun e => kO (tsz P e) fun sz =>
        .br (inSl (pl v) q.2.2) (k (.u (.c (.np (slB (pl v)) (aOff (slO (pl v)) q.2.2 sz)))) σ) (.no 104)
    | _,_ => .no 106)
  | .slice t x lo hi mx => (match mx with
    | none => kO (svOf (ev σ x)) fun v => kO (slE P t) fun e => kO (tsz P e) fun sz => kO (bndOf σ lo 0) fun l => kO (bndOf σ hi (slN v)) fun h =>
        .br (cutSl v l h) (k (.u (.c (.sv (cutV v sz l h)))) σ) (.no 107)
    | some _ => .no 108)
  | .binOp op t x y _ => kO (nilQ P t (constO y) (ev σ x) (ev σ y)) fun q => .br q.1 (kO (bO op q.2) fun c => k (.u (.c c)) σ) (.no 109)
  | .makeMap _ r => (match r,σ.hp.wr with
    | none,true => .any (newMQ σ.hp.x) fun y => k (.u (.c (.sv (hdV y.v)))) { σ with hp:={ σ.hp with x:=y.m } }
    | _,_ => .no 110)
  | .box t x => (match ev σ x with
    | .u u => (match u.cells.all C.plain,u.wf 0,σ.hp.wr with
      | true,true,true => .any (newQ σ.hp.x (dens (fun _ => 0) u.cells) t) fun y => k (.u (.c (.np (pI y.i) 0))) { σ with hp:={ σ.hp with x:=y.m } }
      | _,_,_ => .no 111)
    | _ => .no 112)
  | .buildSlice t len parts => kO (slC P σ t len parts.toList) fun q => (match q.1.all C.plain,q.1.all (C.wf 0),σ.hp.wr with
    | true,true,true => .any (newQ σ.hp.x (dens (fun _ => 0) q.1) q.2) fun y => k (.u (.c (.sv (slOf (pI y.i) len)))) { σ with hp:={ σ.hp with x:=y.m } }
    | _,_,_ => .no 114)
  | .typeAssert x _ t ok => (match ev σ x,P.underlying t,tzero P t,ok with
    | .u (.c (.sv v)),some (.pointer _),some (.c .nilp),true => .br (isIfV (pl v)) (k (.tup [.c (.np (ifP t (pl v)) 0),.c (.sb (ifIs t (pl v)))]) σ) (.no 130)
    | _,_,_,_ => .no 131)
  | .makeInterface t x => (match ev σ x,P.underlying t with
    | .u (.c (.np p 0)),some (.pointer _) => k (.u (.c (.sv (mkIf t p)))) σ
    | _,_ => .no 132)
  | _ => .no 113
def opX (P : Program) (o : Op) (σ : St) (k : V → St → Tr) : Tr :=
  match onR o σ with
  | true => opxR P o σ k
  | false => (match onM o σ with | true => opxM P o σ k | false => opx P o σ k)
section
variable {P : Program} {W : World} {n0 : NL} {ρ0 : Nat → Nat} {N : Nat} {ρ : Nat → Nat} {σ : St} {a : Act} {w : World} {R : Leaf → Prop}
theorem rdE_den (ρ : Nat → Nat) {z : C} {v : Value} (h : okC z v = true) : (rdE z v).den ρ = v:=by
  cases z with
  | lb b => cases v <;> simp [okC,isB] at h;simp [rdE,C.den,vB]
  | li kd n => cases v <;> simp [okC,isK] at h;simp [rdE,C.den,vI,h]
  | nilp =>
    simp only [rdE,C.den]
    replace h : isP v = true:=h
    unfold isP at h
    split at h
    · rfl
    · rename_i a
      simp only [vP,pv]
      rw [show ((a : Int) + 1).toNat = a + 1 by omega]
    · cases h
  | _ => simp only [rdE,C.den];cases v <;> first | rfl | (cases h;done)
theorem rdE_wf (z : C) (v : Value) (n : Nat) : (rdE z v).wf n = true:=by cases z <;> rfl
theorem rdEl_wf (v : Value) (n : Nat) : ∀ (zs : List C) (k : Nat),(rdEl v k zs).all (C.wf n) = true
  | [],_ => rfl
  | z :: r,k => by simp [rdEl,rdE_wf,rdEl_wf v n r]
theorem rdU_wf (z : U) (v : Value) (n : Nat) : (rdU z v).wf n = true:=by
  cases z with
  | c c => exact rdE_wf c v n
  | agg zs => exact rdEl_wf v n zs 0
theorem rdEl_den (ρ : Nat → Nat) {ws : Array Value} : ∀ {zs : List C} {k : Nat},okR ws k zs = true → k + zs.length = ws.size → (rdEl (.agg ws) k zs).map (C.den ρ) = ws.toList.drop k
  | [],k,_,hl => by
    simp only [rdEl,List.map_nil]
    rw [List.drop_eq_nil_of_le]
    rw [Array.length_toList];simp at hl;omega
  | z :: r,k,h,hl => by
    simp only [okR,Bool.and_eq_true] at h
    obtain ⟨h1,h2⟩:=h
    simp only [List.length_cons] at hl
    split at h1
    · rename_i v e
      have ih:=rdEl_den ρ h2 (by omega)
      have hk : k < ws.toList.length:=by rw [Array.length_toList];omega
      rw [List.drop_eq_getElem_cons hk]
      simp only [rdEl,List.map_cons,ih]
      have : cellAt (.agg ws) k = v:=by simp [cellAt,e]
      rw [this,rdE_den ρ h1]
      have e2 : ws.toList[k] = v:=by
        have:=List.getElem?_eq_getElem hk
        rw [Array.getElem?_toList,e] at this
        exact (Option.some.inj this).symm
      rw [e2]
    · cases h1
theorem rdU_den (ρ : Nat → Nat) {z : U} {v : Value} (h : okU z v = true) : (rdU z v).den ρ = v:=by
  cases z with
  | c c => exact rdE_den ρ h
  | agg zs =>
    simp only [okU] at h
    split at h
    · rename_i ws
      simp only [Bool.and_eq_true] at h
      have e:=rdEl_den ρ h.2 (by have:=Nat.eq_of_beq_eq_true h.1;omega)
      simp only [rdU,U.den,dens,e,List.drop_zero]
    · cases h
theorem den0_eq {u : U} (h : u.wf 0 = true) (ρ : Nat → Nat) : u.den ρ = den0 u:=V.den_ext (n:=0) (ρ:=fun _ => 0) (ρ':=ρ) (fun i hi => by omega) (.u u) h
theorem br_no' {b : Bool} {T : Tr} {n : Nat} (h : (Tr.br b T (.no n)).sat R) : b = true ∧ T.sat R:=by
  cases b with
  | true => exact ⟨rfl,h.1 rfl⟩
  | false => exact (h.2 rfl).elim
theorem svOf_den {v : V} {x : Value} (h : svOf v = some x) (ρ : Nat → Nat) : v.den ρ = x:=by
  unfold svOf at h
  split at h
  · cases h;rfl
  · cases h;rfl
  · cases h
theorem bnd_run {o : Option Operand} {d l : Int} (h : bndOf σ o d = some l) (hI : Inv W n0 ρ0 N ρ σ a w) : (o = none ∧ l = d) ∨ ∃ x k,o = some x ∧ a.eval x = .int k l:=by
  cases o with
  | none => cases h;exact .inl ⟨rfl,rfl⟩
  | some x =>
    simp only [bndOf] at h
    split at h
    · rename_i c hc
      split at h
      · rename_i q hq
        cases h
        exact .inr ⟨x,q.2.1,rfl,by rw [ev_den hI x,hc];exact C.int_den hq ρ⟩
      · cases h
    · cases h
theorem run_sliceBound {x : Value} {k : IntKind} {l : Int} {y : Nat} {code : BoundsCode} (hx : x = .int k l) (h0 : 0 ≤ l) (h1 : l ≤ y) (w : World) : (Instr.sliceBound x y code).run P w = .ok l.toNat w:=by
  subst hx
  simp [Instr.sliceBound,asIntOf,h0,h1]
theorem cut_run {t e : TypeId} {sz : Nat} (hu : P.underlying t = some (.slice e)) (hz : tsz P e = some sz) {v : Value} {l h : Int} {lo hi : Option Value} (hok : cutSl v l h = true)
    (hl : (lo = none ∧ l = 0) ∨ ∃ k,lo = some (.int k l)) (hh : (hi = none ∧ h = (slN v : Int)) ∨ ∃ k,hi = some (.int k h)) (w : World) :
    (Instr.slice t v lo hi none).run P w = .ok (pl (cutV v sz l h)) w:=by
  simp only [cutSl,Bool.and_eq_true,decide_eq_true_eq] at hok
  obtain ⟨h1,h2,h3,h4⟩:=hok
  cases v with
  | slice ad n c =>
    have hhb : (Instr.sliceBounds true n c lo hi none).run P w = .ok (l.toNat,h.toNat,c) w:=by
      simp only [slK] at h4
      rcases hl with ⟨rfl,rfl⟩ | ⟨kl,rfl⟩ <;> rcases hh with ⟨rfl,rfl⟩ | ⟨kh,rfl⟩
      · simp [Instr.sliceBounds,slN]
      · simp [Instr.sliceBounds,run_sliceBound (P:=P) (y:=c) rfl (show (0 : Int) ≤ h by omega) h4]
      · simp [Instr.sliceBounds,slN,run_sliceBound (P:=P) (y:=n) rfl h2 (by simpa [slN] using h3)]
      · simp [Instr.sliceBounds,run_sliceBound (P:=P) (y:=c) rfl (show (0 : Int) ≤ h by omega) h4,run_sliceBound (P:=P) (y:=h.toNat) rfl h2 (by omega)]
    simp only [Instr.slice,Sem.run_bind,run_underlying hu,Result.andThen_ok,hhb,run_sizeOf hz,Sem.run_pure]
    cases ad with
    | none =>
      simp only [isSl,Bool.and_eq_true] at h1
      have e1:=Nat.eq_of_beq_eq_true h1.1
      have e2:=Nat.eq_of_beq_eq_true h1.2
      subst e1;subst e2
      simp only [slK] at h4
      have : l.toNat = 0:=by omega
      have : h.toNat = 0:=by omega
      simp [cutV,pl, *]
    | some ad =>
      obtain ⟨b,o,sp⟩:=ad
      cases sp with
      | some _ => cases h1
      | none =>
        simp only [cutV,pl]
        split
        · rfl
        · simp [add_at]
  | _ => cases h1
def pureR : Op → Bool
  | .lookup _ _ _ _ => true
  | .indexAddr _ _ _ => true
  | .slice _ _ _ _ _ => true
  | .binOp _ _ _ _ _ => true
  | .typeAssert _ _ _ _ => true
  | .makeInterface _ _ => true
  | _ => false
theorem nilQ_run {t : TypeId} {c : Bool} {x y : V} {q : Bool × Bool} (hq : nilQ P t c x y = some q) (hok : q.1 = true) (ρ : Nat → Nat) :
    ∃ vx vy,x.den ρ = vx ∧ y.den ρ = vy ∧ (∀ op ox oy,(c = true → constO oy = true) → (eqGuard op t ox oy vx vy).run P w = .ok () w) ∧ (binOp .eql t vx vy).run P w = .ok (.bool q.2) w ∧ (binOp .neq t vx vy).run P w = .ok (.bool (!q.2)) w:=by
  unfold nilQ at hq
  split at hq
  · rename_i kt et hu
    split at hq
    · rename_i v
      cases hq
      refine ⟨pl v,.map none,rfl,rfl,?_⟩
      simp only at hok
      generalize pl v = u at hok
      cases u with
      | map r =>
        have e : ∀ d,(Op.equalIn (d + 1) t (.map r) (.map none)).run P w = .ok (isNilM (.map r)) w:=fun d => by cases r <;> simp [Op.equalIn,run_underlying hu,isNilM]
        have e:=e 9999
        refine ⟨fun op ox oy _ => by unfold eqGuard;split <;> simp,?_,?_⟩
        · simp only [binOp,Op.equal,Op.maxDepth,Sem.run_bind,e,Result.andThen_ok,Sem.run_pure]
        · simp only [binOp,Op.equal,Op.maxDepth,Sem.run_bind,e,Result.andThen_ok,Sem.run_pure]
      | _ => cases hok
    · cases hq
  · rename_i et hu
    split at hq
    · rename_i v
      cases hq
      refine ⟨pl v,.slice none 0 0,rfl,rfl,?_⟩
      simp only at hok
      generalize pl v = u at hok
      cases u with
      | slice r n c =>
        have e : ∀ d,(Op.equalIn (d + 1) t (.slice r n c) (.slice none 0 0)).run P w = .ok (isNilS (.slice r n c)) w:=fun d => by cases r <;> simp [Op.equalIn,run_underlying hu,isNilS]
        have e:=e 9999
        refine ⟨fun op ox oy _ => by unfold eqGuard;split <;> simp,?_,?_⟩
        · simp only [binOp,Op.equal,Op.maxDepth,Sem.run_bind,e,Result.andThen_ok,Sem.run_pure]
        · simp only [binOp,Op.equal,Op.maxDepth,Sem.run_bind,e,Result.andThen_ok,Sem.run_pure]
      | _ => cases hok
    · cases hq
  · rename_i it hu
    split at hq
    · rename_i v
      cases hq
      refine ⟨pl v,.nilIface,rfl,rfl,?_⟩
      simp only at hok
      generalize pl v = u at hok
      have e : ∀ d,(Op.equalIn (d + 1) t u .nilIface).run P w = .ok (isNilIf u) w:=fun d => by
        unfold isIfV at hok
        split at hok
        · simp [Op.equalIn,run_underlying hu,isNilIf]
        · simp [Op.equalIn,run_underlying hu,isNilIf]
        · simp [Op.equalIn,run_underlying hu,isNilIf]
        · cases hok
      have e:=e 9999
      refine ⟨fun op ox oy hc => ?_,?_,?_⟩
      · have hc:=hc rfl
        cases oy <;> simp [constO] at hc
        unfold isIfV at hok
        split at hok
        · unfold eqGuard;split <;> simp
        · unfold eqGuard;split <;> simp
        · unfold eqGuard;split <;> simp
        · cases hok
      · simp only [binOp,Op.equal,Op.maxDepth,Sem.run_bind,e,Result.andThen_ok,Sem.run_pure]
      · simp only [binOp,Op.equal,Op.maxDepth,Sem.run_bind,e,Result.andThen_ok,Sem.run_pure]
    · cases hq
  · cases hq
theorem opxR_path {o : Oper} {k : V → St → Tr} (hp : pureR o.op = true) (h : (opxR P o.op σ k).sat R) :
    ∃ v,(k v σ).sat R ∧ ∀ a w,Inv W n0 ρ0 N ρ σ a w → v.wf σ.n = true ∧ (execOp a.eval o).run P w = .ok (.value (v.den ρ)) w:=by
  obtain ⟨dst,op,type,pos,after,guard⟩:=o
  simp only at h hp
  unfold opxR at h
  split at h
  · rename_i t x ix ok
    split at h
    · rename_i v uk hx hix
      obtain ⟨q,hq,h⟩:=kO_sat h
      obtain ⟨z,hz,h⟩:=kO_sat h
      split at h
      · rename_i hw
        obtain ⟨⟨r1,r2,r3,r4⟩,h⟩:=h
        refine ⟨_,h,fun a w hI => ⟨?_,?_⟩⟩
        · cases ok
          · exact rdU_wf _ _ _
          · simp only [lkR,V.wf,List.all_cons,List.all_nil,rdU_wf,Bool.true_and,Bool.and_true];rfl
        · obtain ⟨kt,et⟩:=q
          have hu : P.underlying t = some (.map kt et):=by
            unfold mapKT at hq;split at hq
            · rename_i hu;cases hq;exact hu
            · cases hq
          have hd1 : a.eval x = pl v:=by rw [ev_den hI x,hx];rfl
          have hd2 : a.eval ix = den0 uk:=by rw [ev_den hI ix,hix];exact den0_eq hw ρ
          refine run_v (s:=Instr.lookup t (a.eval x) (a.eval ix) ok) ?_
          rw [hd1,hd2,run_lookupM r1 hu hI.H.mem.sub r2 r3 (run_zeroValue hz (fun _ => 0) w) ok]
          have e:=rdU_den ρ r4
          cases ok
          · simp only [Bool.false_eq_true,if_false,lkR,V.den]
            rw [e];rfl
          · simp only [if_true,lkR,V.den,List.map_cons,List.map_nil]
            rw [e];rfl
      · exact h.elim
    · exact h.elim
  · cases hp
  · rename_i t x ix
    split at h
    · rename_i v ci hx hix
      obtain ⟨q,hq,h⟩:=kO_sat h
      obtain ⟨e,he,h⟩:=kO_sat h
      obtain ⟨sz,hz,h⟩:=kO_sat h
      obtain ⟨hok,h⟩:=br_no' h
      refine ⟨_,h,fun a w hI => ⟨rfl,?_⟩⟩
      have hu : P.underlying t = some (.slice e):=by
        unfold slE at he;split at he
        · rename_i hu;cases he;exact hu
        · cases he
      obtain ⟨lx,kx,nx⟩:=q
      have hd1 : a.eval x = pl v:=by rw [ev_den hI x,hx];rfl
      have hd2 : a.eval ix = .int kx nx:=by rw [ev_den hI ix,hix];exact C.int_den hq ρ
      simp only [inSl,Bool.and_eq_true,decide_eq_true_eq] at hok
      obtain ⟨b,o,c,e1,e2,e3⟩:=slB_at hok.1 (by omega)
      refine run_v (s:=Instr.indexAt t (a.eval x) (a.eval ix)) ?_
      have hden : V.den ρ (.u (.c (.np (slB (pl v)) (aOff (slO (pl v)) nx sz)))) = .pointer (some ⟨b,o + nx.toNat * sz,none⟩):=by
        rw [e3]
        exact pv_at (by omega)
      rw [hden,hd1,hd2,e1]
      generalize slN (pl v) = len at hok
      simp [Instr.indexAt,run_underlying hu,asIntOf,hok.2.1,hok.2.2,run_sizeOf hz,add_at]
    · exact h.elim
  · rename_i t x lo hi mx
    split at h
    · obtain ⟨v,hv,h⟩:=kO_sat h
      obtain ⟨e,he,h⟩:=kO_sat h
      obtain ⟨sz,hz,h⟩:=kO_sat h
      obtain ⟨l,hl,h⟩:=kO_sat h
      obtain ⟨hh,hhh,h⟩:=kO_sat h
      obtain ⟨hok,h⟩:=br_no' h
      refine ⟨_,h,fun a w hI => ⟨rfl,?_⟩⟩
      have hu : P.underlying t = some (.slice e):=by
        unfold slE at he;split at he
        · rename_i hu;cases he;exact hu
        · cases he
      have hd1 : a.eval x = v:=by rw [ev_den hI x];exact svOf_den hv ρ
      refine run_v (s:=Instr.sliceAt t (a.eval x) (lo.map a.eval) (hi.map a.eval) none) ?_
      rw [hd1]
      have esl : ∀ lo hi,(Instr.sliceAt t v lo hi none).run P w = (Instr.slice t v lo hi none).run P w:=fun lo hi => by simp only [Instr.sliceAt,Sem.run_bind,run_underlying hu,Result.andThen_ok]
      rw [esl]
      refine cut_run hu hz hok ?_ ?_ w
      · rcases bnd_run hl hI with ⟨rfl,rfl⟩ | ⟨y,k,rfl,e1⟩
        · exact .inl ⟨rfl,rfl⟩
        · exact .inr ⟨k,by simp [e1]⟩
      · rcases bnd_run hhh hI with ⟨rfl,rfl⟩ | ⟨y,k,rfl,e1⟩
        · exact .inl ⟨rfl,rfl⟩
        · exact .inr ⟨k,by simp [e1]⟩
    · exact h.elim
  · rename_i op t x y ty
    obtain ⟨q,hq,h⟩:=kO_sat h
    obtain ⟨hok,h⟩:=br_no' h
    obtain ⟨c,hc,h⟩:=kO_sat h
    refine ⟨_,h,fun a w hI => ?_⟩
    obtain ⟨vx,vy,hx,hy,e1,e2,e3⟩:=nilQ_run (P:=P) (w:=w) hq hok ρ
    have hd1 : a.eval x = vx:=by rw [ev_den hI x];exact hx
    have hd2 : a.eval y = vy:=by rw [ev_den hI y];exact hy
    unfold bO at hc
    split at hc
    · cases hc
      refine ⟨rfl,run_v (s:=(do eqGuard .eql t x y (a.eval x) (a.eval y);binOp .eql t (a.eval x) (a.eval y))) ?_⟩
      rw [hd1,hd2]
      simp only [Sem.run_bind,e1 _ _ _ (fun h => h),Result.andThen_ok]
      exact e2
    · cases hc
      refine ⟨rfl,run_v (s:=(do eqGuard .neq t x y (a.eval x) (a.eval y);binOp .neq t (a.eval x) (a.eval y))) ?_⟩
      rw [hd1,hd2]
      simp only [Sem.run_bind,e1 _ _ _ (fun h => h),Result.andThen_ok]
      exact e3
    · cases hc
  · cases hp
  · cases hp
  · cases hp
  · rename_i x xt t ok
    split at h
    · rename_i v e hx hu hz
      obtain ⟨hok,h⟩:=br_no' h
      refine ⟨_,h,fun a w hI => ⟨rfl,?_⟩⟩
      have hd1 : a.eval x = pl v:=by rw [ev_den hI x,hx];rfl
      refine run_v (s:=Instr.typeAssert (a.eval x) xt t true) ?_
      rw [hd1]
      have ez:=run_zeroValue hz (fun _ => 0) w
      generalize pl v = u at hok
      have fail : ∀ (d : Option TypeId),(do if true = true then pure (Value.tuple #[← zeroValue t,.bool false]) else runtimePanic (.typeAssertion (some xt) d t "") : Sem Value).run P w = .ok (.tuple #[.pointer none,.bool false]) w:=fun d => by
        simp [ez];rfl
      unfold isIfV at hok
      split at hok
      · simp only [Instr.typeAssert,Sem.run_bind,run_underlying hu,Result.andThen_ok]
        exact fail none
      · rename_i u'
        by_cases hut : u' = t
        · subst hut
          simp [Instr.typeAssert,run_underlying hu,V.den,U.den,C.den,ifP,ifIs,pv]
        · have hb : Nat.beq u' t = false:=Nat.beq_eq_false_iff.2 hut
          simp only [Instr.typeAssert,Sem.run_bind,run_underlying hu,Result.andThen_ok,if_neg hut]
          refine (fail (some u')).trans ?_
          simp [V.den,U.den,C.den,ifP,ifIs,hb,pv]
      · rename_i u' b'
        by_cases hut : u' = t
        · subst hut
          have hp1 : ((b' : Int) + 1).toNat = b' + 1:=by omega
          simp [Instr.typeAssert,run_underlying hu,V.den,U.den,C.den,ifP,ifIs,pv,hp1]
        · have hb : Nat.beq u' t = false:=Nat.beq_eq_false_iff.2 hut
          simp only [Instr.typeAssert,Sem.run_bind,run_underlying hu,Result.andThen_ok,if_neg hut]
          refine (fail (some u')).trans ?_
          simp [V.den,U.den,C.den,ifP,ifIs,hb,pv]
      · cases hok
    · exact h.elim
  · rename_i t x
    split at h
    · rename_i p e hx hu
      refine ⟨_,h,fun a w hI => ⟨rfl,?_⟩⟩
      have hd1 : a.eval x = pv p 0:=by rw [ev_den hI x,hx];rfl
      refine run_v (s:=Instr.makeInterface t (a.eval x)) ?_
      rw [hd1]
      simp [Instr.makeInterface,run_underlying hu,V.den,U.den,C.den,mkIf,pl]
    · exact h.elim
  · exact h.elim
theorem opxR_sound {o : Oper} {k : V → St → Tr} (hI : Inv W n0 ρ0 N ρ σ a w) (h : (opxR P o.op σ k).sat R) : OpS P W n0 ρ0 N R ρ σ a w (execOp a.eval o) k:=by
  cases hp : pureR o.op with
  | true =>
    obtain ⟨v,hs,hv⟩:=opxR_path (W:=W) (n0:=n0) (ρ0:=ρ0) (N:=N) (ρ:=ρ) hp h
    obtain ⟨h1,h2⟩:=hv a w hI
    exact OpS.pure hI h1 hs h2
  | false =>
  obtain ⟨dst,op,type,pos,after,guard⟩:=o
  simp only at h hp
  unfold opxR at h
  split at h
  · cases hp
  · rename_i t m x v
    split at h
    · rename_i mv uk uv hm hx hv
      obtain ⟨q,hq,h⟩:=kO_sat h
      split at h
      · rename_i hw1 hw2 hwr
        obtain ⟨⟨r1,r2,r3,r4⟩,h⟩:=h
        obtain ⟨kt,et⟩:=q
        have hu : P.underlying t = some (.map kt et):=by
          unfold mapKT at hq;split at hq
          · rename_i hu;cases hq;exact hu
          · cases hq
        have hd1 : a.eval m = pl mv:=by rw [ev_den hI m,hm];rfl
        have hd2 : a.eval x = den0 uk:=by rw [ev_den hI x,hx];exact den0_eq hw1 ρ
        have hd3 : a.eval v = den0 uv:=by rw [ev_den hI v,hv];exact den0_eq hw2 ρ
        obtain ⟨w',e1,e2⟩:=run_updateM r1 hu hI.H hwr r2 r3 r4 (x:=den0 uv)
        refine ⟨_,_,ρ,w',hI.later (Ext.refl _ _) (Nat.le_refl _) e2,Ext.refl _ _,Nat.le_refl _,rfl,h,.inr ⟨?_,rfl⟩⟩
        refine run_u (s:=Instr.mapUpdate t (a.eval m) (a.eval x) (a.eval v)) ?_
        rw [hd1,hd2,hd3]
        exact e1
      · exact h.elim
    · exact h.elim
  · cases hp
  · cases hp
  · cases hp
  · rename_i t r
    split at h
    · rename_i hwr
      have hlt:=hI.H.mem.fresh
      have hs:=h ⟨[],[],[.map (some w.heap.size)],alO σ.hp.x w.heap.size (.map #[] 0)⟩ ⟨w.heap.size,hlt,rfl,rfl⟩
      refine ⟨_,_,ρ,w.alloc (.map #[] 0),hI.later (Ext.refl _ _) (Nat.le_refl _) (HInv.freshO hI.H (.map #[] 0)),Ext.refl _ _,Nat.le_refl _,rfl,hs,.inl ?_⟩
      exact run_v (s:=Instr.makeMap t none) (run_makeMap t w)
    · exact h.elim
  · rename_i t x
    split at h
    · rename_i u hx
      split at h
      · rename_i hp1 hw1 hwr
        have hs:=h ⟨[(w.heap.size : Int) + 1],[],[],alM σ.hp.x ((w.heap.size : Int) + 1) (dens (fun _ => 0) u.cells) t⟩ ⟨w.heap.size,rfl,hI.H.mem.fresh,rfl⟩
        have ed : dens (fun _ => 0) u.cells = dens ρ u.cells:=dens_ext (n:=0) (fun i hi => by omega) u.cells (U.cells_wf u hw1)
        refine ⟨_,_,ρ,w.alloc (.cells (dens ρ u.cells) t),hI.later (Ext.refl _ _) (Nat.le_refl _) (hI.H.fresh _ _),Ext.refl _ _,Nat.le_refl _,rfl,(ed ▸ hs),.inl ?_⟩
        refine run_v (s:=Instr.box t (a.eval x)) ?_
        have hd : a.eval x = u.den ρ:=by rw [ev_den hI x,hx];rfl
        rw [hd]
        simp only [Instr.box,Sem.run_bind,newVar,newRow,U.den_cells ρ u (plain_of_all hp1),run_newObj,Result.andThen_ok,Sem.run_pure]
        simp [C.den,V.den,U.den,pI,pv,World.alloc_eq]
      · exact h.elim
    · exact h.elim
  · rename_i t len parts
    obtain ⟨q,hq,h⟩:=kO_sat h
    split at h
    · rename_i hp1 hw1 hwr
      have hs:=h ⟨[(w.heap.size : Int) + 1],[],[],alM σ.hp.x ((w.heap.size : Int) + 1) (dens (fun _ => 0) q.1) q.2⟩ ⟨w.heap.size,rfl,hI.H.mem.fresh,rfl⟩
      have ed : dens (fun _ => 0) q.1 = dens ρ q.1:=dens_ext (n:=0) (fun i hi => by omega) q.1 hw1
      refine ⟨_,_,ρ,w.alloc (.cells (dens ρ q.1) q.2),hI.later (Ext.refl _ _) (Nat.le_refl _) (hI.H.fresh _ _),Ext.refl _ _,Nat.le_refl _,rfl,(ed ▸ hs),.inl ?_⟩
      have e:=run_buildSlice hI hq
      have e2 : (parts.toList.map fun q => (q.1,a.eval q.2)).toArray = parts.map fun q => (q.1,a.eval q.2):=by
        apply Array.ext';simp
      rw [e2] at e
      have e4 : V.den ρ (.u (.c (.sv (slOf (pI [(w.heap.size : Int) + 1]) len)))) = .slice (some ⟨w.heap.size,0,none⟩) len len:=by
        show pl (slOf ((w.heap.size : Int) + 1) len) = _
        unfold slOf
        rw [show ((w.heap.size : Int) + 1).toNat = w.heap.size + 1 by omega];rfl
      rw [e4]
      exact run_v e
    · exact h.elim
  · cases hp
  · cases hp
  · exact h.elim
theorem opX_sound {o : Oper} {k : V → St → Tr} (hI : Inv W n0 ρ0 N ρ σ a w) (h : (opX P o.op σ k).sat R) : OpS P W n0 ρ0 N R ρ σ a w (execOp a.eval o) k:=by
  unfold opX at h
  split at h
  · exact opxR_sound hI h
  · split at h
    · exact opxM_sound hI h
    · exact opx_sound hI h
def svIn : List V → Bool
  | v :: _ => isSv v
  | [] => false
def isBM (b : Builtin) (args : List V) : Bool :=
  match b with
  | .append => true
  | .len => svIn args
  | .cap => svIn args
  | .delete => svIn args
  | _ => false
def srcOf (P : Program) (σ : St) (tx : TypeId) (sz : Nat) (v : V) : Option (Bool × Nat × List Value) :=
  match P.underlying tx with
  | some (.slice _) => (match v with
    | .u (.c (.sl id off len _)) => (match lookH σ.hp id with
      | some b => (match takeC b.1 off (len * sz) with
        | some cs => (match cs.all C.plain,cs.all (C.wf 0) with
          | true,true => some (true,len,cs.map (C.den fun _ => 0))
          | _,_ => none)
        | none => none)
      | none => none)
    | v => (match svOf v with
      | some x => some (okSl σ.hp.x x sz,slN x,rowL σ.hp.x x sz)
      | none => none))
  | _ => none
def bytesOf (P : Program) (e : TypeId) : Option Nat:=(P.info? e).map (·.bytes)
def appX (P : Program) (t tx : TypeId) (x y : V) (σ : St) (k : V → St → Tr) : Tr :=
  kO (svOf x) fun v => kO (slE P t) fun e => kO (tsz P e) fun sz => kO (bytesOf P e) fun bytes => kO (tzero P e) fun z => kO (srcOf P σ tx sz y) fun q => (match σ.hp.wr with
    | true => .br q.1 (.br (appOK σ.hp.x v sz bytes q.2.1 q.2.2) (.any (appQ σ.hp.x v sz (den0 z).cells.toList e q.2.1 q.2.2) fun r => k (.u (.c (.sv (hdV r.v)))) { σ with hp:={ σ.hp with x:=r.m } }) (.no 120)) (.no 121)
    | false => .no 122)
def bltM (P : Program) (b : Builtin) (ts : List TypeId) (args : List V) (σ : St) (k : V → St → Tr) : Tr :=
  match b with
  | .len => (match ts,args with
    | [t],[.u (.c (.sv v))] => (match P.underlying t with
      | some (.slice _) => .br (isSlV (pl v)) (k (.u (.c (.si .i64 (slN (pl v))))) σ) (.no 123)
      | some (.map kt _) => .req (okM P kt σ.hp.x (pl v)) (k (.u (.c (.si .i64 (mlen σ.hp.x (pl v))))) σ)
      | _ => .no 124)
    | _,_ => .no 125)
  | .append => (match ts,args with
    | [t,tx],[x,y] => appX P t tx x y σ k
    | _,_ => .no 126)
  | .delete => (match ts,args with
    | t :: _,[.u (.c (.sv v)),.u uk] => kO (mapKT P t) fun q => (match uk.wf 0,σ.hp.wr with
      | true,true => .req (Go.Maps.Keyed P q.1 ∧ okM P q.1 σ.hp.x (pl v) ∧ okKey P q.1 (den0 uk)) (.letm (mdel σ.hp.x (pl v) (den0 uk)) fun m => k (.tup []) { σ with hp:={ σ.hp with x:=m } })
      | _,_ => .no 127)
    | _,_ => .no 128)
  | _ => .no 129
def BltS (P : Program) (W : World) (n0 : NL) (ρ0 : Nat → Nat) (N : Nat) (R : Leaf → Prop) (ρ : Nat → Nat) (σ : St) (a : Act) (w : World) (s : Sem Next) (k : V → St → Tr) : Prop :=
  ∃ v σ' ρ' w',Inv W n0 ρ0 N ρ' σ' a w' ∧ Ext σ.n ρ ρ' ∧ σ.n ≤ σ'.n ∧ v.wf σ'.n = true ∧ (k v σ').sat R ∧ s.run P w = .ok (.value (v.den ρ')) w'
theorem src_run {tx : TypeId} {sz : Nat} {v : V} {q : Bool × Nat × List Value} (hq : srcOf P σ tx sz v = some q) (hok : q.1 = true) (hI : Inv W n0 ρ0 N ρ σ a w) (hv : v.wf σ.n = true) : Src P sz tx (v.den ρ) q.2.1 q.2.2 w:=by
  unfold srcOf at hq
  split at hq
  · rename_i e' hu
    split at hq
    · rename_i id off len cap
      split at hq
      · rename_i b hb
        split at hq
        · rename_i cs hcs
          split at hq
          · rename_i h1 h2
            cases hq
            obtain ⟨rfl,hl⟩:=takeC_spec hcs
            have e0 : ((b.1.drop off).take (len * sz)).map (C.den fun _ => 0) = ((b.1.drop off).take (len * sz)).map (C.den ρ):=by
              simp only [List.all_eq_true] at h2
              exact List.map_congr_left fun x hx => (C.den_ext (n:=0) (ρ:=fun _ => 0) (ρ':=ρ) (fun i hi => by omega) x (h2 x hx)).symm
            refine Src.ofSlice w hu ⟨ρ id,off,none⟩ len cap _ ?_ (fun j u hj => ?_) (fun u hu' => ?_)
            · rw [List.length_map];exact hl
            · rw [add_at,hI.H.cell hb]
              have hjl : j < len * sz:=by
                have:=(List.getElem?_eq_some_iff.1 hj).1
                rw [List.length_map,List.length_take] at this;omega
              rw [e0,List.getElem?_map] at hj
              rw [List.getElem?_take_of_lt hjl,List.getElem?_drop] at hj
              exact hj
            · rw [e0] at hu'
              obtain ⟨c,hc,rfl⟩:=List.mem_map.1 hu'
              simp only [List.all_eq_true] at h1
              have:=C.den_plain ρ c (h1 c hc)
              cases hd : C.den ρ c <;> first | rfl | exact absurd hd (this.1 _) | exact absurd hd (this.2 _)
          · cases hq
        · cases hq
      · cases hq
    · split at hq
      · rename_i x hx
        cases hq
        rw [svOf_den hx ρ]
        simp only at hok ⊢
        unfold okSl at hok
        split at hok
        · rename_i n c
          simp only [Bool.and_eq_true] at hok
          have e1:=Nat.eq_of_beq_eq_true hok.1
          have e2:=Nat.eq_of_beq_eq_true hok.2
          subst e1;subst e2
          exact Src.ofNil w hu 0
        · rename_i b o n c
          simp only [Bool.and_eq_true] at hok
          obtain ⟨h1,h2⟩:=hok
          have h1:=Nat.le_of_ble_eq_true h1
          split at h2
          · rename_i cs hcs
            simp only [Bool.and_eq_true,List.all_eq_true] at h2
            have h3:=Nat.le_of_ble_eq_true h2.1
            have hR : rowL σ.hp.x (.slice (some ⟨b,o,none⟩) n c) sz = (cs.toList.drop o).take (n * sz):=by
              simp only [rowL,slB,slO,slN,mgetW_get hcs]
            have hsz : n * sz ≤ c * sz:=Nat.mul_le_mul_right _ h1
            rw [hR]
            refine Src.ofSlice w hu ⟨b,o,none⟩ n c _ ?_ (fun j u hj => ?_) (fun u hu' => ?_)
            · rw [List.length_take,List.length_drop,Array.length_toList];omega
            · rw [add_at,(mget_cell hI.H.mem.sub hcs _).1]
              have hjl : j < n * sz:=by
                have:=(List.getElem?_eq_some_iff.1 hj).1
                rw [List.length_take] at this;omega
              rw [List.getElem?_take_of_lt hjl,List.getElem?_drop,Array.getElem?_toList] at hj
              exact hj
            · exact oneCell_of (h2.2 u (List.mem_of_mem_drop (List.mem_of_mem_take hu')))
          · cases h2
        · cases hok
      · cases hq
  · cases hq
theorem bltM_sound {b : Builtin} {ts : Array TypeId} {args : List V} {k : V → St → Tr} (hI : Inv W n0 ρ0 N ρ σ a w) (hargs : args.all (V.wf σ.n) = true) (h : (bltM P b ts.toList args σ k).sat R) (ty : TypeId) (ks : Array Bool) :
    BltS P W n0 ρ0 N R ρ σ a w (builtin b ts ty ks (args.map (V.den ρ)).toArray) k:=by
  unfold bltM at h
  split at h
  · split at h
    · rename_i t v hts
      have hts' : ts[0]? = some t:=by rw [← Array.getElem?_toList,hts];rfl
      split at h
      · rename_i e hu
        obtain ⟨hok,h⟩:=br_no' h
        refine ⟨_,σ,ρ,w,hI,Ext.refl _ _,Nat.le_refl _,rfl,h,?_⟩
        have : (builtin .len ts ty ks ([V.u (.c (.sv v))].map (V.den ρ)).toArray).run P w = ((do pure (Next.value (← Builtin.len_ ts ty #[pl v])) : Sem Next)).run P w:=rfl
        rw [this]
        refine run_v (s:=Builtin.len_ ts ty #[pl v]) ?_
        cases hv : pl v with
        | slice ad n c => simp [Builtin.len_,hts',run_underlying hu,goInt,V.den,U.den,C.den,slN]
        | _ => rw [hv] at hok;cases hok
      · rename_i kt et hu
        obtain ⟨hok,h⟩:=h
        refine ⟨_,σ,ρ,w,hI,Ext.refl _ _,Nat.le_refl _,rfl,h,?_⟩
        have : (builtin .len ts ty ks ([V.u (.c (.sv v))].map (V.den ρ)).toArray).run P w = ((do pure (Next.value (← Builtin.len_ ts ty #[pl v])) : Sem Next)).run P w:=rfl
        rw [this]
        exact run_v (s:=Builtin.len_ ts ty #[pl v]) (run_lenM hts' hu hI.H.mem.sub hok)
      · exact h.elim
    · exact h.elim
  · split at h
    · rename_i t tx x y hts
      unfold appX at h
      obtain ⟨v,hv,h⟩:=kO_sat h
      obtain ⟨e,he,h⟩:=kO_sat h
      obtain ⟨sz,hz,h⟩:=kO_sat h
      obtain ⟨bytes,hb,h⟩:=kO_sat h
      obtain ⟨z,hzz,h⟩:=kO_sat h
      obtain ⟨q,hq,h⟩:=kO_sat h
      split at h
      · rename_i hwr
        obtain ⟨h1,hA⟩:=br_no' h
        clear h
        obtain ⟨h2,hB⟩:=br_no' hA
        clear hA
        have hu : P.underlying t = some (.slice e):=by
          unfold slE at he;split at he
          · rename_i hu;cases he;exact hu
          · cases he
        unfold tsz at hz
        unfold bytesOf at hb
        cases hi : P.info? e with
        | none => rw [hi] at hz;cases hz
        | some i =>
          rw [hi] at hz hb
          cases hz;cases hb
          have hzero : ∃ zv,i.zero = some zv ∧ den0 z = zv:=by
            unfold tzero at hzz
            rw [hi] at hzz
            simp only at hzz
            split at hzz
            · rename_i zv hzv;cases hzz;exact ⟨zv,hzv,U.den_ofValue _ zv⟩
            · cases hzz
          obtain ⟨zv,hzv,ez⟩:=hzero
          have hywf : y.wf σ.n = true:=by
            simp only [List.all_cons,Bool.and_eq_true] at hargs
            exact hargs.2.1
          have hs:=src_run hq h1 hI hywf
          obtain ⟨w',r,g1,g2,g3⟩:=run_append_M (ty:=ty) hu hi hzv hI.H hwr h2 hs
          rw [ez] at hB
          have hsat:=hB r g2
          have htsA : ts = #[t,tx]:=by apply Array.ext';simpa using hts
          refine ⟨_,_,ρ,w',hI.later (Ext.refl _ _) (Nat.le_refl _) g3,Ext.refl _ _,Nat.le_refl _,rfl,hsat,?_⟩
          have hden : V.den ρ (.u (.c (.sv (hdV r.v)))) = r.v.headD undef:=by
            rcases g2 with ⟨_,e1,_⟩ | ⟨_,a',c',_,_,e1,_⟩
            · rw [e1]
              cases v with
              | slice a' n' c' => rfl
              | _ => simp [appOK,okSl] at h2
            · rw [e1];rfl
          rw [hden]
          have : (builtin .append ts ty ks ([x,y].map (V.den ρ)).toArray).run P w = ((do pure (Next.value (← Builtin.append_ ts ty #[V.den ρ x,V.den ρ y])) : Sem Next)).run P w:=rfl
          rw [this,htsA,svOf_den hv ρ]
          exact run_v (s:=Builtin.append_ #[t,tx] ty #[v,V.den ρ y]) g1
      · exact h.elim
    · exact h.elim
  · split at h
    · rename_i t ts' v uk hts
      have hts' : ts[0]? = some t:=by rw [← Array.getElem?_toList,hts];rfl
      obtain ⟨q,hq,h⟩:=kO_sat h
      split at h
      · rename_i hw1 hwr
        obtain ⟨⟨r1,r2,r3⟩,h⟩:=h
        obtain ⟨kt,et⟩:=q
        have hu : P.underlying t = some (.map kt et):=by
          unfold mapKT at hq;split at hq
          · rename_i hu;cases hq;exact hu
          · cases hq
        obtain ⟨w',e1,e2⟩:=run_deleteM (ty:=ty) hts' r1 hu hI.H hwr r2 r3
        refine ⟨_,_,ρ,w',hI.later (Ext.refl _ _) (Nat.le_refl _) e2,Ext.refl _ _,Nat.le_refl _,rfl,h,?_⟩
        have : (builtin .delete ts ty ks ([V.u (.c (.sv v)),V.u uk].map (V.den ρ)).toArray).run P w = ((do pure (Next.value (← Builtin.delete_ ts ty #[pl v,uk.den ρ])) : Sem Next)).run P w:=rfl
        rw [this,den0_eq hw1 ρ]
        exact run_v (s:=Builtin.delete_ ts ty #[pl v,den0 uk]) e1
      · exact h.elim
    · exact h.elim
  · exact h.elim
end
end Go.Proofs.Ytnlohongffpkpaa.Sx
end

section
namespace Go.Proofs.Ytnlohongffpkpaa.Sx
open Go
def hdB : List Bool → Bool
  | [] => false
  | x :: _ => x
def itNew (m : Mem) (v : Value) : Obj :=
  match v with
  | .map (some r) => (match m r with | some (.map _ c) => .mapIter (some r) c #[] c | _ => .mapIter none 0 #[] 0)
  | _ => .mapIter none 0 #[] 0
def rngOK (m : Mem) (v : Value) : Prop:=∃ r es c,v = .map (some r) ∧ m r = some (.map es c)
def newIQ (m : Mem) (v : Value) (y : Vars) : Prop:=∃ a : Nat,m a = none ∧ y.i = [(a : Int) + 1] ∧ y.m = alO m a (itNew m v)
def itAt (m : Mem) (p : Int) (r since : Nat) (seen : Array Nat) (last : Nat) (es : Array MapEntry) (c : Nat) : Prop :=
  ∃ a : Nat,p = (a : Int) + 1 ∧ m a = some (.mapIter (some r) since seen last) ∧ m r = some (.map es c)
def nxtOK (kz vz : U) (m : Mem) (p : Int) : Prop:=∃ r since seen last es c,itAt m p r since seen last es c ∧ since ≤ last ∧ ∀ e ∈ es.toList,e.born < since ∧ okU kz e.key = true ∧ okU vz e.val = true
def nxtQ (m : Mem) (p : Int) (y : Vars) : Prop:=∀ r since seen last es c,itAt m p r since seen last es c →
  (y.b = [false] ∧ y.m = m ∧ (leftOf es seen).size = 0) ∨
  (∃ e ∈ (leftOf es seen).toList,y.b = [true] ∧ y.v = [e.key,e.val] ∧ y.m = alO m (p.toNat - 1) (.mapIter (some r) since (seen.push e.born) c))
def entAt (m : Mem) (p : Int) : Option MapEntry :=
  match p.toNat with
  | 0 => none
  | a + 1 => match m a with
    | some (.mapIter (some r) _ seen last) => (match m r,seen.back? with
      | some (.map es c),some b => (match Nat.beq c last with | true => es.find? (·.born == b) | false => none)
      | _,_ => none)
    | _ => none
def entK (m : Mem) (p : Int) : Value:=match entAt m p with | some e => e.key | none => undef
def entV (m : Mem) (p : Int) : Value:=match entAt m p with | some e => e.val | none => undef
def entOK (kz vz : U) (m : Mem) (p : Int) : Prop:=(entAt m p).isSome = true ∧ okU kz (entK m p) = true ∧ okU vz (entV m p) = true
def rngT (P : Program) : List Nat → Option (TypeId × TypeId)
  | [] => none
  | t :: r => match Nat.ble 1000000 t with | true => mapKT P (t - 1000000) | false => rngT P r
def twoZ (P : Program) (k v : TypeId) : Option (U × U):=match tzero P k,tzero P v with | some kz,some vz => some (kz,vz) | _,_ => none
def isRng (o : Op) (σ : St) : Bool :=
  match o with
  | .range _ x => isSv (ev σ x)
  | .next x _ => isNp (ev σ x)
  | .entry x => isNp (ev σ x)
  | _ => false
def rngX (P : Program) (o : Op) (σ : St) (k : V → St → Tr) : Tr :=
  match o with
  | .range t x => (match ev σ x,σ.hp.wr with
    | .u (.c (.sv v)),true => kO (mapKT P t) fun _ => .req (rngOK σ.hp.x (pl v)) (.any (newIQ σ.hp.x (pl v)) fun y => k (.u (.c (.np (pI y.i) 0))) { σ with hp:={ σ.hp with x:=y.m } })
    | _,_ => .no 140)
  | .next x s => (match ev σ x,s,σ.hp.wr,rngT P σ.hp.mt with
    | .u (.c (.np p 0)),false,true,some (kt,vt) => kO (twoZ P kt vt) fun z => .req (nxtOK z.1 z.2 σ.hp.x p) (.any (nxtQ σ.hp.x p) fun y => .br ((hdB y.b))
        (k (.tup [.c (.lb true),rdU z.1 (hdV y.v),rdU z.2 (hdV (tlV y.v))]) { σ with hp:={ σ.hp with x:=y.m } }) (k (.tup [.c (.lb false)]) { σ with hp:={ σ.hp with x:=y.m } }))
    | _,_,_,_ => .no 141)
  | .entry x => (match ev σ x,rngT P σ.hp.mt with
    | .u (.c (.np p 0)),some (kt,vt) => kO (twoZ P kt vt) fun z => .req (entOK z.1 z.2 σ.hp.x p) (k (.tup [rdU z.1 (entK σ.hp.x p),rdU z.2 (entV σ.hp.x p)]) σ)
    | _,_ => .no 142)
  | _ => .no 143
section
variable {P : Program} {W : World} {n0 : NL} {ρ0 : Nat → Nat} {N : Nat} {R : Leaf → Prop} {ρ : Nat → Nat} {σ : St} {a : Act} {w : World}
theorem itAt_heap {hp : Hp} {n : Nat} {p : Int} {r since last c : Nat} {seen : Array Nat} {es : Array MapEntry} (h : HInv W n0 ρ0 ρ hp n w) (hi : itAt hp.x p r since seen last es c) :
    ∃ b : Nat,p = (b : Int) + 1 ∧ hp.x b = some (.mapIter (some r) since seen last) ∧ w.heap[b]? = some (.mapIter (some r) since seen last) ∧ w.heap[r]? = some (.map es c):=by
  obtain ⟨b,h1,h2,h3⟩:=hi
  exact ⟨b,h1,h2,h.mem.sub b _ h2,h.mem.sub r _ h3⟩
theorem pv_it {p : Int} {b : Nat} (h : p = (b : Int) + 1) : pv p 0 = .pointer (some ⟨b,0,none⟩):=by
  subst h;unfold pv;rw [show (((b : Int) + 1).toNat) = b + 1 by omega]
theorem rngX_sound {o : Oper} {k : V → St → Tr} (hI : Inv W n0 ρ0 N ρ σ a w) (h : (rngX P o.op σ k).sat R) : OpS P W n0 ρ0 N R ρ σ a w (execOp a.eval o) k:=by
  obtain ⟨dst,op,type,pos,after,guard⟩:=o
  simp only at h
  unfold rngX at h
  split at h
  · rename_i t x
    split at h
    · rename_i v hx hwr
      obtain ⟨q,hq,h⟩:=kO_sat h
      obtain ⟨⟨r,es,c,hv,hr⟩,h⟩:=h
      have hu : P.underlying t = some (.map q.1 q.2):=by
        unfold mapKT at hq;split at hq
        · rename_i hu;cases hq;exact hu
        · cases hq
      have hd : a.eval x = .map (some r):=by rw [ev_den hI x,hx];exact hv
      have hb:=hI.H.mem.sub r _ hr
      have hs:=h ⟨[(w.heap.size : Int) + 1],[],[],alO σ.hp.x w.heap.size (itNew σ.hp.x (pl v))⟩ ⟨w.heap.size,hI.H.mem.fresh,rfl,rfl⟩
      have hin : itNew σ.hp.x (pl v) = .mapIter (some r) c #[] c:=by simp only [itNew,hv,hr]
      refine ⟨_,_,ρ,w.alloc (itNew σ.hp.x (pl v)),hI.later (Ext.refl _ _) (Nat.le_refl _) (HInv.freshO hI.H (itNew σ.hp.x (pl v))),Ext.refl _ _,Nat.le_refl _,rfl,hs,.inl ?_⟩
      refine run_v (s:=Instr.range t (a.eval x)) ?_
      rw [hd,hin,run_range_map w t q.1 q.2 r es c hu hb]
      simp [V.den,U.den,C.den,pI,pv]
    · exact h.elim
  · rename_i x s
    split at h
    · rename_i p kt vt hx hwr ht
      obtain ⟨z,hz,h⟩:=kO_sat h
      obtain ⟨⟨r,since,seen,last,es,c,hi,hsl,hes⟩,h⟩:=h
      obtain ⟨b,hpb,hxb,hwb,hwr'⟩:=itAt_heap hI.H hi
      have hd : a.eval x = .pointer (some ⟨b,0,none⟩):=by rw [ev_den hI x,hx];exact pv_it hpb
      have hlt : b < w.heap.size:=(Array.getElem?_eq_some_iff.1 hwb).1
      rcases run_next_at (P:=P) w type b r since last seen es c hwb hwr' (fun e he => (hes e he).1) hsl with ⟨h0,hrun⟩ | ⟨e,he,w1,hal,hrun⟩
      · have hs:=h ⟨[],[false],[],σ.hp.x⟩ (fun r' since' seen' last' es' c' hi' => by
          obtain ⟨b',hpb',hxb',_,hwr2⟩:=itAt_heap hI.H hi'
          obtain rfl : b' = b:=by omega
          rw [hxb] at hxb';cases hxb'
          rw [hwr'] at hwr2;cases hwr2
          exact .inl ⟨rfl,rfl,h0⟩)
        have hs:=hs.2 rfl
        refine ⟨_,_,ρ,w,hI,Ext.refl _ _,Nat.le_refl _,rfl,hs,.inl ?_⟩
        refine run_v (s:=Instr.next (a.eval x) false type) ?_
        rw [hd,hrun];rfl
      · have hs:=h ⟨[],[true],[e.key,e.val],alO σ.hp.x (p.toNat - 1) (.mapIter (some r) since (seen.push e.born) c)⟩ (fun r' since' seen' last' es' c' hi' => by
          obtain ⟨b',hpb',hxb',_,hwr2⟩:=itAt_heap hI.H hi'
          obtain rfl : b' = b:=by omega
          rw [hxb] at hxb';cases hxb'
          rw [hwr'] at hwr2;cases hwr2
          exact .inr ⟨e,he,rfl,rfl,rfl⟩)
        have hs:=hs.1 rfl
        have hpn : p.toNat - 1 = b:=by omega
        rw [hpn] at hs
        have hem : e ∈ es.toList:=by
          unfold leftOf at he
          simp at he ⊢;exact he.1
        obtain ⟨_,hk1,hv1⟩:=hes e hem
        have hh1 : w1.heap = w.heap ∧ w1.os = w.os ∧ w1.tape = w.tape ∧ w1.output = w.output:=by rcases hal with rfl | rfl <;> exact ⟨rfl,rfl,rfl,rfl⟩
        have hT : Touch b w (ChangeMaps.setBlock w1 b (.mapIter (some r) since (seen.push e.born) c)):=by
          refine ⟨hh1.2.1,hh1.2.2.1,hh1.2.2.2,by simp [ChangeMaps.setBlock,hh1.1],fun j _ hj => ?_⟩
          simp only [ChangeMaps.setBlock,hh1.1]
          rw [Array.getElem?_setIfInBounds_ne (Ne.symm hj)]
        have hset : (ChangeMaps.setBlock w1 b (.mapIter (some r) since (seen.push e.born) c)).heap[b]? = some (.mapIter (some r) since (seen.push e.born) c):=by
          simp only [ChangeMaps.setBlock,hh1.1]
          rw [Array.getElem?_setIfInBounds_self_of_lt hlt]
        refine ⟨_,_,ρ,_,hI.later (Ext.refl _ _) (Nat.le_refl _) (hI.H.write hxb hwr hT hset (x':=alO σ.hp.x b (.mapIter (some r) since (seen.push e.born) c)) (fun j => rfl)),Ext.refl _ _,Nat.le_refl _,?_,hs,.inl ?_⟩
        · have e1:=rdU_wf z.1 e.key σ.n
          have e2:=rdU_wf z.2 e.val σ.n
          simp only [V.wf,hdV,tlV,List.all_cons,List.all_nil,e1,e2,Bool.and_true]
          rfl
        · refine run_v (s:=Instr.next (a.eval x) false type) ?_
          rw [hd,hrun]
          simp only [V.den,hdV,tlV,List.map_cons,List.map_nil,rdU_den ρ hk1,rdU_den ρ hv1]
          rfl
    · exact h.elim
  · rename_i x
    split at h
    · rename_i p kt vt hx ht
      obtain ⟨z,hz,h⟩:=kO_sat h
      obtain ⟨⟨h1,h2,h3⟩,h⟩:=h
      refine ⟨_,_,ρ,w,hI,Ext.refl _ _,Nat.le_refl _,?_,h,.inl ?_⟩
      · have e1:=rdU_wf z.1 (entK σ.hp.x p) σ.n
        have e2:=rdU_wf z.2 (entV σ.hp.x p) σ.n
        simp [V.wf,e1,e2]
      · refine run_v (s:=Instr.entry (a.eval x)) ?_
        obtain ⟨e,he⟩:=Option.isSome_iff_exists.1 h1
        have hk : entK σ.hp.x p = e.key:=by unfold entK;rw [he]
        have hv : entV σ.hp.x p = e.val:=by unfold entV;rw [he]
        rw [hk] at h2;rw [hv] at h3
        unfold entAt at he
        split at he
        · cases he
        · rename_i b hb
          have hd : a.eval x = .pointer (some ⟨b,0,none⟩):=by rw [ev_den hI x,hx];exact pv_it (by omega)
          split at he
          · rename_i r since seen last hxb
            split at he
            · rename_i es c bn hxr hbk
              split at he
              · rename_i hcl
                have hcl : c = last:=Nat.eq_of_beq_eq_true hcl
                have g1:=hI.H.mem.sub b _ hxb
                have g2:=hI.H.mem.sub r _ hxr
                rw [hd]
                simp only [Instr.entry,getObj,Sem.run_bind,Sem.run,g1,g2,Result.andThen,hbk,hcl,bne_self_eq_false,Bool.false_eq_true,if_false,he]
                simp [V.den,hk,hv,rdU_den ρ h2,rdU_den ρ h3]
              · cases he
            · cases he
          · cases he
    · exact h.elim
  · exact h.elim
end
end Go.Proofs.Ytnlohongffpkpaa.Sx
end
