/- The symbolic executor over this program's code: its values, its states, its rounds. A text of the session's own. -/
import Derived.WalkKit
import Derived.KernelRfl
namespace Go.Proofs.Ytnlohongffpkpaa.Sx
theorem Nat.beq_eq_false_iff {a b : Nat} : Nat.beq a b = false ↔ a ≠ b := by
  constructor
  · intro h e; subst e; rw [Nat.beq_refl] at h; cases h
  · intro h
    cases hb : Nat.beq a b with
    | false => rfl
    | true => exact absurd (Nat.eq_of_beq_eq_true hb) h
open Go

/-- A cell's value: literal or symbolic; a pointer into the local heap; a closure over local cells; a slice of a local row; any other value as it is. -/
inductive C where
  | lb (x : Bool)
  | sb (x : Bool)
  | li (k : IntKind) (n : Int)
  | si (k : IntKind) (n : Int)
  | ptr (id off : Nat)
  | nilp
  | fn (f : FuncId) (cs : List (Nat × Nat))
  | sl (id off len cap : Nat)
  | mp (id : Nat)
  | ifp (t id off : Nat)
  /-- a pointer into the memory: nil, or one more than the address -/
  | np (p : Int) (off : Nat)
  /-- a value that is one cell -/
  | sv (v : Value)
  | raw (v : Value)

inductive U where
  | c (x : C)
  | agg (xs : List C)

inductive V where
  | u (x : U)
  | tup (xs : List U)

def ptrV (ρ : Nat → Nat) (q : Nat × Nat) : Value := .pointer (some ⟨ρ q.1, q.2, none⟩)

def pv (p : Int) (off : Nat) : Value :=
  match p.toNat with
  | 0 => .pointer none
  | a + 1 => .pointer (some ⟨a, off, none⟩)
/-- A value that is one cell, whatever it is. -/
def pl : Value → Value
  | .agg _ => .bool false
  | .tuple _ => .bool false
  | v => v
def C.den (ρ : Nat → Nat) : C → Value
  | .lb x => .bool x
  | .sb x => .bool x
  | .li k n => .int k n
  | .si k n => .int k n
  | .ptr id off => .pointer (some ⟨ρ id, off, none⟩)
  | .nilp => .pointer none
  | .fn f cs => .func (.func f) #[] (cs.map (ptrV ρ)).toArray
  | .sl id off len cap => .slice (some ⟨ρ id, off, none⟩) len cap
  | .mp id => .map (some (ρ id))
  | .ifp t id off => .iface t (.pointer (some ⟨ρ id, off, none⟩))
  | .np p off => pv p off
  | .sv v => pl v
  | .raw v => v

def dens (ρ : Nat → Nat) (xs : List C) : Array Value := (xs.map (C.den ρ)).toArray

def U.den (ρ : Nat → Nat) : U → Value
  | .c x => x.den ρ
  | .agg xs => .agg (dens ρ xs)

def V.den (ρ : Nat → Nat) : V → Value
  | .u x => x.den ρ
  | .tup xs => .tuple (xs.map (U.den ρ)).toArray

def C.wf (n : Nat) : C → Bool
  | .ptr id _ => Nat.blt id n
  | .fn _ cs => cs.all fun q => Nat.blt q.1 n
  | .sl id _ _ _ => Nat.blt id n
  | .mp id => Nat.blt id n
  | .ifp _ id _ => Nat.blt id n
  | _ => true

def U.wf (n : Nat) : U → Bool
  | .c x => x.wf n
  | .agg xs => xs.all (C.wf n)

def V.wf (n : Nat) : V → Bool
  | .u x => x.wf n
  | .tup xs => xs.all (U.wf n)

def C.ofValue : Value → C
  | .bool x => .lb x
  | .int k n => .li k n
  | .pointer none => .nilp
  | v => .raw v

def U.ofValue : Value → U
  | .agg cs => .agg (cs.toList.map C.ofValue)
  | v => .c (C.ofValue v)

def V.ofValue : Value → V
  | .tuple vs => .tup (vs.toList.map U.ofValue)
  | v => .u (U.ofValue v)

theorem C.den_ofValue (ρ : Nat → Nat) (v : Value) : (C.ofValue v).den ρ = v := by
  unfold C.ofValue
  split <;> rfl

theorem U.den_ofValue (ρ : Nat → Nat) (v : Value) : (U.ofValue v).den ρ = v := by
  unfold U.ofValue
  split
  · rename_i cs
    simp only [U.den, dens, List.map_map]
    have : (C.den ρ ∘ C.ofValue) = id := funext fun v => C.den_ofValue ρ v
    simp [this]
  · exact C.den_ofValue ρ _

theorem V.den_ofValue (ρ : Nat → Nat) (v : Value) : (V.ofValue v).den ρ = v := by
  unfold V.ofValue
  split
  · rename_i cs
    simp only [V.den, List.map_map]
    have : (U.den ρ ∘ U.ofValue) = id := funext fun v => U.den_ofValue ρ v
    simp [this]
  · exact U.den_ofValue ρ _

theorem C.wf_ofValue (n : Nat) (v : Value) : (C.ofValue v).wf n = true := by
  unfold C.ofValue
  split <;> rfl
theorem U.wf_ofValue (n : Nat) (v : Value) : (U.ofValue v).wf n = true := by
  unfold U.ofValue
  split
  · simp [U.wf, C.wf_ofValue]
  · simp [U.wf, C.wf_ofValue]
theorem V.wf_ofValue (n : Nat) (v : Value) : (V.ofValue v).wf n = true := by
  unfold V.ofValue
  split
  · simp [V.wf, U.wf_ofValue]
  · simp [V.wf, U.wf_ofValue]

/-! what is told of a value does not hang on numbers beyond its own -/
def Ext (n : Nat) (ρ ρ' : Nat → Nat) : Prop := ∀ i, i < n → ρ' i = ρ i

theorem Ext.refl (n : Nat) (ρ : Nat → Nat) : Ext n ρ ρ := fun _ _ => rfl
theorem Ext.trans {n m : Nat} {ρ ρ' ρ'' : Nat → Nat} (h : Ext n ρ ρ') (hnm : n ≤ m) (h' : Ext m ρ' ρ'') : Ext n ρ ρ'' :=
  fun i hi => (h' i (Nat.lt_of_lt_of_le hi hnm)).trans (h i hi)

theorem C.den_ext {n : Nat} {ρ ρ' : Nat → Nat} (h : Ext n ρ ρ') (x : C) (hw : x.wf n = true) : x.den ρ' = x.den ρ := by
  cases x with
  | ptr id off => simp only [C.wf, Nat.blt_eq] at hw; simp [C.den, h id hw]
  | sl id off len cap => simp only [C.wf, Nat.blt_eq] at hw; simp [C.den, h id hw]
  | mp id => simp only [C.wf, Nat.blt_eq] at hw; simp [C.den, h id hw]
  | ifp t id off => simp only [C.wf, Nat.blt_eq] at hw; simp [C.den, h id hw]
  | fn f cs =>
    simp only [C.wf, List.all_eq_true, Nat.blt_eq] at hw
    simp only [C.den]
    congr 2
    exact List.map_congr_left fun q hq => by simp [ptrV, h q.1 (hw q hq)]
  | _ => rfl

theorem dens_ext {n : Nat} {ρ ρ' : Nat → Nat} (h : Ext n ρ ρ') (xs : List C) (hw : xs.all (C.wf n) = true) : dens ρ' xs = dens ρ xs := by
  simp only [List.all_eq_true] at hw
  simp only [dens]
  congr 1
  exact List.map_congr_left fun x hx => C.den_ext h x (hw x hx)

theorem U.den_ext {n : Nat} {ρ ρ' : Nat → Nat} (h : Ext n ρ ρ') (x : U) (hw : x.wf n = true) : x.den ρ' = x.den ρ := by
  cases x with
  | c x => exact C.den_ext h x hw
  | agg xs => simp only [U.den, dens_ext h xs hw]

theorem V.den_ext {n : Nat} {ρ ρ' : Nat → Nat} (h : Ext n ρ ρ') (x : V) (hw : x.wf n = true) : x.den ρ' = x.den ρ := by
  cases x with
  | u x => exact U.den_ext h x hw
  | tup xs =>
    simp only [V.wf, List.all_eq_true] at hw
    simp only [V.den]
    congr 2
    exact List.map_congr_left fun x hx => U.den_ext h x (hw x hx)

theorem C.wf_mono {n m : Nat} (h : n ≤ m) (x : C) (hw : x.wf n = true) : x.wf m = true := by
  cases x with
  | ptr id off => simp only [C.wf, Nat.blt_eq] at hw ⊢; omega
  | sl id off len cap => simp only [C.wf, Nat.blt_eq] at hw ⊢; omega
  | mp id => simp only [C.wf, Nat.blt_eq] at hw ⊢; omega
  | ifp t id off => simp only [C.wf, Nat.blt_eq] at hw ⊢; omega
  | fn f cs => simp only [C.wf, List.all_eq_true, Nat.blt_eq] at hw ⊢; intro q hq; have := hw q hq; omega
  | _ => rfl
theorem U.wf_mono {n m : Nat} (h : n ≤ m) (x : U) (hw : x.wf n = true) : x.wf m = true := by
  cases x with
  | c x => exact C.wf_mono h x hw
  | agg xs => simp only [U.wf, List.all_eq_true] at hw ⊢; exact fun x hx => C.wf_mono h x (hw x hx)
theorem V.wf_mono {n m : Nat} (h : n ≤ m) (x : V) (hw : x.wf n = true) : x.wf m = true := by
  cases x with
  | u x => exact U.wf_mono h x hw
  | tup xs => simp only [V.wf, List.all_eq_true] at hw ⊢; exact fun x hx => U.wf_mono h x (hw x hx)

/-! states -/
abbrev Blk := List C × Nat
/-- A map's entries (key, element, when it was put in), and its clock. -/
abbrev MBlk := List (U × U × Nat) × Nat
/-- The memory: what is known of the heap beside the local blocks, by addresses. -/
abbrev Mem := Nat → Option Obj
def noM : Mem := fun _ => none
structure Hp where
  c : List (Nat × Blk)
  m : List (Nat × MBlk)
  /-- the first of the blocks that may be written -/
  lim : Nat
  x : Mem
  /-- whether the memory may be written -/
  wr : Bool
  /-- the types whose new objects are of the memory -/
  mt : List Nat
def hnil : Hp := ⟨[], [], 0, noM, true, []⟩
def hcons (q : Nat × Blk) (h : Hp) : Hp := ⟨q :: h.c, h.m, h.lim, h.x, h.wr, h.mt⟩
def mcons (q : Nat × MBlk) (h : Hp) : Hp := ⟨h.c, q :: h.m, h.lim, h.x, h.wr, h.mt⟩
/-- how many blocks there were, from which on they might be written, and what the memory was -/
structure NL where
  n : Nat
  l : Nat
  x : Mem
def mden (ρ : Nat → Nat) (es : List (U × U × Nat)) : Array MapEntry := (es.map fun e => ({ key := e.1.den ρ, val := e.2.1.den ρ, born := e.2.2 } : MapEntry)).toArray
def mwf (n : Nat) (es : List (U × U × Nat)) : Bool := es.all fun e => e.1.wf n && e.2.1.wf n
theorem mden_ext {n : Nat} {ρ ρ' : Nat → Nat} (h : Ext n ρ ρ') (es : List (U × U × Nat)) (hw : mwf n es = true) : mden ρ' es = mden ρ es := by
  simp only [mwf, List.all_eq_true, Bool.and_eq_true] at hw
  simp only [mden]
  congr 1
  exact List.map_congr_left fun e he => by rw [U.den_ext h _ (hw e he).1, U.den_ext h _ (hw e he).2]
theorem mwf_mono {n m : Nat} (h : n ≤ m) (es : List (U × U × Nat)) (hw : mwf n es = true) : mwf m es = true := by
  simp only [mwf, List.all_eq_true, Bool.and_eq_true] at hw ⊢
  exact fun e he => ⟨U.wf_mono h _ (hw e he).1, U.wf_mono h _ (hw e he).2⟩

structure St where
  tm : List (Nat × V)
  hp : Hp
  n : Nat

def look (l : List (Nat × V)) (t : Nat) : V :=
  match l with
  | [] => .tup []
  | (i, v) :: r => match Nat.beq i t with | true => v | false => look r t

def lookL {α : Type} (l : List (Nat × α)) (t : Nat) : Option α :=
  match l with
  | [] => none
  | (i, v) :: r => match Nat.beq i t with | true => some v | false => lookL r t
def lookH (h : Hp) (t : Nat) : Option Blk := lookL h.c t
def lookM (h : Hp) (t : Nat) : Option MBlk := lookL h.m t
theorem lookH_hnil (t : Nat) : lookH hnil t = none := rfl
theorem lookM_hnil (t : Nat) : lookM hnil t = none := rfl
theorem lookH_hcons (i : Nat) (v : Blk) (h : Hp) (t : Nat) : lookH (hcons (i, v) h) t = match Nat.beq i t with | true => some v | false => lookH h t := rfl
theorem lookM_hcons (q : Nat × Blk) (h : Hp) (t : Nat) : lookM (hcons q h) t = lookM h t := rfl
theorem lookH_mcons (q : Nat × MBlk) (h : Hp) (t : Nat) : lookH (mcons q h) t = lookH h t := rfl
theorem lookM_mcons (i : Nat) (v : MBlk) (h : Hp) (t : Nat) : lookM (mcons (i, v) h) t = match Nat.beq i t with | true => some v | false => lookM h t := rfl

def St.put (σ : St) (d : Option Tmp) (v : V) : St :=
  match d with
  | some d => { σ with tm := (d, v) :: σ.tm }
  | none => σ

inductive E where
  | normal
  | exit (id : Nat)
  | ret

def E.to : E → Exit
  | .normal => .normal
  | .exit id => .exit id
  | .ret => .ret

/-- Variables: numbers, bools, other values, and a memory. -/
structure Vars where
  i : List Int
  b : List Bool
  v : List Value
  m : Mem

inductive Leaf where
  | ret (v : V) (hp : Hp) (n : Nat)
  | out (e : E) (σ : St)
  | val (v : V)
  /-- a loop's next round, with its variables -/
  | again (y : Vars)
  /-- what is handed back, and the memory -/
  | memo (v : V) (x : Mem)
  /-- what is told behind a loop -/
  | up (l : Leaf)

inductive Tr where
  | leaf (l : Leaf)
  | br (b : Bool) (t e : Tr)
  | no (why : Nat)
  /-- what is to hold -/
  | req (p : Prop) (t : Tr)
  /-- whatever numbers, bools and memory of which this holds -/
  | any (q : Vars → Prop) (f : Vars → Tr)
  /-- a memory, by name -/
  | letm (m : Mem) (f : Mem → Tr)
  /-- a loop: the variables of its first round; what a round of any variables, and junk in dead tmps comes to -/
  | lp (y : Vars) (f : Vars → (Nat → Value) → Tr)

/-- What the leaves of a round are to meet. -/
def inLoop (I : Vars → Prop) (m : Nat) (μ : Vars → Nat) (R : Leaf → Prop) : Leaf → Prop
  | .again y => I y ∧ μ y < m
  | .up l => R l
  | _ => False

def Tr.sat : (R : Leaf → Prop) → Tr → Prop
  | R, .leaf l => R l
  | R, .br b t e => (b = true → t.sat R) ∧ (b = false → e.sat R)
  | _, .no _ => False
  | R, .req p t => p ∧ t.sat R
  | R, .any q f => ∀ y, q y → (f y).sat R
  | R, .letm m f => (f m).sat R
  | R, .lp x f => ∃ (I : Vars → Prop) (μ : Vars → Nat), I x ∧ ∀ y j, I y → (f y j).sat (inLoop I (μ y) μ R)

def upIn (g : Leaf → Leaf) : Leaf → Leaf
  | .up l => .up (g l)
  | l => l
/-- The same tree, its leaves changed. -/
def Tr.mapL : (g : Leaf → Leaf) → Tr → Tr
  | g, .leaf l => .leaf (g l)
  | g, .br b t e => .br b (t.mapL g) (e.mapL g)
  | _, .no n => .no n
  | g, .req p t => .req p (t.mapL g)
  | g, .any q f => .any q fun x => (f x).mapL g
  | g, .letm m f => .letm m fun x => (f x).mapL g
  | g, .lp x f => .lp x fun y j => (f y j).mapL (upIn g)

theorem inLoop_up (I : Vars → Prop) (m : Nat) (μ : Vars → Nat) (R : Leaf → Prop) (g : Leaf → Leaf) (l : Leaf) : inLoop I m μ R (upIn g l) = inLoop I m μ (fun l => R (g l)) l := by
  cases l <;> rfl

theorem mapL_sat : ∀ (T : Tr) (g : Leaf → Leaf) (R : Leaf → Prop), (T.mapL g).sat R → T.sat (fun l => R (g l))
  | .leaf l, g, R, h => h
  | .br b t e, g, R, h => ⟨fun hb => mapL_sat t g R (h.1 hb), fun hb => mapL_sat e g R (h.2 hb)⟩
  | .no _, g, R, h => h
  | .req p t, g, R, h => ⟨h.1, mapL_sat t g R h.2⟩
  | .any q f, g, R, h => fun x hq => mapL_sat (f x) g R (h x hq)
  | .letm m f, g, R, h => mapL_sat (f m) g R h
  | .lp x f, g, R, h => by
    obtain ⟨I, μ, h1, h2⟩ := h
    refine ⟨I, μ, h1, fun y j hI => ?_⟩
    have := mapL_sat (f y j) (upIn g) _ (h2 y j hI)
    have e : (fun l => inLoop I (μ y) μ R (upIn g l)) = inLoop I (μ y) μ (fun l => R (g l)) := funext fun l => inLoop_up I _ μ R g l
    rw [e] at this
    exact this

/-- a block that may be written -/
def lookW (h : Hp) (id : Nat) : Option Blk := match Nat.ble h.lim id with | true => lookH h id | false => none
def lookMW (h : Hp) (id : Nat) : Option MBlk := match Nat.ble h.lim id with | true => lookM h id | false => none
theorem lookW_spec {h : Hp} {id : Nat} {b : Blk} (e : lookW h id = some b) : lookH h id = some b ∧ h.lim ≤ id := by
  unfold lookW at e
  split at e
  · rename_i hl; exact ⟨e, Nat.le_of_ble_eq_true hl⟩
  · cases e
theorem lookMW_spec {h : Hp} {id : Nat} {b : MBlk} (e : lookMW h id = some b) : lookM h id = some b ∧ h.lim ≤ id := by
  unfold lookMW at e
  split at e
  · rename_i hl; exact ⟨e, Nat.le_of_ble_eq_true hl⟩
  · cases e

/-- What the world holds of the memory. -/
structure MR (W : World) (x0 : Mem) (b : Bool) (x : Mem) (ρ : Nat → Nat) (n : Nat) (w : World) : Prop where
  sub : ∀ a o, x a = some o → w.heap[a]? = some o
  sep : ∀ a o, x a = some o → ∀ i, i < n → ρ i ≠ a
  dom : b = true → ∀ a o, x a = some o → x0 a ≠ none ∨ W.heap.size ≤ a
/-- What the world holds of the local heap; all else that was in W is as it was. -/
structure HInv (W : World) (n0 : NL) (ρ0 ρ : Nat → Nat) (hp : Hp) (n : Nat) (w : World) : Prop where
  lt : ∀ i, i < n → ρ i < w.heap.size
  inj : ∀ i j, i < n → j < n → ρ i = ρ j → i = j
  blk : ∀ i b, lookH hp i = some b → i < n ∧ b.1.all (C.wf n) = true ∧ w.heap[ρ i]? = some (.cells (dens ρ b.1) b.2 (0, 0))
  le : n0.n ≤ n
  old : Ext n0.n ρ0 ρ
  new : ∀ i, n0.n ≤ i → i < n → W.heap.size ≤ ρ i
  os : w.os = W.os
  tape : w.tape = W.tape
  output : w.output = W.output
  size : W.heap.size ≤ w.heap.size
  far : ∀ k, k < W.heap.size → n0.x k = none → (∀ i, n0.l ≤ i → i < n0.n → ρ0 i ≠ k) → w.heap[k]? = W.heap[k]?
  mblk : ∀ i b, lookM hp i = some b → i < n ∧ mwf n b.1 = true ∧ w.heap[ρ i]? = some (.map (mden ρ b.1) b.2)
  lim : hp.lim = n0.l
  mem : MR W n0.x hp.wr hp.x ρ n w

theorem MR.lt {W : World} {x0 x : Mem} {b : Bool} {ρ : Nat → Nat} {n : Nat} {w : World} (h : MR W x0 b x ρ n w) {a : Nat} {o : Obj} (e : x a = some o) : a < w.heap.size := by
  have := h.sub a o e
  rcases Nat.lt_or_ge a w.heap.size with h1 | h1
  · exact h1
  · rw [Array.getElem?_eq_none h1] at this; cases this
theorem MR.none (W : World) (x0 : Mem) (b : Bool) (ρ : Nat → Nat) (n : Nat) (w : World) : MR W x0 b noM ρ n w := ⟨fun _ _ h => (by cases h), fun _ _ h => (by cases h), fun _ _ _ h => by cases h⟩
theorem MR.fresh {W : World} {x0 x : Mem} {b : Bool} {ρ : Nat → Nat} {n : Nat} {w : World} (h : MR W x0 b x ρ n w) : x w.heap.size = Option.none := by
  cases e : x w.heap.size with
  | none => rfl
  | some o => exact absurd (h.lt e) (Nat.lt_irrefl _)
/-- A new local block. -/
theorem MR.alloc {W : World} {x0 x : Mem} {b : Bool} {ρ : Nat → Nat} {n : Nat} {w : World} (h : MR W x0 b x ρ n w) (o : Obj) : MR W x0 b x (fun i => if i = n then w.heap.size else ρ i) (n + 1) (w.alloc o) := by
  refine ⟨fun a q e => ?_, fun a q e i hi => ?_, h.dom⟩
  · show (w.heap.push o)[a]? = _
    rw [Array.getElem?_push, if_neg (Nat.ne_of_lt (h.lt e))]
    exact h.sub a q e
  · show (if i = n then w.heap.size else ρ i) ≠ a
    have := h.lt e
    split
    · omega
    · exact h.sep a q e i (by omega)
/-- A world that is as it was but at local blocks. -/
theorem MR.keep {W : World} {x0 x : Mem} {b : Bool} {ρ : Nat → Nat} {n : Nat} {w w' : World} (h : MR W x0 b x ρ n w) (hk : ∀ a, a < w.heap.size → (∀ i, i < n → ρ i ≠ a) → w'.heap[a]? = w.heap[a]?) : MR W x0 b x ρ n w' :=
  ⟨fun a o e => (hk a (h.lt e) (h.sep a o e)).trans (h.sub a o e), h.sep, h.dom⟩

/-- A block taken into the local heap. -/
theorem MR.adopt {W : World} {x0 x : Mem} {b : Bool} {ρ : Nat → Nat} {n : Nat} {w : World} (h : MR W x0 b x ρ n w) {c : Nat} (hc : x c = Option.none) : MR W x0 b x (fun i => if i = n then c else ρ i) (n + 1) w := by
  refine ⟨h.sub, fun a o e i hi => ?_, h.dom⟩
  show (if i = n then c else ρ i) ≠ a
  split
  · intro e'; rw [e', e] at hc; cases hc
  · exact h.sep a o e i (by omega)
/-- A world in which the memory is as it was. -/
theorem MR.sub' {W : World} {x0 x : Mem} {b : Bool} {ρ : Nat → Nat} {n : Nat} {w w' : World} (h : MR W x0 b x ρ n w) (hk : ∀ a, a < w.heap.size → ∀ o, x a = some o → w'.heap[a]? = w.heap[a]?) : MR W x0 b x ρ n w' :=
  ⟨fun a o e => (hk a (h.lt e) o e).trans (h.sub a o e), h.sep, h.dom⟩

structure Inv (W : World) (n0 : NL) (ρ0 : Nat → Nat) (N : Nat) (ρ : Nat → Nat) (σ : St) (a : Act) (w : World) : Prop where
  defers : a.defers = []
  sz : a.tmps.size = N
  tm : ∀ t, a.tmps.getD t undef = (look σ.tm t).den ρ
  tmwf : ∀ q ∈ σ.tm, q.2.wf σ.n = true
  H : HInv W n0 ρ0 ρ σ.hp σ.n w

theorem look_wf {l : List (Nat × V)} {n : Nat} (h : ∀ q ∈ l, q.2.wf n = true) (t : Nat) : (look l t).wf n = true := by
  induction l with
  | nil => rfl
  | cons q r ih =>
    obtain ⟨i, v⟩ := q
    unfold look
    split
    · exact h (i, v) (by simp)
    · exact ih fun q hq => h q (by simp [hq])

section
variable {W : World} {n0 : NL} {ρ0 : Nat → Nat} {N : Nat} {ρ : Nat → Nat} {σ : St} {a : Act} {w : World}

theorem Inv.put (h : Inv W n0 ρ0 N ρ σ a w) (d : Option Tmp) (v : V) (hd : ∀ d', d = some d' → d' < N) (hv : v.wf σ.n = true) :
    Inv W n0 ρ0 N ρ (σ.put d v) (a.put d (v.den ρ)) w := by
  cases d with
  | none => exact h
  | some d =>
    refine ⟨h.defers, by simp [Act.put, h.sz], ?_, ?_, h.H⟩
    · intro t
      simp only [Act.put, St.put, look]
      by_cases e : d = t
      · subst e
        have hd : d < a.tmps.size := by rw [h.sz]; exact hd d rfl
        simp [hd]
      · have e' : Nat.beq d t = false := Nat.beq_eq_false_iff.2 e
        simp only [e']
        rw [← h.tm t]
        simp [e]
    · intro q hq
      simp only [St.put, List.mem_cons] at hq
      rcases hq with rfl | hq
      · exact hv
      · exact h.tmwf q hq

/-- A tmp's value told otherwise, if it is the same value. -/
theorem Inv.retell (h : Inv W n0 ρ0 N ρ σ a w) (d : Tmp) (v : V) (hv : v.wf σ.n = true) (he : (look σ.tm d).den ρ = v.den ρ) :
    Inv W n0 ρ0 N ρ { σ with tm := (d, v) :: σ.tm } a w := by
  refine ⟨h.defers, h.sz, ?_, ?_, h.H⟩
  · intro t
    simp only [look]
    by_cases e : d = t
    · subst e; simp only [Nat.beq_refl]; rw [h.tm d, he]
    · have e' : Nat.beq d t = false := Nat.beq_eq_false_iff.2 e
      simp only [e']
      exact h.tm t
  · intro q hq
    simp only [List.mem_cons] at hq
    rcases hq with rfl | hq
    · exact hv
    · exact h.tmwf q hq

/-- The same tmps over a later heap. -/
theorem Inv.later (h : Inv W n0 ρ0 N ρ σ a w) {ρ' : Nat → Nat} {hp : Hp} {n : Nat} {w' : World} (hE : Ext σ.n ρ ρ') (hn : σ.n ≤ n) (hH : HInv W n0 ρ0 ρ' hp n w') :
    Inv W n0 ρ0 N ρ' { σ with hp := hp, n := n } a w' :=
  ⟨h.defers, h.sz, fun t => (h.tm t).trans (V.den_ext hE _ (look_wf h.tmwf t)).symm, fun q hq => V.wf_mono hn _ (h.tmwf q hq), hH⟩

end

/-! operands -/
def ev (σ : St) : Operand → V
  | .tmp t => look σ.tm t
  | .const v => V.ofValue v
  | .global g => .u (.c (.raw (.pointer (some ⟨g, 0, none⟩))))
  | .func f => .u (.c (.fn f []))

theorem ev_wf {W : World} {n0 : NL} {ρ0 : Nat → Nat} {N : Nat} {ρ : Nat → Nat} {σ : St} {a : Act} {w : World} (h : Inv W n0 ρ0 N ρ σ a w) (x : Operand) : (ev σ x).wf σ.n = true := by
  cases x with
  | tmp t => exact look_wf h.tmwf t
  | const v => exact V.wf_ofValue _ v
  | global g => rfl
  | func f => rfl

theorem ev_den {W : World} {n0 : NL} {ρ0 : Nat → Nat} {N : Nat} {ρ : Nat → Nat} {σ : St} {a : Act} {w : World} (h : Inv W n0 ρ0 N ρ σ a w) (x : Operand) : a.eval x = (ev σ x).den ρ := by
  cases x with
  | tmp t => exact h.tm t
  | const v => exact (V.den_ofValue ρ v).symm
  | global g => rfl
  | func f => rfl

end Go.Proofs.Ytnlohongffpkpaa.Sx
