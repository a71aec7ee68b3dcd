import Derived.Test.YtnlohongffpkpaaLawPlaysW3
import Derived.RangeFuncKeeps
import Derived.RangeFuncWrites
import Derived.RangeFuncBound
import Derived.RangeFuncLeaves
import Derived.Shelf.Abstract
import Derived.WalkKit
import Derived.OwnWalkIn
import Derived.TacticsInMore
import Derived.Maps.AppendAt
import Derived.ProofKit
import Derived.OpenShut
import Derived.ChangeOld
import Derived.Below
import Derived.Laws.AppendOwn
import Derived.OrdersHeld
set_option linter.unusedVariables false
set_option linter.unusedSimpArgs false
section
namespace Go.Proofs.Ytnlohongffpkpaa.T16
open Go Go.RowKit Go.Shelf Go.Proofs.Ytnlohongffpkpaa.Sx Go.Proofs
set_option linter.unusedVariables false
set_option linter.unusedSimpArgs false
attribute [local go_sem] Oper.semAt_some
theorem room_of_none {F : Fence} (hd : F.depth = none) (k : Nat) : F.room k:=fun d h => by rw [hd] at h;cases h
theorem RoundIn.anyDepth {F : Fence} (hd : F.depth = none) {m m' : Nat} {P : Program} {l : Nat} {f : FuncId} {tmps : Array Value} {assign body : Code} {w : World} {R : Ending → World → Prop}
    (h : RoundIn F m P l f tmps assign body w R) : RoundIn F m' P l f tmps assign body w R:=⟨h.1,fun c cs _ => h.2 c cs (room_of_none hd _)⟩
theorem YieldAt.anyDepth {F : Fence} (hd : F.depth = none) {m : Nat} (m' : Nat) {P : Program} {l : Nat} {args : Array Value} {W : World} {R : Ending → World → Prop} (h : YieldAt F m P l args W R) : YieldAt F m' P l args W R:=by
  obtain ⟨fn,tmps,assign,body,hy,hR⟩:=h
  exact ⟨fn,tmps,assign,body,hy,RoundIn.anyDepth hd hR⟩
def hans (t : T) : List (Int × Int):=(nodes t).map fun x => (x.2.1,x.2.2)
abbrev hV (x : Int × Int) : Value:=.agg #[.int .i64 x.1,.int .u64 x.2]
def InW (n₀ : Nat) (W : World) : T → Prop
  | .nil => True
  | .nd p s g c l r => ∃ b : Nat,p = (b : Int) + 1 ∧ b < n₀ ∧ W.cell? ⟨b,0,none⟩ = some (.int .i64 s) ∧ W.cell? ⟨b,1,none⟩ = some (.int .u64 g) ∧ W.cell? ⟨b,2,none⟩ = some (pv l.ptr 0) ∧ W.cell? ⟨b,3,none⟩ = some (pv r.ptr 0) ∧ InW n₀ W l ∧ InW n₀ W r
theorem InW.below {n₀ : Nat} {A B : World} (h : Below n₀ A B) : ∀ {t : T},InW n₀ A t → InW n₀ B t
  | .nil,_ => trivial
  | .nd p s g c l r,⟨b,hp,hb,c0,c1,c2,c3,hl,hr⟩ => ⟨b,hp,hb,(h.cell (p:=⟨b,0,none⟩) hb).trans c0,(h.cell (p:=⟨b,1,none⟩) hb).trans c1,(h.cell (p:=⟨b,2,none⟩) hb).trans c2,(h.cell (p:=⟨b,3,none⟩) hb).trans c3,InW.below h hl,InW.below h hr⟩
theorem pv_succ (b off : Nat) : pv ((b : Int) + 1) off = .pointer (some ⟨b,off,none⟩):=by
  unfold pv;rw [show (((b : Int) + 1).toNat) = b + 1 by omega]
theorem wpListIn_pass {F : Fence} {n : Nat} {P : Program} {ops : Array Oper} {Q : Exit → Act → World → Prop} {o : Oper} {rest : List Oper} {a : Act} {w : World} (hw : Region.wanted o (yielded ops a.tmps) = false) (ha : ∀ f,o.about P w a.eval = some f → F.fn f) (h : wpListIn F n P ops Q rest (a.put o.dst undef) w) : wpListIn F n P ops Q (o :: rest) a w:=by
  simp only [wpListIn,hw]
  exact ⟨ha,h⟩
set_option maxRecDepth 100000 in
set_option maxHeartbeats 4000000 in
theorem tells_in (F : Fence) (hd : F.depth = none) (h79 : F.fn 79) (hro : F.round = none) (l n₀ N : Nat) (J Jx : List (Int × Int) → World → Prop)
    (hY : ∀ m pre x W,J pre W → pre.length < N → YieldAt F m Try.prog l #[hV x] W fun e W' =>
      (e = .returned (.bool true) ∧ J (pre ++ [x]) W' ∧ Below n₀ W W') ∨ (e = .returned (.bool false) ∧ Jx (pre ++ [x]) W')) (T : T) :
    ∀ (n : Nat) (pre : List (Int × Int)) (W : World),InW n₀ W T → J pre W → pre.length + (hans T).length ≤ N →
      CallsIn F n Try.prog 79 #[pv T.ptr 0,.func (.yield l) #[] #[]] W fun e W' =>
        (e = .returned (.bool true) ∧ J (pre ++ hans T) W' ∧ Below n₀ W W') ∨ (e = .returned (.bool false) ∧ ∃ q,q <+: hans T ∧ Jx (pre ++ q) W'):=by
  induction T with
  | nil =>
    intro n pre W ht hJ _
    rw [show pv T.nil.ptr 0 = .pointer none from rfl]
    refine callsIn_of_wp Try.func79 rfl h79 ?_ hro
    simp only [Try.ntmps79,List.size_toArray,List.length_cons,List.length_nil,Nat.reduceAdd,Nat.reduceSub,Array.replicate_succ,Array.replicate_zero,List.push_toArray,List.append_toArray,List.nil_append,List.cons_append]
    gi_wp2_with (refine wpListIn_pass (by rfl) (by intro f hf;first | (cases (show (none : Option FuncId) = some f from hf);done) | (cases (show some 79 = some f from hf);exact h79)) ?_;simp only [go_sem])
    go_ret
    exact .inl ⟨rfl,by simpa [hans,nodes] using hJ,Below.refl _ _⟩
  | nd p s g c tl tr ihl ihr =>
    intro n pre W ht hJ hN
    obtain ⟨b,rfl,hb,c0,c1,c2,c3,hl,hr⟩:=ht
    have hdd : ∀ k : Nat,(F.depth.isSome = true → 1 ≤ k):=fun k h => by rw [hd] at h;cases h
    have eT : hans (.nd ((b : Int) + 1) s g c tl tr) = hans tl ++ (s,g) :: hans tr:=by simp [hans,nodes]
    rw [eT] at hN ⊢
    simp only [List.length_append,List.length_cons] at hN
    rw [show pv (T.nd ((b : Int) + 1) s g c tl tr).ptr 0 = .pointer (some ⟨b,0,none⟩) from pv_succ b 0]
    have hy2 : ∀ W1,J (pre ++ hans tl) W1 → Below n₀ W W1 → YieldAt F (n - 1) Try.prog l #[hV (s,g)] W1 fun e W2 =>
        (e = .returned (.bool true) ∧ J (pre ++ hans tl ++ [(s,g)]) W2 ∧ Below n₀ W W2 ∧ W2.cell? ⟨b,3,none⟩ = some (pv tr.ptr 0) ∧ InW n₀ W2 tr) ∨ (e = .returned (.bool false) ∧ Jx (pre ++ hans tl ++ [(s,g)]) W2):=fun W1 hJ1 hb1 =>
      YieldAt.mono (hY (n - 1) _ (s,g) W1 hJ1 (by simp;omega)) fun e W2 h => h.elim
        (fun ⟨he,hj,hb2⟩ => .inl ⟨he,hj,hb1.trans hb2,((hb1.trans hb2).cell (p:=⟨b,3,none⟩) hb).trans c3,hr.below (hb1.trans hb2)⟩) .inr
    have ih1:=(ihl (n - 1) pre W hl hJ (by omega)).mono (R':=fun e W1 =>
        (e = .returned (.bool true) ∧ W1.cell? ⟨b,0,none⟩ = some (.int .i64 s) ∧ W1.cell? ⟨b,1,none⟩ = some (.int .u64 g) ∧ YieldAt F (n - 1) Try.prog l #[hV (s,g)] W1 fun e W2 =>
          (e = .returned (.bool true) ∧ J (pre ++ hans tl ++ [(s,g)]) W2 ∧ Below n₀ W W2 ∧ W2.cell? ⟨b,3,none⟩ = some (pv tr.ptr 0) ∧ InW n₀ W2 tr) ∨ (e = .returned (.bool false) ∧ Jx (pre ++ hans tl ++ [(s,g)]) W2)) ∨
        (e = .returned (.bool false) ∧ ∃ q,q <+: hans tl ∧ Jx (pre ++ q) W1))
      (fun e W1 h => h.elim (fun ⟨he,hj,hb1⟩ => .inl ⟨he,(hb1.cell (p:=⟨b,0,none⟩) hb).trans c0,(hb1.cell (p:=⟨b,1,none⟩) hb).trans c1,hy2 W1 hj hb1⟩) .inr)
    clear hy2 ihl
    refine callsIn_of_wp Try.func79 rfl h79 ?_ hro
    simp only [Try.ntmps79,List.size_toArray,List.length_cons,List.length_nil,Nat.reduceAdd,Nat.reduceSub,Array.replicate_succ,Array.replicate_zero,List.push_toArray,List.append_toArray,List.nil_append,List.cons_append]
    gi_wp2_with (first
      | ((try refine ⟨hdd _,?_⟩);gi_at_call 79;refine ih1.mono ?_;clear ih1;rintro e W1 (⟨rfl,c0',c1',fn,tmps,assign,body,hy,hR⟩ | ⟨rfl,q,hq,hx1⟩))
      | ((try refine ⟨hdd _,?_⟩);refine hR.mono ?_;clear hR;rintro e W2 (⟨rfl,hJ2,hb2,c3',hr2⟩ | ⟨rfl,hx2⟩))
      | ((try refine ⟨hdd _,?_⟩);gi_at_call 79;refine (ihr (n - 1) _ _ hr2 hJ2 (by simp;omega)).mono ?_;rintro e W3 (⟨rfl,hJ3,hb3⟩ | ⟨rfl,q,hq,hx3⟩))
      | (refine wpListIn_pass (by rfl) (by intro f hf;first | (cases (show (none : Option FuncId) = some f from hf);done) | (cases (show some 79 = some f from hf);exact h79)) ?_;simp only [go_sem]))
    · go_ret
      exact .inl ⟨rfl,by simpa [List.append_assoc] using hJ3,hb2.trans hb3⟩
    · go_ret
      obtain ⟨r,hr'⟩:=hq
      exact .inr ⟨rfl,hans tl ++ (s,g) :: q,⟨r,by simp [← hr']⟩,by simpa [List.append_assoc] using hx3⟩
    · go_ret
      exact .inr ⟨rfl,hans tl ++ [(s,g)],⟨hans tr,by simp⟩,by simpa [List.append_assoc] using hx2⟩
    · go_ret
      exact .inr ⟨rfl,q,hq.trans (by simp),hx1⟩
set_option maxHeartbeats 2000000 in
theorem each1_in (F : Fence) (hd : F.depth = none) (n : Nat) (h78 : F.fn 78) (h79 : F.fn 79) (hro : F.round = none) (l Bt n₀ : Nat) (T : T) (J Jx : List (Int × Int) → World → Prop)
    (hY : ∀ pre x W,J pre W → pre.length < (hans T).length → YieldAt F (n - 1) Try.prog l #[hV x] W fun e W' =>
      (e = .returned (.bool true) ∧ J (pre ++ [x]) W' ∧ Below n₀ W W') ∨ (e = .returned (.bool false) ∧ Jx (pre ++ [x]) W'))
    (W : World) (hBt : W.cell? ⟨Bt,0,none⟩ = some (pv T.ptr 0)) (hT : InW n₀ W T) (h0 : J [] W) :
    CallsIn F n Try.prog 78 #[.func (.yield l) #[] #[],.pointer (some ⟨Bt,0,none⟩)] W fun e W' => (∃ v,e = .returned v) ∧
      ((∃ ys,ys = hans T ∧ J ys W') ∨ (∃ pre,pre <+: hans T ∧ Jx pre W')):=by
  have hdd : ∀ k : Nat,(F.depth.isSome = true → 1 ≤ k):=fun k h => by rw [hd] at h;cases h
  have hp:=tells_in F hd h79 hro l n₀ (hans T).length J Jx (fun m pre x W hj hl => YieldAt.anyDepth hd m (hY pre x W hj hl)) T (n - 1) [] W hT h0 (by simp)
  refine callsIn_of_wp Try.func78 rfl h78 ?_ hro
  simp only [Try.ntmps78,List.size_toArray,List.length_cons,List.length_nil,Nat.reduceAdd,Nat.reduceSub,Array.replicate_succ,Array.replicate_zero,List.push_toArray,List.append_toArray,List.nil_append,List.cons_append]
  gi_wp2_with ((try refine ⟨hdd _,?_⟩);gi_at_call 79;refine hp.mono ?_;clear hp;rintro e W1 (⟨rfl,hJ1,_⟩ | ⟨rfl,q,hq,hx⟩))
  · go_end0
    exact ⟨⟨_,rfl⟩,.inl ⟨_,rfl,by simpa using hJ1⟩⟩
  · go_end0
    exact ⟨⟨_,rfl⟩,.inr ⟨q,hq,by simpa using hx⟩⟩
set_option maxHeartbeats 1000000 in
theorem each_in (F : Fence) (n : Nat) (h50 : F.fn 50) (hro : F.round = none) (p0 : Option Addr) (w : World) :
    CallsIn F n Try.prog 50 #[.pointer p0] w fun e w' => e = .returned (.func (.func 78) #[] #[.pointer (some ⟨w.heap.size,0,none⟩)]) ∧ w' = w.alloc (.cells #[.pointer p0] 93):=by
  refine callsIn_of_wp Try.func50 rfl h50 ?_ hro
  simp only [Try.ntmps50,List.size_toArray,List.length_cons,List.length_nil,Nat.reduceAdd,Nat.reduceSub,Array.replicate_succ,Array.replicate_zero,List.push_toArray,List.append_toArray,List.nil_append,List.cons_append]
  gi_wp2
  go_ret
  exact ⟨rfl,rfl⟩
def infoB (P : Program) (t sz by_ : Nat) : Bool:=match P.info? t with
  | some i => (match i.zero with | some z => Nat.beq i.size sz && Nat.beq i.bytes by_ && Nat.beq z.cells.size sz | none => false)
  | none => false
theorem infoB_of {P : Program} {t sz by_ : Nat} (h : infoB P t sz by_ = true) : ∃ i z,P.info? t = some i ∧ i.zero = some z ∧ i.size = sz ∧ i.bytes = by_ ∧ z.cells.size = sz:=by
  unfold infoB at h
  split at h
  · rename_i i hi
    split at h
    · rename_i z hz
      simp only [Bool.and_eq_true] at h
      exact ⟨i,z,hi,hz,Nat.eq_of_beq_eq_true h.1.1,Nat.eq_of_beq_eq_true h.1.2,Nat.eq_of_beq_eq_true h.2⟩
    · cases h
  · cases h
def hCells (l : List (Int × Int)) : List Value:=l.flatMap fun x => [.int .i64 x.1,.int .u64 x.2]
theorem hCells_snoc (l : List (Int × Int)) (x : Int × Int) : hCells (l ++ [x]) = hCells l ++ [.int .i64 x.1,.int .u64 x.2]:=by simp [hCells]
theorem cell_of_box {W : World} {B : Nat} {v : Value} {t : TypeId} (h : W.heap[B]? = some (.cells #[v] t (0,0))) : W.cell? ⟨B,0,none⟩ = some v ∧ W.frozen? ⟨B,0,none⟩ = false:=by
  constructor <;> simp [World.cell?,World.frozen?,h]
structure AllI (w : World) (lo : Loop) (pre : List (Int × Int)) (v : Value) (W : World) : Prop where
  box : W.heap[w.heap.size]? = some (.cells #[v] 35 (0,0))
  row : W.ownsRow w.heap.size 29 2 v pre.length (hCells pre)
  below : Below w.heap.size w W
  loop : W.heap[w.heap.size + 3]? = some (.loop lo)
  df : W.heap[w.heap.size + 2]? = some (.deferred (some []))
theorem row_ne {W : World} {base : Nat} {v : Value} {n : Nat} {xs : List Value} (h : W.ownsRow base 29 2 v n xs) {j : Nat} {o : Obj} (hj : W.heap[j]? = some o) (ho : ∀ cur,o ≠ .cells cur 29 (0,0)) : v.ownBlock = none ∨ v.ownBlock ≠ some j:=by
  rcases h.2 with ⟨rfl,_⟩ | ⟨g,cap,cur,rfl,_,hg,_⟩
  · exact .inl rfl
  · refine .inr fun e => ?_
    simp only [Value.ownBlock,Option.some.injEq] at e
    subst e
    rw [hg] at hj;cases hj
    exact ho cur rfl
theorem AllI.turn {w W W' : World} {lo : Loop} {pre : List (Int × Int)} {v : Value} (h : AllI w lo pre v W) {r : Option Nat} (hg : W.grownBy W' r) (hr : ∀ k,r = some k → w.heap.size < k ∧ k ≠ w.heap.size + 2 ∧ k ≠ w.heap.size + 3) (hv : v.ownBlock = none ∨ v.ownBlock ≠ r) : AllI w lo pre v W':=by
  have lt : ∀ {k : Nat} {o : Obj},W.heap[k]? = some o → k < W.heap.size:=fun h => (Array.getElem?_eq_some_iff.1 h).1
  refine ⟨(hg.block _ (lt h.box) fun e => ?_).trans h.box,h.row.kept hg hv,h.below.grown hg h.below.size (fun k e => by have:=hr k e;omega),(hg.block _ (lt h.loop) fun e => ?_).trans h.loop,(hg.block _ (lt h.df) fun e => ?_).trans h.df⟩
  · have:=hr _ e.symm;omega
  · have:=hr _ e.symm;omega
  · have:=hr _ e.symm;omega
theorem AllI.put {w W : World} {lo : Loop} {pre : List (Int × Int)} {v : Value} (h : AllI w lo pre v W) (lo' : Loop) : AllI w lo' pre v (W.putObj (w.heap.size + 3) (.loop lo')):=by
  have lt : ∀ {k : Nat} {o : Obj},W.heap[k]? = some o → k < W.heap.size:=fun h => (Array.getElem?_eq_some_iff.1 h).1
  have hg:=grownBy_putObj' W (w.heap.size + 3) (.loop lo')
  refine ⟨(World.putObj_heap_other (by omega)).trans h.box,h.row.kept hg (row_ne h.row h.loop (fun cur e => by cases e)),h.below.grown hg h.below.size (fun k e => by cases e;omega),World.putObj_heap_same (lt h.loop),(World.putObj_heap_other (by omega)).trans h.df⟩
theorem all_loop {F : Fence} (hd : F.depth = none) {n : Nat} (h78 : F.fn 78) (h79 : F.fn 79) (hro : F.round = none) (h1 : 1 ≤ n) {T : T} {w w2 : World} {A B : Code} {Q : Exit → Act → World → Prop} {act : Act}
    (hev : act.eval (Operand.tmp 11) = .func (.func 78) #[] #[.pointer (some ⟨w.heap.size + 1,0,none⟩)]) (hT : InW w.heap.size w T) (hs2 : w2.heap.size = w.heap.size + 2) (hb2 : Below w.heap.size w w2)
    (hbox : w2.heap[w.heap.size]? = some (.cells #[.slice none 0 0] 35 (0,0))) (hpt : w2.cell? ⟨w.heap.size + 1,0,none⟩ = some (pv T.ptr 0))
    (hround : ∀ (lo : Loop) (pre : List (Int × Int)) (x : Int × Int) (v : Value) (W : World),lo.state = .ready → lo.pending = none → AllI w lo pre v W → pre.length < (hans T).length →
      A.wpIn (F.inRound (w.heap.size + 3)) (n - 1 - 1) Try.prog (Exit.then (fun a₁ w₁ => ∃ w₂,(Instr.beginRound (w.heap.size + 3)).run Try.prog w₁ = .ok () w₂ ∧ B.wpIn (F.inRound (w.heap.size + 3)) (n - 1 - 1) Try.prog (roundPost Try.prog (w.heap.size + 3)
        (fun e W' => e = .returned (.bool true) ∧ (∃ v',AllI w lo (pre ++ [x]) v' W') ∧ W.heap.size ≤ W'.heap.size)) a₁ w₂) (fun _ _ _ => False)) { tmps:=act.tmps.setIfInBounds 12 (hV x),defers:=[] } W)
    (hdone : ∀ (lo : Loop) (v : Value) (W : World),AllI w lo (hans T) v W → Q .normal { act with defers:={ target:=.collected (w.heap.size + 2),args:=#[] } :: act.defers } W) :
    (Code.rangeFunc (Operand.tmp 11) #[12] A B).wpIn F n Try.prog Q act w2:=by
  refine wpIn_rangeFunc ?_
  intro fn hfn
  rw [hro]
  obtain ⟨lo,hlo⟩ : ∃ lo : Loop,{ state:=.ready,pending:=none,fn:=fn,tmps:=act.tmps,params:=#[12],assign:=A,body:=B,defers:=w2.heap.size } = lo:=⟨_,rfl⟩
  have l1 : lo.state = .ready:=by rw [← hlo]
  have l2 : lo.pending = none:=by rw [← hlo]
  have hent:=run_enterLoop_outer (P:=Try.prog) (w:=w2) fn act.tmps #[12] A B
  rw [hlo] at hent
  obtain ⟨W1,hW1⟩ : ∃ W1,(w2.alloc (.deferred (some []))).alloc (.loop lo) = W1:=⟨_,rfl⟩
  rw [hW1] at hent
  have hb1 : Below w.heap.size w W1:=by rw [← hW1];exact (hb2.alloc (by omega) _).alloc (by simp;omega) _
  have hI1 : AllI w lo [] (.slice none 0 0) W1:=by
    refine ⟨?_,World.ownsRow_nil _ _ _ _,hb1,?_,?_⟩
    · rw [← hW1];exact (Below.heap_alloc _ _ _ (by simp;omega)).trans ((Below.heap_alloc _ _ _ (by omega)).trans hbox)
    · rw [← hW1];have:=World.alloc_heap_new (w2.alloc (.deferred (some []))) (.loop lo);rwa [World.size_alloc,hs2] at this
    · rw [← hW1];have:=World.alloc_heap_new w2 (.deferred (some []));rw [hs2] at this;exact (Below.heap_alloc _ _ _ (by simp;omega)).trans this
  have hpt1 : W1.cell? ⟨w.heap.size + 1,0,none⟩ = some (pv T.ptr 0):=by
    rw [← hW1];exact (World.cell?_of_block (Below.heap_alloc _ _ _ (by simp;omega))).trans ((World.cell?_of_block (Below.heap_alloc _ _ _ (by simp;omega))).trans hpt)
  rw [hs2] at hent
  refine ⟨w.heap.size + 2 + 1,[{ target:=.collected (w.heap.size + 2),args:=#[] }],W1,{ target:=.fn (.func 78) #[.pointer (some ⟨w.heap.size + 1,0,none⟩)],args:=#[.func (.yield (w.heap.size + 2 + 1)) #[] #[]] },W1,78,
    #[.func (.yield (w.heap.size + 2 + 1)) #[] #[],.pointer (some ⟨w.heap.size + 1,0,none⟩)],W1,hent,?_,?_,?_,fun _ => h1,?_⟩
  · simp only [resolve,hev]
    simp [go_sem]
  · intro f' hf';simp [Target.leads] at hf';subst hf';exact h78
  · have eg:=enters_of Try.func78 (by kernel_rfl) rfl
    simp [invoke,go_sem,eg]
  · refine (each1_in F hd (n - 1) h78 h79 hro (w.heap.size + 3) (w.heap.size + 1) w.heap.size T (fun pre W => ∃ v,AllI w lo pre v W) (fun _ _ => False) ?_ W1 hpt1 (hT.below hb1) ⟨_,hI1⟩).mono ?_
    · rintro pre x W ⟨v,hI⟩ hlen
      have hy:=run_yield (P:=Try.prog) (args:=#[hV x]) hI.loop (by rw [← hlo];rfl)
      have e1 : lo.fn = fn:=by rw [← hlo]
      have e2 : lo.assign = A:=by rw [← hlo]
      have e3 : lo.body = B:=by rw [← hlo]
      have e4 : (lo.params.zip #[hV x]).foldl (fun tmps (t,a) => tmps.setIfInBounds t a) lo.tmps = act.tmps.setIfInBounds 12 (hV x):=by rw [← hlo];simp
      rw [e1,e2,e3,e4] at hy
      refine ⟨fn,_,A,B,hy,(roundIn_of_wpIn hfn (hround lo pre x v W l1 l2 hI hlen)).mono ?_⟩
      rintro e W' ⟨rfl,⟨v',hI'⟩,hsz⟩
      exact .inl ⟨rfl,⟨v',hI'⟩,⟨hI'.below.os.trans hI.below.os.symm,hI'.below.tape.trans hI.below.tape.symm,hI'.below.output.trans hI.below.output.symm,hsz,fun k hk => (hI'.below.block k hk).trans (hI.below.block k hk).symm⟩⟩
    · rintro e W2 ⟨⟨v0,rfl⟩,(⟨xs,rfl,v,hI⟩ | ⟨pre,_,h⟩)⟩
      · have hend:=run_endLoop (P:=Try.prog) hI.loop (by rw [l1];simp)
        rw [l2] at hend
        exact ⟨none,_,hend,hdone _ v _ (hI.put _)⟩
      · exact h.elim
set_option maxRecDepth 100000 in
set_option maxHeartbeats 4000000 in
theorem all_in (F : Fence) (hd : F.depth = none) (n : Nat) (h18 : F.fn 18) (h50 : F.fn 50) (h78 : F.fn 78) (h79 : F.fn 79) (hro : F.round = none) (hn : 3 ≤ n) (a : Nat) (T : T) (w : World) (ha : a < w.heap.size) (hc : w.cell? ⟨a,0,none⟩ = some (pv T.ptr 0)) (hT : InW w.heap.size w T) (hlen : (hans T).length < 1099511627776) :
    CallsIn F n Try.prog 18 #[.pointer (some ⟨a,0,none⟩)] w fun e w' => ∃ v,e = .returned v ∧ w'.ownsRow w.heap.size 29 2 v (hans T).length (hCells (hans T)) ∧ Below w.heap.size w w':=by
  have h1 : 1 ≤ n:=by omega
  obtain ⟨i0,z0,hi0,hz0,hz1,hz2,hz3⟩:=infoB_of (P:=Try.prog) (t:=29) (sz:=2) (by_:=16) (by kernel_rfl)
  obtain ⟨p0,hp0⟩ : ∃ p0,pv T.ptr 0 = .pointer p0:=by unfold pv;split <;> exact ⟨_,rfl⟩
  rw [hp0] at hc
  refine callsIn_of_wp_marks Try.func18 rfl h18 ?_ hro
  simp only [Try.ntmps18,List.size_toArray,List.length_cons,List.length_nil,Nat.reduceAdd,Nat.reduceSub,Array.replicate_succ,Array.replicate_zero,List.push_toArray,List.append_toArray,List.nil_append,List.cons_append]
  have hc1 : (w.alloc (.cells #[.slice none 0 0] 35)).cell? ⟨a,0,none⟩ = some (.pointer p0):=(World.cell?_of_block (Below.heap_alloc w _ a ha)).trans hc
  gi_wp2_with (gi_at_call 50;refine (each_in F (n - 1) h50 hro _ _).mono ?_;rintro e w' ⟨rfl,rfl⟩)
  refine all_loop hd h78 h79 hro h1 (T:=T) (w:=w) (by rfl) hT (by simp) (((Below.refl _ w).alloc (Nat.le_refl _) _).alloc (by simp) _) ?box ?pt ?round ?done
  case box => exact (Below.heap_alloc _ _ _ (by simp)).trans (World.alloc_heap_new w _)
  case pt =>
    rw [hp0]
    have:=World.alloc_heap_new (w.alloc (Obj.cells #[Value.slice none 0 0] 35)) (.cells #[Value.pointer p0] 93)
    rw [World.size_alloc] at this
    exact (cell_of_box this).1
  case done =>
    intro lo v W hI
    obtain ⟨hc3,hf3⟩:=cell_of_box hI.box
    gi_wp2
    refine ⟨by simp,.inl ⟨_,_,rfl,run_takeDeferred hI.df,?_⟩⟩
    have hg:=grownBy_putObj' W (w.heap.size + 2) (.deferred none)
    exact ⟨_,results_tmp rfl _ _ _,v,rfl,hI.row.kept hg (row_ne hI.row hI.df (fun cur e => by cases e)),hI.below.grown hg hI.below.size (fun k e => by cases e;omega)⟩
  case round =>
    intro lo pre x v W l1 l2 hI hlen
    gi_wp2
    have hIa : AllI w lo pre v (W.alloc (.cells #[.int .i64 x.1,.int .u64 x.2] 29)):=hI.turn (World.grownBy_alloc W _ none) (fun k e => by cases e) (by cases v.ownBlock <;> simp)
    refine ⟨_,run_beginRound hIa.loop l1,?_⟩
    have hIb:=hIa.put { lo with state:=.busy }
    have hbW : ((W.alloc (.cells #[.int .i64 x.1,.int .u64 x.2] 29)).putObj (w.heap.size + 3) (.loop { lo with state:=.busy })).heap[W.heap.size]? = some (.cells #[.int .i64 x.1,.int .u64 x.2] 29 (0,0)):=by
      have:=(Array.getElem?_eq_some_iff.1 hI.loop).1
      exact (World.putObj_heap_other (by omega)).trans (World.alloc_heap_new W _)
    have hsW : ((W.alloc (.cells #[.int .i64 x.1,.int .u64 x.2] 29)).putObj (w.heap.size + 3) (.loop { lo with state:=.busy })).heap.size = W.heap.size + 1:=by simp
    generalize (W.alloc (.cells #[.int .i64 x.1,.int .u64 x.2] 29)).putObj (w.heap.size + 3) (.loop { lo with state:=.busy }) = W2 at hIb hbW hsW
    obtain ⟨hc2,hf2⟩:=cell_of_box hIb.box
    have hq0 : W2.cell? ⟨W.heap.size,0,none⟩ = some (.int .i64 x.1):=by simp [World.cell?,hbW]
    have hq1 : W2.cell? ⟨W.heap.size,1,none⟩ = some (.int .u64 x.2):=by simp [World.cell?,hbW]
    have hIc : AllI w { lo with state:=.busy } pre v (W2.alloc (.cells #[.int .i64 x.1,.int .u64 x.2] 29)):=hIb.turn (World.grownBy_alloc W2 _ none) (fun k e => by cases e) (by cases v.ownBlock <;> simp)
    have hnew : ∀ (j : Nat) (u : Value),[Value.int .i64 x.1,Value.int .u64 x.2][j]? = some u → (W2.alloc (.cells #[.int .i64 x.1,.int .u64 x.2] 29)).cell? ((⟨W.heap.size + 1,0,none⟩ : Addr).add j) = some u:=by
      intro j u hu
      have hh:=World.alloc_heap_new W2 (.cells #[.int .i64 x.1,.int .u64 x.2] 29)
      rw [hsW] at hh
      have t0 : (⟨W.heap.size + 1,0,none⟩ : Addr).add 0 = ⟨W.heap.size + 1,0,none⟩:=by simp [Addr.add]
      have t1 : (⟨W.heap.size + 1,0,none⟩ : Addr).add 1 = ⟨W.heap.size + 1,1,none⟩:=by simp [Addr.add]
      rcases j with _ | _ | j
      · simp only [List.getElem?_cons_zero] at hu;cases hu;rw [t0];unfold World.cell?;rw [hh];rfl
      · simp only [List.getElem?_cons_succ,List.getElem?_cons_zero] at hu;cases hu;rw [show (0 + 1) = 1 from rfl,t1];unfold World.cell?;rw [hh];rfl
      · simp at hu
    have hfin : ∀ v' w3,w3.ownsRow w.heap.size 29 2 v' (pre.length + 1) (hCells pre ++ [Value.int .i64 x.1,Value.int .u64 x.2]) → (W2.alloc (.cells #[.int .i64 x.1,.int .u64 x.2] 29)).grownBy w3 v.ownBlock →
        w3.heap[w.heap.size]? = some (.cells #[v] 35 (0,0)) ∧ (∃ v1,v1 = v' ∧ AllI w { lo with state:=.busy } (pre ++ [x]) v1 (w3.setCell ⟨w.heap.size,0,none⟩ v')) ∧ W.heap.size ≤ (w3.setCell ⟨w.heap.size,0,none⟩ v').heap.size:=by
      intro v' w3 ho hg
      have lt : ∀ {W : World} {k : Nat} {o : Obj},W.heap[k]? = some o → k < W.heap.size:=fun h => (Array.getElem?_eq_some_iff.1 h).1
      have hkeep : ∀ {k : Nat} {o : Obj},(W2.alloc (.cells #[.int .i64 x.1,.int .u64 x.2] 29)).heap[k]? = some o → (∀ cur,o ≠ .cells cur 29 (0,0)) → w3.heap[k]? = some o:=fun hk hno =>
        (hg.block _ (lt hk) fun e => by
          rcases row_ne hIc.row hk hno with e' | e'
          · rw [e'] at e;cases e
          · exact e' e.symm).trans hk
      have hb3:=hkeep hIc.box (fun cur e => by cases e)
      have hl3:=hkeep hIc.loop (fun cur e => by cases e)
      have hd3:=hkeep hIc.df (fun cur e => by cases e)
      have hI3 : AllI w { lo with state:=.busy } (pre ++ [x]) v' (w3.setCell ⟨w.heap.size,0,none⟩ v'):=by
        have hset : ∀ k,k ≠ w.heap.size → (w3.setCell ⟨w.heap.size,0,none⟩ v').heap[k]? = w3.heap[k]?:=fun k hk => by simp [World.setCell,Array.getElem?_modify,Ne.symm hk]
        have hgs : w3.grownBy (w3.setCell ⟨w.heap.size,0,none⟩ v') (some w.heap.size):=⟨rfl,rfl,rfl,by simp [World.setCell],fun k _ hk => hset k (fun e => hk (by rw [e]))⟩
        refine ⟨?_,?_,?_,(hset _ (by omega)).trans hl3,(hset _ (by omega)).trans hd3⟩
        · simp [World.setCell,Array.getElem?_modify,hb3]
        · have hr : w3.ownsRow w.heap.size 29 2 v' (pre ++ [x]).length (hCells (pre ++ [x])):=by rw [hCells_snoc,List.length_append];exact ho
          exact hr.kept hgs (row_ne hr hb3 (fun cur e => by cases e))
        · have:=hIc.below.grown hg hIc.below.size (fun k e => (hIc.row.lt k e).1)
          exact this.grown hgs this.size (fun k e => by cases e;exact Nat.le_refl _)
      refine ⟨hb3,⟨_,rfl,hI3⟩,?_⟩
      have e1:=hg.size
      have e2 : (w3.setCell ⟨w.heap.size,0,none⟩ v').heap.size = w3.heap.size:=by simp [World.setCell]
      rw [e2]
      simp only [World.size_alloc] at e1
      omega
    gi_wp2_with (first
      | (gi_at_builtin;refine wpListIn_append_own _ rfl _ _ 35 rfl w.heap.size 29 i0 z0 2 16 Try.underlying35 hi0 hz0 hz1 hz2 hz3 (by decide) v pre.length (hCells pre) rfl hIc.row ⟨W.heap.size + 1,0,none⟩ 1 1 [.int .i64 x.1,.int .u64 x.2] rfl rfl hnew (by simp [Value.oneCell']) (by simp only [maxLen];omega) (by omega) (by have:=hIc.below.size;omega) ?_;intro v' w3 hown' hg3 hnil3
         obtain ⟨hb3,⟨v1,hv1,hI4⟩,hsz4⟩:=hfin v' w3 hown' hg3
         obtain ⟨hc3,hf3⟩:=cell_of_box hb3
         obtain ⟨g',cap',rfl⟩ : ∃ g' cap',v' = .slice (some ⟨g',0,none⟩) (pre.length + 1) cap':=by
           rcases hown'.2 with ⟨_,h0⟩ | ⟨g',cap',_,h',_⟩
           · exact absurd h0 (by omega)
           · exact ⟨g',cap',h'⟩))
    subst hv1
    have hI5:=hI4.put { lo with state:=.ready,pending:=none }
    have elo : ({ lo with state:=.ready,pending:=none } : Loop) = lo:=by cases lo;simp_all
    rw [elo] at hI5
    refine ⟨_,_,(run_endRound none hI4.loop).trans (congrArg (fun r => Result.ok (Value.bool true) (World.putObj _ (w.heap.size + 3) (.loop r))) elo),rfl,⟨_,hI5⟩,?_⟩
    exact Nat.le_trans hsz4 (grownBy_putObj' _ (w.heap.size + 3) (.loop lo)).size
theorem all_calls (a : Nat) (T : T) (w : World) (ha : a < w.heap.size) (hc : w.cell? ⟨a,0,none⟩ = some (pv T.ptr 0)) (hT : InW w.heap.size w T) (hlen : (hans T).length < 1099511627776) :
    Calls Try.prog 18 #[.pointer (some ⟨a,0,none⟩)] w fun e w' => ∃ v,e = .returned v ∧ w'.ownsRow w.heap.size 29 2 v (hans T).length (hCells (hans T)) ∧ Below w.heap.size w w' :=
  callsIn_wide.1 (all_in Fence.wide rfl 3 trivial trivial trivial trivial rfl (Nat.le_refl _) a T w ha hc hT hlen)
end Go.Proofs.Ytnlohongffpkpaa.T16
end

section
namespace Go.Proofs.Ytnlohongffpkpaa.T16
open Go Go.RowKit Go.Proofs.Ytnlohongffpkpaa.Sx Go.Proofs
set_option linter.unusedVariables false
set_option linter.unusedSimpArgs false
theorem inW_of {S : TS} {b : Mem} (hS : S.ok) {w : World} (hm : ∀ a o,S.mem b a = some o → w.heap[a]? = some o) : ∀ {t : T} {u : Int},Rep S.H u t → InW w.heap.size w t
  | .nil,_,_ => trivial
  | .nd p s g c l r,u,⟨h1,h2,h3⟩ => by
    obtain ⟨a,rfl,e1,e2⟩:=addr_ne hS h1
    have hh:=hm a (.cells (Nd.cells ⟨s,g,l.ptr,r.ptr,u,((l.size + r.size + 1 : Nat) : Int),c⟩) 98 (0,0)) (by simp [TS.mem,e1,e2,h1])
    refine ⟨a,rfl,(Array.getElem?_eq_some_iff.1 hh).1,?_,?_,?_,?_,inW_of hS hm h2,inW_of hS hm h3⟩
    all_goals (unfold World.cell?;rw [hh];rfl)
theorem len_hans (t : T) : (hans t).length = t.size:=by simp [hans,len_nodes]
def rowOf (m : Mem) (L : List (Int × Int)) (v : Value) (m' : Mem) : Prop :=
  (L = [] ∧ v = .slice none 0 0 ∧ m' = m) ∨
  ∃ g cap cur,v = .slice (some ⟨g,0,none⟩) L.length cap ∧ m g = none ∧ m' = alO m g (.cells cur 29 (0,0)) ∧ L.length ≤ cap ∧ cur.size = cap * 2 ∧ cur.toList.take (L.length * 2) = hCells L
def allP (m : Mem) (t : Int) : Prop:=∃ G : TG,G.is m t ∧ G.t.size < 1099511627776
def allQ (m : Mem) (t : Int) (y : Vars) : Prop:=∀ G : TG,(G.is m t ∧ G.t.size < 1099511627776) → rowOf m (hans G.t) (hdV y.v) y.m
def s_all : Sum:=memSum 18 fun m a => match a with | [a0] => (match ptrOf a0 with | some t => some ⟨allP m t,allQ m t,fun y => .u (.c (.sv (hdV y.v)))⟩ | _ => none) | _ => none
theorem pv_inj {p q : Int} (hp : 0 ≤ p) (hq : 0 ≤ q) (h : pv p 0 = pv q 0) : p = q:=by
  have:=congrArg vP h
  rwa [vP_pv hp,vP_pv hq] at this
theorem inW_nn {n : Nat} {w : World} {t : T} (h : InW n w t) : 0 ≤ t.ptr:=by
  cases t with
  | nil => exact Int.le_refl _
  | nd p s g c l r => obtain ⟨b,rfl,_⟩:=h;simp only [T.ptr];omega
theorem inW_fun {n : Nat} {w : World} : ∀ {t t' : T},InW n w t → InW n w t' → t.ptr = t'.ptr → hans t = hans t'
  | .nil,.nil,_,_,_ => rfl
  | .nil,.nd p s g c l r,_,⟨b,hp,_⟩,e => by simp only [T.ptr] at e;omega
  | .nd p s g c l r,.nil,⟨b,hp,_⟩,_,e => by simp only [T.ptr] at e;omega
  | .nd p s g c l r,.nd p' s' g' c' l' r',⟨b,hp,hb,c0,c1,c2,c3,hl,hr⟩,⟨b',hp',hb',c0',c1',c2',c3',hl',hr'⟩,e => by
    simp only [T.ptr] at e
    have : b = b':=by omega
    subst this
    rw [c0] at c0';rw [c1] at c1';rw [c2] at c2';rw [c3] at c3'
    simp only [Option.some.injEq,Value.int.injEq,true_and] at c0' c1' c2' c3'
    subst c0' c1'
    have e1:=inW_fun hl hl' (pv_inj (inW_nn hl) (inW_nn hl') c2')
    have e2:=inW_fun hr hr' (pv_inj (inW_nn hr) (inW_nn hr') c3')
    simp only [hans,nodes,List.map_append,List.map_cons] at e1 e2 ⊢
    rw [e1,e2]
theorem root_cell {S : TS} {b : Mem} {t : T} (h : At S t []) {w : World} (hw : ∀ a o,S.mem b a = some o → w.heap[a]? = some o) : w.cell? ⟨S.t,0,none⟩ = some (pv t.ptr 0):=by
  have ht:=hw S.t (.cells #[pv S.root 0,.map (some S.q)] 95 (0,0)) (by simp [TS.mem])
  unfold World.cell?;rw [ht,show S.root = t.ptr from h.ctx];rfl
theorem all_pure (m : Mem) (S : TS) (b : Mem) (t : T) (n : Nat) (hm : m = S.mem b) (hS : Tre S t n) (hsz : t.size < 1099511627776) (w : World) (hw : ∀ a o,m a = some o → w.heap[a]? = some o) :
    Calls Try.prog 18 #[pv S.p 0] w fun e w' => ∃ v m',e = .returned v ∧ rowOf m (hans t) v m' ∧ MemTo m m' w w':=by
  subst hm
  have hok:=hS.at'.ok
  have ht:=hw S.t (.cells #[pv S.root 0,.map (some S.q)] 95 (0,0)) (by simp [TS.mem])
  have hlt:=(Array.getElem?_eq_some_iff.1 ht).1
  have hc : w.cell? ⟨S.t,0,none⟩ = some (pv t.ptr 0):=by
    unfold World.cell?;rw [ht,show S.root = t.ptr from hS.at'.ctx];rfl
  have ltm : ∀ a o,S.mem b a = some o → a < w.heap.size:=fun a o h => (Array.getElem?_eq_some_iff.1 (hw a o h)).1
  rw [show pv S.p 0 = .pointer (some ⟨S.t,0,none⟩) from pv_succ S.t 0]
  refine (all_calls S.t t w hlt hc (inW_of hok hw hS.at'.rep) (by rw [len_hans];exact hsz)).mono ?_
  rintro e w' ⟨v,rfl,hrow,hb⟩
  rcases hrow.2 with ⟨rfl,h0⟩ | ⟨g,cap,cur,rfl,hg0,hg,h1,h2,h3,h4⟩
  · exact ⟨_,S.mem b,rfl,.inl ⟨List.eq_nil_of_length_eq_zero h0,rfl,rfl⟩,⟨hb.os,hb.tape,hb.output,hb.size,fun a o h => (hb.block a (ltm a o h)).trans (hw a o h),fun k hk _ => hb.block k hk,fun a o h => .inl (by rw [h];simp)⟩⟩
  · have hgn : S.mem b g = none:=by
      cases h : S.mem b g with
      | none => rfl
      | some o => have:=ltm g o h;omega
    refine ⟨_,alO (S.mem b) g (.cells cur 29 (0,0)),rfl,.inr ⟨g,cap,cur,rfl,hgn,rfl,h1,h3,h4⟩,⟨hb.os,hb.tape,hb.output,hb.size,fun a o h => ?_,fun k hk _ => hb.block k hk,fun a o h => ?_⟩⟩
    · unfold alO at h
      by_cases e : a = g
      · rw [if_pos e] at h;cases h;subst e;exact hg
      · rw [if_neg e] at h;exact (hb.block a (ltm a o h)).trans (hw a o h)
    · unfold alO at h
      by_cases e : a = g
      · subst e;exact .inr hg0
      · rw [if_neg e] at h;exact .inl (by rw [h];simp)
theorem s_all_ok : SumOK Try.prog s_all:=by
  refine memSum_ok ⟨_,Try.func18,by kernel_rfl⟩ fun m args ms h hp hwf ρ w hm => ?_
  split at h
  · split at h
    · rename_i a0 _ t h0
      cases h
      obtain ⟨⟨S,b,T,n⟩,⟨e1,e2,e3⟩,e4⟩:=hp
      simp only at e1 e2 e3 e4
      have hv : (List.map (V.den ρ) [a0]).toArray = #[pv S.p 0]:=by
        rw [List.map_cons,List.map_nil,ptrOf_den h0,e2];rfl
      rw [hv]
      refine (all_pure m S b T n e1 e3 e4 w hm).mono ?_
      rintro e w' ⟨v,m',rfl,hr,hM⟩
      refine ⟨⟨[],[],[v],m'⟩,?_,?_,hM⟩
      · rintro ⟨S1,b1,T1,n1⟩ ⟨⟨g1,g2,g3⟩,g4⟩
        simp only at g1 g2 g3 g4
        have hT : hans T1 = hans T:=by
          have i1 : InW w.heap.size w T:=inW_of e3.at'.ok (fun a o h => hm a o (by rw [e1];exact h)) e3.at'.rep
          have i2 : InW w.heap.size w T1:=inW_of g3.at'.ok (fun a o h => hm a o (by rw [g1];exact h)) g3.at'.rep
          have r1:=root_cell e3.at' (w:=w) (fun a o h => hm a o (by rw [e1];exact h))
          have r2:=root_cell g3.at' (w:=w) (fun a o h => hm a o (by rw [g1];exact h))
          have et : S1.t = S.t:=by rw [e2] at g2;unfold TS.p at g2;omega
          rw [et,r1] at r2
          exact (inW_fun i1 i2 (pv_inj (inW_nn i1) (inW_nn i2) (Option.some.inj r2))).symm
        show rowOf m (hans T1) v m'
        rw [hT];exact hr
      · rcases hr with ⟨_,rfl,_⟩ | ⟨g,cap,cur,rfl,_⟩ <;> rfl
    · cases h
  · cases h
end Go.Proofs.Ytnlohongffpkpaa.T16
end

section
namespace Go.Proofs.Ytnlohongffpkpaa.T16
open Go Go.RowKit Go.Proofs.Ytnlohongffpkpaa.Sx Go.Proofs
set_option linter.unusedVariables false
set_option linter.unusedSimpArgs false
def u16 (x : Int) : Prop:=0 ≤ x ∧ x < 65536
structure Arg (l : Value) (xs : List Int) (m : Mem) : Prop where
  sl : isSlV (pl l) = true
  n : slN (pl l) = xs.length
  at' : ∀ i : Nat,∀ x,xs[i]? = some x → inSl (pl l) i = true ∧ okL m (slB (pl l)) (aOff (slO (pl l)) i 1) [.li .u16 0] = true ∧ gI m (slB (pl l)) (aOff (slO (pl l)) i 1) = x
  rng : ∀ x ∈ xs,u16 x
theorem mget_more {m m' : Mem} (h : ∀ a,m a ≠ none → m' a = m a) {p : Int} {cs : Array Value} (hp : mget m p = some cs) : mget m' p = some cs:=by
  obtain ⟨a,ty,q,e1,e2⟩:=mget_at hp
  unfold mget
  rw [e1]
  simp only [h a (by rw [e2];simp),e2]
theorem okL_more {m m' : Mem} (h : ∀ a,m a ≠ none → m' a = m a) {p : Int} {k : Nat} {zs : List C} (hp : okL m p k zs = true) : okL m' p k zs = true ∧ ∀ j,mcell m' p j = mcell m p j:=by
  unfold okL at hp
  split at hp
  · rename_i cs hc
    have:=mget_more h hc
    refine ⟨by unfold okL;rw [this];exact hp,fun j => by unfold mcell;rw [this,hc]⟩
  · cases hp
theorem Arg.more {l : Value} {xs : List Int} {m m' : Mem} (h : Arg l xs m) (hm : ∀ a,m a ≠ none → m' a = m a) : Arg l xs m':=by
  refine ⟨h.sl,h.n,fun i x hx => ?_,h.rng⟩
  obtain ⟨a1,a2,a3⟩:=h.at' i x hx
  obtain ⟨b1,b2⟩:=okL_more hm a2
  exact ⟨a1,b1,by unfold gI at a3 ⊢;rw [b2];exact a3⟩
structure Fre (S : TS) (m : Mem) : Prop where
  t : m S.t = none
  q : m S.q = none
  H : ∀ a : Nat,S.H ((a : Int) + 1) ≠ none → m a = none
theorem Fre.more {S : TS} {m : Mem} (h : Fre S m) : ∀ a,m a ≠ none → S.mem m a = m a:=by
  intro a ha
  have h1 : a ≠ S.t:=by rintro rfl;exact ha h.t
  have h2 : a ≠ S.q:=by rintro rfl;exact ha h.q
  have h3 : S.H ((a : Int) + 1) = none:=by
    cases e : S.H ((a : Int) + 1) with
    | none => rfl
    | some d => exact absurd (h.H a (by rw [e];simp)) ha
  simp [TS.mem,h1,h2,h3]
theorem Fre.ins {S S' : TS} {m : Mem} (h : Fre S m) {a : Nat} (ht : S'.t = S.t) (hq : S'.q = S.q) (ha : S.mem m a = none) (hd : ∀ q,S'.H q = none ↔ S.H q = none ∧ q ≠ (a : Int) + 1) : Fre S' m:=by
  obtain ⟨f1,f2,f3⟩:=free_at ha
  have hm : m a = none:=by simpa [TS.mem,f1,f2,f3] using ha
  refine ⟨by rw [ht];exact h.t,by rw [hq];exact h.q,fun c hc => ?_⟩
  by_cases e : c = a
  · subst e;exact hm
  · refine h.H c fun e2 => hc ((hd _).2 ⟨e2,by omega⟩)
structure Row (v : Value) (hs : List (Int × Int)) (m : Mem) : Prop where
  sl : isSlV (pl v) = true
  n : slN (pl v) = hs.length
  at' : ∀ i : Nat,∀ x,hs[i]? = some x → inSl (pl v) i = true ∧ nzp (slB (pl v)) = true ∧ okL m (slB (pl v)) (aOff (slO (pl v)) i 2) [.li .i64 0] = true ∧ gI m (slB (pl v)) (aOff (slO (pl v)) i 2) = x.1 ∧
    okL m (slB (pl v)) (.succ (aOff (slO (pl v)) i 2)) [.li .u64 0] = true ∧ gI m (slB (pl v)) (.succ (aOff (slO (pl v)) i 2)) = x.2
theorem hCells_get : ∀ (hs : List (Int × Int)) (i : Nat) (x : Int × Int),hs[i]? = some x → (hCells hs)[2 * i]? = some (.int .i64 x.1) ∧ (hCells hs)[2 * i + 1]? = some (.int .u64 x.2)
  | [],i,x,h => by simp at h
  | y :: hs,0,x,h => by
    simp only [List.getElem?_cons_zero,Option.some.injEq] at h
    subst h
    exact ⟨rfl,rfl⟩
  | y :: hs,i + 1,x,h => by
    simp only [List.getElem?_cons_succ] at h
    obtain ⟨h1,h2⟩:=hCells_get hs i x h
    have e : hCells (y :: hs) = .int .i64 y.1 :: .int .u64 y.2 :: hCells hs:=rfl
    rw [e]
    exact ⟨by rw [show 2 * (i + 1) = 2 * i + 1 + 1 by omega,List.getElem?_cons_succ,List.getElem?_cons_succ];exact h1,by rw [show 2 * (i + 1) + 1 = 2 * i + 1 + 1 + 1 by omega,List.getElem?_cons_succ,List.getElem?_cons_succ];exact h2⟩
theorem Row.of {m m' : Mem} {hs : List (Int × Int)} {v : Value} (h : rowOf m hs v m') : Row v hs m' ∧ ∀ a,m a ≠ none → m' a = m a:=by
  rcases h with ⟨rfl,rfl,rfl⟩ | ⟨g,cap,cur,rfl,hg,rfl,h1,h2,h3⟩
  · exact ⟨⟨rfl,rfl,fun i x h => by simp at h⟩,fun _ _ => rfl⟩
  · refine ⟨⟨rfl,rfl,fun i x hx => ?_⟩,fun a ha => ?_⟩
    · have hlt : i < hs.length:=(List.getElem?_eq_some_iff.1 hx).1
      obtain ⟨c1,c2⟩:=hCells_get hs i x hx
      have k1 : cur[2 * i]? = some (.int .i64 x.1):=by
        have : cur.toList[2 * i]? = some (.int .i64 x.1):=by rw [← c1,← h3,List.getElem?_take_of_lt (by omega)]
        simpa using this
      have k2 : cur[2 * i + 1]? = some (.int .u64 x.2):=by
        have : cur.toList[2 * i + 1]? = some (.int .u64 x.2):=by rw [← c2,← h3,List.getElem?_take_of_lt (by omega)]
        simpa using this
      have e0 : pl (Value.slice (some ⟨g,0,none⟩) hs.length cap) = .slice (some ⟨g,0,none⟩) hs.length cap:=rfl
      have hm : mget (alO m g (.cells cur 29 (0,0))) ((g : Int) + 1) = some cur:=by
        unfold mget
        rw [show (((g : Int) + 1).toNat) = g + 1 by omega]
        simp [alO]
      have ea : aOff 0 (i : Int) 2 = 2 * i:=by simp [aOff];omega
      rw [e0]
      simp only [slB,slO,ea]
      refine ⟨?_,nzp_of (by omega),?_,?_,?_,?_⟩
      · have : Nat.ble hs.length cap = true:=Nat.ble_eq_true_of_le h1
        simp [inSl,isSl,slN,this,hlt]
      · unfold okL;rw [hm];simp [okR,k1,okC,isK]
      · unfold gI mcell;rw [hm];simp [k1,vI]
      · unfold okL;rw [hm];simp [okR,k2,okC,isK]
      · unfold gI mcell;rw [hm];simp [k2,vI]
    · have : a ≠ g:=by rintro rfl;exact ha hg
      simp [alO,this]
end Go.Proofs.Ytnlohongffpkpaa.T16
end

section
namespace Go.Proofs.Ytnlohongffpkpaa.T16
open Go Go.RowKit Go.Proofs.Ytnlohongffpkpaa.Sx Go.Proofs
set_option linter.unusedVariables false
set_option linter.unusedSimpArgs false
theorem hans_get {t : T} {j : Nat} {p s g : Int} (h : (nodes t)[j]? = some (p,s,g)) : (hans t)[j]? = some (s,g):=by
  simp [hans,h]
theorem half {a b : Nat} (h : a + b < 4611686018427387904) : iQuo .i64 (iAdd .i64 (a : Int) (b : Int)) 2 = (((a + b) / 2 : Nat) : Int):=by
  rw [iadd_i (by omega)]
  unfold iQuo
  rw [IntKind.wrap_i64]
  have : ((a : Int) + (b : Int)).tdiv 2 = (((a + b) / 2 : Nat) : Int):=by
    rw [← Int.natCast_add]
    exact (Int.ofNat_tdiv (a + b) 2)
  rw [this];omega
def tru : V:=.u (.c (.lb true))
end Go.Proofs.Ytnlohongffpkpaa.T16
end

section
namespace Go.Proofs.Ytnlohongffpkpaa.T16
open Go Go.RowKit Go.Proofs.Ytnlohongffpkpaa.Sx Go.Proofs Go.WideShapes Go.ChangeShapes
set_option linter.unusedVariables false
set_option linter.unusedSimpArgs false
theorem below_of {m m' : Mem} {w w' : World} (hm : ∀ a o,m a = some o → w.heap[a]? = some o) (h : MemTo m m' w w') (hk : ∀ a,m a ≠ none → m' a = m a) : Below w.heap.size w w':=by
  refine ⟨h.os,h.tape,h.output,h.size,fun k hlt => ?_⟩
  cases e : m k with
  | none => exact h.far k hlt e
  | some o => rw [h.sub k o (by rw [hk k (by rw [e];simp),e]),hm k o e]
end Go.Proofs.Ytnlohongffpkpaa.T16
end

section
namespace Go.Proofs.Ytnlohongffpkpaa.T16
open Go Go.RowKit Go.Proofs.Ytnlohongffpkpaa.Sx
set_option linter.unusedVariables false
set_option linter.unusedSimpArgs false
def T_remH (m : Mem) (t x c i : Int) (W : Leaf → Leaf) : Tr:=(.br (nzp x) (.br (nzp x) (.br (okL m x 4 [.nilp]) (.req (whichOK m x) (.req (hangOK m t x c) (.letm (hangM m t x c) (fun n1 => (.br (cmpOK n1 c 0) (.br (bNot (peq c 0)) (.br (nzp c) (.br (nzp c) (.br (okS n1 c 6 1) (.letm (wrL n1 c 6 [(.bool false)]) (fun n2 => (.leaf (.up (W (.memo (.tup [(.c (.si .i64 i)),(.c (.lb true))]) n2)))))) (.no 72)) (.no 76)) (.no 75)) (.br (nzp x) (.br (nzp x) (.br (okL n1 x 6 [(.lb false)]) (.br (bNot (gB n1 x 6)) (.br (cmpOK n1 (gP m x 4) 0) (.br (bNot (peq (gP m x 4) 0)) (.req (fillsP n1 t (gP m x 4) (whichV m x)) (.any (fillsQ n1 t (gP m x 4) (whichV m x)) (fun z2 => (.leaf (.up (W (.memo (.tup [(.c (.si .i64 i)),(.c (.lb true))]) z2.4))))))) (.leaf (.up (W (.memo (.tup [(.c (.si .i64 i)),(.c (.lb true))]) n1))))) (.no 78)) (.leaf (.up (W (.memo (.tup [(.c (.si .i64 i)),(.c (.lb true))]) n1))))) (.no 70)) (.no 76)) (.no 75))) (.no 78)))))) (.no 70)) (.no 76)) (.no 75))
def T_remL (m : Mem) (t x i : Int) (W : Leaf → Leaf) : Tr:=(.lp (.mk [(gP m x 4)] [] [] m) (fun z1 k1 => (.br (cmpOK z1.4 (hdI z1.1) 0) (.br (bNot (peq (hdI z1.1) 0)) (.br (nzp (hdI z1.1)) (.br (nzp (hdI z1.1)) (.br (okL z1.4 (hdI z1.1) 5 [(.li .i64 0)]) (.br (nzp (hdI z1.1)) (.br (nzp (hdI z1.1)) (.br (okS z1.4 (hdI z1.1) 5 1) (.letm (wrL z1.4 (hdI z1.1) 5 [(.int .i64 (iSub .i64 (gI z1.4 (hdI z1.1) 5) 1))]) (fun n1 => (.br (nzp (hdI z1.1)) (.br (nzp (hdI z1.1)) (.br (okL n1 (hdI z1.1) 4 [.nilp]) (.req ((([(0,(.u (.c (.np t 0)))),(6,(.u (.c (.si .i64 i)))),(8,(.u (.c (.np x 0))))] : List (Nat × V)) = [(0,(.u (.c (.np t 0)))),(6,(.u (.c (.si .i64 i)))),(8,(.u (.c (.np x 0))))]) ∧ (([] : List (Nat × Blk)) = [])) (.leaf (.again (.mk [(gP n1 (hdI z1.1) 4)] [] [] n1)))) (.no 70)) (.no 76)) (.no 75)))) (.no 72)) (.no 76)) (.no 75)) (.no 70)) (.no 76)) (.no 75)) (.br (nzp x) (.br (nzp x) (.br (nzp x) (.br (okL z1.4 x 2 [.nilp]) (.br (cmpOK z1.4 (gP z1.4 x 2) 0) (.br (peq (gP z1.4 x 2) 0) (.br (nzp x) (.br (nzp x) (.br (nzp x) (.br (okL z1.4 x 3 [.nilp]) (T_remH z1.4 t x (gP z1.4 x 3) i W) (.no 70)) (.no 81)) (.no 76)) (.no 75)) (T_remH z1.4 t x (gP z1.4 x 2) i W)) (.no 78)) (.no 70)) (.no 81)) (.no 76)) (.no 75))) (.no 78))))
def T_remove (m : Mem) (t : Int) (hs hg : Int) : Tr:=(.req (indexP m t hs hg) (.any (indexQ m t hs hg) (fun y0 => (.br (bNot (hdB y0.2)) (.leaf (.memo (.tup [(.c (.li .i64 0)),(.c (.lb false))]) y0.4)) (.br (nzp t) (.br (nzp t) (.br (okL y0.4 t 1 [(.raw (.map (.none)))]) (.req ((Go.Maps.Keyed Try.prog 29) ∧ ((okM Try.prog 29 y0.4 (pl (mcell y0.4 t 1))) ∧ ((okKey Try.prog 29 (.agg (.mk [(.int .i64 hs),(.int .u64 hg)]))) ∧ (((okU (.c .nilp) (lkZ y0.4 (pl (mcell y0.4 t 1)) (.agg (.mk [(.int .i64 hs),(.int .u64 hg)])) (.pointer (.none)))) : Bool) = true)))) (.br (nzp t) (.br (nzp t) (.br (okL y0.4 t 1 [(.raw (.map (.none)))]) (.req ((Go.Maps.Keyed Try.prog 29) ∧ ((okM Try.prog 29 y0.4 (pl (mcell y0.4 t 1))) ∧ (okKey Try.prog 29 (.agg (.mk [(.int .i64 hs),(.int .u64 hg)]))))) (.letm (mdel y0.4 (pl (mcell y0.4 t 1)) (.agg (.mk [(.int .i64 hs),(.int .u64 hg)]))) (fun m1 => (.br (nzp (vP (lkZ y0.4 (pl (mcell y0.4 t 1)) (.agg (.mk [(.int .i64 hs),(.int .u64 hg)])) (.pointer (.none))))) (.br (nzp (vP (lkZ y0.4 (pl (mcell y0.4 t 1)) (.agg (.mk [(.int .i64 hs),(.int .u64 hg)])) (.pointer (.none))))) (.br (nzp (vP (lkZ y0.4 (pl (mcell y0.4 t 1)) (.agg (.mk [(.int .i64 hs),(.int .u64 hg)])) (.pointer (.none))))) (.br (okL m1 (vP (lkZ y0.4 (pl (mcell y0.4 t 1)) (.agg (.mk [(.int .i64 hs),(.int .u64 hg)])) (.pointer (.none)))) 2 [.nilp]) (.br (cmpOK m1 (gP m1 (vP (lkZ y0.4 (pl (mcell y0.4 t 1)) (.agg (.mk [(.int .i64 hs),(.int .u64 hg)])) (.pointer (.none)))) 2) 0) (.br (bNot (peq (gP m1 (vP (lkZ y0.4 (pl (mcell y0.4 t 1)) (.agg (.mk [(.int .i64 hs),(.int .u64 hg)])) (.pointer (.none)))) 2) 0)) (.br (nzp (vP (lkZ y0.4 (pl (mcell y0.4 t 1)) (.agg (.mk [(.int .i64 hs),(.int .u64 hg)])) (.pointer (.none))))) (.br (nzp (vP (lkZ y0.4 (pl (mcell y0.4 t 1)) (.agg (.mk [(.int .i64 hs),(.int .u64 hg)])) (.pointer (.none))))) (.br (nzp (vP (lkZ y0.4 (pl (mcell y0.4 t 1)) (.agg (.mk [(.int .i64 hs),(.int .u64 hg)])) (.pointer (.none))))) (.br (okL m1 (vP (lkZ y0.4 (pl (mcell y0.4 t 1)) (.agg (.mk [(.int .i64 hs),(.int .u64 hg)])) (.pointer (.none)))) 3 [.nilp]) (.br (cmpOK m1 (gP m1 (vP (lkZ y0.4 (pl (mcell y0.4 t 1)) (.agg (.mk [(.int .i64 hs),(.int .u64 hg)])) (.pointer (.none)))) 3) 0) (.br (bNot (peq (gP m1 (vP (lkZ y0.4 (pl (mcell y0.4 t 1)) (.agg (.mk [(.int .i64 hs),(.int .u64 hg)])) (.pointer (.none)))) 3) 0)) (.br (nzp (vP (lkZ y0.4 (pl (mcell y0.4 t 1)) (.agg (.mk [(.int .i64 hs),(.int .u64 hg)])) (.pointer (.none))))) (.br (nzp (vP (lkZ y0.4 (pl (mcell y0.4 t 1)) (.agg (.mk [(.int .i64 hs),(.int .u64 hg)])) (.pointer (.none))))) (.br (nzp (vP (lkZ y0.4 (pl (mcell y0.4 t 1)) (.agg (.mk [(.int .i64 hs),(.int .u64 hg)])) (.pointer (.none))))) (.br (okL m1 (vP (lkZ y0.4 (pl (mcell y0.4 t 1)) (.agg (.mk [(.int .i64 hs),(.int .u64 hg)])) (.pointer (.none)))) 3 [.nilp]) (.lp (.mk [(gP m1 (vP (lkZ y0.4 (pl (mcell y0.4 t 1)) (.agg (.mk [(.int .i64 hs),(.int .u64 hg)])) (.pointer (.none)))) 3)] [] [] m1) (fun y1 j1 => (.br (nzp (hdI y1.1)) (.br (nzp (hdI y1.1)) (.br (nzp (hdI y1.1)) (.br (okL y1.4 (hdI y1.1) 2 [.nilp]) (.br (cmpOK y1.4 (gP y1.4 (hdI y1.1) 2) 0) (.br (bNot (peq (gP y1.4 (hdI y1.1) 2) 0)) (.br (nzp (hdI y1.1)) (.br (nzp (hdI y1.1)) (.br (nzp (hdI y1.1)) (.br (okL y1.4 (hdI y1.1) 2 [.nilp]) (.req ((([(0,(.u (.c (.np t 0)))),(6,(.u (.c (.si .i64 (hdI y0.1))))),(8,(.u (.c (.np (vP (lkZ y0.4 (pl (mcell y0.4 t 1)) (.agg (.mk [(.int .i64 hs),(.int .u64 hg)])) (.pointer (.none)))) 0))))] : List (Nat × V)) = [(0,(.u (.c (.np t 0)))),(6,(.u (.c (.si .i64 (hdI y0.1))))),(8,(.u (.c (.np (vP (lkZ y0.4 (pl (mcell y0.4 t 1)) (.agg (.mk [(.int .i64 hs),(.int .u64 hg)])) (.pointer (.none)))) 0))))]) ∧ (([] : List (Nat × Blk)) = [])) (.leaf (.again (.mk [(gP y1.4 (hdI y1.1) 2)] [] [] y1.4)))) (.no 70)) (.no 81)) (.no 76)) (.no 75)) (.br (nzp (hdI y1.1)) (.br (nzp (hdI y1.1)) (.br (okL y1.4 (hdI y1.1) 0 [(.li .i64 0),(.li .u64 0)]) (.br (nzp (vP (lkZ y0.4 (pl (mcell y0.4 t 1)) (.agg (.mk [(.int .i64 hs),(.int .u64 hg)])) (.pointer (.none))))) (.br (nzp (vP (lkZ y0.4 (pl (mcell y0.4 t 1)) (.agg (.mk [(.int .i64 hs),(.int .u64 hg)])) (.pointer (.none))))) (.br (okL y1.4 (vP (lkZ y0.4 (pl (mcell y0.4 t 1)) (.agg (.mk [(.int .i64 hs),(.int .u64 hg)])) (.pointer (.none)))) 0 [(.li .i64 0),(.li .u64 0)]) (.br (nzp (vP (lkZ y0.4 (pl (mcell y0.4 t 1)) (.agg (.mk [(.int .i64 hs),(.int .u64 hg)])) (.pointer (.none))))) (.br (nzp (vP (lkZ y0.4 (pl (mcell y0.4 t 1)) (.agg (.mk [(.int .i64 hs),(.int .u64 hg)])) (.pointer (.none))))) (.br (okS y1.4 (vP (lkZ y0.4 (pl (mcell y0.4 t 1)) (.agg (.mk [(.int .i64 hs),(.int .u64 hg)])) (.pointer (.none)))) 0 2) (.letm (wrL y1.4 (vP (lkZ y0.4 (pl (mcell y0.4 t 1)) (.agg (.mk [(.int .i64 hs),(.int .u64 hg)])) (.pointer (.none)))) 0 [(.int .i64 (gI y1.4 (hdI y1.1) 0)),(.int .u64 (gI y1.4 (hdI y1.1) 1))]) (fun m2 => (.br (nzp (hdI y1.1)) (.br (nzp (hdI y1.1)) (.br (okS m2 (hdI y1.1) 0 2) (.letm (wrL m2 (hdI y1.1) 0 [(.int .i64 (gI y1.4 (vP (lkZ y0.4 (pl (mcell y0.4 t 1)) (.agg (.mk [(.int .i64 hs),(.int .u64 hg)])) (.pointer (.none)))) 0)),(.int .u64 (gI y1.4 (vP (lkZ y0.4 (pl (mcell y0.4 t 1)) (.agg (.mk [(.int .i64 hs),(.int .u64 hg)])) (.pointer (.none)))) 1))]) (fun m3 => (.br (nzp t) (.br (nzp t) (.br (okL m3 t 1 [(.raw (.map (.none)))]) (.br (nzp (vP (lkZ y0.4 (pl (mcell y0.4 t 1)) (.agg (.mk [(.int .i64 hs),(.int .u64 hg)])) (.pointer (.none))))) (.br (nzp (vP (lkZ y0.4 (pl (mcell y0.4 t 1)) (.agg (.mk [(.int .i64 hs),(.int .u64 hg)])) (.pointer (.none))))) (.br (okL m3 (vP (lkZ y0.4 (pl (mcell y0.4 t 1)) (.agg (.mk [(.int .i64 hs),(.int .u64 hg)])) (.pointer (.none)))) 0 [(.li .i64 0),(.li .u64 0)]) (.req ((Go.Maps.Keyed Try.prog 29) ∧ ((okM Try.prog 29 m3 (pl (mcell m3 t 1))) ∧ ((((isNilM (pl (mcell m3 t 1))) : Bool) = false) ∧ (okKey Try.prog 29 (.agg (.mk [(.int .i64 (gI m3 (vP (lkZ y0.4 (pl (mcell y0.4 t 1)) (.agg (.mk [(.int .i64 hs),(.int .u64 hg)])) (.pointer (.none)))) 0)),(.int .u64 (gI m3 (vP (lkZ y0.4 (pl (mcell y0.4 t 1)) (.agg (.mk [(.int .i64 hs),(.int .u64 hg)])) (.pointer (.none)))) 1))])))))) (.letm (mput m3 (pl (mcell m3 t 1)) (.agg (.mk [(.int .i64 (gI m3 (vP (lkZ y0.4 (pl (mcell y0.4 t 1)) (.agg (.mk [(.int .i64 hs),(.int .u64 hg)])) (.pointer (.none)))) 0)),(.int .u64 (gI m3 (vP (lkZ y0.4 (pl (mcell y0.4 t 1)) (.agg (.mk [(.int .i64 hs),(.int .u64 hg)])) (.pointer (.none)))) 1))])) (pv (vP (lkZ y0.4 (pl (mcell y0.4 t 1)) (.agg (.mk [(.int .i64 hs),(.int .u64 hg)])) (.pointer (.none)))) 0)) (fun m4 => (.br (nzp (hdI y1.1)) (.br (nzp (hdI y1.1)) (.br (okL m4 (hdI y1.1) 4 [.nilp]) (T_remL m4 t (hdI y1.1) (hdI y0.1) .up) (.no 70)) (.no 76)) (.no 75))))) (.no 70)) (.no 76)) (.no 75)) (.no 70)) (.no 76)) (.no 75)))) (.no 72)) (.no 76)) (.no 75)))) (.no 72)) (.no 76)) (.no 75)) (.no 70)) (.no 76)) (.no 75)) (.no 70)) (.no 76)) (.no 75))) (.no 78)) (.no 70)) (.no 81)) (.no 76)) (.no 75)))) (.no 70)) (.no 81)) (.no 76)) (.no 75)) (.br (nzp (vP (lkZ y0.4 (pl (mcell y0.4 t 1)) (.agg (.mk [(.int .i64 hs),(.int .u64 hg)])) (.pointer (.none))))) (.br (nzp (vP (lkZ y0.4 (pl (mcell y0.4 t 1)) (.agg (.mk [(.int .i64 hs),(.int .u64 hg)])) (.pointer (.none))))) (.br (okL m1 (vP (lkZ y0.4 (pl (mcell y0.4 t 1)) (.agg (.mk [(.int .i64 hs),(.int .u64 hg)])) (.pointer (.none)))) 4 [.nilp]) (T_remL m1 t (vP (lkZ y0.4 (pl (mcell y0.4 t 1)) (.agg (.mk [(.int .i64 hs),(.int .u64 hg)])) (.pointer (.none)))) (hdI y0.1) (fun l => l)) (.no 70)) (.no 76)) (.no 75))) (.no 78)) (.no 70)) (.no 81)) (.no 76)) (.no 75)) (.br (nzp (vP (lkZ y0.4 (pl (mcell y0.4 t 1)) (.agg (.mk [(.int .i64 hs),(.int .u64 hg)])) (.pointer (.none))))) (.br (nzp (vP (lkZ y0.4 (pl (mcell y0.4 t 1)) (.agg (.mk [(.int .i64 hs),(.int .u64 hg)])) (.pointer (.none))))) (.br (okL m1 (vP (lkZ y0.4 (pl (mcell y0.4 t 1)) (.agg (.mk [(.int .i64 hs),(.int .u64 hg)])) (.pointer (.none)))) 4 [.nilp]) (T_remL m1 t (vP (lkZ y0.4 (pl (mcell y0.4 t 1)) (.agg (.mk [(.int .i64 hs),(.int .u64 hg)])) (.pointer (.none)))) (hdI y0.1) (fun l => l)) (.no 70)) (.no 76)) (.no 75))) (.no 78)) (.no 70)) (.no 81)) (.no 76)) (.no 75))))) (.no 70)) (.no 76)) (.no 75))) (.no 70)) (.no 76)) (.no 75))))))
def RepU (H : Int → Option Nd) (root : Int) : Int → Nat → Ctx → Ctx → Prop
  | q,n,[],ku => RepC H root q n ku
  | q,n,f :: kd,ku => H f.p = some (f.node q (topP (kd ++ ku)) (n - 1)) ∧ Rep H f.p f.o ∧ RepU H root f.p (n + f.o.size + 1) kd ku
theorem repU_end {H : Int → Option Nd} {root : Int} : ∀ {kd : Ctx} {q : Int} {n : Nat},1 ≤ n → RepU H root q n kd [] → RepC H root q (n - 1) kd
  | [],q,n,_,h => h
  | f :: kd,q,n,hn,⟨h1,h2,h3⟩ => by
    rw [List.append_nil] at h1
    refine ⟨h1,h2,?_⟩
    have:=repU_end (by omega) h3
    rwa [show n - 1 + f.o.size + 1 = n + f.o.size + 1 - 1 by omega]
theorem topP_app : ∀ (kd : Ctx) (f : Fr) (ku : Ctx),topP (kd ++ [f] ++ ku) = topP (kd ++ f :: ku)
  | [],_,_ => rfl
  | _ :: _,_,_ => rfl
theorem ccnt_app (q : Int) : ∀ (k k' : Ctx),ccnt q (k ++ k') = ccnt q k + ccnt q k'
  | [],k' => by simp [ccnt]
  | f :: k,k' => by simp only [List.cons_append,ccnt,ccnt_app q k k'];omega
theorem node_n' (f : Fr) (q u : Int) (n : Nat) (v : Int) (h : v = ((n + f.o.size + 1 : Nat) : Int)) (m : Nat) : { f.node q u m with n:=v } = f.node q u n:=by
  unfold Fr.node
  cases f.i <;> simp [h]
theorem repU_step {S : TS} {f : Fr} {ku : Ctx} : ∀ {kd : Ctx} {q : Int} {n : Nat},1 ≤ n → (∀ p,ccnt p (kd ++ f :: ku) ≤ 1) → RepU S.H S.root q n kd (f :: ku) →
    ∃ d,S.H f.p = some d ∧ 1 ≤ d.n ∧ d.u = topP ku ∧ (d.n ≤ ((n + csize (kd ++ f :: ku) : Nat) : Int)) ∧ RepU (S.set f.p { d with n:=d.n - 1 }).H S.root q n (kd ++ [f]) ku
  | [],q,n,hn,hd,⟨h1,h2,h3⟩ => by
    have hdf:=hd f.p
    simp only [List.nil_append,ccnt,if_true] at hdf
    refine ⟨_,h1,by rw [node_n];omega,node_u _ _ _ _,by rw [node_n];simp only [List.nil_append,csize];omega,?_⟩
    have oth : ∀ p,0 < cnt p f.o + ccnt p ku → (S.set f.p { f.node q (topP ku) n with n:=(f.node q (topP ku) n).n - 1 }).H p = S.H p:=by
      intro p hp
      rw [set_H,upd_ne]
      rintro rfl;omega
    refine ⟨?_,rep_congr (fun p hp => oth p (by omega)) h2,repC_congr (fun p hp => oth p (by omega)) h3⟩
    rw [set_H,upd_self]
    exact congrArg some (node_n' f q (topP ku) (n - 1) _ (by rw [node_n];omega) n)
  | g :: kd,q,n,hn,hd,⟨h1,h2,h3⟩ => by
    obtain ⟨d,g1,g2,g3,g4,g5⟩:=repU_step (kd:=kd) (q:=g.p) (n:=n + g.o.size + 1) (by omega) (fun p => by have:=hd p;simp only [List.cons_append,ccnt] at this;omega) h3
    have hdf:=hd f.p
    simp only [List.cons_append,ccnt,ccnt_app,if_true] at hdf
    refine ⟨d,g1,g2,g3,by simp only [List.cons_append,csize] at g4 ⊢;omega,?_,?_,g5⟩
    · rw [set_H,upd_ne,show topP (kd.append [f] ++ ku) = topP (kd ++ f :: ku) from topP_app kd f ku]
      · exact h1
      · intro e;rw [if_pos e.symm] at hdf;omega
    · refine rep_congr (fun p hp => ?_) h2
      rw [set_H,upd_ne]
      rintro rfl;omega
structure Dec (S : TS) (t : T) (k : Ctx) : Prop where
  ok : S.ok
  rep : Rep S.H (topP k) t
  ctx : RepC S.H S.root t.ptr (t.size - 1) k
  dj : Dj t k
  sm : t.size + csize k < 1152921504606846976
section
variable {S : TS} {b : Mem}
theorem repU_rep {S : TS} {t : T} {u : Int} {p : Int} {d : Nd} (h : Rep S.H u t) (hc : cnt p t = 0) : Rep (S.set p d).H u t:=rep_congr (fun q hq => by rw [set_H,upd_ne];rintro rfl;omega) h
set_option maxHeartbeats 2000000 in
theorem remL_walk {x xs xg : Int} {xc : Bool} {l r : T} {k : Ctx} {i : Int} {W : Leaf → Leaf} {Q : Leaf → Prop} (h : At S (.nd x xs xg xc l r) k) (hj : l = .nil ∨ r = .nil)
    (hR : ∀ S1 c j,S.like S1 → T.nd x xs xg xc l r = mkT j x xs xg xc .nil c → Dec S1 (mkT j x xs xg xc .nil c) k → (T_remH (S1.mem b) S.p x c.ptr i W).sat (fun l => match l with | .up l => Q l | _ => False)) :
    (T_remL (S.mem b) S.p x i W).sat Q:=by
  unfold T_remL
  have hx:=h.rep.1
  have hu : gP (S.mem b) x 4 = topP k:=gP_u h.ok hx
  rw [hu]
  have hd:=h.dj
  have hsm:=h.sm
  have hdx:=hd x
  simp only [cnt,if_true] at hdx
  let J : Nat → Vars → Prop:=fun N y => ∃ (S1 : TS) (kd ku : Ctx),N = ku.length ∧ y = ⟨[topP ku],[],[],S1.mem b⟩ ∧ kd ++ ku = k ∧ S.like S1 ∧ S1.ok ∧ Rep S1.H (topP k) (.nd x xs xg xc l r) ∧ RepU S1.H S1.root x (T.nd x xs xg xc l r).size kd ku
  refine lp_idx J (n0:=k.length) ⟨S,[],k,rfl,rfl,rfl,TS.like.refl S,h.ok,h.rep,h.ctx⟩ ?_
  rintro N y _ ⟨S1,kd,ku,rfl,rfl,hk,hl,hok,hrep,hU⟩
  simp only [hdI]
  rw [brT (cmp_zero _ _)]
  cases ku with
  | nil =>
    rw [List.append_nil] at hk
    subst hk
    have hx1:=hrep.1
    have hD : Dec S1 (.nd x xs xg xc l r) kd:=⟨hok,hrep,repU_end (by simp only [T.size];omega) hU,hd,hsm⟩
    have hgo : ∀ {T' : Tr} {N' : Nat},T'.sat (fun l => match l with | .up l => Q l | _ => False) → T'.sat (inLoopJ J N' Q):=fun hh => sat_mono (fun l hl => by cases l <;> first | exact hl | exact hl.elim) hh
    rw [brF (by rfl),brT (nz_n hok hx1),brT (nz_n hok hx1),brT (nz_n hok hx1),brT (okL_2 hok hx1),brT (cmp_zero _ _),gP_l hok hx1,gP_r hok hx1]
    cases l with
    | nil =>
      rw [brT (by rfl),brT (nz_n hok hx1),brT (nz_n hok hx1),brT (nz_n hok hx1),brT (okL_3 hok hx1)]
      exact hgo (hR S1 r false hl rfl hD)
    | nd lp ls lg lc ll lr =>
      rcases hj with hj | hj
      · cases hj
      · subst hj
        rw [brF (show peq (T.nd lp ls lg lc ll lr).ptr 0 = false from peq_n hok hrep.2.1.1)]
        exact hgo (hR S1 _ true hl rfl hD)
  | cons f ku =>
    have hdc : ∀ p : Int,ccnt p k ≤ 1:=fun p => Nat.le_trans (Nat.le_add_left _ _) (hd p)
    rw [← hk] at hdc
    have hsz1 : 1 ≤ (T.nd x xs xg xc l r).size:=by simp only [T.size];omega
    obtain ⟨d,g1,g2,g3,g4,g5⟩:=repU_step hsz1 hdc hU
    rw [hk] at g4
    have hcf : cnt f.p (.nd x xs xg xc l r) = 0:=by
      have:=hd f.p
      rw [← hk,ccnt_app] at this
      simp only [ccnt,if_true] at this
      omega
    have ok2 : (S1.set f.p { d with n:=d.n - 1 }).ok:=hok.wn g1 _
    have h2 : (S1.set f.p { d with n:=d.n - 1 }).H f.p = some { d with n:=d.n - 1 }:=by rw [set_H,upd_self]
    have hu2 : gP ((S1.set f.p { d with n:=d.n - 1 }).mem b) f.p 4 = topP ku:=(gP_u ok2 h2).trans g3
    have g6 : RepU (S1.set f.p { d with n:=d.n - 1 }).H (S1.set f.p { d with n:=d.n - 1 }).root x (T.nd x xs xg xc l r).size (kd ++ [f]) ku:=g5
    rw [show topP (f :: ku) = f.p from rfl,brT (by rw [peq_n hok g1];rfl),brT (nz_n hok g1),brT (nz_n hok g1),brT (okL_5 hok g1),brT (nz_n hok g1),brT (nz_n hok g1),brT (okS_n hok g1 rfl),sat_letm,gI_n hok g1,isub_i (by omega),wr_sz hok g1,
      brT (nz_n ok2 h2),brT (nz_n ok2 h2),brT (okL_4 ok2 h2),hu2,sat_req]
    have hl2 : S.like (S1.set f.p { d with n:=d.n - 1 }):=hl.trans (like_set g1)
    have hr2:=repU_rep (p:=f.p) (d:={ d with n:=d.n - 1 }) hrep hcf
    generalize S1.set f.p { d with n:=d.n - 1 } = S2 at ok2 h2 hl2 hr2 g6
    refine ⟨by simp,ku.length,Nat.lt_succ_self _,S2,kd ++ [f],ku,rfl,rfl,?_,hl2,ok2,hr2,g6⟩
    rw [← hk,List.append_assoc];rfl
theorem Dec.hang {S : TS} {b : Mem} {j : Bool} {x xs xg : Int} {xc : Bool} {c : T} {k : Ctx} (h : Dec S (mkT j x xs xg xc .nil c) k) :
    hangOK (S.mem b) S.p x c.ptr ∧ ∃ S' : TS,hangM (S.mem b) S.p x c.ptr = S'.mem b ∧ S.like S' ∧ At S' c k ∧ (∃ d,S'.H x = some d ∧ d.c = xc):=by
  obtain ⟨hx,_,hc⟩:=Rep.mk.1 h.rep
  have hS:=h.ok
  have hd:=h.dj
  have x0:=p_ne0 hS hx
  have hdx:=hd x
  rw [cnt_mk,if_pos rfl] at hdx
  have hctx:=h.ctx
  rw [ptr_mk,size_mk,show T.nil.size = 0 from rfl,show 0 + c.size + 1 - 1 = c.size by omega] at hctx
  have du : ((Fr.mk j x xs xg xc c).node T.nil.ptr (topP k) T.nil.size).u = topP k:=node_u _ _ _ _
  have dc : ((Fr.mk j x xs xg xc c).node T.nil.ptr (topP k) T.nil.size).c = xc:=node_c _ _ _ _
  generalize (Fr.mk j x xs xg xc c).node T.nil.ptr (topP k) T.nil.size = d at hx du dc
  have hch:=rep_has hc
  have ptrne : ∀ (t : T) (q : Int),q ≠ 0 → cnt q t = 0 → t.ptr ≠ q:=by
    intro t q hq hc e
    rcases cnt_ptr t with rfl | h
    · exact hq e.symm
    · rw [e,hc] at h;omega
  have hcx : c.ptr ≠ x:=ptrne c x x0 (by omega)
  have hux : topP k ≠ x:=by
    intro e
    cases k with
    | nil => exact x0 e.symm
    | cons f k => have e : f.p = x:=e;simp only [ccnt,if_pos e.symm] at hdx;omega
  have hcu : topP k ≠ 0 → c.ptr ≠ topP k:=by
    intro h0 e
    rcases cnt_ptr c with rfl | hh
    · exact h0 e.symm
    · have:=hd c.ptr
      rw [cnt_mk] at this
      cases k with
      | nil => exact h0 rfl
      | cons f k => have e : c.ptr = f.p:=e;simp only [ccnt,if_pos e] at this;omega
  have hu : d.u = 0 ∨ ∃ du,S.H d.u = some du ∧ S.has du.r:=by
    rw [du]
    cases k with
    | nil => exact .inl rfl
    | cons f k =>
      obtain ⟨k1,k2,k3⟩:=hctx
      refine .inr ⟨_,k1,?_⟩
      unfold Fr.node
      cases f.i
      · exact rep_has k2
      · exact .inr ⟨_,hx⟩
  obtain ⟨g1,g2,g3⟩:=hang_spec (b:=b) hS hx hch hu (by rw [du];exact hux)
  obtain ⟨f1,f2,f3,f4,f5,f6,f7,f8,f9,f10⟩:=hang_at hS hx hch hu (by rw [du];exact hux) (by rw [du];exact hcu)
  generalize S.hang x d c.ptr = S' at g2 g3 f1 f2 f3 f4 f5 f6 f7 f8 f9 f10
  rw [du] at f5 f6 f7 f8
  have oth : ∀ q,q ≠ c.ptr → q ≠ topP k → S'.H q = S.H q:=f8
  have dom : ∀ q,S'.H q = none ↔ S.H q = none:=by
    intro q
    by_cases e1 : q = c.ptr
    · subst e1
      rcases hch with h0 | ⟨e,h0⟩
      · rw [h0,H_zero hS,H_zero g3]
      · rw [f6 _ h0,h0];simp
    · by_cases e2 : q = topP k
      · subst e2
        rcases repC_up hctx with h0 | ⟨e,h0⟩
        · rw [h0,H_zero hS,H_zero g3]
        · rw [f7 _ h0,h0];simp
      · rw [oth q e1 e2]
  refine ⟨g1,S',g2,⟨f1,f2,f3,f4,dom⟩,⟨g3,?_,?_,fun q => ?_,?_⟩,d,?_,dc⟩
  · refine rep_up (fun q => by have:=hd q;rw [cnt_mk] at this;omega) hc (fun e he => f6 e he) fun q hq hne => oth q hne ?_
    intro e
    have:=hd q
    rw [cnt_mk] at this
    cases k with
    | nil =>
      have e : q = 0:=e
      subst e
      have z : ∀ {u : Int} {t : T},Rep S.H u t → cnt 0 t = 0:=fun hr => cnt_of_none (H_zero hS) hr
      rw [z hc] at hq;omega
    | cons f k => have e : q = f.p:=e;simp only [ccnt,if_pos e] at this;omega
  · cases k with
    | nil => rw [f5,if_pos (show topP [] = 0 from rfl)];rfl
    | cons f k =>
      obtain ⟨k1,k2,k3⟩:=hctx
      have fp0 : f.p ≠ 0:=p_ne0 hS k1
      have e0 : topP (f :: k) = f.p:=rfl
      rw [e0] at f5 f7 f8 oth
      rw [if_neg fp0] at f5
      have hdf : ∀ q,0 < cnt q f.o + ccnt q k → q ≠ f.p ∧ (q ≠ c.ptr ∨ q = 0):=by
        intro q hq
        have:=hd q
        rw [cnt_mk] at this
        simp only [ccnt] at this
        refine ⟨fun e => by rw [if_pos e] at this;omega,?_⟩
        rcases cnt_ptr c with rfl | hh
        · by_cases e : q = 0
          · exact .inr e
          · exact .inl e
        · refine .inl ?_
          rintro rfl;omega
      have oth2 : ∀ q,0 < cnt q f.o + ccnt q k → S'.H q = S.H q:=by
        intro q hq
        obtain ⟨h1,h2⟩:=hdf q hq
        rcases h2 with h2 | h2
        · exact oth q h2 h1
        · rw [h2,H_zero hS,H_zero g3]
      refine ⟨?_,rep_congr (fun q hq => oth2 q (by omega)) k2,?_⟩
      · rw [f7 _ k1]
        cases hf : f.i
        · have hne : f.o.ptr ≠ x:=ptrne f.o x x0 (by simp only [ccnt] at hdx;omega)
          simp [Fr.node,hf,Nd.wch,hne]
        · simp [Fr.node,hf,Nd.wch]
      · rw [f5]
        exact repC_congr (fun q hq => oth2 q (by omega)) k3
  · have:=hd q;rw [cnt_mk] at this;omega
  · have:=h.sm;rw [size_mk] at this;simp only [T.size] at this;omega
  · rw [oth x (Ne.symm hcx) (Ne.symm hux)];exact hx
end
end Go.Proofs.Ytnlohongffpkpaa.T16
end

section
namespace Go.Proofs.Ytnlohongffpkpaa.T16
open Go Go.RowKit Go.Proofs.Ytnlohongffpkpaa.Sx
set_option linter.unusedVariables false
set_option linter.unusedSimpArgs false
section
variable {S : TS} {b : Mem}
theorem Dec.which {j : Bool} {x xs xg : Int} {xc : Bool} {c : T} {f : Fr} {k : Ctx} (h : Dec S (mkT j x xs xg xc .nil c) (f :: k)) : whichOK (S.mem b) x ∧ whichV (S.mem b) x = bi f.i:=by
  obtain ⟨hx,_,hc⟩:=Rep.mk.1 h.rep
  have hctx:=h.ctx
  obtain ⟨k1,k2,k3⟩:=hctx
  have hne : f.o.ptr ≠ x:=by
    intro e
    rcases cnt_ptr f.o with h0 | h0
    · rw [h0] at e;exact p_ne0 h.ok hx e.symm
    · have:=h.dj x
      rw [e] at h0
      rw [cnt_mk,if_pos rfl] at this
      simp only [ccnt] at this;omega
  rw [ptr_mk] at k1
  have hu : ((Fr.mk j x xs xg xc c).node T.nil.ptr (topP (f :: k)) T.nil.size).u = f.p:=node_u _ _ _ _
  have hr : ∀ n u,(f.node x u n).r = match f.i with | true => x | false => f.o.ptr:=by
    intro n u;unfold Fr.node;split <;> (rename_i e;rw [e])
  obtain ⟨w1,w2⟩:=which_spec (b:=b) h.ok hx (du:=f.node x (topP k) ((mkT j x xs xg xc .nil c).size - 1)) (by rw [hu];exact k1) (by
    rw [hr]
    cases f.i
    · exact rep_has k2
    · exact .inr ⟨_,hx⟩)
  refine ⟨w1,?_⟩
  rw [w2,hr]
  cases f.i
  · simp [hne]
  · simp
theorem remH_walk {S0 : TS} {j : Bool} {x xs xg : Int} {xc : Bool} {c : T} {k : Ctx} {n : Nat} {i : Int} {W : Leaf → Leaf} {Q : Leaf → Prop} (hl : S0.like S) (h : Dec S (mkT j x xs xg xc .nil c) k)
    (h1 : RB (mkT j x xs xg xc .nil c) n) (h2 : xc = true → mayR k = true) (h3 : RBC k n) (hQ : ∀ S',Settled S0 (nodes (plug c k)) S' → Q (W (.memo (.tup [(.c (.si .i64 i)),(.c (.lb true))]) (S'.mem b)))) :
    (T_remH (S.mem b) S0.p x c.ptr i W).sat (fun l => match l with | .up l => Q l | _ => False):=by
  unfold T_remH
  obtain ⟨hx,_,hc⟩:=Rep.mk.1 h.rep
  have hS:=h.ok
  have hw : whichOK (S.mem b) x ∧ ∀ f k',k = f :: k' → whichV (S.mem b) x = bi f.i:=by
    cases k with
    | nil => exact ⟨(which_top (b:=b) hS hx (node_u _ _ _ _)).1,fun f k' e => by cases e⟩
    | cons f k =>
      obtain ⟨w1,w2⟩:=Dec.which (b:=b) h
      exact ⟨w1,fun f' k' e => by cases e;exact w2⟩
  have hu : gP (S.mem b) x 4 = topP k:=(gP_u hS hx).trans (node_u _ _ _ _)
  obtain ⟨g1,S1,g2,g3,hA,d,hd1,hd2⟩:=h.hang (b:=b)
  rw [brT (nz_n hS hx),brT (nz_n hS hx),brT (okL_4 hS hx),sat_req,sat_req,← like_p hl,sat_letm,g2,hu]
  refine ⟨hw.1,g1,?_⟩
  rw [brT (cmp_zero _ _)]
  have hl1:=hl.trans g3
  cases xc with
  | true =>
    obtain ⟨a1,a2,a3,a4⟩:=RB_red.1 h1
    have hn : n = 0:=a1
    subst hn
    have hcn : c = .nil:=by
      cases c with
      | nil => rfl
      | nd p s g cc l r =>
        cases cc with
        | true => cases a4
        | false => obtain ⟨m,e,_⟩:=a2;cases e
    subst hcn
    rw [brF (by rfl),brT (nz_n hA.ok hd1),brT (nz_n hA.ok hd1),brT (okL_6 hA.ok hd1),gB_c hA.ok hd1,hd2,brF (by rfl)]
    obtain ⟨m,b1,b2⟩:=plug_RB (k:=k) (t:=.nil) (n:=0) rfl (fun e => by cases e) h3
    exact hQ S1 (settle_fin hl1 hA.outs rfl b1 b2)
  | false =>
    have : ∃ m,n = m + 1:=by cases j <;> (obtain ⟨m,e,_⟩:=h1;exact ⟨m,e⟩)
    obtain ⟨m,rfl⟩:=this
    obtain ⟨a1,a2⟩:=RB_blk.1 h1
    have hm : m = 0:=a1
    subst hm
    cases c with
    | nil =>
      rw [brF (by rfl),brT (nz_n hA.ok hd1),brT (nz_n hA.ok hd1),brT (okL_6 hA.ok hd1),gB_c hA.ok hd1,hd2,brT (by rfl),brT (cmp_zero _ _)]
      cases k with
      | nil =>
        rw [brF (by rfl)]
        exact hQ S1 (settle_fin hl1 hA rfl rfl rfl)
      | cons f k =>
        have hf:=hA.getf
        rw [brT (by rw [show topP (f :: k) = f.p from rfl,peq_n hA.ok hf];rfl),sat_req,sat_any,hw.2 f k rfl]
        have hG : (FillG.mk S1 b .nil (f :: k) 0).pre (S1.mem b) S.p (topP (f :: k)) (bi f.i):=⟨rfl,(like_p g3).symm,rfl,hA,rfl,rfl,h3,fun f' k' e => by cases e;rfl⟩
        refine ⟨⟨_,hG⟩,fun y hy => ?_⟩
        obtain ⟨S2,e1,e2⟩:=hy _ hG
        rw [sat_leaf,e1]
        exact hQ S2 ⟨hl1.trans e2.like,e2.tree⟩
    | nd p s g cc l r =>
      have hcc : cc = true:=by
        cases cc with
        | true => rfl
        | false => obtain ⟨m,e,_⟩:=a2;cases e
      subst hcc
      have hA' : At S1 (mkT false p s g true l r) k:=hA
      have hp:=hA'.get
      rw [brT (show bNot (peq (T.nd p s g true l r).ptr 0) = true by rw [show (T.nd p s g true l r).ptr = p from rfl,peq_n hA.ok hp];rfl)]
      refine At.col hA' false fun S2 hl2 hA2 => ?_
      obtain ⟨b1,b2,b3,b4⟩:=a2
      obtain ⟨m,c1,c2⟩:=plug_RB (k:=k) (t:=mkT false p s g false l r) (n:=1) (RB_blk.2 ⟨b1,b2⟩) (fun e => by cases e) h3
      refine hQ S2 (settle_fin (hl1.trans hl2) hA2.outs ?_ c1 c2)
      exact nodes_plug_congr k rfl
end
end Go.Proofs.Ytnlohongffpkpaa.T16
end

section
namespace Go.Proofs.Ytnlohongffpkpaa.T16
open Go Go.RowKit Go.Proofs.Ytnlohongffpkpaa.Sx
set_option linter.unusedVariables false
set_option linter.unusedSimpArgs false
section
variable {S : TS} {b : Mem} {t : T} {n : Nat}
theorem cnt_nodes (q : Int) : ∀ t : T,cnt q t = ((nodes t).map (·.1)).count q
  | .nil => rfl
  | .nd p s g c l r => by
    simp only [cnt,nodes,List.map_append,List.map_cons,List.count_append,List.count_cons,cnt_nodes q l,cnt_nodes q r]
    by_cases e : q = p
    · subst e;simp;omega
    · simp [e,Ne.symm e,beq_iff_eq]
theorem nodes_nodup (h : At S t []) : ((nodes t).map (·.1)).Nodup:=by
  rw [List.nodup_iff_count]
  intro q
  have:=h.dj q
  rw [cnt_nodes] at this
  simp only [ccnt] at this;omega
theorem Ents.del {es : List MapEntry} {L : List (Int × Int × Int)} (h : Ents es L) (hn : (L.map (·.1)).Nodup) (h0 : ∀ x ∈ L,0 ≤ x.1) {j : Nat} {p s g : Int} (hj : L[j]? = some (p,s,g)) :
    ∃ i,efind (hKey s g) es 0 = some (i,pv p 0) ∧ Ents (es.eraseIdx i) (L.eraseIdx j):=by
  obtain ⟨e,he,hk,hv⟩:=h.fro _ (List.mem_of_getElem? hj)
  obtain ⟨i,hi⟩:=List.getElem?_of_mem he
  refine ⟨i,by rw [efind_some rfl h.ap hi hk,hv,Nat.zero_add],?_⟩
  have huniq : ∀ {a c : Nat} {x y : MapEntry},es[a]? = some x → es[c]? = some y → x.key = y.key → a = c:=by
    intro a c x y ha hc hxy
    rcases Nat.lt_trichotomy a c with h1 | h1 | h1
    · have:=List.pairwise_iff_getElem.1 h.ap a c (List.getElem?_eq_some_iff.1 ha).1 (List.getElem?_eq_some_iff.1 hc).1 h1
      rw [(List.getElem?_eq_some_iff.1 ha).2,(List.getElem?_eq_some_iff.1 hc).2] at this
      exact absurd hxy this
    · exact h1
    · have:=List.pairwise_iff_getElem.1 h.ap c a (List.getElem?_eq_some_iff.1 hc).1 (List.getElem?_eq_some_iff.1 ha).1 h1
      rw [(List.getElem?_eq_some_iff.1 ha).2,(List.getElem?_eq_some_iff.1 hc).2] at this
      exact absurd hxy.symm this
  have hLu : ∀ {a c : Nat} {x y : Int × Int × Int},L[a]? = some x → L[c]? = some y → x.1 = y.1 → a = c:=by
    intro a c x y ha hc hxy
    have ha' : (L.map (·.1))[a]? = some x.1:=by simp [ha]
    have hc' : (L.map (·.1))[c]? = some x.1:=by simp [hc,hxy]
    have la:=(List.getElem?_eq_some_iff.1 ha').1
    exact (List.getElem?_inj la hn).1 (ha'.trans hc'.symm)
  refine ⟨h.ap.sublist (List.eraseIdx_sublist _ _),fun e' he' => ?_,fun x hx => ?_,fun x hx => h.rng x ((List.eraseIdx_sublist _ _).mem hx)⟩
  · obtain ⟨a,ha,hea⟩:=List.mem_eraseIdx_iff_getElem?.1 he'
    obtain ⟨x,hx,k1,k2⟩:=h.to e' (List.mem_of_getElem? hea)
    refine ⟨x,List.mem_eraseIdx_iff_getElem?.2 ?_,k1,k2⟩
    obtain ⟨c,hc⟩:=List.getElem?_of_mem hx
    refine ⟨c,?_,hc⟩
    rintro rfl
    rw [hj] at hc;cases hc
    exact ha (huniq hea hi (k1.trans hk.symm))
  · obtain ⟨c,hc,hxc⟩:=List.mem_eraseIdx_iff_getElem?.1 hx
    obtain ⟨e',he',k1,k2⟩:=h.fro x (List.mem_of_getElem? hxc)
    obtain ⟨a,ha⟩:=List.getElem?_of_mem he'
    refine ⟨e',List.mem_eraseIdx_iff_getElem?.2 ⟨a,?_,ha⟩,k1,k2⟩
    rintro rfl
    rw [hi] at ha;cases ha
    have : pv p 0 = pv x.1 0:=hv.symm.trans k2
    have hp:=congrArg vP this
    rw [vP_pv (h0 _ (List.mem_of_getElem? hj)),vP_pv (h0 _ (List.mem_of_getElem? hxc))] at hp
    exact hc (hLu hxc hj hp.symm)
theorem nodes_nn (h : At S t []) : ∀ x ∈ nodes t,0 ≤ x.1:=by
  rintro ⟨p,s,g⟩ hx
  obtain ⟨j,hj⟩:=List.getElem?_of_mem hx
  obtain ⟨c,l,r,k,hk,hl⟩:=split_at hj
  have hA : At S (mkT false p s g c l r) k:=At.ins (by rw [show plug (mkT false p s g c l r) k = t from hk];exact h)
  exact Int.le_of_lt (h.ok.nd p _ hA.get).1
theorem del_mem (hS : S.ok) {s g : Int} {i : Nat} {v : Value} (hf : efind (hKey s g) S.es.toList 0 = some (i,v)) :
    mdel (S.mem b) (.map (some S.q)) (.agg (.mk [(.int .i64 s),(.int .u64 g)])) = (S.put (S.es.eraseIdxIfInBounds i) S.k).mem b:=by
  funext a
  simp only [mdel,mchg]
  by_cases e : a = S.q
  · subst e
    rw [if_pos rfl,mem_q hS]
    simp only [esDel]
    rw [show efind (.agg (.mk [(.int .i64 s),(.int .u64 g)])) S.es.toList 0 = some (i,v) from hf]
    simp [TS.mem,TS.put,Ne.symm hS.ne]
  · rw [if_neg e]
    simp [TS.mem,TS.put,e]
theorem RB_ins : ∀ {k : Ctx} {t : T} {n : Nat},RB (plug t k) n → red (plug t k) = false → ∃ m,RB t m ∧ (red t = true → mayR k = true) ∧ RBC k m
  | [],t,n,h,h2 => ⟨n,h,fun e => (by have h2 : red t = false:=h2;rw [h2] at e;cases e),trivial⟩
  | f :: k,t,n,h,h2 => by
    obtain ⟨m,g1,g2,g3⟩:=RB_ins (k:=k) (t:=f.mk' t) h h2
    exact RB_down (i:=f.i) (p:=f.p) (s:=f.s) (g:=f.g) (c:=f.c) (x:=t) (y:=f.o) g1 (fun e => g2 (by rw [Fr.mk',red_mk];exact e)) g3
end
end Go.Proofs.Ytnlohongffpkpaa.T16
end

section
namespace Go.Proofs.Ytnlohongffpkpaa.T16
open Go Go.RowKit Go.Proofs.Ytnlohongffpkpaa.Sx
set_option linter.unusedVariables false
set_option linter.unusedSimpArgs false
section
variable {S : TS} {b : Mem} {t : T} {n : Nat}
theorem At.seth {i : Bool} {p s g : Int} {c : Bool} {x y : T} {k : Ctx} (h : At S (mkT i p s g c x y) k) (s' g' : Int) :
    At (S.set p { (Fr.mk i p s g c y).node x.ptr (topP k) x.size with s:=s',g:=g' }) (mkT i p s' g' c x y) k:=by
  obtain ⟨k1,k2,k3⟩:=Rep.mk.1 h.rep
  have hd:=h.dj
  have hdp:=hd p
  rw [cnt_mk,if_pos rfl] at hdp
  have oth : ∀ q,0 < cnt q x + cnt q y + ccnt q k → (S.set p { (Fr.mk i p s g c y).node x.ptr (topP k) x.size with s:=s',g:=g' }).H q = S.H q:=by
    intro q hq
    rw [set_H,upd_ne]
    intro e;subst e;omega
  refine ⟨h.ok.wh k1 s' g',Rep.mk.2 ⟨?_,rep_congr (fun q hq => oth q (by omega)) k2,rep_congr (fun q hq => oth q (by omega)) k3⟩,?_,fun q => ?_,?_⟩
  · rw [set_H,upd_self];cases i <;> rfl
  · have:=h.ctx
    rw [ptr_mk,size_mk] at this ⊢
    exact repC_congr (fun q hq => oth q (by omega)) this
  · have:=hd q;rw [cnt_mk] at this ⊢;exact this
  · have:=h.sm;rw [size_mk] at this ⊢;exact this
theorem At.outK : ∀ {kd k : Ctx} {t : T},At S t (kd ++ k) → At S (plug t kd) k
  | [],k,t,h => h
  | f :: kd,k,t,h => At.outK (kd:=kd) (h : At S t (f :: (kd ++ k))).out
theorem At.inK : ∀ {kd k : Ctx} {t : T},At S (plug t kd) k → At S t (kd ++ k)
  | [],k,t,h => h
  | f :: kd,k,t,h => (At.inK (kd:=kd) (t:=f.mk' t) h).into
theorem Ents.swap {es : List MapEntry} {L : List (Int × Int × Int)} (h : Ents es L) (hn : (L.map (·.1)).Nodup) (h0 : ∀ x ∈ L,0 ≤ x.1) {j : Nat} {q s g : Int} (hj : L[j]? = some (q,s,g)) (p : Int) :
    ∃ i,efind (hKey s g) es 0 = some (i,pv q 0) ∧ Ents (es.modify i fun e => { e with key:=hKey s g,val:=pv p 0 }) (L.set j (p,s,g)):=by
  obtain ⟨e,he,hk,hv⟩:=h.fro _ (List.mem_of_getElem? hj)
  obtain ⟨i,hi⟩:=List.getElem?_of_mem he
  refine ⟨i,by rw [efind_some rfl h.ap hi hk,hv,Nat.zero_add],?_⟩
  have hjl:=(List.getElem?_eq_some_iff.1 hj).1
  have hLu : ∀ {a c : Nat} {x y : Int × Int × Int},L[a]? = some x → L[c]? = some y → x.1 = y.1 → a = c:=by
    intro a c x y ha hc hxy
    have ha' : (L.map (·.1))[a]? = some x.1:=by simp [ha]
    have hc' : (L.map (·.1))[c]? = some x.1:=by simp [hc,hxy]
    have la:=(List.getElem?_eq_some_iff.1 ha').1
    exact (List.getElem?_inj la hn).1 (ha'.trans hc'.symm)
  have huniq : ∀ {a c : Nat} {x y : MapEntry},es[a]? = some x → es[c]? = some y → x.key = y.key → a = c:=by
    intro a c x y ha hc hxy
    rcases Nat.lt_trichotomy a c with h1 | h1 | h1
    · have:=List.pairwise_iff_getElem.1 h.ap a c (List.getElem?_eq_some_iff.1 ha).1 (List.getElem?_eq_some_iff.1 hc).1 h1
      rw [(List.getElem?_eq_some_iff.1 ha).2,(List.getElem?_eq_some_iff.1 hc).2] at this
      exact absurd hxy this
    · exact h1
    · have:=List.pairwise_iff_getElem.1 h.ap c a (List.getElem?_eq_some_iff.1 hc).1 (List.getElem?_eq_some_iff.1 ha).1 h1
      rw [(List.getElem?_eq_some_iff.1 ha).2,(List.getElem?_eq_some_iff.1 hc).2] at this
      exact absurd hxy.symm this
  have hkey : ∀ a e',(es.modify i fun e => { e with key:=hKey s g,val:=pv p 0 })[a]? = some e' → ∃ e0,es[a]? = some e0 ∧ e'.key = e0.key ∧ (a = i → e'.val = pv p 0) ∧ (a ≠ i → e' = e0):=by
    intro a e' ha
    rw [List.getElem?_modify] at ha
    cases hh : es[a]? with
    | none => rw [hh] at ha;cases ha
    | some e0 =>
      rw [hh] at ha
      by_cases hia : i = a
      · subst hia
        rw [hi] at hh;cases hh
        simp at ha
        exact ⟨e,rfl,by rw [← ha];exact hk.symm,fun _ => by rw [← ha],fun hne => absurd rfl hne⟩
      · simp [hia] at ha
        exact ⟨e0,rfl,by rw [ha],fun e => absurd e.symm hia,fun _ => ha.symm⟩
  refine ⟨?_,fun e' he' => ?_,fun x hx => ?_,fun x hx => ?_⟩
  · rw [List.pairwise_iff_getElem]
    intro a c ha hc hac
    obtain ⟨ea,a1,a2,_⟩:=hkey a _ (List.getElem?_eq_getElem ha)
    obtain ⟨ec,c1,c2,_⟩:=hkey c _ (List.getElem?_eq_getElem hc)
    rw [a2,c2]
    intro hh
    have:=huniq a1 c1 hh
    omega
  · obtain ⟨a,ha⟩:=List.getElem?_of_mem he'
    obtain ⟨e0,a1,a2,a3,a4⟩:=hkey a e' ha
    by_cases hai : a = i
    · subst hai
      rw [hi] at a1;cases a1
      refine ⟨(p,s,g),List.mem_of_getElem? (List.getElem?_set_self hjl),a2.trans hk,a3 rfl⟩
    · obtain ⟨x,hx,k1,k2⟩:=h.to e0 (List.mem_of_getElem? a1)
      obtain ⟨c,hc⟩:=List.getElem?_of_mem hx
      have hcj : j ≠ c:=by
        rintro rfl
        rw [hj] at hc;cases hc
        exact hai (huniq a1 hi (k1.trans hk.symm))
      rw [a4 hai]
      exact ⟨x,List.mem_of_getElem? (by rw [List.getElem?_set_ne hcj];exact hc),k1,k2⟩
  · obtain ⟨c,hc⟩:=List.getElem?_of_mem hx
    by_cases hcj : j = c
    · subst hcj
      rw [List.getElem?_set_self hjl] at hc;cases hc
      refine ⟨{ e with key:=hKey s g,val:=pv p 0 },List.mem_of_getElem? (i:=i) (by rw [List.getElem?_modify,hi];simp),rfl,rfl⟩
    · rw [List.getElem?_set_ne hcj] at hc
      obtain ⟨e',he',k1,k2⟩:=h.fro x (List.mem_of_getElem? hc)
      obtain ⟨a,ha⟩:=List.getElem?_of_mem he'
      have hai : i ≠ a:=by
        rintro rfl
        rw [hi] at ha;cases ha
        have hp:=congrArg vP (hv.symm.trans k2)
        rw [vP_pv (h0 _ (List.mem_of_getElem? hj)),vP_pv (h0 _ (List.mem_of_getElem? hc))] at hp
        exact hcj (hLu hj hc hp)
      exact ⟨e',List.mem_of_getElem? (i:=a) (by rw [List.getElem?_modify,ha];simp [hai]),k1,k2⟩
  · obtain ⟨c,hc⟩:=List.getElem?_of_mem hx
    by_cases hcj : j = c
    · subst hcj
      rw [List.getElem?_set_self hjl] at hc;cases hc
      exact h.rng (q,s,g) (List.mem_of_getElem? hj)
    · rw [List.getElem?_set_ne hcj] at hc
      exact h.rng x (List.mem_of_getElem? hc)
theorem swap_mem (hS : S.ok) {s g : Int} {i : Nat} {v : Value} (hf : efind (hKey s g) S.es.toList 0 = some (i,v)) (p : Int) :
    mput (S.mem b) (.map (some S.q)) (.agg (.mk [(.int .i64 s),(.int .u64 g)])) (pv p 0) = (S.put (S.es.modify i fun e => { e with key:=hKey s g,val:=pv p 0 }) S.k).mem b:=by
  funext a
  simp only [mput,mchg]
  by_cases e : a = S.q
  · subst e
    rw [if_pos rfl,mem_q hS]
    simp only [esPut]
    rw [show efind (.agg (.mk [(.int .i64 s),(.int .u64 g)])) S.es.toList 0 = some (i,v) from hf]
    simp [TS.mem,TS.put,Ne.symm hS.ne]
  · rw [if_neg e]
    simp [TS.mem,TS.put,e]
theorem At.put {es : Array MapEntry} {kk : Nat} {k : Ctx} (h : At S t k) : At (S.put es kk) t k:=⟨put_ok h.ok,h.rep,h.ctx,h.dj,h.sm⟩
theorem remT_walk {x xs xg : Int} {xc : Bool} {l r : T} {k : Ctx} {n : Nat} {i : Int} {W : Leaf → Leaf} {Q : Leaf → Prop} (h : At S (.nd x xs xg xc l r) k) (hj : l = .nil ∨ r = .nil)
    (h1 : RB (.nd x xs xg xc l r) n) (h2 : xc = true → mayR k = true) (h3 : RBC k n) (hQ : ∀ S',Settled S (cl k ++ (nodes l ++ nodes r) ++ cr k) S' → Q (W (.memo (.tup [(.c (.si .i64 i)),(.c (.lb true))]) (S'.mem b)))) :
    (T_remL (S.mem b) S.p x i W).sat Q:=by
  refine remL_walk h hj fun S1 c j hl he hD => ?_
  refine remH_walk hl hD (by rw [← he];exact h1) h2 h3 fun S' hs => hQ S' ?_
  have : nodes (plug c k) = cl k ++ (nodes l ++ nodes r) ++ cr k:=by
    rw [nodes_plug]
    have hc : nodes c = nodes l ++ nodes r:=by
      cases j
      · injection he with _ _ _ _ e1 e2
        subst e1 e2;rfl
      · injection he with _ _ _ _ e1 e2
        subst e1 e2;simp [nodes]
    rw [hc]
  rw [← this];exact hs
end
end Go.Proofs.Ytnlohongffpkpaa.T16
end

section
namespace Go.Proofs.Ytnlohongffpkpaa.T16
open Go Go.RowKit Go.Proofs.Ytnlohongffpkpaa.Sx
set_option linter.unusedVariables false
set_option linter.unusedSimpArgs false
section
variable {S : TS} {b : Mem} {t : T} {n : Nat}
theorem cl_app : ∀ (kd K : Ctx),cl (kd ++ K) = cl K ++ cl kd
  | [],K => by simp [cl]
  | f :: kd,K => by
    simp only [List.cons_append,cl]
    cases f.i <;> simp [cl_app kd K]
theorem cr_app : ∀ (kd K : Ctx),cr (kd ++ K) = cr kd ++ cr K
  | [],K => by simp [cr]
  | f :: kd,K => by
    simp only [List.cons_append,cr]
    cases f.i <;> simp [cr_app kd K]
theorem cl_left : ∀ {kd : Ctx},(∀ f ∈ kd,f.i = false) → cl kd = []
  | [],_ => rfl
  | f :: kd,h => by
    simp only [cl,h f (by simp)]
    exact cl_left fun g hg => h g (by simp [hg])
theorem RBC_hg {i : Bool} {p s g s' g' : Int} {c : Bool} {o : T} {k : Ctx} : ∀ {kd : Ctx} {m : Nat},RBC (kd ++ Fr.mk i p s g c o :: k) m → RBC (kd ++ Fr.mk i p s' g' c o :: k) m
  | [],m,h => h
  | f :: kd,m,h => by
    cases hc : f.c with
    | true =>
      have h:=(RBC_red hc).1 h
      refine (RBC_red hc).2 ⟨h.1,h.2.1,?_,RBC_hg (kd:=kd) h.2.2.2⟩
      have:=h.2.2.1
      cases kd <;> exact this
    | false =>
      have h:=(RBC_blk hc).1 h
      exact (RBC_blk hc).2 ⟨h.1,RBC_hg (kd:=kd) h.2⟩
theorem plug_app : ∀ (kd K : Ctx) (t : T),plug t (kd ++ K) = plug (plug t kd) K
  | [],K,t => rfl
  | f :: kd,K,t => plug_app kd K (f.mk' t)
def remPost (S : TS) (b : Mem) (t : T) (s g : Int) (y : Vars) : Prop :=
  (∃ j : Nat,(hans t)[j]? = some (s,g) ∧ y.i = [(j : Int)] ∧ y.b = [true] ∧ ∃ (S' : TS) (t' : T) (n' : Nat),y.m = S'.mem b ∧ S'.t = S.t ∧ S'.q = S.q ∧ Tre S' t' n' ∧ hans t' = (hans t).eraseIdx j ∧ ∀ q,S'.H q = none ↔ S.H q = none) ∨
  ((∀ h ∈ hans t,h ≠ (s,g)) ∧ y.i = [0] ∧ y.b = [false] ∧ y.m = S.mem b)
theorem hans_get' {t : T} {j : Nat} {p s g : Int} (h : (nodes t)[j]? = some (p,s,g)) : (hans t)[j]? = some (s,g):=by simp [hans,h]
theorem hans_erase {t t' : T} {j : Nat} (h : (nodes t').map (fun x => (x.2.1,x.2.2)) = ((nodes t).eraseIdx j).map (fun x => (x.2.1,x.2.2))) : hans t' = (hans t).eraseIdx j:=by
  unfold hans
  rw [h,List.eraseIdx_eq_take_drop_succ,List.eraseIdx_eq_take_drop_succ]
  simp [List.map_take,List.map_drop]
set_option maxHeartbeats 4000000 in
theorem remove_walk (h : Tre S t n) {s g : Int} (h1 : inI s) (h2 : inU g) :
    (T_remove (S.mem b) S.p s g).sat (isMemo fun v m => remPost S b t s g (yOf v m) ∧ ∀ ρ,v.den ρ = (retIB (yOf v m)).den ρ):=by
  have hS:=h.at'.ok
  unfold T_remove
  rw [sat_req]
  refine ⟨⟨⟨S,b,t,n⟩,⟨rfl,rfl,h⟩,h1,h2⟩,?_⟩
  rw [sat_any]
  rintro ⟨yi,yb,yv,ym⟩ hy
  obtain ⟨hy,hm⟩:=hy ⟨S,b,t,n⟩ ⟨⟨rfl,rfl,h⟩,h1,h2⟩
  simp only at hm hy
  subst hm
  rcases hy with ⟨j,p,hj,e1,e2⟩ | ⟨hno,e1,e2⟩
  rotate_left
  · simp only at e1 e2
    subst e1 e2
    rw [brT (by rfl)]
    refine ⟨.inr ⟨fun x hx e => ?_,rfl,rfl,rfl⟩,fun ρ => rfl⟩
    obtain ⟨y,hmem,hye⟩:=List.mem_map.1 hx
    rw [e] at hye
    simp only [Prod.mk.injEq] at hye
    exact hno y hmem hye
  simp only at e1 e2
  subst e1 e2
  rw [brF (by rfl),brT nz_t,brT nz_t,brT okL_m]
  simp only [cell_q,lk_hit hS h.en (List.mem_of_getElem? hj),hdI]
  obtain ⟨c,l,r,k,hk,hl⟩:=split_at hj
  have hA : At S (.nd p s g c l r) k:=At.ins (by rw [hk];exact h.at')
  have hpn : 0 ≤ p:=Int.le_of_lt (hS.nd p _ hA.rep.1).1
  rw [sat_req]
  refine ⟨⟨keyed29,okM29 hS h.en,okKey29 h1 h2,isP_pv p⟩,?_⟩
  simp only [vP_pv hpn]
  rw [brT nz_t,brT nz_t,brT okL_m,sat_req]
  refine ⟨⟨keyed29,okM29 hS h.en,okKey29 h1 h2⟩,?_⟩
  obtain ⟨ix,hf,hEn⟩:=h.en.del (nodes_nodup h.at') (nodes_nn h.at') hj
  rw [sat_letm,del_mem hS hf]
  have hA1:=hA.put (es:=S.es.eraseIdxIfInBounds ix) (kk:=S.k)
  have hEn1 : Ents (S.put (S.es.eraseIdxIfInBounds ix) S.k).es.toList ((nodes t).eraseIdx j):=by
    show Ents (S.es.eraseIdxIfInBounds ix).toList _
    rw [Array.toList_eraseIdxIfInBounds];exact hEn
  have et : (S.put (S.es.eraseIdxIfInBounds ix) S.k).t = S.t:=rfl
  have eq : (S.put (S.es.eraseIdxIfInBounds ix) S.k).q = S.q:=rfl
  have ed : ∀ q,(S.put (S.es.eraseIdxIfInBounds ix) S.k).H q = none ↔ S.H q = none:=fun _ => Iff.rfl
  have ep : (S.put (S.es.eraseIdxIfInBounds ix) S.k).p = S.p:=rfl
  generalize S.put (S.es.eraseIdxIfInBounds ix) S.k = S1 at hA1 hEn1 et eq ed ep
  have hp1:=hA1.rep.1
  have ok1:=hA1.ok
  obtain ⟨m,b1,b2,b3⟩:=RB_ins (k:=k) (t:=.nd p s g c l r) (by rw [hk];exact h.rb) (by rw [hk];exact h.blk)
  have hnt : nodes t = (cl k ++ nodes l) ++ (p,s,g) :: (nodes r ++ cr k):=by rw [← hk,nodes_plug];simp [nodes]
  have hle : (cl k ++ nodes l).length = j:=by rw [List.length_append,len_nodes];exact hl
  have hne : (nodes t).eraseIdx j = cl k ++ nodes l ++ (nodes r ++ cr k):=by
    rw [hnt,List.eraseIdx_append_of_length_le (by omega),hle,Nat.sub_self,List.eraseIdx_cons_zero]
  have hfin : ∀ (S' : TS) (t' : T) (m' : Nat),S'.t = S1.t → S'.q = S1.q → (∀ q,S'.H q = none ↔ S1.H q = none) → Tre S' t' m' → (nodes t').map (fun x => (x.2.1,x.2.2)) = ((nodes t).eraseIdx j).map (fun x => (x.2.1,x.2.2)) →
      remPost S b t s g (yOf (.tup [(.c (.si .i64 (j : Int))),(.c (.lb true))]) (S'.mem b)) ∧ ∀ ρ,V.den ρ (.tup [(.c (.si .i64 (j : Int))),(.c (.lb true))]) = V.den ρ (retIB (yOf (.tup [(.c (.si .i64 (j : Int))),(.c (.lb true))]) (S'.mem b))) :=
    fun S' t' m' a1 a2 a3 a4 a5 => ⟨.inl ⟨j,hans_get' hj,rfl,rfl,S',t',m',rfl,a1.trans et,a2.trans eq,a4,hans_erase a5,fun q => (a3 q).trans (ed q)⟩,fun ρ => rfl⟩
  have hone : l = .nil ∨ r = .nil → (T_remL (S1.mem b) S.p p (j : Int) (fun l => l)).sat (isMemo fun v m => remPost S b t s g (yOf v m) ∧ ∀ ρ,v.den ρ = (retIB (yOf v m)).den ρ):=by
    intro hlr
    rw [← ep]
    refine remT_walk hA1 hlr b1 b2 b3 fun S' hs => ?_
    obtain ⟨hlike,t',m',g1,g2,g3,g4⟩:=hs
    refine hfin S' t' m' hlike.t hlike.q hlike.dom ⟨g1,g3,g4,?_⟩ ?_
    · rw [hlike.es,g2]
      rw [hne] at hEn1
      simpa using hEn1
    · rw [g2,hne];simp
  rw [brT (nz_n ok1 hp1),brT (nz_n ok1 hp1),brT (nz_n ok1 hp1),brT (okL_2 ok1 hp1),brT (cmp_zero _ _),gP_l ok1 hp1,gP_r ok1 hp1]
  cases l with
  | nil =>
    rw [brF (by rfl),brT (nz_n ok1 hp1),brT (nz_n ok1 hp1),brT (okL_4 ok1 hp1)]
    exact hone (.inl rfl)
  | nd lp ls lg lc ll lr =>
    rw [brT (show bNot (peq (T.nd lp ls lg lc ll lr).ptr 0) = true by rw [show (T.nd lp ls lg lc ll lr).ptr = lp from rfl,peq_n ok1 hA1.rep.2.1.1];rfl),brT (nz_n ok1 hp1),brT (nz_n ok1 hp1),brT (nz_n ok1 hp1),brT (okL_3 ok1 hp1),brT (cmp_zero _ _)]
    generalize hll : T.nd lp ls lg lc ll lr = l at *
    by_cases hr0 : r = .nil
    · rw [hr0,brF (by rfl),brT (nz_n ok1 hp1),brT (nz_n ok1 hp1),brT (okL_4 ok1 hp1)]
      exact hone (.inr hr0)
    · obtain ⟨rp,rs,rg,rc,rl,rr,hrf⟩:=form_of false hr0
      have hrp : ∃ d,S1.H r.ptr = some d:=by rw [hrf];exact ⟨_,(hrf ▸ hA1.rep.2.2 : Rep S1.H p (mkT false rp rs rg rc rl rr)).1⟩
      obtain ⟨dr,hrp⟩:=hrp
      rw [brT (by rw [peq_n ok1 hrp];rfl),brT (nz_n ok1 hp1),brT (nz_n ok1 hp1),brT (nz_n ok1 hp1),brT (okL_3 ok1 hp1)]
      let J : Nat → Vars → Prop:=fun N y => ∃ (t2 : T) (kd : Ctx),N = t2.size ∧ y = ⟨[t2.ptr],[],[],S1.mem b⟩ ∧ t2 ≠ .nil ∧ At S1 t2 (kd ++ Fr.mk true p s g c l :: k) ∧ (∀ f ∈ kd,f.i = false) ∧ plug t2 kd = r
      refine lp_idx J (n0:=r.size) ⟨r,[],rfl,rfl,hr0,At.far (i:=false) (hA1 : At S1 (mkT false p s g c l r) k),by simp,rfl⟩ ?_
      rintro N y _ ⟨t2,kd,rfl,rfl,ht2,hB,hkd,hpl⟩
      cases t2 with
      | nil => exact absurd rfl ht2
      | nd q qs qg qc l2 r2 =>
        have hq:=hB.rep.1
        simp only [hdI,show (T.nd q qs qg qc l2 r2).ptr = q from rfl]
        rw [gP_l ok1 hq,brT (nz_n ok1 hq),brT (nz_n ok1 hq),brT (nz_n ok1 hq),brT (okL_2 ok1 hq),brT (cmp_zero _ _)]
        by_cases hl2 : l2 = .nil
        · subst hl2
          have hC : At S1 (mkT true p s g c r l) k:=by
            have:=hB.outK
            rw [hpl] at this
            exact this.out
          have hpC:=hC.get
          have hD:=hC.seth qs qg
          rw [brF (by rfl),brT (nz_n ok1 hq),brT (nz_n ok1 hq),brT (okL_0 ok1 hq),brT (nz_n ok1 hp1),brT (nz_n ok1 hp1),brT (okL_0 ok1 hp1),brT (nz_n ok1 hp1),brT (nz_n ok1 hp1),brT (okS_n ok1 hp1 rfl),sat_letm]
          rw [gI_s ok1 hq,gI_g ok1 hq,gI_s ok1 hp1,gI_g ok1 hp1,wr_h ok1 hpC]
          have l2':=like_set (d:={ (Fr.mk true p s g c l).node r.ptr (topP k) r.size with s:=qs,g:=qg }) hpC
          generalize S1.set p { (Fr.mk true p s g c l).node r.ptr (topP k) r.size with s:=qs,g:=qg } = S2 at hD l2'
          have hE : At S2 (.nd q qs qg qc .nil r2) (kd ++ Fr.mk true p qs qg c l :: k):=by
            refine At.inK ?_
            rw [hpl]
            exact At.into (f:=Fr.mk true p qs qg c l) hD
          have hqE:=At.get (i:=false) hE
          have hF:=At.seth (i:=false) hE s g
          rw [brT (nz_n hE.ok hqE),brT (nz_n hE.ok hqE),brT (okS_n hE.ok hqE rfl),sat_letm,wr_h hE.ok hqE]
          have l3':=l2'.trans (like_set (d:={ (Fr.mk false q qs qg qc r2).node T.nil.ptr (topP (kd ++ Fr.mk true p qs qg c l :: k)) T.nil.size with s:=s,g:=g }) hqE)
          generalize S2.set q { (Fr.mk false q qs qg qc r2).node T.nil.ptr (topP (kd ++ Fr.mk true p qs qg c l :: k)) T.nil.size with s:=s,g:=g } = S3 at hF l3'
          have hpF:=hF.outK.getf
          have ok3:=hF.ok
          rw [← ep,← like_p l3',brT nz_t,brT nz_t,brT okL_m,brT (nz_n ok3 hpF),brT (nz_n ok3 hpF),brT (okL_0 ok3 hpF),cell_q,gI_s ok3 hpF,gI_g ok3 hpF,node_s,node_g,sat_req]
          have hnr : nodes r = (q,qs,qg) :: nodes r2 ++ cr kd:=by rw [← hpl,nodes_plug,cl_left hkd];simp [nodes]
          have hne2 : (nodes t).eraseIdx j = (cl k ++ nodes l) ++ (q,qs,qg) :: (nodes r2 ++ cr kd ++ cr k):=by rw [hne,hnr];simp
          have hj2 : ((nodes t).eraseIdx j)[j]? = some (q,qs,qg):=by
            rw [hne2,List.getElem?_append_right (by omega),hle,Nat.sub_self];rfl
          have hsub : ((nodes t).eraseIdx j).Sublist (nodes t):=List.eraseIdx_sublist _ _
          have hEn3 : Ents S3.es.toList ((nodes t).eraseIdx j):=by rw [l3'.es];exact hEn1
          have hrq:=hEn3.rng _ (List.mem_of_getElem? hj2)
          obtain ⟨iy,hfy,hEn4⟩:=hEn3.swap ((nodes_nodup h.at').sublist (hsub.map _)) (fun x hx => nodes_nn h.at' x (hsub.mem hx)) hj2 p
          refine ⟨⟨keyed29,okM29 ok3 hEn3,rfl,okKey29 hrq.1 hrq.2⟩,?_⟩
          rw [sat_letm,swap_mem ok3 hfy]
          have hG:=hF.put (es:=S3.es.modify iy fun e => { e with key:=hKey qs qg,val:=pv p 0 }) (kk:=S3.k)
          have hEn5 : Ents (S3.put (S3.es.modify iy fun e => { e with key:=hKey qs qg,val:=pv p 0 }) S3.k).es.toList (((nodes t).eraseIdx j).set j (p,qs,qg)):=by
            show Ents (S3.es.modify iy _).toList _
            rw [Array.toList_modify];exact hEn4
          have ep4 : (S3.put (S3.es.modify iy fun e => { e with key:=hKey qs qg,val:=pv p 0 }) S3.k).p = S3.p:=rfl
          have l4t : (S3.put (S3.es.modify iy fun e => { e with key:=hKey qs qg,val:=pv p 0 }) S3.k).t = S1.t:=l3'.t
          have l4q : (S3.put (S3.es.modify iy fun e => { e with key:=hKey qs qg,val:=pv p 0 }) S3.k).q = S1.q:=l3'.q
          have l4d : ∀ q,(S3.put (S3.es.modify iy fun e => { e with key:=hKey qs qg,val:=pv p 0 }) S3.k).H q = none ↔ S1.H q = none:=l3'.dom
          rw [← ep4]
          generalize S3.put (S3.es.modify iy fun e => { e with key:=hKey qs qg,val:=pv p 0 }) S3.k = S4 at hG hEn5 l4t l4q l4d
          have hqG:=hG.get
          obtain ⟨m2,d1,d2,d3⟩:=RB_ins (k:=kd ++ Fr.mk true p s g c l :: k) (t:=.nd q qs qg qc .nil r2) (n:=n) (by
            rw [plug_app,hpl,show plug r (Fr.mk true p s g c l :: k) = plug (.nd p s g c l r) k from rfl,hk];exact h.rb) (by
            rw [plug_app,hpl,show plug r (Fr.mk true p s g c l :: k) = plug (.nd p s g c l r) k from rfl,hk];exact h.blk)
          rw [brT (nz_n hG.ok hqG),brT (nz_n hG.ok hqG),brT (okL_4 hG.ok hqG)]
          refine remT_walk (W:=.up) (hG : At S4 (.nd q s g qc .nil r2) _) (.inl rfl) (n:=m2) (by cases qc <;> exact d1) (fun e => ?_) (RBC_hg d3) fun S' hs => ?_
          · have:=d2 e
            cases kd <;> exact this
          · obtain ⟨hlike,t',m',g1,g2,g3,g4⟩:=hs
            have hnn : nodes t' = ((nodes t).eraseIdx j).set j (p,qs,qg):=by
              rw [g2,cl_app,cr_app,cl_left hkd,hne2,List.set_append_right _ _ (by omega),hle,Nat.sub_self]
              simp [cl,cr,nodes]
            refine hfin S' t' m' (hlike.t.trans l4t) (hlike.q.trans l4q) (fun q => (hlike.dom q).trans (l4d q)) ⟨g1,g3,g4,?_⟩ ?_
            · rw [hlike.es,hnn];exact hEn5
            · rw [hnn,hne2,List.set_append_right _ _ (by omega),hle,Nat.sub_self];simp
        · obtain ⟨a_p,a_s,ag,ac,al,ar,haf⟩:=form_of false hl2
          have hlp : ∃ d,S1.H l2.ptr = some d:=by rw [haf];exact ⟨_,(haf ▸ hB.rep.2.1 : Rep S1.H q (mkT false a_p a_s ag ac al ar)).1⟩
          obtain ⟨dl,hlp⟩:=hlp
          rw [brT (by rw [peq_n ok1 hlp];rfl),brT (nz_n ok1 hq),brT (nz_n ok1 hq),brT (nz_n ok1 hq),brT (okL_2 ok1 hq),sat_req]
          refine ⟨by simp,l2.size,by simp only [T.size];omega,l2,Fr.mk false q qs qg qc r2 :: kd,rfl,rfl,hl2,At.near (i:=false) (hB : At S1 (mkT false q qs qg qc l2 r2) _),?_,hpl⟩
          intro f hf
          rcases List.mem_cons.1 hf with rfl | hf
          · rfl
          · exact hkd f hf
end
def removeP (m : Mem) (t hs hg : Int) : Prop:=∃ G : TG,G.is m t ∧ inI hs ∧ inU hg
def removeQ (m : Mem) (t hs hg : Int) (y : Vars) : Prop:=∀ G : TG,(G.is m t ∧ inI hs ∧ inU hg) → remPost G.S G.b G.t hs hg y
def s_remove : Sum:=memSum 20 fun m a => match a with | [a0,a1] => (match ptrOf a0,hanOf a1 with | some t,some (hs,hg) => some ⟨removeP m t hs hg,removeQ m t hs hg,fun y => .tup [.c (.si .i64 (hdI y.i)),.c (.sb (hdB y.b))]⟩ | _,_ => none) | _ => none
theorem t_remove (m : Mem) (t : Int) (hs hg : Int) : runm Try.prog [s_index,s_which,s_hang,s_fills] (drawl Try.prog [s_index,s_which,s_hang,s_fills] (fun _ k => match Nat.beq k 8 with | true => some ⟨[9],[],[0,6,8],[]⟩ | false => some ⟨[10],[],[0,6,8],[]⟩)) 300 20 [.u (.c (.np t 0)),.u (.agg [.si .i64 hs,.si .u64 hg])] m [98] = T_remove m t hs hg:=by kernel_rfl
theorem s_remove_ok : SumOK Try.prog s_remove:=by
  refine memSum_ok ⟨_,Try.func20,by kernel_rfl⟩ fun m args ms h hp hw ρ w hm => ?_
  split at h
  · split at h
    · rename_i a0 a1 _ _ t hs hg h0 h1
      cases h
      have hS : ∀ q ∈ [s_index,s_which,s_hang,s_fills],SumOK Try.prog q:=okc s_index_ok (okc s_which_ok (okc s_hang_ok (okc s_fills_ok okn)))
      refine mm_ghost nameOK hS (drawl_sound nameOK hS (by kernel_rfl) _) 300 _ m _ (t_remove m t hs hg) hp (fun G hG => ?_) ρ w hm (by simp only [List.map_cons,List.map_nil,ptrOf_den h0,hanOf_den h1])
      obtain ⟨⟨rfl,rfl,g1⟩,g2,g3⟩:=hG
      refine sat_mono (fun l hl => ?_) (remove_walk g1 g2 g3)
      cases l with
      | memo v x => exact ⟨hl.1,yOf_m _ _,hl.2⟩
      | _ => exact hl.elim
    · cases h
  · cases h
end Go.Proofs.Ytnlohongffpkpaa.T16
end

section
namespace Go.Proofs.Ytnlohongffpkpaa.T16
open Go Go.RowKit Go.Proofs.Ytnlohongffpkpaa.Sx Go.Proofs Go.WideShapes Go.ChangeShapes
set_option linter.unusedVariables false
set_option linter.unusedSimpArgs false
def u8 (x : Int) : Prop:=0 ≤ x ∧ x < 256
structure Arg8 (l : Value) (xs : List Int) (m : Mem) : Prop where
  sl : isSlV (pl l) = true
  n : slN (pl l) = xs.length
  at' : ∀ i : Nat,∀ x,xs[i]? = some x → inSl (pl l) i = true ∧ okL m (slB (pl l)) (aOff (slO (pl l)) i 1) [.li .u8 0] = true ∧ gI m (slB (pl l)) (aOff (slO (pl l)) i 1) = x
  rng : ∀ x ∈ xs,u8 x
theorem Arg8.more {l : Value} {xs : List Int} {m m' : Mem} (h : Arg8 l xs m) (hm : ∀ a,m a ≠ none → m' a = m a) : Arg8 l xs m':=by
  refine ⟨h.sl,h.n,fun i x hx => ?_,h.rng⟩
  obtain ⟨a1,a2,a3⟩:=h.at' i x hx
  obtain ⟨b1,b2⟩:=okL_more hm a2
  exact ⟨a1,b1,by unfold gI at a3 ⊢;rw [b2];exact a3⟩
theorem Fre.rem {S S' : TS} {m : Mem} (h : Fre S m) (ht : S'.t = S.t) (hq : S'.q = S.q) (hd : ∀ q,S'.H q = none ↔ S.H q = none) : Fre S' m :=
  ⟨by rw [ht];exact h.t,by rw [hq];exact h.q,fun c hc => h.H c fun e => hc ((hd _).2 e)⟩
end Go.Proofs.Ytnlohongffpkpaa.T16
end

section
namespace Go.Proofs.Ytnlohongffpkpaa.T16
open Go Go.RowKit Go.Proofs.Ytnlohongffpkpaa.Sx Go.Proofs Go.WideShapes Go.ChangeShapes
set_option linter.unusedVariables false
set_option linter.unusedSimpArgs false
end Go.Proofs.Ytnlohongffpkpaa.T16
end

section
namespace Go.Proofs.Ytnlohongffpkpaa.T16
open Go Go.RowKit Go.Proofs.Ytnlohongffpkpaa.Sx Go.Proofs
set_option linter.unusedVariables false
set_option linter.unusedSimpArgs false
def digits (n : Nat) : Nat:=if h : n = 0 then 0 else digits (n / 2) + 1
termination_by n
decreasing_by omega
section
variable (deepOK : Mem → Int → Prop) (deepV : Mem → Int → Int)
def T_deep (m : Mem) (p : Int) : Tr:=(.br (cmpOK m p 0) (.br (peq p 0) (.leaf (.memo (.u (.c (.li .i64 0))) m)) (.br (nzp p) (.br (nzp p) (.br (nzp p) (.br (okL m p 2 [.nilp]) (.req (deepOK m (gP m p 2)) (.br (nzp p) (.br (nzp p) (.br (nzp p) (.br (okL m p 3 [.nilp]) (.req (deepOK m (gP m p 3)) (.leaf (.memo (.u (.c (.si .i64 (iAdd .i64 1 (iMax2 (deepV m (gP m p 2)) (deepV m (gP m p 3))))))) m))) (.no 70)) (.no 81)) (.no 76)) (.no 75))) (.no 70)) (.no 81)) (.no 76)) (.no 75))) (.no 78))
end
def deepK : Nat → (Mem → Int → Prop) × (Mem → Int → Int)
  | 0 => (fun _ _ => False,fun _ _ => 0)
  | k + 1 => (fun m p => okP (T_deep (deepK k).1 (deepK k).2 m p),fun m p => vInt (outV (T_deep (deepK k).1 (deepK k).2 m p)))
def deepOK (m : Mem) (p : Int) : Prop:=(deepK 1000).1 m p
def deepV (m : Mem) (p : Int) : Int:=(deepK 1000).2 m p
end Go.Proofs.Ytnlohongffpkpaa.T16
end

section
namespace Go.Proofs.Ytnlohongffpkpaa.T16
open Go Go.RowKit Go.Proofs.Ytnlohongffpkpaa.Sx Go.Proofs Go.WideShapes Go.ChangeShapes
set_option linter.unusedVariables false
set_option linter.unusedSimpArgs false
theorem Tre.inj {S : TS} {t : T} {n : Nat} (h : Tre S t n) {i j : Nat} {x : Int × Int} (hi : (hans t)[i]? = some x) (hj : (hans t)[j]? = some x) : i = j:=by
  unfold hans at hi hj
  rw [List.getElem?_map] at hi hj
  obtain ⟨u,hu,hux⟩:=Option.map_eq_some_iff.1 hi
  obtain ⟨v,hv,hvx⟩:=Option.map_eq_some_iff.1 hj
  obtain ⟨e,he,hk,hw⟩:=h.en.fro u (List.mem_of_getElem? hu)
  obtain ⟨e',he',hk',hw'⟩:=h.en.fro v (List.mem_of_getElem? hv)
  have hkk : e.key = e'.key:=by
    rw [← hvx] at hux
    simp only [Prod.mk.injEq] at hux
    rw [hk,hk',hux.1,hux.2]
  have hee : e = e':=by
    obtain ⟨a,ha⟩:=List.getElem?_of_mem he
    obtain ⟨c,hc⟩:=List.getElem?_of_mem he'
    have hac : a = c:=by
      rcases Nat.lt_trichotomy a c with h1 | h1 | h1
      · have:=List.pairwise_iff_getElem.1 h.en.ap a c (List.getElem?_eq_some_iff.1 ha).1 (List.getElem?_eq_some_iff.1 hc).1 h1
        rw [(List.getElem?_eq_some_iff.1 ha).2,(List.getElem?_eq_some_iff.1 hc).2] at this
        exact absurd hkk this
      · exact h1
      · have:=List.pairwise_iff_getElem.1 h.en.ap c a (List.getElem?_eq_some_iff.1 hc).1 (List.getElem?_eq_some_iff.1 ha).1 h1
        rw [(List.getElem?_eq_some_iff.1 ha).2,(List.getElem?_eq_some_iff.1 hc).2] at this
        exact absurd hkk.symm this
    subst hac
    rw [ha] at hc;cases hc;rfl
  subst hee
  have hp:=pv_inj (nodes_nn h.at' u (List.mem_of_getElem? hu)) (nodes_nn h.at' v (List.mem_of_getElem? hv)) (hw.symm.trans hw')
  have hi' : ((nodes t).map (·.1))[i]? = some u.1:=by simp [hu]
  have hj' : ((nodes t).map (·.1))[j]? = some u.1:=by simp [hv,hp]
  exact (List.getElem?_inj (List.getElem?_eq_some_iff.1 hi').1 (nodes_nodup h.at')).1 (hi'.trans hj'.symm)
theorem hans_nodes {t : T} {j : Nat} {x : Int × Int} (h : (hans t)[j]? = some x) : ∃ p,(nodes t)[j]? = some (p,x.1,x.2):=by
  unfold hans at h
  rw [List.getElem?_map] at h
  obtain ⟨u,hu,hux⟩:=Option.map_eq_some_iff.1 h
  exact ⟨u.1,by rw [hu,← hux]⟩
theorem Tre.rng {S : TS} {t : T} {n : Nat} (h : Tre S t n) {x : Int × Int} (hx : x ∈ hans t) : inI x.1 ∧ inU x.2:=by
  obtain ⟨j,hj⟩:=List.getElem?_of_mem hx
  obtain ⟨p,hp⟩:=hans_nodes hj
  exact h.en.rng _ (List.mem_of_getElem? hp)
theorem at_ok {t : T} {a : Nat} {y : Vars} {x : Int × Int} (h : atPost (nodes t) a y) (hx : (hans t)[a]? = some x) : y.i = [x.1,x.2] ∧ y.b = [true]:=by
  rcases h with ⟨j,p,s,g,e1,e2,e3,e4⟩ | ⟨e1,_⟩
  · have e1 : j = a:=by omega
    subst e1
    rw [hans_get e2] at hx;cases hx
    exact ⟨e3,e4⟩
  · exfalso
    have:=(List.getElem?_eq_some_iff.1 hx).1
    rw [len_nodes,← len_hans] at e1;omega
end Go.Proofs.Ytnlohongffpkpaa.T16
end

section
namespace Go.Proofs.Ytnlohongffpkpaa.T16
open Go Go.RowKit Go.Proofs.Ytnlohongffpkpaa.Sx Go.Proofs
set_option linter.unusedVariables false
set_option linter.unusedSimpArgs false
theorem hCells_nil : hCells [] = []:=rfl
theorem hCells_cons (x : Int × Int) (l : List (Int × Int)) : hCells (x :: l) = .int .i64 x.1 :: .int .u64 x.2 :: hCells l:=rfl
theorem hCells_app (l k : List (Int × Int)) : hCells (l ++ k) = hCells l ++ hCells k:=by simp [hCells]
theorem hCells_len : ∀ l : List (Int × Int),(hCells l).length = l.length * 2
  | [] => rfl
  | x :: l => by rw [hCells_cons,List.length_cons,List.length_cons,List.length_cons,hCells_len l];omega
theorem hCells_take : ∀ (l : List (Int × Int)) (k : Nat),(hCells l).take (k * 2) = hCells (l.take k)
  | [],k => by simp [hCells_nil]
  | x :: l,0 => by simp [hCells_nil]
  | x :: l,k + 1 => by
    rw [show (k + 1) * 2 = k * 2 + 1 + 1 by omega,hCells_cons,List.take_succ_cons,List.take_succ_cons,hCells_take l k];rfl
theorem hCells_drop : ∀ (l : List (Int × Int)) (k : Nat),(hCells l).drop (k * 2) = hCells (l.drop k)
  | [],k => by simp [hCells_nil]
  | x :: l,0 => by simp
  | x :: l,k + 1 => by
    rw [show (k + 1) * 2 = k * 2 + 1 + 1 by omega,hCells_cons,List.drop_succ_cons,List.drop_succ_cons,hCells_drop l k];rfl
theorem hCells_plain : ∀ l : List (Int × Int),(hCells l).all isPlain = true
  | [] => rfl
  | x :: l => by rw [hCells_cons];simp [isPlain,hCells_plain l]
structure SlH (m : Mem) (v : Value) (hs : List (Int × Int)) : Prop where
  ok : okSl m v 2 = true
  n : slN v = hs.length
  row : rowL m v 2 = hCells hs
theorem mgetW_of {m : Mem} {a : Nat} {cs : Array Value} {ty : Nat} (h : m a = some (.cells cs ty (0,0))) : mgetW m ((a : Int) + 1) = some cs:=by
  unfold mgetW;rw [show ((a : Int) + 1).toNat = a + 1 by omega];simp [h]
theorem mget_of {m : Mem} {a : Nat} {cs : Array Value} {ty : Nat} {q : Nat × Nat} (h : m a = some (.cells cs ty q)) : mget m ((a : Int) + 1) = some cs:=by
  unfold mget;rw [show ((a : Int) + 1).toNat = a + 1 by omega];simp [h]
theorem SlH.inv {m : Mem} {v : Value} {hs : List (Int × Int)} (h : SlH m v hs) : (v = .slice none 0 0 ∧ hs = []) ∨
    ∃ (a o c : Nat) (cs : Array Value) (ty : Nat),v = .slice (some ⟨a,o,none⟩) hs.length c ∧ hs.length ≤ c ∧ m a = some (.cells cs ty (0,0)) ∧ o + c * 2 ≤ cs.size ∧ cs.toList.all isPlain = true ∧ (cs.toList.drop o).take (hs.length * 2) = hCells hs:=by
  obtain ⟨h1,h2,h3⟩:=h
  unfold okSl at h1
  split at h1
  · simp only [Bool.and_eq_true] at h1
    have e1:=Nat.eq_of_beq_eq_true h1.1
    have e2:=Nat.eq_of_beq_eq_true h1.2
    subst e1 e2
    left
    refine ⟨rfl,?_⟩
    simp only [slN] at h2
    exact List.length_eq_zero_iff.1 h2.symm
  · rename_i a o n c
    right
    simp only [Bool.and_eq_true] at h1
    obtain ⟨h1,h4⟩:=h1
    simp only [slN] at h2
    subst h2
    split at h4
    · rename_i cs hcs
      simp only [Bool.and_eq_true] at h4
      obtain ⟨b,ty,e1,e2⟩:=mgetW_at hcs
      have : b = a:=by omega
      subst this
      refine ⟨b,o,c,cs,ty,rfl,Nat.le_of_ble_eq_true h1,e2,Nat.le_of_ble_eq_true h4.1,h4.2,?_⟩
      simp only [rowL,slB,slO,slN,mgetW_get hcs] at h3
      exact h3
    · cases h4
  · cases h1
theorem SlH.of {m : Mem} {a o c : Nat} {cs : Array Value} {ty : Nat} {hs : List (Int × Int)} (h1 : hs.length ≤ c) (h2 : m a = some (.cells cs ty (0,0))) (h3 : o + c * 2 ≤ cs.size) (h4 : cs.toList.all isPlain = true) (h5 : (cs.toList.drop o).take (hs.length * 2) = hCells hs) :
    SlH m (.slice (some ⟨a,o,none⟩) hs.length c) hs:=by
  refine ⟨?_,rfl,?_⟩
  · simp only [okSl,mgetW_of h2,Bool.and_eq_true]
    exact ⟨Nat.ble_eq_true_of_le h1,Nat.ble_eq_true_of_le h3,h4⟩
  · simp only [rowL,slB,slO,slN,mget_of h2];exact h5
theorem SlH.nil0 (m : Mem) : SlH m (.slice none 0 0) []:=⟨rfl,rfl,rfl⟩
theorem SlH.pl {m : Mem} {v : Value} {hs : List (Int × Int)} (h : SlH m v hs) : pl v = v:=by
  rcases h.inv with ⟨rfl,_⟩ | ⟨_,_,_,_,_,rfl,_⟩ <;> rfl
theorem SlH.isv {m : Mem} {v : Value} {hs : List (Int × Int)} (h : SlH m v hs) : isSlV v = true:=by
  rcases h.inv with ⟨rfl,_⟩ | ⟨_,_,_,_,_,rfl,_⟩ <;> rfl
theorem SlH.more {m m' : Mem} {v : Value} {hs : List (Int × Int)} (h : SlH m v hs) (hm : ∀ a : Nat,slB v = (a : Int) + 1 → m a ≠ none → m' a = m a) : SlH m' v hs:=by
  rcases h.inv with ⟨rfl,rfl⟩ | ⟨a,o,c,cs,ty,rfl,h1,h2,h3,h4,h5⟩
  · exact SlH.nil0 m'
  · exact SlH.of h1 (by rw [hm a rfl (by rw [h2];simp)];exact h2) h3 h4 h5
theorem SlH.get {m : Mem} {v : Value} {hs : List (Int × Int)} (h : SlH m v hs) {i : Nat} {x : Int × Int} (hx : hs[i]? = some x) :
    inSl v (i : Int) = true ∧ okL m (slB v) (aOff (slO v) i 2) [.li .i64 0,.li .u64 0] = true ∧ gI m (slB v) (aOff (slO v) i 2) = x.1 ∧ gI m (slB v) (.succ (aOff (slO v) i 2)) = x.2:=by
  have hlt : i < hs.length:=(List.getElem?_eq_some_iff.1 hx).1
  rcases h.inv with ⟨rfl,rfl⟩ | ⟨a,o,c,cs,ty,rfl,h1,h2,h3,h4,h5⟩
  · simp at hlt
  obtain ⟨c1,c2⟩:=hCells_get hs i x hx
  have k1 : cs[o + 2 * i]? = some (.int .i64 x.1):=by
    have : (cs.toList.drop o)[2 * i]? = some (.int .i64 x.1):=by rw [← c1,← h5,List.getElem?_take_of_lt (by omega)]
    simpa using this
  have k2 : cs[o + (2 * i + 1)]? = some (.int .u64 x.2):=by
    have : (cs.toList.drop o)[2 * i + 1]? = some (.int .u64 x.2):=by rw [← c2,← h5,List.getElem?_take_of_lt (by omega)]
    simpa using this
  have ea : aOff o (i : Int) 2 = o + 2 * i:=by simp [aOff];omega
  have eb : (o + 2 * i).succ = o + (2 * i + 1):=by omega
  simp only [slB,slO,ea,eb]
  refine ⟨?_,?_,?_,?_⟩
  · have : Nat.ble hs.length c = true:=Nat.ble_eq_true_of_le h1
    simp [inSl,isSl,slN,this,hlt]
  · unfold okL;rw [mget_of h2]
    simp only [okR,k1,show o + 2 * i + 1 = o + (2 * i + 1) by omega,k2,okC,isK,decide_true,Bool.and_self]
  · unfold gI mcell;rw [mget_of h2];simp [k1,vI]
  · unfold gI mcell;rw [mget_of h2];simp [k2,vI]
theorem SlH.cut {m : Mem} {v : Value} {hs : List (Int × Int)} (h : SlH m v hs) {l r : Nat} (hl : l ≤ r) (hr : r ≤ hs.length) :
    cutSl v (l : Int) (r : Int) = true ∧ SlH m (cutV v 2 l r) ((hs.drop l).take (r - l)):=by
  rcases h.inv with ⟨rfl,rfl⟩ | ⟨a,o,c,cs,ty,rfl,h1,h2,h3,h4,h5⟩
  · have : r = 0:=by simpa using hr
    subst this
    have : l = 0:=by omega
    subst this
    exact ⟨by decide,SlH.nil0 m⟩
  · have hlen : ((hs.drop l).take (r - l)).length = r - l:=by rw [List.length_take,List.length_drop];omega
    refine ⟨?_,?_⟩
    · have : Nat.ble hs.length c = true:=Nat.ble_eq_true_of_le h1
      simp [cutSl,isSl,this,slK]
      omega
    · have ev : cutV (.slice (some ⟨a,o,none⟩) hs.length c) 2 (l : Int) (r : Int) = .slice (some ⟨a,if c = l then o else o + l * 2,none⟩) ((hs.drop l).take (r - l)).length (c - l):=by
        rw [hlen];simp only [cutV,Int.toNat_natCast]
      rw [ev]
      refine SlH.of (by rw [hlen];omega) h2 ?_ h4 ?_
      · split <;> omega
      · rw [hlen]
        by_cases e : c = l
        · rw [if_pos e]
          have : r - l = 0:=by omega
          rw [this];simp [hCells_nil]
        · rw [if_neg e]
          have e1 : (cs.toList.drop (o + l * 2)).take ((r - l) * 2) = (((cs.toList.drop o).take (hs.length * 2)).drop (l * 2)).take ((r - l) * 2):=by
            rw [List.drop_take,List.drop_drop,List.take_take]
            congr 1
            omega
          rw [e1,h5,hCells_drop,hCells_take]
theorem putV_size : ∀ (vs : List Value) (cs : Array Value) (k : Nat),(putV cs k vs).size = cs.size
  | [],cs,k => rfl
  | v :: r,cs,k => by rw [putV,putV_size r];simp
theorem putV_list : ∀ (vs : List Value) (cs : Array Value) (k : Nat),k + vs.length ≤ cs.size → (putV cs k vs).toList = cs.toList.take k ++ vs ++ cs.toList.drop (k + vs.length)
  | [],cs,k,h => by simp [putV]
  | v :: r,cs,k,h => by
    simp only [List.length_cons] at h
    rw [putV,putV_list r _ _ (by simp;omega)]
    have e : (cs.setIfInBounds k v).toList = cs.toList.take k ++ v :: cs.toList.drop (k + 1):=by
      rw [Array.toList_setIfInBounds,List.set_eq_take_append_cons_drop,if_pos (by simp;omega)]
    have hk : (cs.toList.take k).length = k:=by rw [List.length_take,show cs.toList.length = cs.size from Array.length_toList];omega
    rw [e,List.take_append,hk,List.drop_append,hk]
    have e2 : List.take (k + 1) (cs.toList.take k) = cs.toList.take k:=List.take_of_length_le (by rw [hk];omega)
    have e3 : List.drop (k + 1 + r.length) (cs.toList.take k) = []:=List.drop_of_length_le (by rw [hk];omega)
    rw [e2,e3,show k + 1 - k = 1 by omega,show k + 1 + r.length - k = r.length + 1 by omega]
    simp only [List.take_succ_cons,List.take_zero,List.drop_succ_cons,List.drop_drop,List.length_cons,List.append_assoc,List.cons_append,List.nil_append]
    rw [show k + 1 + r.length = k + (r.length + 1) by omega]
theorem wrL_at {m : Mem} {a : Nat} {cs : Array Value} {ty : Nat} {q : Nat × Nat} (h : m a = some (.cells cs ty q)) (k : Nat) (vs : List Value) : wrL m ((a : Int) + 1) k vs = fun x => if x = a then some (.cells (putV cs k vs) ty q) else m x:=by
  funext x
  unfold wrL
  rw [show ((a : Int) + 1).toNat = a + 1 by omega]
  by_cases e : x = a
  · subst e;simp [h]
  · simp [e]
theorem zero_plain {z : Array Value} (hz : z.toList.all isPlain = true) (n : Nat) : (Builtin.zeroCells z n).toList.all isPlain = true:=by
  unfold Builtin.zeroCells
  rw [List.all_eq_true]
  intro x hx
  simp only [Array.toList_map,List.mem_map,Array.toList_range,List.mem_range] at hx
  obtain ⟨i,hi,rfl⟩:=hx
  have hp : 0 < z.size:=by
    rcases Nat.eq_zero_or_pos z.size with h | h
    · rw [h] at hi;simp at hi
    · exact h
  have:=Nat.mod_lt i hp
  rw [getElem!_pos z (i % z.size) this]
  exact List.all_eq_true.1 hz _ (by simp)
theorem SlH.app {m0 m : Mem} {v : Value} {hs xs : List (Int × Int)} {y : Vars} {e : TypeId} (h : SlH m v hs) (hk : ∀ a,m0 a ≠ none → m a = m0 a) (ho : ∀ a : Nat,slB v = (a : Int) + 1 → m0 a = none)
    (hq : appQ m v 2 [.int .i64 0,.int .u64 0] e xs.length (hCells xs) y) : SlH y.m (hdV y.v) (hs ++ xs) ∧ (∀ a,m0 a ≠ none → y.m a = m0 a) ∧ ∀ a : Nat,slB (hdV y.v) = (a : Int) + 1 → m0 a = none:=by
  obtain ⟨yi,yb,yv,ym⟩:=y
  simp only [appQ] at hq
  have hl : (hs ++ xs).length = hs.length + xs.length:=List.length_append
  rcases hq with ⟨q1,rfl,rfl⟩ | ⟨q1,a,c,q2,q3,rfl,rfl⟩
  · have q1:=Nat.le_of_ble_eq_true q1
    rw [h.n] at q1
    rcases h.inv with ⟨rfl,rfl⟩ | ⟨a,o,c,cs,ty,rfl,h1,h2,h3,h4,h5⟩
    · have : xs = []:=List.length_eq_zero_iff.1 (by simpa [slK] using q1)
      subst this
      have ew : wrL m 0 (slO (Value.slice Option.none 0 0) + slN (Value.slice Option.none 0 0) * 2) (hCells []) = m:=by
        funext b;simp [wrL]
      refine ⟨?_,fun a ha => ?_,fun a ha => ho a ha⟩
      · exact SlH.nil0 _
      · exact (congrFun ew a).trans (hk a ha)
    · simp only [slK] at q1
      have hp : o + hs.length * 2 + (hCells xs).length ≤ cs.size:=by rw [hCells_len];omega
      have ew:=wrL_at h2 (o + hs.length * 2) (hCells xs)
      refine ⟨?_,fun b hb => ?_,fun b hb => ho b hb⟩
      · show SlH (wrL m ((a : Int) + 1) (o + hs.length * 2) (hCells xs)) (.slice (some ⟨a,o,Option.none⟩) (hs.length + xs.length) c) (hs ++ xs)
        rw [ew,← hl]
        refine SlH.of (by omega) (if_pos rfl) (by rw [putV_size];exact h3) ?_ ?_
        · rw [putV_list _ _ _ hp,List.all_append,List.all_append,hCells_plain]
          rw [List.all_eq_true] at h4
          simp only [Bool.and_eq_true,Bool.and_true,List.all_eq_true]
          exact ⟨fun x hx => h4 x (List.mem_of_mem_take hx),fun x hx => h4 x (List.mem_of_mem_drop hx)⟩
        · have hk1 : (cs.toList.take (o + hs.length * 2)).length = o + hs.length * 2:=by rw [List.length_take,show cs.toList.length = cs.size from Array.length_toList];omega
          rw [putV_list _ _ _ hp,List.append_assoc,List.drop_append_of_le_length (by rw [hk1];exact Nat.le_add_right _ _),hl,hCells_app]
          have e1 : (cs.toList.take (o + hs.length * 2)).drop o = hCells hs:=by rw [List.drop_take,← h5];congr 1;omega
          rw [e1,← List.append_assoc,List.take_append_of_le_length (by rw [List.length_append,hCells_len,hCells_len];omega),List.take_of_length_le (by rw [List.length_append,hCells_len,hCells_len];omega)]
      · have hne : b ≠ a:=by rintro rfl;exact hb (ho b rfl)
        exact (congrFun ew b).trans ((if_neg hne).trans (hk b hb))
  · rw [h.n] at q3
    have hne : ∀ b,m0 b ≠ Option.none → b ≠ a:=by rintro b hb rfl;rw [hk b hb] at q2;exact hb q2
    have hg : alM m ((a : Int) + 1) ((rowL m v 2 ++ hCells xs).toArray ++ Builtin.zeroCells [Value.int .i64 0,Value.int .u64 0].toArray (c - (slN v + xs.length))) e a =
        some (.cells ((rowL m v 2 ++ hCells xs).toArray ++ Builtin.zeroCells [Value.int .i64 0,Value.int .u64 0].toArray (c - (slN v + xs.length))) e (0,0)):=by
      unfold alM;rw [if_pos (by omega)]
    refine ⟨?_,fun b hb => ?_,fun b hb => ?_⟩
    · show SlH _ (.slice (some ⟨a,0,Option.none⟩) (slN v + xs.length) c) _
      rw [h.n,← hl]
      rw [h.n,h.row,← hl] at hg
      rw [h.row]
      refine SlH.of (by omega) hg ?_ ?_ ?_
      · rw [Array.size_append,size_zeroCells]
        simp only [List.size_toArray,List.length_append,hCells_len,List.length_cons,List.length_nil];omega
      · rw [Array.toList_append,List.all_append,zero_plain (by rfl),List.all_append,hCells_plain,hCells_plain];rfl
      · rw [Array.toList_append,List.drop_zero,List.take_append_of_le_length (by simp [hCells_len];omega),← hCells_app,hl,List.take_of_length_le (by rw [hCells_len];simp)]
    · have:=hne b hb
      show alM m ((a : Int) + 1) _ e b = m0 b
      unfold alM;rw [if_neg (by omega)];exact hk b hb
    · have : b = a:=by simp only [hdV,slB] at hb;omega
      subst this
      cases hm : m0 b with
      | none => rfl
      | some o => rw [hk b (by rw [hm];simp),hm] at q2;cases q2
theorem app_ok {m : Mem} {v : Value} {hs xs : List (Int × Int)} (h : SlH m v hs) (hb : hs.length + xs.length < 1048576) : appOK m v 2 16 xs.length (hCells xs) = true:=by
  have e:=h.n
  simp only [appOK,h.ok,hCells_len,hCells_plain,e,Bool.true_and,Bool.and_eq_true,decide_eq_true_eq]
  refine ⟨⟨⟨trivial,trivial⟩,?_⟩,?_⟩ <;> omega
theorem mm_ghostY {P : Program} {S : List Sum} (hN : NameOK P) (hS : ∀ q ∈ S,SumOK P q) {D : DrawX} (hD : DSnd P D) (fuel : Nat) {f : Nat} (args : List V) (m : Mem) (mt : List Nat) {T : Tr} (hT : runm P S D fuel f args m mt = T)
    {G : Type} {pre : G → Prop} {post : G → Vars → Prop} {ret : Vars → V} (yo : V → Mem → Vars) (hp : ∃ g,pre g) (hw : ∀ g,pre g → T.sat (isMemo fun v x => post g (yo v x) ∧ (yo v x).m = x ∧ ∀ ρ,v.den ρ = (ret (yo v x)).den ρ))
    (ρ : Nat → Nat) (w : World) (hm : ∀ a o,m a = some o → w.heap[a]? = some o) {vs : Array Value} (he : vs = (args.map (V.den ρ)).toArray) :
    Calls P f vs w fun e w' => ∃ y,(∀ g,pre g → post g y) ∧ e = .returned ((ret y).den ρ) ∧ MemTo m y.m w w':=by
  refine mm_calls hN hS hD fuel args m mt hT ρ ?_ w hm he
  obtain ⟨g0,h0⟩:=hp
  have key:=sat_ghost (G:={ g : G // pre g }) ⟨⟨g0,h0⟩⟩ (T:=T) (p:=fun g v x => post g.1 (yo v x) ∧ (yo v x).m = x ∧ ∀ ρ,v.den ρ = (ret (yo v x)).den ρ) fun ⟨g,hg⟩ => hw g hg
  refine sat_mono (fun l hl => ?_) key
  cases l with
  | memo v x => exact ⟨yo v x,fun g hg => (hl ⟨g,hg⟩).1,(hl ⟨g0,h0⟩).2.2 ρ,(hl ⟨g0,h0⟩).2.1⟩
  | _ => exact hl.elim
structure Lst (m : Mem) (p : Int) (v : Value) (hs : List (Int × Int)) : Prop where
  hd : ∃ a : Nat,p = (a : Int) + 1 ∧ m a = some (.cells #[v] 48 (0,0))
  sl : SlH m v hs
section
variable {m : Mem} {p : Int} {v : Value} {hs : List (Int × Int)}
theorem Lst.nz (h : Lst m p v hs) : nzp p = true:=by
  obtain ⟨a,rfl,_⟩:=h.hd
  exact nzp_of (by omega)
theorem Lst.cell (h : Lst m p v hs) : mcell m p 0 = v:=by
  obtain ⟨a,rfl,h1⟩:=h.hd
  unfold mcell;rw [mget_of h1];rfl
theorem Lst.pc (h : Lst m p v hs) : pl (mcell m p 0) = v:=by rw [h.cell,h.sl.pl]
theorem SlH.plain (h : SlH m v hs) : isPlain v = true:=by
  rcases h.inv with ⟨rfl,_⟩ | ⟨_,_,_,_,_,rfl,_⟩ <;> rfl
theorem Lst.ok (h : Lst m p v hs) : okL m p 0 [.raw (.slice .none 0 0)] = true:=by
  obtain ⟨a,rfl,h1⟩:=h.hd
  unfold okL;rw [mget_of h1]
  simp [okR,okC,h.sl.plain]
theorem Lst.more {m' : Mem} (h : Lst m p v hs) (hm : ∀ a,m a ≠ none → m' a = m a) : Lst m' p v hs:=by
  obtain ⟨⟨a,rfl,h1⟩,h2⟩:=h
  exact ⟨⟨a,rfl,by rw [hm a (by rw [h1];simp)];exact h1⟩,h2.more fun b _ hb => hm b hb⟩
theorem Lst.wr {m1 : Mem} {u : Value} {ks : List (Int × Int)} (h : Lst m p v hs) (hk : ∀ a,m a ≠ none → m1 a = m a) (hu : SlH m1 u ks) (ho : ∀ a : Nat,slB u = (a : Int) + 1 → m a = none) :
    okS m1 p 0 1 = true ∧ Lst (wrL m1 p 0 [u]) p u ks ∧ ∀ a : Nat,m a ≠ none → (a : Int) + 1 ≠ p → wrL m1 p 0 [u] a = m a:=by
  obtain ⟨⟨a,rfl,h1⟩,h2⟩:=h
  have h3 : m1 a = some (.cells #[v] 48 (0,0)):=by rw [hk a (by rw [h1];simp)];exact h1
  have e:=wrL_at h3 0 [u]
  refine ⟨?_,⟨⟨a,rfl,?_⟩,?_⟩,fun b hb hne => ?_⟩
  · unfold okS;rw [mgetW_of h3];rfl
  · rw [e];simp [putV]
  · rw [e]
    refine hu.more fun b hb _ => ?_
    have : b ≠ a:=by rintro rfl;have:=ho b hb;rw [h1] at this;cases this
    exact if_neg this
  · rw [e]
    have : b ≠ a:=by omega
    exact (if_neg this).trans (hk b hb)
end
def lstPost (m : Mem) (p : Int) (ks : List (Int × Int)) (y : Vars) : Prop:=∃ u,Lst y.m p u ks ∧ (∀ a : Nat,m a ≠ none → (a : Int) + 1 ≠ p → y.m a = m a) ∧ ∀ a : Nat,slB u = (a : Int) + 1 → m a = none
def yHan (v : V) (m : Mem) : Vars :=
  match v with
  | .u (.agg [a,b]) => ⟨[cI a,cI b],[],[],m⟩
  | _ => ⟨[],[],[],m⟩
structure AG where
  S : TS
  b : Mem
  t : T
  n : Nat
  v : Value
def AG.is (G : AG) (m : Mem) (p r : Int) : Prop:=(TG.mk G.S G.b G.t G.n).is m p ∧ G.t.size < 1000 ∧ Lst m r G.v (hans G.t)
def AG.post (G : AG) (y : Vars) : Prop:=y.b = [true] ∧ ∃ b',y.m = G.S.mem b' ∧ (∀ a,G.b a ≠ none → b' a = G.b a) ∧ (Fre G.S G.b → Fre G.S b')
def yBoo (v : V) (m : Mem) : Vars :=
  match v with
  | .u (.c a) => ⟨[],[cB a],[],m⟩
  | _ => ⟨[],[],[],m⟩
end Go.Proofs.Ytnlohongffpkpaa.T16
end

section
namespace Go.Proofs.Ytnlohongffpkpaa.Sx
open Go Go.RowKit
def isCallO : Op → Bool
  | .call _ => true
  | _ => false
structure HE where
  e : Bool
  er : List Nat
def eraseLs : List Nat → List (Nat × Blk) → List (Nat × Blk)
  | [],l => l
  | i :: r,l => eraseLs r (eraseL i l)
def hpE (E : HE) (hp : Hp) : Hp:=⟨eraseLs E.er hp.c,hp.m,hp.lim,(match E.e with | true => noM | false => hp.x),hp.wr,hp.mt⟩
def erS (E : HE) (σ : St) : St:={ tm:=σ.tm,hp:=hpE E σ.hp,n:=σ.n }
def backS (σ σ' : St) : St:={ tm:=σ'.tm,hp:=σ.hp,n:=σ.n }
def lenT (P : Program) (σ : St) (o : Op) : Option Value :=
  match σ.hp.mt.any (Nat.beq 2000000) with
  | true => (match o with
    | .call c => (match c.callee,c.argTypes.toList,evs σ c.args.toList with
      | .builtin b,[t],[.u (.c (.sv v))] => (match isLen b,P.underlying t with
        | true,some (.slice _) => some (pl v)
        | _,_ => none)
      | _,_,_ => none)
    | _ => none)
  | false => none
def lenO (P : Program) (σ : St) (o : Op) : Bool :=
  match σ.hp.mt.any (Nat.beq 2000000) with
  | true => (match o with
    | .call c => (match c.callee,c.argTypes.toList with
      | .builtin b,[t] => (match isLen b,P.underlying t with
        | true,some (.slice _) => true
        | _,_ => false)
      | _,_ => false)
    | _ => false)
  | false => false
def opY (P : Program) (o : Op) (σ : St) (k : V → St → Tr) : Tr :=
  match lenT P σ o with
  | some v => .br (isSlV v) (k (.u (.c (.si .i64 (slN v)))) σ) (.no 123)
  | none => opX P o σ k
def pureG (P : Program) (N : Nat) (ops : Array Oper) (E : HE) (o : Oper) (σ : St) (k : St → Tr) : Tr :=
  match o.guard with
  | none => opY P o.op (erS E σ) fun v σ' => k ((backS σ σ').put o.dst v)
  | some (j,want) => match guardTmp ops j with
    | none => .no 41
    | some t => match Nat.blt t N with
      | false => .no 42
      | true => match look σ.tm t with
        | .u (.c (.lb b)) => (match b == want with
          | true => opY P o.op (erS E σ) fun v σ' => k ((backS σ σ').put o.dst v)
          | false => k (σ.put o.dst (.tup [])))
        | .u (.c (.sb b)) => .br b
          (match true == want with
           | true => opY P o.op (erS E (retell σ (.tmp t) true)) fun v σ' => k ((backS (retell σ (.tmp t) true) σ').put o.dst v)
           | false => k ((retell σ (.tmp t) true).put o.dst (.tup [])))
          (match false == want with
           | true => opY P o.op (erS E (retell σ (.tmp t) false)) fun v σ' => k ((backS (retell σ (.tmp t) false) σ').put o.dst v)
           | false => k ((retell σ (.tmp t) false).put o.dst (.tup [])))
        | .tup [] => k (σ.put o.dst (.tup []))
        | _ => .no 43
def isRdy (fl : List Bool) (i : Nat) (o : Oper) : Bool:=!(fl.getD i true) && o.after.toList.all fun e => !Region.binds .any e || fl.getD e.on false
def freeB (ops : Array Oper) (fl : List Bool) (i : Nat) (o : Oper) : List Oper → Nat → Bool
  | [],_ => true
  | p :: r,j => (Nat.beq j i || fl.getD j true || edgeTo p i || o.apart ops p) && freeB ops fl i o r (j + 1)
def takeK (E : HE) (σ : St) (o : Op) : Bool:=!isCallO o && pureOp o && (match E.e with | true => !(onR o σ || onM o σ) | false => true)
def nextT (P : Program) (N : Nat) (ops : Array Oper) (E : HE) (fl : List Bool) (σ : St) : List Oper → Nat → Option (Nat × Oper)
  | [],_ => none
  | o :: r,i => match isRdy fl i o && (takeK E σ o.op || lenO P σ o.op) && okDst N o.dst && freeB ops fl i o ops.toList 0 with
    | true => some (i,o)
    | false => nextT P N ops E fl σ r (i + 1)
def readyL (fl : List Bool) : List Oper → Nat → List (Nat × Oper)
  | [],_ => []
  | o :: r,i => match isRdy fl i o with | true => (i,o) :: readyL fl r (i + 1) | false => readyL fl r (i + 1)
def heldx (P : Program) (S : List Sum) (ih : Nat → Code → St → K → Tr) (N : Nat) (ops : Array Oper) (E : HE) : Nat → List Bool → St → (St → Tr) → Tr
  | 0,_,_,_ => .no 90
  | f + 1,fl,σ,k => match nextT P N ops E fl σ ops.toList 0 with
    | some q => pureG P N ops E q.2 σ fun σ' => heldx P S ih N ops E f (fl.set q.1 true) σ' k
    | none => match readyL fl ops.toList 0 with
      | [] => (match fl.all id with | true => k σ | false => .no 91)
      | q :: r => (match r with
        | [] => (match !isCallO q.2.op && pureOp q.2.op && okDst N q.2.dst with
          | true => pureG P N ops ⟨false,[]⟩ q.2 σ fun σ' => heldx P S ih N ops E f (fl.set q.1 true) σ' k
          | false => opsx P S ih N ops [q.2] σ fun σ' => (match Nat.beq σ'.n σ.n && beqB σ'.hp.wr σ.hp.wr with
            | true => (match E.e with
              | true => .req (eraseLs E.er σ'.hp.c = eraseLs E.er σ.hp.c ∧ σ'.hp.m = σ.hp.m) (heldx P S ih N ops E f (fl.set q.1 true) σ' k)
              | false => .req (eraseLs E.er σ'.hp.c = eraseLs E.er σ.hp.c ∧ σ'.hp.m = σ.hp.m ∧ σ'.hp.x = σ.hp.x) (heldx P S ih N ops E f (fl.set q.1 true) σ' k))
            | false => .no 94))
        | _ :: _ => .no 92)
def isInvO : Op → Bool
  | .call c => (match c.callee with | .invoke _ _ => true | _ => false)
  | _ => false
def stoId (σ : St) : Op → Option Nat
  | .store _ (.tmp d) _ => (match look σ.tm d with | .u (.c (.ptr id _)) => some id | _ => none)
  | _ => none
def cntCalls : List Oper → Nat
  | [] => 0
  | o :: r => match isCallO o.op with
    | true => (match o.guard,isInvO o.op with | none,false => cntCalls r + 1 | _,_ => cntCalls r + 2)
    | false => cntCalls r
def isBltO : Op → Bool
  | .call c => (match c.callee with | .builtin _ => true | _ => false)
  | _ => false
def anyCall : List Oper → Bool
  | [] => false
  | o :: r => (isCallO o.op && !isBltO o.op) || anyCall r
def isRdO (S : List Sum) (σ : St) : Op → Bool
  | .call c => (match c.callee with
    | .value x => (match calleeOf σ x with
      | some q => (match lookS S q.1 with | some s => s.rd.isSome | none => false)
      | none => false)
    | _ => false)
  | _ => false
def anyCallE (S : List Sum) (σ : St) (l : List Oper) : Bool :=
  match σ.hp.mt.any (Nat.beq 2000000) with
  | true => l.any fun o => isCallO o.op && !isBltO o.op && !isRdO S σ o.op
  | false => anyCall l
def drawg (P : Program) (S : List Sum) (ih : Nat → Code → St → K → Tr) (N : Nat) (ops : Array Oper) (σ : St) (k : St → Tr) : Tr :=
  match Region.noSelect ops && Nat.ble 2 (cntCalls ops.toList) && ops.toList.all (fun o => isCallO o.op || pureOp o.op || (stoId σ o.op).isSome) with
  | true => heldx P S ih N ops ⟨anyCallE S σ ops.toList,ops.toList.filterMap fun o => stoId σ o.op⟩ (ops.size + 1) (ops.toList.map fun _ => false) σ k
  | false => drawf P S ih N ops σ k
def drawh (P : Program) (S : List Sum) (lv : Nat → Nat → Option LT) (ct : Nat → Nat → Nat → Option CT) : DrawX:=⟨drawg P S,lv,ct⟩
section
variable {P : Program} {S : List Sum} {W : World} {n0 : NL} {ρ0 : Nat → Nat} {N : Nat} {ρ : Nat → Nat} {σ : St} {R : Leaf → Prop} {ops : Array Oper}
theorem HInv.rho {hp : Hp} {n : Nat} {w : World} {ρ' : Nat → Nat} (h : HInv W n0 ρ0 ρ hp n w) (hE : Ext n ρ ρ') : HInv W n0 ρ0 ρ' hp n w:=by
  have e:=hE
  refine ⟨fun i hi => by rw [e i hi];exact h.lt i hi,fun i j hi hj hij => by rw [e i hi,e j hj] at hij;exact h.inj i j hi hj hij,fun i b hb => ?_,h.le,fun i hi => (e i (Nat.lt_of_lt_of_le hi h.le)).trans (h.old i hi),fun i h1 h2 => by rw [e i h2];exact h.new i h1 h2,h.os,h.tape,h.output,h.size,h.far,fun i m hm => ?_,h.lim,⟨h.mem.sub,fun a o ha i hi => by rw [e i hi];exact h.mem.sep a o ha i hi,h.mem.dom⟩⟩
  · obtain ⟨g1,g2,g3⟩:=h.blk i b hb
    exact ⟨g1,g2,by rw [e i g1,dens_ext hE b.1 g2];exact g3⟩
  · obtain ⟨g1,g2,g3⟩:=h.mblk i m hm
    exact ⟨g1,g2,by rw [e i g1,mden_ext hE m.1 g2];exact g3⟩
theorem HInv.same {hp hp' : Hp} {n : Nat} {w : World} (h : HInv W n0 ρ0 ρ hp n w) (hb : hp'.c = hp.c) (hm : hp'.m = hp.m) (hl : hp'.lim = hp.lim) (hx : MR W n0.x hp'.wr hp'.x ρ n w) : HInv W n0 ρ0 ρ hp' n w:=by
  refine ⟨h.lt,h.inj,fun i b e => h.blk i b ?_,h.le,h.old,h.new,h.os,h.tape,h.output,h.size,h.far,fun i m e => h.mblk i m ?_,hl.trans h.lim,hx⟩
  · unfold lookH at e ⊢;rw [← hb];exact e
  · unfold lookM at e ⊢;rw [← hm];exact e
theorem eraseLs_sub : ∀ (r : List Nat) (l : List (Nat × Blk)) (i : Nat) (b : Blk),lookL (eraseLs r l) i = some b → lookL l i = some b
  | [],_,_,_,h => h
  | j :: r,l,i,b,h => (lookL_erase (eraseLs_sub r (eraseL j l) i b h)).1
theorem HInv.er {hp : Hp} {n : Nat} {w : World} (h : HInv W n0 ρ0 ρ hp n w) (E : HE) : HInv W n0 ρ0 ρ (hpE E hp) n w:=by
  have h1 : HInv W n0 ρ0 ρ (hpE ⟨false,E.er⟩ hp) n w:=⟨h.lt,h.inj,fun i b e => h.blk i b (eraseLs_sub _ _ _ _ e),h.le,h.old,h.new,h.os,h.tape,h.output,h.size,h.far,fun i m e => h.mblk i m e,h.lim,h.mem⟩
  cases E with
  | mk e er =>
    cases e with
    | false => exact h1
    | true => exact h1.same rfl rfl rfl (MR.none _ _ _ _ _ _)
theorem lenT_pure {o : Op} (h : lenO P σ o = true) : pureOp o = true:=by
  unfold lenO at h
  split at h
  · split at h
    · rfl
    · cases h
  · cases h
theorem opYA_sound {o : Oper} {k : V → St → Tr} (hp : pureOp o.op = true) (h : (opY P o.op σ k).sat R) : OpA P W n0 ρ0 N R ρ σ o k:=by
  unfold opY at h
  split at h
  · rename_i v hl
    obtain ⟨hok,hs⟩:=br_no' h
    unfold lenT at hl
    split at hl
    · split at hl
      · rename_i c hop
        split at hl
        · rename_i b t v' hcal hts hev
          split at hl
          · rename_i e hb hu
            cases hl
            have hb' : b = .len:=by cases b <;> simp [isLen] at hb <;> rfl
            subst hb'
            refine OpA.mk' _ hs fun a w hI => ⟨rfl,?_⟩
            have hts' : c.argTypes[0]? = some t:=by rw [← Array.getElem?_toList,hts];rfl
            have hargs : c.args.map a.eval = #[pl v']:=by
              apply Array.ext'
              rw [Array.toList_map,evs_den hI,hev]
              rfl
            unfold execOp
            rw [hop]
            simp only [Sem.run_bind,resolve,hcal,Sem.run_pure,Result.andThen_ok,invoke,hargs]
            refine run_v (s:=Builtin.len_ c.argTypes o.type #[pl v']) ?_
            cases hv : pl v' with
            | slice ad n c => simp [Builtin.len_,hts',run_underlying hu,goInt,V.den,U.den,C.den,slN]
            | _ => rw [hv] at hok;cases hok
          · cases hl
        · cases hl
      · cases hl
    · cases hl
  · exact opXA_sound hp h
theorem pureG_sound {E : HE} {o : Oper} {k : St → Tr} (hp : pureOp o.op = true) (hd : okDst N o.dst = true) {a : Act} {w : World} (hI : Inv W n0 ρ0 N ρ σ a w) (h : (pureG P N ops E o σ k).sat R) :
    ∃ v σ',σ'.hp = σ.hp ∧ σ'.n = σ.n ∧ (k σ').sat R ∧ Inv W n0 ρ0 N ρ σ' (a.put o.dst v) w ∧ YieldsIf P ops (fun w => HInv W n0 ρ0 ρ (hpE E σ.hp) σ.n w) o v a:=by
  have hd':=okDst_lt hd
  have run : ∀ σ1 : St,Inv W n0 ρ0 N ρ σ1 a w → σ1.n = σ.n → σ1.hp = σ.hp → Region.wanted o (yielded ops a.tmps) = true → (opY P o.op (erS E σ1) fun v σ' => k ((backS σ1 σ').put o.dst v)).sat R →
      ∃ v σ',σ'.hp = σ.hp ∧ σ'.n = σ.n ∧ (k σ').sat R ∧ Inv W n0 ρ0 N ρ σ' (a.put o.dst v) w ∧ YieldsIf P ops (fun w => HInv W n0 ρ0 ρ (hpE E σ.hp) σ.n w) o v a:=by
    intro σ1 hI1 hn hh hw hs
    obtain ⟨v,σ',g1,g2,g3,g4⟩:=opYA_sound (W:=W) (n0:=n0) (ρ0:=ρ0) (N:=N) (ρ:=ρ) hp hs
    have hIE : Inv W n0 ρ0 N ρ (erS E σ1) a w:=⟨hI1.defers,hI1.sz,hI1.tm,hI1.tmwf,hI1.H.er E⟩
    obtain ⟨k1,k2,k3⟩:=g4 a w hIE
    have g2' : σ'.n = σ1.n:=g2
    have hB : Inv W n0 ρ0 N ρ (backS σ1 σ') a w:=⟨k1.defers,k1.sz,k1.tm,fun q hq => by have:=k1.tmwf q hq;rw [g2'] at this;exact this,hI1.H⟩
    refine ⟨v.den ρ,_,?_,?_,g3,hB.put o.dst v hd' k2,.inl ⟨hw,fun w' hS => ?_⟩⟩
    · rw [(put_hp _ _ _).1];exact hh
    · rw [(put_hp _ _ _).2];exact hn
    · refine (g4 a w' ⟨hI1.defers,hI1.sz,hI1.tm,hI1.tmwf,?_⟩).2.2
      show HInv W n0 ρ0 ρ (hpE E σ1.hp) σ1.n w'
      rw [hh,hn];exact hS
  have skip : ∀ σ1 : St,Inv W n0 ρ0 N ρ σ1 a w → σ1.n = σ.n → σ1.hp = σ.hp → Region.wanted o (yielded ops a.tmps) = false → (k (σ1.put o.dst (.tup []))).sat R →
      ∃ v σ',σ'.hp = σ.hp ∧ σ'.n = σ.n ∧ (k σ').sat R ∧ Inv W n0 ρ0 N ρ σ' (a.put o.dst v) w ∧ YieldsIf P ops (fun w => HInv W n0 ρ0 ρ (hpE E σ.hp) σ.n w) o v a:=by
    intro σ1 hI1 hn hh hw hs
    refine ⟨undef,_,?_,?_,hs,hI1.put o.dst (.tup []) hd' rfl,.inr ⟨hw,rfl⟩⟩
    · rw [(put_hp _ _ _).1];exact hh
    · rw [(put_hp _ _ _).2];exact hn
  unfold pureG at h
  split at h
  · rename_i hg
    exact run σ hI rfl rfl (by simp [Region.wanted,hg]) h
  · rename_i j want hg
    split at h
    · exact h.elim
    · rename_i t hgt
      split at h
      · exact h.elim
      · rename_i ht
        have ht' : t < N:=by simpa using ht
        split at h
        · rename_i b hb
          have hy:=yielded_of hI hgt ht' (b:=b) (by rw [hb];rfl)
          split at h
          · rename_i hbw
            exact run σ hI rfl rfl (by simp only [Region.wanted,hg,hy];simpa using hbw) h
          · rename_i hbw
            exact skip σ hI rfl rfl (by simp only [Region.wanted,hg,hy];simpa using hbw) h
        · rename_i b hb
          have hy:=yielded_of hI hgt ht' (b:=b) (by rw [hb];rfl)
          have fin : ∀ c : Bool,b = c → (match c == want with
              | true => opY P o.op (erS E (retell σ (.tmp t) c)) fun v σ' => k ((backS (retell σ (.tmp t) c) σ').put o.dst v)
              | false => k ((retell σ (.tmp t) c).put o.dst (.tup []))).sat R →
              ∃ v σ',σ'.hp = σ.hp ∧ σ'.n = σ.n ∧ (k σ').sat R ∧ Inv W n0 ρ0 N ρ σ' (a.put o.dst v) w ∧ YieldsIf P ops (fun w => HInv W n0 ρ0 ρ (hpE E σ.hp) σ.n w) o v a:=by
            intro c hc hs
            subst hc
            have hI1 : Inv W n0 ρ0 N ρ (retell σ (.tmp t) b) a w:=hI.retell t _ rfl (by rw [hb];rfl)
            split at hs
            · rename_i hbw
              exact run _ hI1 rfl rfl (by simp only [Region.wanted,hg,hy];simpa using hbw) hs
            · rename_i hbw
              exact skip _ hI1 rfl rfl (by simp only [Region.wanted,hg,hy];simpa using hbw) hs
          obtain ⟨h1,h2⟩:=h
          cases hbb : b with
          | true => exact fin true hbb (h1 hbb)
          | false => exact fin false hbb (h2 hbb)
        · rename_i hb
          have hy:=yielded_undef hI hgt ht' (by rw [hb];rfl)
          exact skip σ hI rfl rfl (by simp [Region.wanted,hg,hy]) h
        · exact h.elim
theorem getD_toA (fl : List Bool) (i : Nat) (d : Bool) : fl.toArray.getD i d = fl.getD i d:=by
  simp [Array.getD_eq_getD_getElem?,List.getD_eq_getElem?_getD]
theorem set_toA (fl : List Bool) (i : Nat) : (fl.set i true).toArray = fl.toArray.setIfInBounds i true:=by simp
theorem isRdy_mem {fl : List Bool} {i : Nat} {o : Oper} (ho : ops[i]? = some o) : isRdy fl i o = true ↔ i ∈ Region.ready .any ops fl.toArray:=by
  rw [mem_ready,getD_toA]
  simp only [isRdy,Bool.and_eq_true,Bool.not_eq_true',List.all_eq_true,Bool.or_eq_true]
  constructor
  · rintro ⟨h1,h2⟩
    refine ⟨h1,o,ho,fun e he hb => ?_⟩
    rw [getD_toA]
    rcases h2 e (by simpa using he) with h | h
    · rw [hb] at h;cases h
    · exact h
  · rintro ⟨h1,o',ho',h2⟩
    rw [ho] at ho';cases ho'
    refine ⟨h1,fun e he => ?_⟩
    cases hb : Region.binds .any e with
    | false => exact .inl rfl
    | true => have:=h2 e (by simpa using he) hb;rw [getD_toA] at this;exact .inr this
theorem nextT_spec {E : HE} {fl : List Bool} : ∀ {l : List Oper} {i : Nat} {q : Nat × Oper},(∀ j,l[j]? = ops[i + j]?) → nextT P N ops E fl σ l i = some q →
    ops[q.1]? = some q.2 ∧ isRdy fl q.1 q.2 = true ∧ pureOp q.2.op = true ∧ okDst N q.2.dst = true ∧ freeB ops fl q.1 q.2 ops.toList 0 = true
  | [],_,_,_,h => by cases h
  | o :: r,i,q,hl,h => by
    simp only [nextT] at h
    split at h
    · rename_i hc
      cases h
      rw [Bool.and_eq_true,Bool.and_eq_true,Bool.and_eq_true] at hc
      have:=hl 0
      refine ⟨by simpa using this.symm,hc.1.1.1,?_,hc.1.2,hc.2⟩
      rcases Bool.or_eq_true _ _ ▸ hc.1.1.2 with h | h
      · simp only [takeK,Bool.and_eq_true] at h;exact h.1.2
      · exact lenT_pure h
    · exact nextT_spec (fun j => by have:=hl (j + 1);rw [show i + 1 + j = i + (j + 1) by omega,← this];simp) h
theorem readyL_spec {fl : List Bool} : ∀ {l : List Oper} {i j : Nat} {o : Oper},l[j]? = some o → isRdy fl (i + j) o = true → (i + j,o) ∈ readyL fl l i
  | [],_,_,_,h,_ => by simp at h
  | p :: r,i,0,o,h,hr => by
    simp only [List.getElem?_cons_zero,Option.some.injEq] at h
    subst h
    simp only [readyL,show isRdy fl i p = true from hr]
    simp
  | p :: r,i,j + 1,o,h,hr => by
    simp only [List.getElem?_cons_succ] at h
    have:=readyL_spec (i:=i + 1) h (by rw [show i + 1 + j = i + (j + 1) by omega];exact hr)
    rw [show i + 1 + j = i + (j + 1) by omega] at this
    simp only [readyL]
    split
    · exact List.mem_cons_of_mem _ this
    · exact this
theorem readyL_mem {fl : List Bool} : ∀ {l : List Oper} {i : Nat} {q : Nat × Oper},q ∈ readyL fl l i → ∃ j,q.1 = i + j ∧ l[j]? = some q.2 ∧ isRdy fl q.1 q.2 = true
  | [],_,_,h => by cases h
  | p :: r,i,q,h => by
    simp only [readyL] at h
    have rec' : q ∈ readyL fl r (i + 1) → ∃ j,q.1 = i + j ∧ (p :: r)[j]? = some q.2 ∧ isRdy fl q.1 q.2 = true:=fun h => by
      obtain ⟨j,h1,h2,h3⟩:=readyL_mem h
      exact ⟨j + 1,by omega,by simpa using h2,h3⟩
    split at h
    · rename_i hr
      rcases List.mem_cons.1 h with rfl | h
      · exact ⟨0,rfl,rfl,hr⟩
      · exact rec' h
    · exact rec' h
theorem freeB_spec {fl : List Bool} {i : Nat} {o : Oper} : ∀ {l : List Oper} {k : Nat},freeB ops fl i o l k = true → ∀ j p,l[j]? = some p → k + j ≠ i → fl.getD (k + j) true = false → edgeTo p i = false → o.apart ops p = true
  | [],_,_,j,p,h,_,_,_ => by simp at h
  | q :: r,k,hf,0,p,h,h1,h2,h3 => by
    simp only [List.getElem?_cons_zero,Option.some.injEq] at h
    subst h
    simp only [freeB,Bool.and_eq_true,Bool.or_eq_true] at hf
    rcases hf.1 with ((h | h) | h) | h
    · exact absurd (Nat.eq_of_beq_eq_true h) h1
    · rw [Nat.add_zero] at h2;rw [h] at h2;cases h2
    · rw [h] at h3;cases h3
    · exact h
  | q :: r,k,hf,j + 1,p,h,h1,h2,h3 => by
    simp only [List.getElem?_cons_succ] at h
    simp only [freeB,Bool.and_eq_true] at hf
    exact freeB_spec hf.2 j p h (by omega) (by rw [show k + 1 + j = k + (j + 1) by omega];exact h2) h3
theorem cnt_set {fl : List Bool} {i : Nat} (h : fl.getD i true = false) : (fl.set i true).count false + 1 = fl.count false:=by
  have hlt : i < fl.length:=by
    rcases Nat.lt_or_ge i fl.length with h1 | h1
    · exact h1
    · rw [List.getD_eq_getElem?_getD,List.getElem?_eq_none h1] at h;cases h
  have he : fl[i] = false:=by
    rw [List.getD_eq_getElem?_getD,List.getElem?_eq_getElem hlt] at h;exact h
  have e : fl = fl.take i ++ false :: fl.drop (i + 1):=by
    conv => lhs;rw [← List.take_append_drop i fl]
    rw [List.drop_eq_getElem_cons hlt,he]
  rw [List.set_eq_take_append_cons_drop,if_pos hlt]
  conv => rhs;rw [e]
  simp [List.count_append,List.count_cons]
  omega
theorem heldx_any (hN : NameOK P) (hS : ∀ q ∈ S,SumOK P q) {ih : Nat → Code → St → K → Tr} (hih : Snd P ih) {E : HE} (hsel : Region.noSelect ops = true) {k : St → Tr} {Q : Exit → Act → World → Prop} (hQ : ∀ c a w,¬ Q (.panic c) a w)
    {σs : St} {ρs : Nat → Nat} : ∀ (f : Nat) (fl : List Bool) (σ : St) (ρ : Nat → Nat) (a : Act) (w : World),Inv W n0 ρ0 N ρ σ a w → σ.n = σs.n → Ext σs.n ρs ρ → eraseLs E.er σ.hp.c = eraseLs E.er σs.hp.c → σ.hp.m = σs.hp.m → σ.hp.wr = σs.hp.wr → σs.hp.lim = n0.l → (E.e = false → σ.hp.x = σs.hp.x) →
      (heldx P S ih N ops E f fl σ k).sat R →
      (∀ σ' ρ' a' w',Inv W n0 ρ0 N ρ' σ' a' w' → Ext σ.n ρ ρ' → σ.n ≤ σ'.n → (k σ').sat R → Q .normal a' w') →
      ∀ fuel,fl.length = ops.size → fl.count false ≤ fuel → wpAnyH P .any ops Q (fun w => HInv W n0 ρ0 ρs (hpE E σs.hp) σs.n w) fuel fl.toArray a w:=by
  intro f
  induction f with
  | zero => intro fl σ ρ a w _ _ _ _ _ _ _ _ h;exact h.elim
  | succ f ihf =>
    intro fl σ ρ a w hI c1 c2 c3 c4 c5 c6 c7 h hk fuel hlen hfu
    -- the condition,told of the state at hand
    have toS : ∀ w,HInv W n0 ρ0 ρ (hpE E σ.hp) σ.n w → HInv W n0 ρ0 ρs (hpE E σs.hp) σs.n w:=fun w hw => by
      rw [c1] at hw
      have h1 : HInv W n0 ρ0 ρs (hpE E σ.hp) σs.n w:=hw.rho (fun i hi => (c2 i hi).symm)
      have hl : σs.hp.lim = σ.hp.lim:=c6.trans hI.H.lim.symm
      obtain ⟨e,er⟩:=E
      cases e with
      | true => exact h1.same c3.symm c4.symm hl (MR.none _ _ _ _ _ _)
      | false =>
        refine h1.same c3.symm c4.symm hl ?_
        have:=h1.mem
        show MR W n0.x σs.hp.wr σs.hp.x ρs σs.n w
        rw [← c5,← c7 rfl];exact this
    have ofS : ∀ w,HInv W n0 ρ0 ρs (hpE E σs.hp) σs.n w → HInv W n0 ρ0 ρ (hpE E σ.hp) σ.n w:=fun w hw => by
      rw [c1]
      have h1 : HInv W n0 ρ0 ρ (hpE E σs.hp) σs.n w:=hw.rho c2
      have hl : σ.hp.lim = σs.hp.lim:=hI.H.lim.trans c6.symm
      obtain ⟨e,er⟩:=E
      cases e with
      | true => exact h1.same c3 c4 hl (MR.none _ _ _ _ _ _)
      | false =>
        refine h1.same c3 c4 hl ?_
        have:=h1.mem
        show MR W n0.x σ.hp.wr σ.hp.x ρ σs.n w
        rw [c5,c7 rfl];exact this
    have hSw:=toS w (hI.H.er E)
    have step : ∀ (i : Nat) (o : Oper) σ' ρ' a' w',fl.getD i true = false → Inv W n0 ρ0 N ρ' σ' a' w' → σ'.n = σ.n → Ext σ.n ρ ρ' → eraseLs E.er σ'.hp.c = eraseLs E.er σ.hp.c → σ'.hp.m = σ.hp.m → σ'.hp.wr = σ.hp.wr → (E.e = false → σ'.hp.x = σ.hp.x) →
        (heldx P S ih N ops E f (fl.set i true) σ' k).sat R → ∀ g,fuel = g + 1 → wpAnyH P .any ops Q (fun w => HInv W n0 ρ0 ρs (hpE E σs.hp) σs.n w) g (fl.toArray.setIfInBounds i true) a' w':=by
      intro i o σ' ρ' a' w' hun hI' d1 d2 d3 d4 d5 d6 hs g hg
      rw [← set_toA]
      have hc:=cnt_set hun
      refine ihf (fl.set i true) σ' ρ' a' w' hI' (d1.trans c1) (c2.trans (by rw [c1];exact Nat.le_refl _) d2) (d3.trans c3) (d4.trans c4) (d5.trans c5) c6 (fun e => (d6 e).trans (c7 e)) hs ?_ g (by rw [List.length_set];exact hlen) (by omega)
      intro σ2 ρ2 a2 w2 g1 g2 g3 g4
      exact hk σ2 ρ2 a2 w2 g1 (d2.trans (Nat.le_of_eq d1.symm) g2) (by omega) g4
    have hpos : ∀ i,fl.getD i true = false → ∃ g,fuel = g + 1:=fun i hun => ⟨fuel - 1,by have:=cnt_set hun;omega⟩
    unfold heldx at h
    split at h
    · rename_i q hq
      obtain ⟨t1,t2,t3,t4,t5⟩:=nextT_spec (i:=0) (fun j => by simp) hq
      have hun : fl.getD q.1 true = false:=by
        simp only [isRdy,Bool.and_eq_true,Bool.not_eq_true'] at t2;exact t2.1
      obtain ⟨g,hg⟩:=hpos _ hun
      obtain ⟨v,σ',e1,e2,e3,e4,e5⟩:=pureG_sound t3 t4 hI h
      subst hg
      refine wpAnyH_first (v:=v) t1 (Region.noSelect_spec hsel) (fun c a w hq => (hQ c _ w hq).elim) g fl.toArray a w ?_ ((isRdy_mem t1).1 t2) ?_ hSw ?_
      · intro j oj hj hne hunj hno
        rw [getD_toA] at hunj
        refine freeB_spec t5 j oj (by simpa using hj) (by omega) (by rw [Nat.zero_add];exact hunj) ?_
        cases he : edgeTo oj q.1 with
        | false => rfl
        | true =>
          exfalso
          simp only [edgeTo,List.any_eq_true,Bool.and_eq_true] at he
          obtain ⟨e,he,hb,hon⟩:=he
          exact hno e (by simpa using he) hb (Nat.eq_of_beq_eq_true hon)
      · rcases e5 with ⟨w1,w2⟩ | ⟨w1,w2⟩
        · exact .inl ⟨w1,fun w' hw' => w2 w' (ofS w' hw')⟩
        · exact .inr ⟨w1,w2⟩
      · exact step q.1 q.2 σ' ρ _ w hun e4 e2 (Ext.refl _ _) (by rw [e1]) (by rw [e1]) (by rw [e1]) (fun _ => by rw [e1]) e3 g rfl
    · split at h
      · rename_i hr
        split at h
        · rename_i hall
          rw [List.all_eq_true] at hall
          have hnil : Region.ready .any ops fl.toArray = []:=by
            cases hrr : Region.ready .any ops fl.toArray with
            | nil => rfl
            | cons i r =>
              have hi : i ∈ Region.ready .any ops fl.toArray:=by rw [hrr];simp
              obtain ⟨h1,o,ho,_⟩:=mem_ready.1 hi
              have hlt:=(Array.getElem?_eq_some_iff.1 ho).1
              rw [getD_toA,List.getD_eq_getElem?_getD,List.getElem?_eq_getElem (by omega)] at h1
              have:=hall fl[i] (by simp)
              simp only [id] at this
              simp only [Option.getD_some] at h1
              rw [this] at h1;cases h1
          exact wpAnyH_done hnil (hk σ ρ a w hI (Ext.refl _ _) (Nat.le_refl _) h) fuel
        · exact h.elim
      · rename_i q r hr
        split at h
        · rename_i hr0
          have hmem : q ∈ readyL fl ops.toList 0:=by rw [hr];simp
          obtain ⟨j,j1,j2,j3⟩:=readyL_mem hmem
          have hj : ops[q.1]? = some q.2:=by rw [j1,Nat.zero_add];simpa using j2
          have hun : fl.getD q.1 true = false:=by
            simp only [isRdy,Bool.and_eq_true,Bool.not_eq_true'] at j3;exact j3.1
          obtain ⟨g,hg⟩:=hpos _ hun
          have honly : ∀ i ∈ Region.ready .any ops fl.toArray,i = q.1:=by
            intro i hi
            obtain ⟨_,o,ho,_⟩:=mem_ready.1 hi
            have:=readyL_spec (fl:=fl) (l:=ops.toList) (i:=0) (j:=i) (o:=o) (by simpa using ho) (by rw [Nat.zero_add];exact (isRdy_mem ho).2 hi)
            rw [hr] at this
            simp only [Nat.zero_add,List.mem_singleton] at this
            rw [← this]
          subst hg
          have hready:=(isRdy_mem hj).1 j3
          refine ⟨(fun hn => by rw [hn] at hready;cases hready),fun i hi => ?_⟩
          have hiq:=honly i hi
          subst hiq
          split at h
          · rename_i hc
            simp only [Bool.and_eq_true] at hc
            obtain ⟨v,σ',e1,e2,e3,e4,e5⟩:=pureG_sound (E:=⟨false,[]⟩) hc.1.2 hc.2 hI h
            exact e5.wpOp hj hI.H ⟨hSw,step q.1 q.2 σ' ρ _ w hun e4 e2 (Ext.refl _ _) (by rw [e1]) (by rw [e1]) (by rw [e1]) (fun _ => by rw [e1]) e3 g rfl⟩
          · have hseq:=opsx_seq (Q:=Q) (Kc:=fun a' w' => HInv W n0 ρ0 ρs (hpE E σs.hp) σs.n w' ∧ wpAnyH P .any ops Q (fun w => HInv W n0 ρ0 ρs (hpE E σs.hp) σs.n w) g (fl.toArray.setIfInBounds q.1 true) a' w') hN hS hih ops [q.2] σ ρ a w hI h (fun σ' ρ' a' w' h1 h2 h3 h4 => by
              split at h4
              · rename_i hcn
                simp only [Bool.and_eq_true] at hcn
                have d1:=Nat.eq_of_beq_eq_true hcn.1
                have d5:=beqB_eq hcn.2
                have fin : eraseLs E.er σ'.hp.c = eraseLs E.er σ.hp.c → σ'.hp.m = σ.hp.m → (E.e = false → σ'.hp.x = σ.hp.x) → (heldx P S ih N ops E f (fl.set q.1 true) σ' k).sat R →
                    HInv W n0 ρ0 ρs (hpE E σs.hp) σs.n w' ∧ wpAnyH P .any ops Q (fun w => HInv W n0 ρ0 ρs (hpE E σs.hp) σs.n w) g (fl.toArray.setIfInBounds q.1 true) a' w':=by
                  intro d3 d4 d6 hs
                  refine ⟨?_,step q.1 q.2 σ' ρ' a' w' hun h1 d1 h2 d3 d4 d5 d6 hs g rfl⟩
                  have hw1 : HInv W n0 ρ0 ρs (hpE E σ'.hp) σs.n w':=by
                    have:=h1.H.er E
                    rw [d1,c1] at this
                    exact this.rho fun i hi => by
                      rw [c1] at h2
                      exact ((h2 i hi).trans (c2 i hi)).symm
                  have hl : σs.hp.lim = σ'.hp.lim:=c6.trans h1.H.lim.symm
                  obtain ⟨e,er⟩:=E
                  cases e with
                  | true => exact hw1.same (d3.trans c3).symm (d4.trans c4).symm hl (MR.none _ _ _ _ _ _)
                  | false =>
                    refine hw1.same (d3.trans c3).symm (d4.trans c4).symm hl ?_
                    have:=hw1.mem
                    show MR W n0.x σs.hp.wr σs.hp.x ρs σs.n w'
                    rw [← c5,← c7 rfl,← d5,← d6 rfl];exact this
                split at h4
                · rename_i he
                  exact fin h4.1.1 h4.1.2 (fun e => by rw [he] at e;cases e) h4.2
                · exact fin h4.1.1 h4.1.2.1 (fun _ => h4.1.2.2) h4.2
              · exact h4.elim)
            unfold wpOp
            rw [hj]
            simp only
            simp only [wpSeq] at hseq
            split
            · rename_i hw
              rw [if_pos hw] at hseq
              exact hseq
            · rename_i hw
              rw [if_neg hw] at hseq
              exact hseq
        · exact h.elim
theorem drawh_sound (hN : NameOK P) (hS : ∀ q ∈ S,SumOK P q) (hmix : P.follows .mixedOrders = true) (lv : Nat → Nat → Option LT) (ct : Nat → Nat → Nat → Option CT) : DSnd P (drawh P S lv ct):=by
  intro ih hih W n0 ρ0 N R id ops σ k ρ a w Q hI h hk
  simp only [drawh,drawg] at h
  split at h
  · rename_i hc
    simp only [Bool.and_eq_true] at hc
    refine Code.wp_mono (Q:=fun e a w => (∀ c,e ≠ .panic c) ∧ Q e a w) (fun e a w h => h.2) (wp_region_held (S:=fun w => HInv W n0 ρ0 ρ (hpE ⟨anyCallE S σ ops.toList,ops.toList.filterMap fun o => stoId σ o.op⟩ σ.hp) σ.n w) hmix ?_)
    have hI' : Inv W n0 ρ0 N ρ σ a { w with drawn:=w.drawn + 1 }:=⟨hI.defers,hI.sz,hI.tm,hI.tmwf,hI.H.drew _⟩
    have:=heldx_any (σs:=σ) (ρs:=ρ) (Q:=fun e a w => (∀ c,e ≠ .panic c) ∧ Q e a w) hN hS hih (E:=⟨anyCallE S σ ops.toList,ops.toList.filterMap fun o => stoId σ o.op⟩) hc.1.1 (fun c a w h => h.1 c rfl) (ops.size + 1) (ops.toList.map fun _ => false) σ ρ a _ hI' rfl (Ext.refl _ _) rfl rfl rfl hI.H.lim (fun _ => rfl) h
      (fun σ' ρ' a' w' h1 h2 h3 h4 => ⟨(fun c e => by cases e),hk σ' ρ' a' w' h1 h2 h3 h4⟩) ops.size (by simp) (by
        have : ((ops.toList.map fun _ => false).count false) ≤ (ops.toList.map fun _ => false).length:=List.count_le_length
        simpa using this)
    have e : (ops.toList.map fun _ => false).toArray = Array.replicate ops.size false:=by
      apply Array.ext'
      simp [List.map_const']
    rw [e] at this
    exact this
  · exact drawl_sound hN hS hmix lv ih hih W n0 ρ0 N R id ops σ k ρ a w Q hI h hk
end
end Go.Proofs.Ytnlohongffpkpaa.Sx
end

section
namespace Go.Proofs.Ytnlohongffpkpaa.Sx
open Go Go.RowKit
def restr (L : List Int) (x : Mem) : Mem:=fun a => if ((a : Int) + 1) ∈ L then x a else none
def memL (p : Int) (L : List Int) : Prop:=p ∈ L
def agreeL (L : List Int) (m x : Mem) : Prop:=∀ a : Nat,((a : Int) + 1) ∈ L → m a = x a
def hpL (L : List Int) (hp : Hp) : Hp:={ hp with x:=restr L hp.x }
def loadP (σ : St) (o : Oper) : Option Int :=
  match o.op,o.guard with
  | .load _ x,none => (match ev σ x with | .u (.c (.np p _)) => some p | _ => none)
  | _,_ => none
def freeM (σ : St) (o : Oper) : Bool :=
  match o.op with
  | .nilCheck _ => true
  | .fieldAddr _ _ _ => true
  | .indexAddr _ _ _ => true
  | .move _ => true
  | op => takeK ⟨true,[]⟩ σ op
def nextM (N : Nat) (ops : Array Oper) (fl : List Bool) (σ : St) : List Oper → Nat → Option (Nat × Oper)
  | [],_ => none
  | o :: r,i => match isRdy fl i o && (freeM σ o || (loadP σ o).isSome) && okDst N o.dst && freeB ops fl i o ops.toList 0 with
    | true => some (i,o)
    | false => nextM N ops fl σ r (i + 1)
def heldm (P : Program) (S : List Sum) (ih : Nat → Code → St → K → Tr) (N : Nat) (ops : Array Oper) (L : List Int) : Nat → List Bool → St → (St → Tr) → Tr
  | 0,_,_,_ => .no 90
  | f + 1,fl,σ,k => match nextM N ops fl σ ops.toList 0 with
    | some q => (match loadP σ q.2 with
      | some p => .req (memL p L) (opX P q.2.op σ fun v σ' => heldm P S ih N ops L f (fl.set q.1 true) ((backS σ σ').put q.2.dst v) k)
      | none => pureG P N ops ⟨true,[]⟩ q.2 σ fun σ' => heldm P S ih N ops L f (fl.set q.1 true) σ' k)
    | none => match readyL fl ops.toList 0 with
      | [] => (match fl.all id with | true => k σ | false => .no 91)
      | q :: r => (match r with
        | [] => (match !isCallO q.2.op && pureOp q.2.op && okDst N q.2.dst with
          | true => pureG P N ops ⟨false,[]⟩ q.2 σ fun σ' => heldm P S ih N ops L f (fl.set q.1 true) σ' k
          | false => opsx P S ih N ops [q.2] σ fun σ' => (match Nat.beq σ'.n σ.n && beqB σ'.hp.wr σ.hp.wr with
            | true => .req (σ'.hp.c = σ.hp.c ∧ σ'.hp.m = σ.hp.m ∧ agreeL L σ'.hp.x σ.hp.x) (heldm P S ih N ops L f (fl.set q.1 true) σ' k)
            | false => .no 94))
        | _ :: _ => .no 92)
def isStoreO : Op → Bool
  | .store _ _ _ => true
  | _ => false
def drawm (P : Program) (S : List Sum) (Lf : St → List Int) (ih : Nat → Code → St → K → Tr) (N : Nat) (ops : Array Oper) (σ : St) (k : St → Tr) : Tr :=
  match Region.noSelect ops && ops.toList.any (fun o => isStoreO o.op) && ops.toList.all (fun o => isStoreO o.op || (pureOp o.op && !isCallO o.op)) with
  | true => heldm P S ih N ops (Lf σ) (ops.size + 1) (ops.toList.map fun _ => false) σ k
  | false => drawf P S ih N ops σ k
def isIdx : Op → Bool
  | .indexAddr _ _ _ => true
  | _ => false
def drawn (P : Program) (S : List Sum) (Lf : St → List Int) (ih : Nat → Code → St → K → Tr) (N : Nat) (ops : Array Oper) (σ : St) (k : St → Tr) : Tr :=
  match Region.noSelect ops && ((Nat.ble 2 (ops.toList.countP fun o => isIdx o.op) && Nat.ble 2 (cntCalls ops.toList)) || (σ.hp.mt.any (Nat.beq 2000000) && !(Lf σ).isEmpty && Nat.ble 1 (ops.toList.countP fun o => isIdx o.op) && anyCall ops.toList && ops.toList.all fun o => o.guard.isNone)) && ops.toList.all (fun o => isCallO o.op || pureOp o.op) with
  | true => heldm P S ih N ops (Lf σ) (ops.size + 1) (ops.toList.map fun _ => false) σ k
  | false => drawg P S ih N ops σ k
def draww (P : Program) (S : List Sum) (lv : Nat → Nat → Option LT) (ct : Nat → Nat → Nat → Option CT) (Lf : St → List Int) : DrawX:=⟨drawn P S Lf,lv,ct⟩
def drawv (P : Program) (S : List Sum) (lv : Nat → Nat → Option LT) (Lf : St → List Int) : DrawX:=⟨drawm P S Lf,lv,fun _ _ _ => none⟩
section
variable {P : Program} {S : List Sum} {W : World} {n0 : NL} {ρ0 : Nat → Nat} {N : Nat} {ρ : Nat → Nat} {σ : St} {R : Leaf → Prop} {ops : Array Oper} {L : List Int}
theorem mget_restr {x : Mem} {p : Int} (h : p ∈ L) : mget (restr L x) p = mget x p:=by
  unfold mget
  split
  · rfl
  · rename_i a e
    have : ((a : Int) + 1) ∈ L:=by rw [show (a : Int) + 1 = p by omega];exact h
    simp [restr,this]
theorem mcell_restr {x : Mem} {p : Int} (h : p ∈ L) (k : Nat) : mcell (restr L x) p k = mcell x p k:=by unfold mcell;rw [mget_restr h]
theorem rdC_restr {x : Mem} {p : Int} (h : p ∈ L) (z : C) (k : Nat) : rdC z (restr L x) p k = rdC z x p k:=by
  cases z <;> simp [rdC,gB,gI,gP,mcell_restr h]
theorem rdL_restr {x : Mem} {p : Int} (h : p ∈ L) : ∀ (zs : List C) (k : Nat),rdL (restr L x) p k zs = rdL x p k zs
  | [],_ => rfl
  | z :: r,k => by rw [rdL,rdL,rdC_restr h,rdL_restr h r]
theorem ldM_restr {t : TypeId} {x : Mem} {p : Int} (h : p ∈ L) (off : Nat) : ldM P t (restr L x) p off = ldM P t x p off:=by
  unfold ldM;simp only [rdC_restr h,rdL_restr h]
theorem okL_restr {x : Mem} {p : Int} (h : p ∈ L) (off : Nat) (zs : List C) : okL (restr L x) p off zs = okL x p off zs:=by unfold okL;rw [mget_restr h]
theorem MR.restr {x0 x : Mem} {b : Bool} {n : Nat} {w : World} (h : MR W x0 b x ρ n w) (L : List Int) : MR W x0 b (Sx.restr L x) ρ n w:=by
  refine ⟨fun a o e => ?_,fun a o e => ?_,fun hb a o e => ?_⟩
  all_goals
    unfold Sx.restr at e
    split at e
    · first | exact h.sub a o e | exact h.sep a o e | exact h.dom hb a o e
    · cases e
theorem HInv.restr {hp : Hp} {n : Nat} {w : World} (h : HInv W n0 ρ0 ρ hp n w) (L : List Int) : HInv W n0 ρ0 ρ (hpL L hp) n w:=h.same rfl rfl rfl (h.mem.restr L)
theorem loadP_sound {o : Oper} {p : Int} {k : V → St → Tr} (hl : loadP σ o = some p) (hp : p ∈ L) (hd : okDst N o.dst = true) {a : Act} {w : World} (hI : Inv W n0 ρ0 N ρ σ a w) (h : (opX P o.op σ k).sat R) :
    ∃ v,(k v σ).sat R ∧ v.wf σ.n = true ∧ YieldsIf P ops (fun w => HInv W n0 ρ0 ρ (hpL L σ.hp) σ.n w) o (v.den ρ) a:=by
  obtain ⟨dst,op,type,pos,after,guard⟩:=o
  unfold loadP at hl
  split at hl
  · rename_i t x hop hg
    simp only at hop hg
    subst hop hg
    split at hl
    · rename_i p' off hx
      cases hl
      have hon : onR (.load t x) σ = false:=rfl
      have hom : onM (.load t x) σ = true:=by simp only [onM,hx];rfl
      simp only [opX,hon,hom,opxM,hx] at h
      obtain ⟨q,hq,hs⟩:=kO_sat h
      obtain ⟨hok,hs⟩:=br_no hs
      obtain ⟨b,e1,e2,e3⟩:=run_loadM (P:=P) (zs:=q.1) (u:=q.2) hI.H hq hok
      refine ⟨_,hs,e3,.inl ⟨by simp [Region.wanted],fun w' hS => ?_⟩⟩
      obtain ⟨b',f1,f2,f3⟩:=run_loadM (P:=P) (hp:=hpL L σ.hp) (zs:=q.1) (u:=q.2) hS (by show ldM P t (restr L σ.hp.x) p off = _;rw [ldM_restr hp];exact hq) (by show okL (restr L σ.hp.x) p off _ = true;rw [okL_restr hp];exact hok)
      refine run_v (s:=Instr.loadAt t (a.eval x)) ?_
      have hd : a.eval x = .pointer (some ⟨b',off,none⟩):=by rw [ev_den hI x,hx];exact pv_at f1
      simp only [hd,Instr.loadAt,Instr.sureAddr,Sem.run_bind,Sem.run_pure,Result.andThen_ok]
      exact f2
    · cases hl
  · cases hl
theorem nextM_spec {fl : List Bool} : ∀ {l : List Oper} {i : Nat} {q : Nat × Oper},(∀ j,l[j]? = ops[i + j]?) → nextM N ops fl σ l i = some q →
    ops[q.1]? = some q.2 ∧ isRdy fl q.1 q.2 = true ∧ (freeM σ q.2 || (loadP σ q.2).isSome) = true ∧ okDst N q.2.dst = true ∧ freeB ops fl q.1 q.2 ops.toList 0 = true
  | [],_,_,_,h => by cases h
  | o :: r,i,q,hl,h => by
    simp only [nextM] at h
    split at h
    · rename_i hc
      cases h
      rw [Bool.and_eq_true,Bool.and_eq_true,Bool.and_eq_true] at hc
      have:=hl 0
      exact ⟨by simpa using this.symm,hc.1.1.1,hc.1.1.2,hc.1.2,hc.2⟩
    · exact nextM_spec (fun j => by have:=hl (j + 1);rw [show i + 1 + j = i + (j + 1) by omega,← this];simp) h
theorem heldm_any (hN : NameOK P) (hS : ∀ q ∈ S,SumOK P q) {ih : Nat → Code → St → K → Tr} (hih : Snd P ih) (hsel : Region.noSelect ops = true) {k : St → Tr} {Q : Exit → Act → World → Prop} (hQ : ∀ c a w,¬ Q (.panic c) a w)
    {σs : St} {ρs : Nat → Nat} : ∀ (f : Nat) (fl : List Bool) (σ : St) (ρ : Nat → Nat) (a : Act) (w : World),Inv W n0 ρ0 N ρ σ a w → σ.n = σs.n → Ext σs.n ρs ρ → σ.hp.c = σs.hp.c → σ.hp.m = σs.hp.m → σ.hp.wr = σs.hp.wr → σs.hp.lim = n0.l → agreeL L σ.hp.x σs.hp.x →
      (heldm P S ih N ops L f fl σ k).sat R →
      (∀ σ' ρ' a' w',Inv W n0 ρ0 N ρ' σ' a' w' → Ext σ.n ρ ρ' → σ.n ≤ σ'.n → (k σ').sat R → Q .normal a' w') →
      ∀ fuel,fl.length = ops.size → fl.count false ≤ fuel → wpAnyH P .any ops Q (fun w => HInv W n0 ρ0 ρs (hpL L σs.hp) σs.n w) fuel fl.toArray a w:=by
  intro f
  induction f with
  | zero => intro fl σ ρ a w _ _ _ _ _ _ _ _ h;exact h.elim
  | succ f ihf =>
    intro fl σ ρ a w hI c1 c2 c3 c4 c5 c6 c7 h hk fuel hlen hfu
    have er : ∀ {x y : Mem},agreeL L x y → restr L x = restr L y:=fun {x y} hxy => by
      funext c
      unfold restr
      split
      · rename_i hc;exact hxy c hc
      · rfl
    have toS : ∀ {σ' : St} {ρ' : Nat → Nat} {w : World},σ'.n = σs.n → Ext σs.n ρs ρ' → σ'.hp.c = σs.hp.c → σ'.hp.m = σs.hp.m → σ'.hp.wr = σs.hp.wr → σ'.hp.lim = n0.l → agreeL L σ'.hp.x σs.hp.x → HInv W n0 ρ0 ρ' (hpL L σ'.hp) σ'.n w → HInv W n0 ρ0 ρs (hpL L σs.hp) σs.n w:=by
      intro σ' ρ' w d1 d2 d3 d4 d5 d6 d7 hw
      rw [d1] at hw
      have h1 : HInv W n0 ρ0 ρs (hpL L σ'.hp) σs.n w:=hw.rho (fun i hi => (d2 i hi).symm)
      refine h1.same d3.symm d4.symm (c6.trans d6.symm) ?_
      have:=h1.mem
      show MR W n0.x σs.hp.wr (restr L σs.hp.x) ρs σs.n w
      rw [← d5,← er d7];exact this
    have ofS : ∀ w,HInv W n0 ρ0 ρs (hpL L σs.hp) σs.n w → HInv W n0 ρ0 ρ (hpL L σ.hp) σ.n w:=fun w hw => by
      rw [c1]
      have h1 : HInv W n0 ρ0 ρ (hpL L σs.hp) σs.n w:=hw.rho c2
      refine h1.same c3 c4 (hI.H.lim.trans c6.symm) ?_
      have:=h1.mem
      show MR W n0.x σ.hp.wr (restr L σ.hp.x) ρ σs.n w
      rw [c5,er c7];exact this
    have hSw:=toS c1 c2 c3 c4 c5 hI.H.lim c7 (hI.H.restr L)
    have step : ∀ (i : Nat) (o : Oper) σ' ρ' a' w',fl.getD i true = false → Inv W n0 ρ0 N ρ' σ' a' w' → σ'.n = σ.n → Ext σ.n ρ ρ' → σ'.hp.c = σ.hp.c → σ'.hp.m = σ.hp.m → σ'.hp.wr = σ.hp.wr → agreeL L σ'.hp.x σ.hp.x →
        (heldm P S ih N ops L f (fl.set i true) σ' k).sat R → ∀ g,fuel = g + 1 → wpAnyH P .any ops Q (fun w => HInv W n0 ρ0 ρs (hpL L σs.hp) σs.n w) g (fl.toArray.setIfInBounds i true) a' w':=by
      intro i o σ' ρ' a' w' hun hI' d1 d2 d3 d4 d5 d6 hs g hg
      rw [← set_toA]
      have hc:=cnt_set hun
      refine ihf (fl.set i true) σ' ρ' a' w' hI' (d1.trans c1) (c2.trans (by rw [c1];exact Nat.le_refl _) d2) (d3.trans c3) (d4.trans c4) (d5.trans c5) c6 (fun c hc => (d6 c hc).trans (c7 c hc)) hs ?_ g (by rw [List.length_set];exact hlen) (by omega)
      intro σ2 ρ2 a2 w2 g1 g2 g3 g4
      exact hk σ2 ρ2 a2 w2 g1 (d2.trans (Nat.le_of_eq d1.symm) g2) (by omega) g4
    have hpos : ∀ i,fl.getD i true = false → ∃ g,fuel = g + 1:=fun i hun => ⟨fuel - 1,by have:=cnt_set hun;omega⟩
    simp only [heldm] at h
    split at h
    · rename_i q hq
      obtain ⟨t1,t2,t3,t4,t5⟩:=nextM_spec (i:=0) (fun j => by simp) hq
      have hun : fl.getD q.1 true = false:=by
        simp only [isRdy,Bool.and_eq_true,Bool.not_eq_true'] at t2;exact t2.1
      obtain ⟨g,hg⟩:=hpos _ hun
      have take : ∀ (v : Value) (σ' : St),σ'.hp = σ.hp → σ'.n = σ.n → (heldm P S ih N ops L f (fl.set q.1 true) σ' k).sat R → Inv W n0 ρ0 N ρ σ' (a.put q.2.dst v) w → YieldsIf P ops (fun w => HInv W n0 ρ0 ρs (hpL L σs.hp) σs.n w) q.2 v a →
          wpAnyH P .any ops Q (fun w => HInv W n0 ρ0 ρs (hpL L σs.hp) σs.n w) fuel fl.toArray a w:=by
        intro v σ' e1 e2 e3 e4 e5
        subst hg
        refine wpAnyH_first (v:=v) t1 (Region.noSelect_spec hsel) (fun c a w hq => (hQ c _ w hq).elim) g fl.toArray a w ?_ ((isRdy_mem t1).1 t2) e5 hSw ?_
        · intro j oj hj hne hunj hno
          rw [getD_toA] at hunj
          refine freeB_spec t5 j oj (by simpa using hj) (by omega) (by rw [Nat.zero_add];exact hunj) ?_
          cases he : edgeTo oj q.1 with
          | false => rfl
          | true =>
            exfalso
            simp only [edgeTo,List.any_eq_true,Bool.and_eq_true] at he
            obtain ⟨e,he,hb,hon⟩:=he
            exact hno e (by simpa using he) hb (Nat.eq_of_beq_eq_true hon)
        · exact step q.1 q.2 σ' ρ _ w hun e4 e2 (Ext.refl _ _) (by rw [e1]) (by rw [e1]) (by rw [e1]) (fun _ _ => by rw [e1]) e3 g rfl
      split at h
      · rename_i p hlp
        obtain ⟨hpL,h⟩:=h
        obtain ⟨v,e1,e2,e3⟩:=loadP_sound (ops:=ops) (L:=L) hlp hpL t4 hI h
        refine take (v.den ρ) _ ?_ ?_ e1 (Inv.put (σ:=backS σ σ) ⟨hI.defers,hI.sz,hI.tm,hI.tmwf,hI.H⟩ q.2.dst v (okDst_lt t4) e2) ?_
        · rw [(put_hp _ _ _).1];rfl
        · rw [(put_hp _ _ _).2];rfl
        · rcases e3 with ⟨w1,w2⟩ | ⟨w1,w2⟩
          · exact .inl ⟨w1,fun w' hw' => w2 w' (ofS w' hw')⟩
          · exact .inr ⟨w1,w2⟩
      · rename_i hlp
        rw [hlp] at t3
        have hpo : pureOp q.2.op = true:=by
          simp only [Option.isSome_none,Bool.or_false] at t3
          unfold freeM at t3
          split at t3
          · rename_i e;rw [e];rfl
          · rename_i e;rw [e];rfl
          · rename_i e;rw [e];rfl
          · rename_i e;rw [e];rfl
          · simp only [takeK,Bool.and_eq_true] at t3;exact t3.1.2
        obtain ⟨v,σ',e1,e2,e3,e4,e5⟩:=pureG_sound hpo t4 hI h
        refine take v σ' e1 e2 e3 e4 ?_
        have conv : ∀ w',HInv W n0 ρ0 ρs (hpL L σs.hp) σs.n w' → HInv W n0 ρ0 ρ (hpE ⟨true,[]⟩ σ.hp) σ.n w':=fun w' hw' => (ofS w' hw').same rfl rfl rfl (MR.none _ _ _ _ _ _)
        rcases e5 with ⟨w1,w2⟩ | ⟨w1,w2⟩
        · exact .inl ⟨w1,fun w' hw' => w2 w' (conv w' hw')⟩
        · exact .inr ⟨w1,w2⟩
    · split at h
      · rename_i hr
        split at h
        · rename_i hall
          rw [List.all_eq_true] at hall
          have hnil : Region.ready .any ops fl.toArray = []:=by
            cases hrr : Region.ready .any ops fl.toArray with
            | nil => rfl
            | cons i r =>
              have hi : i ∈ Region.ready .any ops fl.toArray:=by rw [hrr];simp
              obtain ⟨h1,o,ho,_⟩:=mem_ready.1 hi
              have hlt:=(Array.getElem?_eq_some_iff.1 ho).1
              rw [getD_toA,List.getD_eq_getElem?_getD,List.getElem?_eq_getElem (by omega)] at h1
              have:=hall fl[i] (by simp)
              simp only [id] at this
              simp only [Option.getD_some] at h1
              rw [this] at h1;cases h1
          exact wpAnyH_done hnil (hk σ ρ a w hI (Ext.refl _ _) (Nat.le_refl _) h) fuel
        · exact h.elim
      · rename_i q r hr
        split at h
        · rename_i hr0
          have hmem : q ∈ readyL fl ops.toList 0:=by rw [hr];simp
          obtain ⟨j,j1,j2,j3⟩:=readyL_mem hmem
          have hj : ops[q.1]? = some q.2:=by rw [j1,Nat.zero_add];simpa using j2
          have hun : fl.getD q.1 true = false:=by
            simp only [isRdy,Bool.and_eq_true,Bool.not_eq_true'] at j3;exact j3.1
          obtain ⟨g,hg⟩:=hpos _ hun
          have honly : ∀ i ∈ Region.ready .any ops fl.toArray,i = q.1:=by
            intro i hi
            obtain ⟨_,o,ho,_⟩:=mem_ready.1 hi
            have:=readyL_spec (fl:=fl) (l:=ops.toList) (i:=0) (j:=i) (o:=o) (by simpa using ho) (by rw [Nat.zero_add];exact (isRdy_mem ho).2 hi)
            rw [hr] at this
            simp only [Nat.zero_add,List.mem_singleton] at this
            rw [← this]
          subst hg
          have hready:=(isRdy_mem hj).1 j3
          refine ⟨(fun hn => by rw [hn] at hready;cases hready),fun i hi => ?_⟩
          have hiq:=honly i hi
          subst hiq
          split at h
          · rename_i hc
            simp only [Bool.and_eq_true] at hc
            obtain ⟨v,σ',e1,e2,e3,e4,e5⟩:=pureG_sound (E:=⟨false,[]⟩) hc.1.2 hc.2 hI h
            exact e5.wpOp hj hI.H ⟨hSw,step q.1 q.2 σ' ρ _ w hun e4 e2 (Ext.refl _ _) (by rw [e1]) (by rw [e1]) (by rw [e1]) (fun _ _ => by rw [e1]) e3 g rfl⟩
          · have hseq:=opsx_seq (Q:=Q) (Kc:=fun a' w' => HInv W n0 ρ0 ρs (hpL L σs.hp) σs.n w' ∧ wpAnyH P .any ops Q (fun w => HInv W n0 ρ0 ρs (hpL L σs.hp) σs.n w) g (fl.toArray.setIfInBounds q.1 true) a' w') hN hS hih ops [q.2] σ ρ a w hI h (fun σ' ρ' a' w' h1 h2 h3 h4 => by
              split at h4
              · rename_i hcn
                simp only [Bool.and_eq_true] at hcn
                have d1:=Nat.eq_of_beq_eq_true hcn.1
                have d5:=beqB_eq hcn.2
                obtain ⟨⟨d3,d4,d6⟩,hs⟩:=h4
                exact ⟨toS (d1.trans c1) (c2.trans (by rw [c1];exact Nat.le_refl _) h2) (d3.trans c3) (d4.trans c4) (d5.trans c5) h1.H.lim (fun c hc => (d6 c hc).trans (c7 c hc)) (h1.H.restr L),step q.1 q.2 σ' ρ' a' w' hun h1 d1 h2 d3 d4 d5 d6 hs g rfl⟩
              · exact h4.elim)
            unfold wpOp
            rw [hj]
            simp only
            simp only [wpSeq] at hseq
            split
            · rename_i hw
              rw [if_pos hw] at hseq
              exact hseq
            · rename_i hw
              rw [if_neg hw] at hseq
              exact hseq
        · exact h.elim
theorem drawv_sound (hN : NameOK P) (hS : ∀ q ∈ S,SumOK P q) (hmix : P.follows .mixedOrders = true) (lv : Nat → Nat → Option LT) (Lf : St → List Int) : DSnd P (drawv P S lv Lf):=by
  intro ih hih W n0 ρ0 N R id ops σ k ρ a w Q hI h hk
  simp only [drawv,drawm] at h
  split at h
  · rename_i hc
    simp only [Bool.and_eq_true] at hc
    refine Code.wp_mono (Q:=fun e a w => (∀ c,e ≠ .panic c) ∧ Q e a w) (fun e a w h => h.2) (wp_region_held (S:=fun w => HInv W n0 ρ0 ρ (hpL (Lf σ) σ.hp) σ.n w) hmix ?_)
    have hI' : Inv W n0 ρ0 N ρ σ a { w with drawn:=w.drawn + 1 }:=⟨hI.defers,hI.sz,hI.tm,hI.tmwf,hI.H.drew _⟩
    have:=heldm_any (σs:=σ) (ρs:=ρ) (L:=Lf σ) (Q:=fun e a w => (∀ c,e ≠ .panic c) ∧ Q e a w) hN hS hih hc.1.1 (fun c a w h => h.1 c rfl) (ops.size + 1) (ops.toList.map fun _ => false) σ ρ a _ hI' rfl (Ext.refl _ _) rfl rfl rfl hI.H.lim (fun _ _ => rfl) h
      (fun σ' ρ' a' w' h1 h2 h3 h4 => ⟨(fun c e => by cases e),hk σ' ρ' a' w' h1 h2 h3 h4⟩) ops.size (by simp) (by
        have : ((ops.toList.map fun _ => false).count false) ≤ (ops.toList.map fun _ => false).length:=List.count_le_length
        simpa using this)
    have e : (ops.toList.map fun _ => false).toArray = Array.replicate ops.size false:=by
      apply Array.ext'
      simp [List.map_const']
    rw [e] at this
    exact this
  · exact drawl_sound hN hS hmix lv ih hih W n0 ρ0 N R id ops σ k ρ a w Q hI h hk
theorem draww_sound (hN : NameOK P) (hS : ∀ q ∈ S,SumOK P q) (hmix : P.follows .mixedOrders = true) (lv : Nat → Nat → Option LT) (ct : Nat → Nat → Nat → Option CT) (Lf : St → List Int) : DSnd P (draww P S lv ct Lf):=by
  intro ih hih W n0 ρ0 N R id ops σ k ρ a w Q hI h hk
  simp only [draww,drawn] at h
  split at h
  · rename_i hc
    rw [Bool.and_eq_true,Bool.and_eq_true] at hc
    refine Code.wp_mono (Q:=fun e a w => (∀ c,e ≠ .panic c) ∧ Q e a w) (fun e a w h => h.2) (wp_region_held (S:=fun w => HInv W n0 ρ0 ρ (hpL (Lf σ) σ.hp) σ.n w) hmix ?_)
    have hI' : Inv W n0 ρ0 N ρ σ a { w with drawn:=w.drawn + 1 }:=⟨hI.defers,hI.sz,hI.tm,hI.tmwf,hI.H.drew _⟩
    have:=heldm_any (σs:=σ) (ρs:=ρ) (L:=Lf σ) (Q:=fun e a w => (∀ c,e ≠ .panic c) ∧ Q e a w) hN hS hih hc.1.1 (fun c a w h => h.1 c rfl) (ops.size + 1) (ops.toList.map fun _ => false) σ ρ a _ hI' rfl (Ext.refl _ _) rfl rfl rfl hI.H.lim (fun _ _ => rfl) h
      (fun σ' ρ' a' w' h1 h2 h3 h4 => ⟨(fun c e => by cases e),hk σ' ρ' a' w' h1 h2 h3 h4⟩) ops.size (by simp) (by
        have : ((ops.toList.map fun _ => false).count false) ≤ (ops.toList.map fun _ => false).length:=List.count_le_length
        simpa using this)
    have e : (ops.toList.map fun _ => false).toArray = Array.replicate ops.size false:=by
      apply Array.ext'
      simp [List.map_const']
    rw [e] at this
    exact this
  · exact drawh_sound hN hS hmix lv ct ih hih W n0 ρ0 N R id ops σ k ρ a w Q hI h hk
end
end Go.Proofs.Ytnlohongffpkpaa.Sx
end

section
namespace Go.Proofs.Ytnlohongffpkpaa.T16
open Go Go.RowKit Go.Proofs.Ytnlohongffpkpaa.Sx Go.Proofs
set_option linter.unusedVariables false
set_option linter.unusedSimpArgs false
abbrev LN:=List (Nat × Int × Int)
def hdA : LN → Int → Int
  | [],e => e
  | x :: _,_ => (x.1 : Int) + 1
def laA : Int → LN → Int
  | f,[] => f
  | _,x :: r => laA ((x.1 : Int) + 1) r
def lkO (s g b f : Int) : Obj:=.cells #[.int .i64 s,.int .u64 g,pv b 0,pv f 0] 142 (0,0)
def hdO (q : Nat) (f l : Int) : Obj:=.cells #[.map (some q),pv f 0,pv l 0] 140 (0,0)
def Ch (m : Mem) : Int → LN → Int → Prop
  | _,[],_ => True
  | f,x :: r,e => m x.1 = some (lkO x.2.1 x.2.2 (hdA r e) f) ∧ Ch m ((x.1 : Int) + 1) r e
def nds (L : LN) : List (Int × Int × Int):=L.map fun x => ((x.1 : Int) + 1,x.2.1,x.2.2)
def hsL (L : LN) : List (Int × Int):=L.map fun x => (x.2.1,x.2.2)
structure DL (m : Mem) (t q : Nat) (L : LN) : Prop where
  hd : m t = some (hdO q (hdA L 0) (laA 0 L))
  mp : ∃ es k,m q = some (.map es k) ∧ Ents es.toList (nds L) ∧ es.size = L.length
  ch : Ch m 0 L 0
  nd : (L.map (·.1)).Nodup
def dlD (t q : Nat) (L : LN) (a : Nat) : Prop:=a = t ∨ a = q ∨ a ∈ L.map (·.1)
theorem hdA_nn : ∀ {L : LN} {e : Int},0 ≤ e → 0 ≤ hdA L e
  | [],e,h => h
  | x :: _,e,h => by simp only [hdA];omega
theorem laA_nn : ∀ {L : LN} {f : Int},0 ≤ f → 0 ≤ laA f L
  | [],f,h => h
  | x :: r,f,h => by simp only [laA];exact laA_nn (by omega)
theorem hdA_app : ∀ (A B : LN) (e : Int),hdA (A ++ B) e = hdA A (hdA B e)
  | [],B,e => rfl
  | x :: _,B,e => rfl
theorem laA_app : ∀ (A B : LN) (f : Int),laA f (A ++ B) = laA (laA f A) B
  | [],B,f => rfl
  | x :: r,B,f => laA_app r B _
theorem laA_snoc (A : LN) (y : Nat × Int × Int) (f : Int) : laA f (A ++ [y]) = (y.1 : Int) + 1:=by rw [laA_app];rfl
theorem Ch_app {m : Mem} : ∀ {A B : LN} {f e : Int},Ch m f (A ++ B) e ↔ Ch m f A (hdA B e) ∧ Ch m (laA f A) B e
  | [],B,f,e => by simp [Ch,laA]
  | x :: r,B,f,e => by
    simp only [List.cons_append,Ch,laA,hdA_app]
    rw [Ch_app (A:=r) (B:=B)]
    exact and_assoc.symm
theorem Ch_congr {m m' : Mem} : ∀ {L : LN} {f e : Int},(∀ a ∈ L.map (·.1),m' a = m a) → Ch m f L e → Ch m' f L e
  | [],_,_,_,_ => trivial
  | x :: r,f,e,hm,h => ⟨by rw [hm x.1 (by simp)];exact h.1,Ch_congr (fun a ha => hm a (by simp only [List.map_cons,List.mem_cons];exact .inr ha)) h.2⟩
theorem DL.congr {m m' : Mem} {t q : Nat} {L : LN} (h : DL m t q L) (hm : ∀ a,dlD t q L a → m' a = m a) : DL m' t q L:=by
  obtain ⟨es,k,h1,h2,h3⟩:=h.mp
  exact ⟨by rw [hm t (.inl rfl)];exact h.hd,⟨es,k,by rw [hm q (.inr (.inl rfl))];exact h1,h2,h3⟩,Ch_congr (fun a ha => hm a (.inr (.inr ha))) h.ch,h.nd⟩
theorem Ch.at' {m : Mem} {A B : LN} {x : Nat × Int × Int} (h : Ch m 0 (A ++ x :: B) 0) : m x.1 = some (lkO x.2.1 x.2.2 (hdA B 0) (laA 0 A)):=(Ch_app.1 h).2.1
theorem Ch.mem {m : Mem} {L : LN} (h : Ch m 0 L 0) {x : Nat × Int × Int} (hx : x ∈ L) : ∃ b f,m x.1 = some (lkO x.2.1 x.2.2 b f):=by
  obtain ⟨A,B,rfl⟩:=List.append_of_mem hx
  exact ⟨_,_,h.at'⟩
section
variable {m : Mem} {t q : Nat} {L : LN}
theorem DL.tq (h : DL m t q L) : t ≠ q:=by
  rintro rfl
  obtain ⟨es,k,h1,_⟩:=h.mp
  have:=h.hd;rw [h1] at this;cases this
theorem DL.t_no (h : DL m t q L) : t ∉ L.map (·.1):=by
  intro hm
  obtain ⟨x,hx,e⟩:=List.mem_map.1 hm
  obtain ⟨b,f,h1⟩:=h.ch.mem hx
  rw [e,h.hd] at h1
  simp [hdO,lkO] at h1
theorem DL.q_no (h : DL m t q L) : q ∉ L.map (·.1):=by
  intro hm
  obtain ⟨x,hx,e⟩:=List.mem_map.1 hm
  obtain ⟨b,f,h1⟩:=h.ch.mem hx
  obtain ⟨es,k,h2,_⟩:=h.mp
  rw [e,h2] at h1
  simp [lkO] at h1
theorem nz_p (t : Nat) : nzp ((t : Int) + 1) = true:=nzp_of (by omega)
theorem pz_p (t : Nat) : peq ((t : Int) + 1) 0 = false:=by rw [peq_zero (by omega)];simp;omega
theorem DL.pc (h : DL m t q L) : pl (mcell m ((t : Int) + 1) 0) = .map (some q):=by
  unfold mcell;rw [mget_of h.hd];rfl
theorem DL.g1 (h : DL m t q L) : gP m ((t : Int) + 1) 1 = hdA L 0:=by
  unfold gP mcell;rw [mget_of h.hd];exact vP_pv (hdA_nn (Int.le_refl 0))
theorem DL.g2 (h : DL m t q L) : gP m ((t : Int) + 1) 2 = laA 0 L:=by
  unfold gP mcell;rw [mget_of h.hd];exact vP_pv (laA_nn (Int.le_refl 0))
theorem hd_okL {q : Nat} {f l : Int} (h : m t = some (hdO q f l)) : okL m ((t : Int) + 1) 0 [.raw (.map none)] = true ∧ okL m ((t : Int) + 1) 1 [.nilp] = true ∧ okL m ((t : Int) + 1) 2 [.nilp] = true:=by
  unfold okL;rw [mget_of h]
  refine ⟨rfl,?_,?_⟩ <;> simp [okR,okC,isP_pv]
theorem hd_okS {q : Nat} {f l : Int} (h : m t = some (hdO q f l)) : okS m ((t : Int) + 1) 1 1 = true ∧ okS m ((t : Int) + 1) 2 1 = true:=by
  unfold okS;rw [mgetW_of h];exact ⟨rfl,rfl⟩
theorem hd_gP {q : Nat} {f l : Int} (h : m t = some (hdO q f l)) (hf : 0 ≤ f) (hl : 0 ≤ l) : gP m ((t : Int) + 1) 1 = f ∧ gP m ((t : Int) + 1) 2 = l:=by
  unfold gP mcell;rw [mget_of h];exact ⟨vP_pv hf,vP_pv hl⟩
theorem hd_wr {q : Nat} {f l : Int} (h : m t = some (hdO q f l)) (v : Int) : wrL m ((t : Int) + 1) 1 [pv v 0] = alO m t (hdO q v l) ∧ wrL m ((t : Int) + 1) 2 [pv v 0] = alO m t (hdO q f v):=by
  constructor
  · rw [wrL_at h];rfl
  · rw [wrL_at h];rfl
theorem nd_okL {a : Nat} {s g b f : Int} (h : m a = some (lkO s g b f)) : okL m ((a : Int) + 1) 2 [.nilp] = true ∧ okL m ((a : Int) + 1) 3 [.nilp] = true ∧ okL m ((a : Int) + 1) 0 [.li .i64 0,.li .u64 0] = true:=by
  unfold okL;rw [mget_of h]
  refine ⟨?_,?_,?_⟩ <;> simp [okR,okC,isP_pv,isK]
theorem nd_okS {a : Nat} {s g b f : Int} (h : m a = some (lkO s g b f)) : okS m ((a : Int) + 1) 2 1 = true ∧ okS m ((a : Int) + 1) 3 1 = true:=by
  unfold okS;rw [mgetW_of h];exact ⟨rfl,rfl⟩
theorem nd_gP {a : Nat} {s g b f : Int} (h : m a = some (lkO s g b f)) (hb : 0 ≤ b) (hf : 0 ≤ f) : gP m ((a : Int) + 1) 2 = b ∧ gP m ((a : Int) + 1) 3 = f ∧ gI m ((a : Int) + 1) 0 = s ∧ gI m ((a : Int) + 1) 1 = g:=by
  unfold gP gI mcell;rw [mget_of h];exact ⟨vP_pv hb,vP_pv hf,rfl,rfl⟩
theorem nd_wr {a : Nat} {s g b f : Int} (h : m a = some (lkO s g b f)) (v : Int) : wrL m ((a : Int) + 1) 2 [pv v 0] = alO m a (lkO s g v f) ∧ wrL m ((a : Int) + 1) 3 [pv v 0] = alO m a (lkO s g b v):=by
  constructor
  · rw [wrL_at h];rfl
  · rw [wrL_at h];rfl
theorem alO_self (m : Mem) (a : Nat) (o : Obj) : alO m a o a = some o:=if_pos rfl
theorem alO_ne {m : Mem} {a b : Nat} (o : Obj) (h : b ≠ a) : alO m a o b = m b:=if_neg h
theorem alM_alO (m : Mem) (a : Nat) (cs : Array Value) (ty : Nat) : alM m ((a : Int) + 1) cs ty = alO m a (.cells cs ty (0,0)):=by
  funext x;unfold alM alO
  by_cases e : x = a
  · subst e;rw [if_pos (by omega),if_pos rfl]
  · rw [if_neg (by omega),if_neg e]
theorem DL.okm (h : DL m t q L) : okM Try.prog 29 m (.map (some q)):=by
  obtain ⟨es,k,h1,h2,_⟩:=h.mp
  refine .inr ⟨q,es,k,rfl,h1,fun e hE => ?_,h2.ap⟩
  obtain ⟨x,g1,g2,g3⟩:=h2.to e hE
  rw [g2]
  exact (okKey29 (h2.rng x g1).1 (h2.rng x g1).2).1
theorem nds_mem {x : Nat × Int × Int} (h : x ∈ L) : ((x.1 : Int) + 1,x.2.1,x.2.2) ∈ nds L:=List.mem_map.2 ⟨x,h,rfl⟩
theorem DL.hit (h : DL m t q L) {x : Nat × Int × Int} (hx : x ∈ L) : lkZ m (.map (some q)) (.agg (.mk [(.int .i64 x.2.1),(.int .u64 x.2.2)])) (.pointer .none) = pv ((x.1 : Int) + 1) 0:=by
  obtain ⟨es,k,h1,h2,_⟩:=h.mp
  obtain ⟨j,hj⟩:=h2.find (nds_mem hx)
  have : mpE m (.map (some q)) = es.toList:=by simp [mpE,h1]
  simp only [lkZ,mlook,this]
  rw [show efind (.agg (.mk [(.int .i64 x.2.1),(.int .u64 x.2.2)])) es.toList 0 = some (j,pv ((x.1 : Int) + 1) 0) from hj];rfl
theorem DL.missN (h : DL m t q L) {s g : Int} (hx : (s,g) ∉ hsL L) : ∀ x ∈ nds L,¬ (x.2.1 = s ∧ x.2.2 = g):=by
  rintro x h1 ⟨rfl,rfl⟩
  obtain ⟨y,hy,rfl⟩:=List.mem_map.1 h1
  exact hx (List.mem_map.2 ⟨y,hy,rfl⟩)
theorem DL.miss (h : DL m t q L) {s g : Int} (hx : (s,g) ∉ hsL L) : lkZ m (.map (some q)) (.agg (.mk [(.int .i64 s),(.int .u64 g)])) (.pointer .none) = pv 0 0:=by
  obtain ⟨es,k,h1,h2,_⟩:=h.mp
  have : mpE m (.map (some q)) = es.toList:=by simp [mpE,h1]
  simp only [lkZ,mlook,this]
  rw [show efind (.agg (.mk [(.int .i64 s),(.int .u64 g)])) es.toList 0 = none from h2.miss (h.missN hx)];rfl
theorem DL.len (h : DL m t q L) : mlen m (.map (some q)) = L.length:=by
  obtain ⟨es,k,h1,_,h3⟩:=h.mp
  have : mpE m (.map (some q)) = es.toList:=by simp [mpE,h1]
  simp only [mlen,this,Array.length_toList,h3]
theorem mput_at {es : Array MapEntry} {k : Nat} (h : m q = some (.map es k)) {s g : Int} (hm : efind (hKey s g) es.toList 0 = none) (v : Value) :
    mput m (.map (some q)) (.agg (.mk [(.int .i64 s),(.int .u64 g)])) v = alO m q (.map (es.push ⟨hKey s g,v,k⟩) (k + 1)):=by
  funext a
  simp only [mput,mchg,alO]
  by_cases e : a = q
  · subst e
    rw [if_pos rfl,if_pos rfl,h]
    simp only [esPut]
    rw [show efind (.agg (.mk [(.int .i64 s),(.int .u64 g)])) es.toList 0 = none from hm]
  · rw [if_neg e,if_neg e]
theorem mdel_at {es : Array MapEntry} {k : Nat} (h : m q = some (.map es k)) {s g : Int} {i : Nat} {v : Value} (hf : efind (hKey s g) es.toList 0 = some (i,v)) :
    mdel m (.map (some q)) (.agg (.mk [(.int .i64 s),(.int .u64 g)])) = alO m q (.map (es.eraseIdxIfInBounds i) k):=by
  funext a
  simp only [mdel,mchg,alO]
  by_cases e : a = q
  · subst e
    rw [if_pos rfl,if_pos rfl,h]
    simp only [esDel]
    rw [show efind (.agg (.mk [(.int .i64 s),(.int .u64 g)])) es.toList 0 = some (i,v) from hf]
  · rw [if_neg e,if_neg e]
end
def vPtr (v : V) : Int:=(ptrOf v).getD 0
def T_lend (m : Mem) (t : Int) (o : Bool) : Tr:=(.br (cmpOK m t 0) (.br (peq t 0) (.leaf (.memo (.u (.c .nilp)) m)) (.br o (.br (nzp t) (.br (nzp t) (.br (okL m t 1 [.nilp]) (.leaf (.memo (.u (.c (.np (gP m t 1) 0))) m)) (.no 70)) (.no 76)) (.no 75)) (.br (nzp t) (.br (nzp t) (.br (okL m t 2 [.nilp]) (.leaf (.memo (.u (.c (.np (gP m t 2) 0))) m)) (.no 70)) (.no 76)) (.no 75)))) (.no 78))
theorem t_lend (m : Mem) (t : Int) (o : Bool) : runm Try.prog [] (drawx Try.prog []) 300 87 [.u (.c (.np t 0)),.u (.c (.sb o))] m [142,140,137] = T_lend m t o:=by kernel_rfl
def lendOK (m : Mem) (t : Int) (o : Bool) : Prop:=okP (T_lend m t o)
def lendV (m : Mem) (t : Int) (o : Bool) : Int:=vPtr (outV (T_lend m t o))
theorem lend_all (m : Mem) (t : Int) (o : Bool) : allL (fun v m' => m' = m ∧ ∀ ρ,V.den ρ v = V.den ρ (.u (.c (.np (vPtr v) 0)))) (T_lend m t o):=by
  simp only [T_lend,allL]
  repeat' (first | exact fun _ => rfl | exact fun _ => trivial | exact trivial | rfl | constructor)
def s_lend : Sum:=rdSum 87 fun m a => match a with | [a0,a1] => (match ptrOf a0,booOf a1 with | some t,some o => some (lendOK m t o,.u (.c (.np (lendV m t o) 0))) | _,_ => none) | _ => none
theorem s_lend_ok : SumOK Try.prog s_lend:=by
  refine rdSum_ok ⟨_,Try.func87,by kernel_rfl⟩ fun m args pre v h hp hw ρ w hm => ?_
  split at h
  · split at h
    · rename_i a0 a1 _ _  t o h0 h1
      cases h
      exact dm_calls nameOK okn (dOK okn) 300 _ m _ (t_lend m t o) hp (allL_out (lend_all m t o) hp).1 ρ ((allL_out (lend_all m t o) hp).2 ρ) w hm (by simp only [List.map_cons,List.map_nil,ptrOf_den h0,booOf_den h1])
    · cases h
  · cases h
def T_lhas (m : Mem) (t : Int) (hs hg : Int) : Tr:=(.br (cmpOK m t 0) (.br (bNot (peq t 0)) (.br (nzp t) (.br (nzp t) (.br (okL m t 0 [(.raw (.map (.none)))]) (.req ((Go.Maps.Keyed Try.prog 29) ∧ ((okM Try.prog 29 m (pl (mcell m t 0))) ∧ ((okKey Try.prog 29 (.agg (.mk [(.int .i64 hs),(.int .u64 hg)]))) ∧ (((okU (.c .nilp) (lkZ m (pl (mcell m t 0)) (.agg (.mk [(.int .i64 hs),(.int .u64 hg)])) (.pointer (.none)))) : Bool) = true)))) (.br (cmpOK m (vP (lkZ m (pl (mcell m t 0)) (.agg (.mk [(.int .i64 hs),(.int .u64 hg)])) (.pointer (.none)))) 0) (.leaf (.memo (.u (.c (.sb (bNot (peq (vP (lkZ m (pl (mcell m t 0)) (.agg (.mk [(.int .i64 hs),(.int .u64 hg)])) (.pointer (.none)))) 0))))) m)) (.no 78))) (.no 70)) (.no 76)) (.no 75)) (.leaf (.memo (.u (.c (.lb false))) m))) (.no 78))
theorem t_lhas (m : Mem) (t : Int) (hs hg : Int) : runm Try.prog [] (drawx Try.prog []) 300 80 [.u (.c (.np t 0)),.u (.agg [.si .i64 hs,.si .u64 hg])] m [142,140,137] = T_lhas m t hs hg:=by kernel_rfl
def lhasOK (m : Mem) (t : Int) (hs hg : Int) : Prop:=okP (T_lhas m t hs hg)
def lhasV (m : Mem) (t : Int) (hs hg : Int) : Bool:=vBool (outV (T_lhas m t hs hg))
theorem lhas_all (m : Mem) (t : Int) (hs hg : Int) : allL (fun v m' => m' = m ∧ ∀ ρ,V.den ρ v = V.den ρ (.u (.c (.sb (vBool v))))) (T_lhas m t hs hg):=by
  simp only [T_lhas,allL]
  repeat' (first | exact fun _ => rfl | exact fun _ => trivial | exact trivial | rfl | constructor)
def s_lhas : Sum:=rdSum 80 fun m a => match a with | [a0,a1] => (match ptrOf a0,hanOf a1 with | some t,some (hs,hg) => some (lhasOK m t hs hg,.u (.c (.sb (lhasV m t hs hg)))) | _,_ => none) | _ => none
theorem s_lhas_ok : SumOK Try.prog s_lhas:=by
  refine rdSum_ok ⟨_,Try.func80,by kernel_rfl⟩ fun m args pre v h hp hw ρ w hm => ?_
  split at h
  · split at h
    · rename_i a0 a1 _ _  t hs hg h0 h1
      cases h
      exact dm_calls nameOK okn (dOK okn) 300 _ m _ (t_lhas m t hs hg) hp (allL_out (lhas_all m t hs hg) hp).1 ρ ((allL_out (lhas_all m t hs hg) hp).2 ρ) w hm (by simp only [List.map_cons,List.map_nil,ptrOf_den h0,hanOf_den h1])
    · cases h
  · cases h
def T_llen (m : Mem) (t : Int) : Tr:=(.br (cmpOK m t 0) (.br (peq t 0) (.leaf (.memo (.u (.c (.li .i64 0))) m)) (.br (nzp t) (.br (nzp t) (.br (okL m t 0 [(.raw (.map (.none)))]) (.req (okM Try.prog 29 m (pl (mcell m t 0))) (.leaf (.memo (.u (.c (.si .i64 (mlen m (pl (mcell m t 0)))))) m))) (.no 70)) (.no 76)) (.no 75))) (.no 78))
theorem t_llen (m : Mem) (t : Int) : runm Try.prog [] (drawx Try.prog []) 300 128 [.u (.c (.np t 0))] m [142,140,137] = T_llen m t:=by kernel_rfl
def llenOK (m : Mem) (t : Int) : Prop:=okP (T_llen m t)
def llenV (m : Mem) (t : Int) : Int:=vInt (outV (T_llen m t))
theorem llen_all (m : Mem) (t : Int) : allL (fun v m' => m' = m ∧ ∀ ρ,V.den ρ v = V.den ρ (.u (.c (.si .i64 (vInt v))))) (T_llen m t):=by
  simp only [T_llen,allL]
  repeat' (first | exact fun _ => rfl | exact fun _ => trivial | exact trivial | rfl | constructor)
def s_llen : Sum:=rdSum 128 fun m a => match a with | [a0] => (match ptrOf a0 with | some t => some (llenOK m t,.u (.c (.si .i64 (llenV m t)))) | _ => none) | _ => none
theorem s_llen_ok : SumOK Try.prog s_llen:=by
  refine rdSum_ok ⟨_,Try.func128,by kernel_rfl⟩ fun m args pre v h hp hw ρ w hm => ?_
  split at h
  · split at h
    · rename_i a0 _  t h0
      cases h
      exact dm_calls nameOK okn (dOK okn) 300 _ m _ (t_llen m t) hp (allL_out (llen_all m t) hp).1 ρ ((allL_out (llen_all m t) hp).2 ρ) w hm (by simp only [List.map_cons,List.map_nil,ptrOf_den h0])
    · cases h
  · cases h
section
variable {m : Mem} {t q : Nat} {L : LN}
theorem lend_spec (h : DL m t q L) (o : Bool) : lendOK m ((t : Int) + 1) o ∧ lendV m ((t : Int) + 1) o = (match o with | true => hdA L 0 | false => laA 0 L):=by
  obtain ⟨k1,k2,k3⟩:=hd_okL h.hd
  cases o <;> simp [lendOK,lendV,T_lend,okP,outV,cmp_zero,pz_p,nz_p,k2,k3,vPtr,ptrOf,h.g1,h.g2]
theorem lhas_spec (h : DL m t q L) {s g : Int} (h1 : inI s) (h2 : inU g) : lhasOK m ((t : Int) + 1) s g ∧ (lhasV m ((t : Int) + 1) s g = true ↔ (s,g) ∈ hsL L):=by
  obtain ⟨k1,k2,k3⟩:=hd_okL h.hd
  by_cases hx : (s,g) ∈ hsL L
  · obtain ⟨x,hx1,hx2⟩:=List.mem_map.1 hx
    simp only [Prod.mk.injEq] at hx2
    obtain ⟨rfl,rfl⟩:=hx2
    have hl:=h.hit hx1
    simp [lhasOK,lhasV,T_lhas,okP,outV,cmp_zero,pz_p,nz_p,k1,vBool,h.pc,hl,keyed29,h.okm,okKey29 h1 h2,bNot,okU,okC,isP_pv,vP_pv (show (0 : Int) ≤ (x.1 : Int) + 1 by omega),hx]
  · have hl:=h.miss hx
    simp [lhasOK,lhasV,T_lhas,okP,outV,cmp_zero,pz_p,nz_p,k1,vBool,h.pc,hl,keyed29,h.okm,okKey29 h1 h2,bNot,okU,okC,isP_pv,vP_pv (Int.le_refl 0),hx,peq_zero]
theorem llen_spec (h : DL m t q L) : llenOK m ((t : Int) + 1) ∧ llenV m ((t : Int) + 1) = L.length:=by
  obtain ⟨k1,k2,k3⟩:=hd_okL h.hd
  simp [llenOK,llenV,T_llen,okP,outV,cmp_zero,pz_p,nz_p,k1,vInt,intOf,h.pc,h.okm,h.len]
end
end Go.Proofs.Ytnlohongffpkpaa.T16
end

section
namespace Go.Proofs.Ytnlohongffpkpaa.T16
open Go Go.RowKit Go.Proofs.Ytnlohongffpkpaa.Sx Go.Proofs
set_option linter.unusedVariables false
set_option linter.unusedSimpArgs false
structure DG where
  t : Nat
  q : Nat
  L : LN
def DG.is (G : DG) (m : Mem) (p : Int) : Prop:=p = (G.t : Int) + 1 ∧ DL m G.t G.q G.L
def keepD (t q : Nat) (L : LN) (m m' : Mem) : Prop:=∀ a,m a ≠ none → ¬ dlD t q L a → m' a = m a
section
variable {m : Mem} {t q : Nat} {L : LN}
theorem DL.there (h : DL m t q L) {a : Nat} (ha : dlD t q L a) : m a ≠ none:=by
  rcases ha with rfl | rfl | ha
  · rw [h.hd];simp
  · obtain ⟨es,k,h1,_⟩:=h.mp
    rw [h1];simp
  · obtain ⟨x,hx,e⟩:=List.mem_map.1 ha
    obtain ⟨b,f,h1⟩:=h.ch.mem hx
    rw [← e,h1];simp
theorem DL.fresh (h : DL m t q L) {a : Nat} (ha : m a = none) : ¬ dlD t q L a:=fun hd => h.there hd ha
theorem ents_new {es : Array MapEntry} {k : Nat} {a : Nat} {s g : Int} (he : Ents es.toList (nds L)) (hx : ∀ x ∈ nds L,¬ (x.2.1 = s ∧ x.2.2 = g)) (h1 : inI s) (h2 : inU g) :
    Ents (es.push ⟨hKey s g,pv ((a : Int) + 1) 0,k⟩).toList (nds ((a,s,g) :: L)):=by
  rw [Array.toList_push]
  exact he.push hx h1 h2
theorem nds_snoc (x : Nat × Int × Int) : ∀ y,y ∈ nds (L ++ [x]) ↔ y ∈ nds (x :: L):=by
  intro y
  simp [nds,or_comm]
def pushPost (m : Mem) (G : DG) (s g : Int) (front : Bool) (y : Vars) : Prop :=
  ((s,g) ∈ hsL G.L ∧ y.i = [7] ∧ y.m = m) ∨
  ((s,g) ∉ hsL G.L ∧ y.i = [0] ∧ ∃ a,m a = none ∧ DL y.m G.t G.q (match front with | true => (a,s,g) :: G.L | false => G.L ++ [(a,s,g)]) ∧ keepD G.t G.q G.L m y.m)
end
def T_lpush (m : Mem) (t : Int) (hs hg : Int) (o : Bool) : Tr:=(.br (cmpOK m t 0) (.br (peq t 0) (.leaf (.memo (.u (.c (.li .i64 1))) m)) (.br (nzp t) (.br (nzp t) (.br (okL m t 0 [(.raw (.map (.none)))]) (.br (isMpV (pl (mcell m t 0))) (.br (isNilM (pl (mcell m t 0))) (.leaf (.memo (.u (.c (.li .i64 1))) m)) (.br (nzp t) (.br (nzp t) (.br (okL m t 0 [(.raw (.map (.none)))]) (.req ((Go.Maps.Keyed Try.prog 29) ∧ ((okM Try.prog 29 m (pl (mcell m t 0))) ∧ ((okKey Try.prog 29 (.agg (.mk [(.int .i64 hs),(.int .u64 hg)]))) ∧ (((okU (.c .nilp) (lkZ m (pl (mcell m t 0)) (.agg (.mk [(.int .i64 hs),(.int .u64 hg)])) (.pointer (.none)))) : Bool) = true)))) (.br (cmpOK m (vP (lkZ m (pl (mcell m t 0)) (.agg (.mk [(.int .i64 hs),(.int .u64 hg)])) (.pointer (.none)))) 0) (.br (bNot (peq (vP (lkZ m (pl (mcell m t 0)) (.agg (.mk [(.int .i64 hs),(.int .u64 hg)])) (.pointer (.none)))) 0)) (.leaf (.memo (.u (.c (.li .i64 7))) m)) (.any (newQ m (.mk [(.int .i64 hs),(.int .u64 hg),(.pointer (.none)),(.pointer (.none))]) 142) (fun y0 => (.br (nzp t) (.br (nzp t) (.br (okL y0.4 t 0 [(.raw (.map (.none)))]) (.req ((Go.Maps.Keyed Try.prog 29) ∧ ((okM Try.prog 29 y0.4 (pl (mcell y0.4 t 0))) ∧ ((((isNilM (pl (mcell y0.4 t 0))) : Bool) = false) ∧ (okKey Try.prog 29 (.agg (.mk [(.int .i64 hs),(.int .u64 hg)])))))) (.letm (mput y0.4 (pl (mcell y0.4 t 0)) (.agg (.mk [(.int .i64 hs),(.int .u64 hg)])) (pv (pI y0.1) 0)) (fun m1 => (.br (nzp t) (.br (nzp t) (.br (okL m1 t 1 [.nilp]) (.br (cmpOK m1 (gP m1 t 1) 0) (.br (peq (gP m1 t 1) 0) (.br (nzp t) (.br (nzp t) (.br (okS m1 t 1 1) (.letm (wrL m1 t 1 [(pv (pI y0.1) 0)]) (fun m2 => (.br (nzp t) (.br (nzp t) (.br (okS m2 t 2 1) (.letm (wrL m2 t 2 [(pv (pI y0.1) 0)]) (fun m3 => (.leaf (.memo (.u (.c (.li .i64 0))) m3)))) (.no 72)) (.no 76)) (.no 75)))) (.no 72)) (.no 76)) (.no 75)) (.br o (.br (nzp t) (.br (nzp t) (.req (memL t [t]) (.br (okL m1 t 1 [.nilp]) (.br (nzp t) (.br (nzp t) (.req (memL t [t]) (.br (okL m1 t 1 [.nilp]) (.br (nzp (pI y0.1)) (.br (nzp (pI y0.1)) (.br (okS m1 (pI y0.1) 2 1) (.letm (wrL m1 (pI y0.1) 2 [(pv (gP m1 t 1) 0)]) (fun m2 => (.req ((([(0,([(.si .i64 hs),(.si .u64 hg)],29))] : List (Nat × Blk)) = [(0,([(.si .i64 hs),(.si .u64 hg)],29))]) ∧ ((([] : List (Nat × MBlk)) = []) ∧ (agreeL [t] m2 m1))) (.br (nzp (gP m1 t 1)) (.br (nzp (gP m1 t 1)) (.br (okS m2 (gP m1 t 1) 3 1) (.letm (wrL m2 (gP m1 t 1) 3 [(pv (pI y0.1) 0)]) (fun m3 => (.req ((([(0,([(.si .i64 hs),(.si .u64 hg)],29))] : List (Nat × Blk)) = [(0,([(.si .i64 hs),(.si .u64 hg)],29))]) ∧ ((([] : List (Nat × MBlk)) = []) ∧ (agreeL [t] m3 m2))) (.br (nzp t) (.br (nzp t) (.br (okS m3 t 1 1) (.letm (wrL m3 t 1 [(pv (pI y0.1) 0)]) (fun m4 => (.leaf (.memo (.u (.c (.li .i64 0))) m4)))) (.no 72)) (.no 76)) (.no 75))))) (.no 72)) (.no 76)) (.no 75))))) (.no 72)) (.no 76)) (.no 75)) (.no 70))) (.no 76)) (.no 75)) (.no 70))) (.no 76)) (.no 75)) (.br (nzp t) (.br (nzp t) (.req (memL t [t]) (.br (okL m1 t 2 [.nilp]) (.br (nzp t) (.br (nzp t) (.req (memL t [t]) (.br (okL m1 t 2 [.nilp]) (.br (nzp (pI y0.1)) (.br (nzp (pI y0.1)) (.br (okS m1 (pI y0.1) 3 1) (.letm (wrL m1 (pI y0.1) 3 [(pv (gP m1 t 2) 0)]) (fun m2 => (.req ((([(0,([(.si .i64 hs),(.si .u64 hg)],29))] : List (Nat × Blk)) = [(0,([(.si .i64 hs),(.si .u64 hg)],29))]) ∧ ((([] : List (Nat × MBlk)) = []) ∧ (agreeL [t] m2 m1))) (.br (nzp (gP m1 t 2)) (.br (nzp (gP m1 t 2)) (.br (okS m2 (gP m1 t 2) 2 1) (.letm (wrL m2 (gP m1 t 2) 2 [(pv (pI y0.1) 0)]) (fun m3 => (.req ((([(0,([(.si .i64 hs),(.si .u64 hg)],29))] : List (Nat × Blk)) = [(0,([(.si .i64 hs),(.si .u64 hg)],29))]) ∧ ((([] : List (Nat × MBlk)) = []) ∧ (agreeL [t] m3 m2))) (.br (nzp t) (.br (nzp t) (.br (okS m3 t 2 1) (.letm (wrL m3 t 2 [(pv (pI y0.1) 0)]) (fun m4 => (.leaf (.memo (.u (.c (.li .i64 0))) m4)))) (.no 72)) (.no 76)) (.no 75))))) (.no 72)) (.no 76)) (.no 75))))) (.no 72)) (.no 76)) (.no 75)) (.no 70))) (.no 76)) (.no 75)) (.no 70))) (.no 76)) (.no 75)))) (.no 78)) (.no 70)) (.no 76)) (.no 75))))) (.no 70)) (.no 76)) (.no 75))))) (.no 78))) (.no 70)) (.no 76)) (.no 75))) (.no 109)) (.no 70)) (.no 76)) (.no 75))) (.no 78))
section
variable {m : Mem} {t q : Nat} {L : LN}
theorem lpush_walk (h : DL m t q L) {s g : Int} (h1 : inI s) (h2 : inU g) (o : Bool) :
    (T_lpush m ((t : Int) + 1) s g o).sat (isMemo fun w x => pushPost m ⟨t,q,L⟩ s g o (yOf w x) ∧ ∀ ρ,w.den ρ = (retI (yOf w x)).den ρ):=by
  unfold T_lpush
  obtain ⟨k1,k2,k3⟩:=hd_okL h.hd
  rw [brT (cmp_zero _ _),brF (pz_p t),brT (nz_p t),brT (nz_p t),brT k1]
  simp only [h.pc]
  rw [brT (by rfl),brF (by rfl),brT (nz_p t),brT (nz_p t),brT k1,sat_req]
  by_cases hx : (s,g) ∈ hsL L
  · obtain ⟨x,hx1,hx2⟩:=List.mem_map.1 hx
    simp only [Prod.mk.injEq] at hx2
    obtain ⟨rfl,rfl⟩:=hx2
    simp only [h.hit hx1,vP_pv (show (0 : Int) ≤ (x.1 : Int) + 1 by omega)]
    refine ⟨⟨keyed29,h.okm,okKey29 h1 h2,by simp [okU,okC,isP_pv]⟩,?_⟩
    rw [brT (cmp_zero _ _),brT (by rw [pz_p];rfl)]
    exact ⟨.inl ⟨hx,rfl,rfl⟩,fun ρ => rfl⟩
  simp only [h.miss hx,vP_pv (Int.le_refl 0)]
  refine ⟨⟨keyed29,h.okm,okKey29 h1 h2,isP_pv 0⟩,?_⟩
  rw [brT (cmp_zero _ _),brF (by rfl),sat_any]
  rintro ⟨yi,yb,yv,ym⟩ ⟨a,hai,ham,hym⟩
  simp only at hai hym
  have e1 : alM m ((a : Int) + 1) (.mk [(.int .i64 s),(.int .u64 g),(.pointer .none),(.pointer .none)]) 142 = alO m a (lkO s g 0 0):=alM_alO m a _ 142
  rw [e1] at hym
  subst hai hym
  obtain ⟨es,k,m1,m2,m3⟩:=h.mp
  have hfr:=h.fresh ham
  have hat : a ≠ t:=fun e => hfr (.inl e)
  have haq : a ≠ q:=fun e => hfr (.inr (.inl e))
  have haL : a ∉ L.map (·.1):=fun e => hfr (.inr (.inr e))
  have htq:=h.tq
  have htL:=h.t_no
  have hqL:=h.q_no
  have h' : DL (alO m a (lkO s g 0 0)) t q L:=h.congr fun c hc => alO_ne _ (by rintro rfl;exact hfr hc)
  obtain ⟨j1,j2,j3⟩:=hd_okL h'.hd
  have hq1 : alO m a (lkO s g 0 0) q = some (.map es k):=by rw [alO_ne _ (Ne.symm haq)];exact m1
  have hpI : pI [(a : Int) + 1] = (a : Int) + 1:=rfl
  simp only [hpI]
  rw [brT (nz_p t),brT (nz_p t),brT j1]
  simp only [h'.pc]
  rw [sat_req]
  refine ⟨⟨keyed29,h'.okm,rfl,okKey29 h1 h2⟩,?_⟩
  rw [sat_letm,mput_at hq1 (m2.miss (h.missN hx))]
  generalize hM2 : alO (alO m a (lkO s g 0 0)) q (.map (es.push ⟨hKey s g,pv ((a : Int) + 1) 0,k⟩) (k + 1)) = M2
  have o2 : ∀ c,c ≠ a → c ≠ q → M2 c = m c:=fun c c1 c2 => by rw [← hM2,alO_ne _ c2,alO_ne _ c1]
  have a2 : M2 a = some (lkO s g 0 0):=by rw [← hM2,alO_ne _ haq,alO_self]
  have q2 : M2 q = some (.map (es.push ⟨hKey s g,pv ((a : Int) + 1) 0,k⟩) (k + 1)):=by rw [← hM2,alO_self]
  have t2 : M2 t = some (hdO q (hdA L 0) (laA 0 L)):=by rw [o2 t (Ne.symm hat) htq];exact h.hd
  have L2 : ∀ c ∈ L.map (·.1),M2 c = m c:=fun c hc => o2 c (by rintro rfl;exact haL hc) (by rintro rfl;exact hqL hc)
  have hen:=ents_new (k:=k) (a:=a) m2 (h.missN hx) h1 h2
  have hsz : (es.push ⟨hKey s g,pv ((a : Int) + 1) 0,k⟩).size = L.length + 1:=by rw [Array.size_push,m3]
  obtain ⟨j1,j2,j3⟩:=hd_okL t2
  obtain ⟨j4,j5⟩:=hd_okS t2
  obtain ⟨g1,g2⟩:=hd_gP t2 (hdA_nn (Int.le_refl 0)) (laA_nn (Int.le_refl 0))
  rw [brT (nz_p t),brT (nz_p t),brT j2,brT (cmp_zero _ _),g1]
  cases hL : L with
  | nil =>
    subst hL
    rw [brT (by rfl),brT (nz_p t),brT (nz_p t),brT j4,sat_letm,(hd_wr t2 _).1]
    have t3 : alO M2 t (hdO q ((a : Int) + 1) (laA 0 [])) t = some (hdO q ((a : Int) + 1) (laA 0 [])):=alO_self _ _ _
    rw [brT (nz_p t),brT (nz_p t),brT (hd_okS t3).2,sat_letm,(hd_wr t3 _).2]
    refine ⟨.inr ⟨hx,rfl,a,ham,?_,fun c hc hd => ?_⟩,fun ρ => rfl⟩
    · have key : DL (alO (alO M2 t (hdO q ((a : Int) + 1) (laA 0 []))) t (hdO q ((a : Int) + 1) ((a : Int) + 1))) t q [(a,s,g)] :=
        ⟨alO_self _ _ _,⟨_,_,by rw [alO_ne _ (Ne.symm htq),alO_ne _ (Ne.symm htq)];exact q2,hen,hsz⟩,⟨by rw [alO_ne _ hat,alO_ne _ hat];exact a2,trivial⟩,by simp⟩
      cases o <;> exact key
    · have c1 : c ≠ t:=fun e => hd (.inl e)
      have c2 : c ≠ q:=fun e => hd (.inr (.inl e))
      have c3 : c ≠ a:=by rintro rfl;exact hc ham
      show alO _ _ _ c = _
      rw [alO_ne _ c1,alO_ne _ c1,o2 c c3 c2]
  | cons y B =>
    rw [← hL]
    have hfst : hdA L 0 = (y.1 : Int) + 1:=by rw [hL];rfl
    have hyL : y.1 ∈ L.map (·.1):=by rw [hL];simp
    rw [hfst,brF (pz_p _)]
    cases o with
    | true =>
      have hy2 : M2 y.1 = some (lkO y.2.1 y.2.2 (hdA B 0) 0):=by
        rw [L2 _ hyL]
        have:=h.ch;rw [hL] at this;exact this.1
      have hya : y.1 ≠ a:=fun e => haL (e ▸ hyL)
      have hyt : y.1 ≠ t:=fun e => htL (e ▸ hyL)
      have hyq : y.1 ≠ q:=fun e => hqL (e ▸ hyL)
      rw [sat_brT,brT (nz_p t),brT (nz_p t),sat_req]
      refine ⟨by simp [memL],?_⟩
      rw [brT j2,brT (nz_p t),brT (nz_p t),sat_req]
      refine ⟨by simp [memL],?_⟩
      rw [brT j2,brT (nz_p a),brT (nz_p a),brT (nd_okS a2).1,sat_letm,(nd_wr a2 _).1,sat_req]
      refine ⟨⟨trivial,trivial,fun c hc => alO_ne _ ?_⟩,?_⟩
      · simp only [List.mem_singleton] at hc;omega
      generalize hM3 : alO M2 a (lkO s g ((y.1 : Int) + 1) 0) = M3
      have y3 : M3 y.1 = some (lkO y.2.1 y.2.2 (hdA B 0) 0):=by rw [← hM3,alO_ne _ hya];exact hy2
      have t3 : M3 t = some (hdO q (hdA L 0) (laA 0 L)):=by rw [← hM3,alO_ne _ (Ne.symm hat)];exact t2
      rw [brT (nz_p _),brT (nz_p _),brT (nd_okS y3).2,sat_letm,(nd_wr y3 _).2,sat_req]
      refine ⟨⟨trivial,trivial,fun c hc => alO_ne _ ?_⟩,?_⟩
      · simp only [List.mem_singleton] at hc;omega
      generalize hM4 : alO M3 y.1 (lkO y.2.1 y.2.2 (hdA B 0) ((a : Int) + 1)) = M4
      have t4 : M4 t = some (hdO q (hdA L 0) (laA 0 L)):=by rw [← hM4,alO_ne _ (Ne.symm hyt)];exact t3
      rw [brT (nz_p t),brT (nz_p t),brT (hd_okS t4).1,sat_letm,(hd_wr t4 _).1]
      have o5 : ∀ c,c ≠ t → c ≠ y.1 → c ≠ a → c ≠ q → alO M4 t (hdO q ((a : Int) + 1) (laA 0 L)) c = m c:=fun c c1 c2 c3 c4 => by rw [alO_ne _ c1,← hM4,alO_ne _ c2,← hM3,alO_ne _ c3,o2 c c3 c4]
      refine ⟨.inr ⟨hx,rfl,a,ham,⟨?_,⟨_,k + 1,?_,hen,hsz⟩,?_,?_⟩,fun c hc hd => ?_⟩,fun ρ => rfl⟩
      · show alO _ _ _ t = _
        rw [alO_self,hL];rfl
      · show alO _ _ _ q = _
        rw [alO_ne _ (Ne.symm htq),← hM4,alO_ne _ (Ne.symm hyq),← hM3,alO_ne _ (Ne.symm haq)];exact q2
      · have hnd:=h.nd
        rw [hL] at hnd ⊢
        simp only [List.map_cons,List.nodup_cons] at hnd
        have hch:=h.ch
        rw [hL] at hch
        refine ⟨?_,?_,Ch_congr (fun c hc => ?_) hch.2⟩
        · show alO _ _ _ a = _
          rw [alO_ne _ hat,← hM4,alO_ne _ (Ne.symm hya),← hM3,alO_self];rfl
        · show alO _ _ _ y.1 = _
          rw [alO_ne _ hyt,← hM4,alO_self]
        · have hcL : c ∈ L.map (·.1):=by rw [hL];simp only [List.map_cons,List.mem_cons];exact .inr hc
          have:=o5 c (fun e => htL (e ▸ hcL)) (fun e => hnd.1 (e ▸ hc)) (fun e => haL (e ▸ hcL)) (fun e => hqL (e ▸ hcL))
          rw [hL] at this;exact this
      · simp only [List.map_cons,List.nodup_cons]
        exact ⟨haL,h.nd⟩
      · exact o5 c (fun e => hd (.inl e)) (fun e => hd (.inr (.inr (e ▸ hyL)))) (by rintro rfl;exact hc ham) (fun e => hd (.inr (.inl e)))
    | false =>
      obtain ⟨A,z,hAz⟩ : ∃ A z,L = A ++ [z]:=by
        rcases List.eq_nil_or_concat L with e | ⟨A,z,e⟩
        · rw [e] at hL;cases hL
        · exact ⟨A,z,by rw [e,List.concat_eq_append]⟩
      have hlast : laA 0 L = (z.1 : Int) + 1:=by rw [hAz,laA_snoc]
      have hzL : z.1 ∈ L.map (·.1):=by rw [hAz];simp
      have hch:=h.ch
      rw [hAz,Ch_app] at hch
      have hz2 : M2 z.1 = some (lkO z.2.1 z.2.2 0 (laA 0 A)):=by rw [L2 _ hzL];exact hch.2.1
      have hza : z.1 ≠ a:=fun e => haL (e ▸ hzL)
      have hzt : z.1 ≠ t:=fun e => htL (e ▸ hzL)
      have hzq : z.1 ≠ q:=fun e => hqL (e ▸ hzL)
      rw [sat_brF,brT (nz_p t),brT (nz_p t),sat_req]
      refine ⟨by simp [memL],?_⟩
      rw [brT j3,brT (nz_p t),brT (nz_p t),sat_req]
      refine ⟨by simp [memL],?_⟩
      rw [brT j3,brT (nz_p a),brT (nz_p a),brT (nd_okS a2).2,sat_letm,g2,hlast,(nd_wr a2 _).2,sat_req]
      refine ⟨⟨trivial,trivial,fun c hc => alO_ne _ ?_⟩,?_⟩
      · simp only [List.mem_singleton] at hc;omega
      generalize hM3 : alO M2 a (lkO s g 0 ((z.1 : Int) + 1)) = M3
      have z3 : M3 z.1 = some (lkO z.2.1 z.2.2 0 (laA 0 A)):=by rw [← hM3,alO_ne _ hza];exact hz2
      have t3 : M3 t = some (hdO q (hdA L 0) (laA 0 L)):=by rw [← hM3,alO_ne _ (Ne.symm hat)];exact t2
      rw [brT (nz_p _),brT (nz_p _),brT (nd_okS z3).1,sat_letm,(nd_wr z3 _).1,sat_req]
      refine ⟨⟨trivial,trivial,fun c hc => alO_ne _ ?_⟩,?_⟩
      · simp only [List.mem_singleton] at hc;omega
      generalize hM4 : alO M3 z.1 (lkO z.2.1 z.2.2 ((a : Int) + 1) (laA 0 A)) = M4
      have t4 : M4 t = some (hdO q (hdA L 0) (laA 0 L)):=by rw [← hM4,alO_ne _ (Ne.symm hzt)];exact t3
      rw [brT (nz_p t),brT (nz_p t),brT (hd_okS t4).2,sat_letm,(hd_wr t4 _).2]
      have o5 : ∀ c,c ≠ t → c ≠ z.1 → c ≠ a → c ≠ q → alO M4 t (hdO q (hdA L 0) ((a : Int) + 1)) c = m c:=fun c c1 c2 c3 c4 => by rw [alO_ne _ c1,← hM4,alO_ne _ c2,← hM3,alO_ne _ c3,o2 c c3 c4]
      refine ⟨.inr ⟨hx,rfl,a,ham,⟨?_,⟨_,k + 1,?_,hen.congr (nds_snoc _),?_⟩,?_,?_⟩,fun c hc hd => ?_⟩,fun ρ => rfl⟩
      · show alO _ _ _ t = _
        rw [alO_self,laA_snoc,hdA_app,hL];rfl
      · show alO _ _ _ q = _
        rw [alO_ne _ (Ne.symm htq),← hM4,alO_ne _ (Ne.symm hzq),← hM3,alO_ne _ (Ne.symm haq)];exact q2
      · rw [hsz];simp
      · show Ch _ 0 (L ++ [(a,s,g)]) 0
        have hnd:=h.nd
        rw [hAz,List.map_append,List.nodup_append] at hnd
        rw [Ch_app,hlast]
        refine ⟨?_,?_,trivial⟩
        · rw [hAz,Ch_app]
          refine ⟨Ch_congr (fun c hc => ?_) hch.1,?_,trivial⟩
          · have hcL : c ∈ L.map (·.1):=by rw [hAz,List.map_append];exact List.mem_append_left _ hc
            have:=o5 c (fun e => htL (e ▸ hcL)) (fun e => hnd.2.2 c hc z.1 (by simp) e) (fun e => haL (e ▸ hcL)) (fun e => hqL (e ▸ hcL))
            rw [hAz] at this;exact this
          · show alO _ _ _ z.1 = _
            rw [alO_ne _ hzt,← hM4,alO_self];rfl
        · show alO _ _ _ a = _
          rw [alO_ne _ hat,← hM4,alO_ne _ (Ne.symm hza),← hM3,alO_self];rfl
      · rw [List.map_append,List.nodup_append]
        refine ⟨h.nd,by simp,fun c hc d hd => ?_⟩
        simp only [List.map_cons,List.map_nil,List.mem_singleton] at hd
        subst hd
        rintro rfl
        exact haL hc
      · exact o5 c (fun e => hd (.inl e)) (fun e => hd (.inr (.inr (e ▸ hzL)))) (by rintro rfl;exact hc ham) (fun e => hd (.inr (.inl e)))
end
def lpushP (m : Mem) (t hs hg : Int) (o : Bool) : Prop:=∃ G : DG,G.is m t ∧ inI hs ∧ inU hg
def lpushQ (m : Mem) (t hs hg : Int) (o : Bool) (y : Vars) : Prop:=∀ G : DG,(G.is m t ∧ inI hs ∧ inU hg) → pushPost m G hs hg o y
def s_lpush : Sum:=memSum 60 fun m a => match a with | [a0,a1,a2] => (match ptrOf a0,hanOf a1,booOf a2 with | some t,some (hs,hg),some o => some ⟨lpushP m t hs hg o,lpushQ m t hs hg o,fun y => .u (.c (.si .i64 (hdI y.i)))⟩ | _,_,_ => none) | _ => none
theorem t_lpush (m : Mem) (t : Int) (hs hg : Int) (o : Bool) : runm Try.prog [] (drawv Try.prog [] (fun _ _ => none) (fun σ => match Go.Proofs.Ytnlohongffpkpaa.Sx.look σ.tm 0 with | .u (.c (.np p 0)) => [p] | _ => [])) 300 60 [.u (.c (.np t 0)),.u (.agg [.si .i64 hs,.si .u64 hg]),.u (.c (.sb o))] m [142,140,137] = T_lpush m t hs hg o:=by kernel_rfl
theorem s_lpush_ok : SumOK Try.prog s_lpush:=by
  refine memSum_ok ⟨_,Try.func60,by kernel_rfl⟩ fun m args ms h hp hw ρ w hm => ?_
  split at h
  · split at h
    · rename_i a0 a1 a2 _ _ _ t hs hg o h0 h1 h2
      cases h
      refine mm_ghost nameOK okn (drawv_sound nameOK okn (by kernel_rfl) _ _) 300 _ m _ (t_lpush m t hs hg o) hp (fun G hG => ?_) ρ w hm (by simp only [List.map_cons,List.map_nil,ptrOf_den h0,hanOf_den h1,booOf_den h2])
      obtain ⟨⟨rfl,g1⟩,g2,g3⟩:=hG
      refine sat_mono (fun l hl => ?_) (lpush_walk g1 g2 g3 o)
      cases l with
      | memo v x => exact ⟨hl.1,yOf_m _ _,hl.2⟩
      | _ => exact hl.elim
    · cases h
  · cases h
end Go.Proofs.Ytnlohongffpkpaa.T16
end

section
namespace Go.Proofs.Ytnlohongffpkpaa.T16
open Go Go.RowKit Go.Proofs.Ytnlohongffpkpaa.Sx Go.Proofs
set_option linter.unusedVariables false
set_option linter.unusedSimpArgs false
def endH (hs : List (Int × Int)) (front : Bool) : Option (Int × Int):=match front with | true => hs.head? | false => hs.getLast?
def peekPost (hs : List (Int × Int)) (o : Bool) (y : Vars) : Prop :=
  (∃ x,endH hs o = some x ∧ y.i = [x.1,x.2] ∧ y.b = [true]) ∨ (endH hs o = none ∧ y.i = [0,0] ∧ y.b = [false])
def endP (L : LN) : Bool → Int
  | true => hdA L 0
  | false => laA 0 L
def T_lpeek (m : Mem) (t : Int) (o : Bool) : Tr:=(.req (lendOK m t o) (.br (cmpOK m (lendV m t o) 0) (.br (peq (lendV m t o) 0) (.leaf (.memo (.tup [(.agg [(.li .i64 0),(.li .u64 0)]),(.c (.lb false))]) m)) (.br (nzp (lendV m t o)) (.br (nzp (lendV m t o)) (.br (okL m (lendV m t o) 0 [(.li .i64 0),(.li .u64 0)]) (.leaf (.memo (.tup [(.agg [(.si .i64 (gI m (lendV m t o) 0)),(.si .u64 (gI m (lendV m t o) 1))]),(.c (.lb true))]) m)) (.no 70)) (.no 76)) (.no 75))) (.no 78)))
theorem lpeek_walk {m : Mem} {t q : Nat} {L : LN} (h : DL m t q L) (o : Bool) :
    (T_lpeek m ((t : Int) + 1) o).sat (isMemo fun w x => peekPost (hsL L) o (yOf w x) ∧ x = m ∧ ∀ ρ,w.den ρ = (retHB (yOf w x)).den ρ):=by
  unfold T_lpeek
  obtain ⟨l1,l2'⟩:=lend_spec h o
  have l2 : lendV m ((t : Int) + 1) o = endP L o:=by rw [l2'];cases o <;> rfl
  clear l2'
  rw [sat_req,l2]
  refine ⟨l1,?_⟩
  rw [brT (cmp_zero _ _)]
  have key : ∀ x ∈ L,endH (hsL L) o = some (x.2.1,x.2.2) → (endP L o) = (x.1 : Int) + 1 →
      (Tr.br (peq (endP L o) 0) (.leaf (.memo (.tup [(.agg [(.li .i64 0),(.li .u64 0)]),(.c (.lb false))]) m)) (.br (nzp (endP L o)) (.br (nzp (endP L o)) (.br (okL m (endP L o) 0 [(.li .i64 0),(.li .u64 0)]) (.leaf (.memo (.tup [(.agg [(.si .i64 (gI m (endP L o) 0)),(.si .u64 (gI m (endP L o) 1))]),(.c (.lb true))]) m)) (.no 70)) (.no 76)) (.no 75))).sat (isMemo fun w x => peekPost (hsL L) o (yOf w x) ∧ x = m ∧ ∀ ρ,w.den ρ = (retHB (yOf w x)).den ρ):=by
    intro x hx he hp
    rw [hp]
    obtain ⟨A,B,rfl⟩:=List.append_of_mem hx
    have hn:=h.ch.at'
    obtain ⟨g1,g2,g3,g4⟩:=nd_gP hn (hdA_nn (Int.le_refl 0)) (laA_nn (Int.le_refl 0))
    rw [brF (pz_p _),brT (nz_p _),brT (nz_p _),brT (nd_okL hn).2.2,g3,g4]
    exact ⟨.inl ⟨_,he,rfl,rfl⟩,rfl,fun ρ => rfl⟩
  cases hL : L with
  | nil =>
    subst hL
    cases o
    · rw [brT (by rfl)]
      exact ⟨.inr ⟨rfl,rfl,rfl⟩,rfl,fun ρ => rfl⟩
    · rw [brT (by rfl)]
      exact ⟨.inr ⟨rfl,rfl,rfl⟩,rfl,fun ρ => rfl⟩
  | cons y B =>
    rw [← hL]
    cases o with
    | true => exact key y (by rw [hL];simp) (by rw [hL];rfl) (by rw [hL];rfl)
    | false =>
      obtain ⟨A,z,hAz⟩ : ∃ A z,L = A ++ [z]:=by
        rcases List.eq_nil_or_concat L with e | ⟨A,z,e⟩
        · rw [e] at hL;cases hL
        · exact ⟨A,z,by rw [e,List.concat_eq_append]⟩
      exact key z (by rw [hAz];simp) (by rw [hAz];simp [endH,hsL]) (by rw [hAz];exact laA_snoc _ _ _)
def DG.isN (m : Mem) (p : Int) : Option DG → Prop
  | none => p = 0
  | some G => G.is m p
def DG.hs : Option DG → List (Int × Int)
  | none => []
  | some G => hsL G.L
theorem lpeek_walk0 (m : Mem) (o : Bool) :
    (T_lpeek m 0 o).sat (isMemo fun w x => peekPost [] o (yOf w x) ∧ x = m ∧ ∀ ρ,w.den ρ = (retHB (yOf w x)).den ρ):=by
  unfold T_lpeek
  have h0 : lendOK m 0 o ∧ lendV m 0 o = 0:=by
    simp [lendOK,lendV,T_lend,okP,outV,cmp_zero,peq_zero,vPtr,ptrOf]
  rw [sat_req,h0.2]
  refine ⟨h0.1,?_⟩
  rw [brT (cmp_zero _ _),brT (by rfl)]
  exact ⟨.inr ⟨by cases o <;> rfl,rfl,rfl⟩,rfl,fun ρ => rfl⟩
def lpeekP (m : Mem) (t : Int) (o : Bool) : Prop:=∃ G : Option DG,DG.isN m t G
def lpeekQ (m : Mem) (t : Int) (o : Bool) (y : Vars) : Prop:=∀ G : Option DG,DG.isN m t G → peekPost (DG.hs G) o y ∧ y.m = m
def s_lpeek : Sum:=memSum 75 fun m a => match a with | [a0,a1] => (match ptrOf a0,booOf a1 with | some t,some o => some ⟨lpeekP m t o,lpeekQ m t o,fun y => .tup [.agg [.si .i64 (hdI y.i),.si .u64 (hdI (tlI y.i))],.c (.sb (hdB y.b))]⟩ | _,_ => none) | _ => none
theorem t_lpeek (m : Mem) (t : Int) (o : Bool) : runm Try.prog [s_lend] (drawx Try.prog [s_lend]) 300 75 [.u (.c (.np t 0)),.u (.c (.sb o))] m [142,140,137] = T_lpeek m t o:=by kernel_rfl
theorem s_lpeek_ok : SumOK Try.prog s_lpeek:=by
  refine memSum_ok ⟨_,Try.func75,by kernel_rfl⟩ fun m args ms h hp hw ρ w hm => ?_
  split at h
  · split at h
    · rename_i a0 a1 _ _ t o h0 h1
      cases h
      refine mm_ghost nameOK (okc s_lend_ok okn) (dOK (okc s_lend_ok okn)) 300 _ m _ (t_lpeek m t o) hp (fun G hG => ?_) ρ w hm (by simp only [List.map_cons,List.map_nil,ptrOf_den h0,booOf_den h1])
      have key : (T_lpeek m t o).sat (isMemo fun w x => peekPost (DG.hs G) o (yOf w x) ∧ x = m ∧ ∀ ρ,w.den ρ = (retHB (yOf w x)).den ρ):=by
        cases G with
        | none => cases hG;exact lpeek_walk0 m o
        | some G => obtain ⟨rfl,g1⟩:=hG;exact lpeek_walk g1 o
      refine sat_mono (fun l hl => ?_) key
      cases l with
      | memo v x => exact ⟨⟨hl.1,(yOf_m _ _).trans hl.2.1⟩,yOf_m _ _,hl.2.2⟩
      | _ => exact hl.elim
    · cases h
  · cases h
theorem efind_lt {k : Value} : ∀ {es : List MapEntry} {i0 j : Nat} {v : Value},efind k es i0 = some (j,v) → i0 ≤ j ∧ j < i0 + es.length
  | [],_,_,_,h => by cases h
  | e :: r,i0,j,v,h => by
    simp only [efind] at h
    split at h
    · cases h;simp
    · have:=efind_lt h;simp only [List.length_cons];omega
theorem nds_erase {A B : LN} {x : Nat × Int × Int} : (nds (A ++ x :: B)).eraseIdx A.length = nds (A ++ B):=by
  unfold nds
  rw [List.map_append,List.map_append,List.map_cons,List.eraseIdx_append_of_length_le (by simp)]
  simp
def lremPost (m : Mem) (G : DG) (s g : Int) (y : Vars) : Prop :=
  ((s,g) ∉ hsL G.L ∧ y.b = [false] ∧ y.m = m) ∨
  (∃ A x B,G.L = A ++ x :: B ∧ x.2.1 = s ∧ x.2.2 = g ∧ y.b = [true] ∧ DL y.m G.t G.q (A ++ B) ∧ keepD G.t G.q G.L m y.m)
def T_lrem2 (m2 : Mem) (t x : Int) : Tr:=(.br (nzp x) (.br (nzp x) (.br (okL m2 x 2 [.nilp]) (.br (cmpOK m2 (gP m2 x 2) 0) (.br (peq (gP m2 x 2) 0) (.br (nzp x) (.br (nzp x) (.br (okL m2 x 3 [.nilp]) (.br (nzp t) (.br (nzp t) (.br (okS m2 t 2 1) (.letm (wrL m2 t 2 [(pv (gP m2 x 3) 0)]) (fun m3 => (.leaf (.memo (.u (.c (.lb true))) m3)))) (.no 72)) (.no 76)) (.no 75)) (.no 70)) (.no 76)) (.no 75)) (.br (nzp x) (.br (nzp x) (.br (okL m2 x 2 [.nilp]) (.br (nzp x) (.br (nzp x) (.br (okL m2 x 3 [.nilp]) (.br (nzp (gP m2 x 2)) (.br (nzp (gP m2 x 2)) (.br (okS m2 (gP m2 x 2) 3 1) (.letm (wrL m2 (gP m2 x 2) 3 [(pv (gP m2 x 3) 0)]) (fun m3 => (.leaf (.memo (.u (.c (.lb true))) m3)))) (.no 72)) (.no 76)) (.no 75)) (.no 70)) (.no 76)) (.no 75)) (.no 70)) (.no 76)) (.no 75))) (.no 78)) (.no 70)) (.no 76)) (.no 75))
def T_lremove (m : Mem) (t : Int) (hs hg : Int) : Tr:=(.req (lhasOK m t hs hg) (.br (bNot (lhasV m t hs hg)) (.leaf (.memo (.u (.c (.lb false))) m)) (.br (nzp t) (.br (nzp t) (.br (okL m t 0 [(.raw (.map (.none)))]) (.req ((Go.Maps.Keyed Try.prog 29) ∧ ((okM Try.prog 29 m (pl (mcell m t 0))) ∧ ((okKey Try.prog 29 (.agg (.mk [(.int .i64 hs),(.int .u64 hg)]))) ∧ (((okU (.c .nilp) (lkZ m (pl (mcell m t 0)) (.agg (.mk [(.int .i64 hs),(.int .u64 hg)])) (.pointer (.none)))) : Bool) = true)))) (.br (nzp t) (.br (nzp t) (.br (okL m t 0 [(.raw (.map (.none)))]) (.req ((Go.Maps.Keyed Try.prog 29) ∧ ((okM Try.prog 29 m (pl (mcell m t 0))) ∧ (okKey Try.prog 29 (.agg (.mk [(.int .i64 hs),(.int .u64 hg)]))))) (.letm (mdel m (pl (mcell m t 0)) (.agg (.mk [(.int .i64 hs),(.int .u64 hg)]))) (fun m1 => (.br (nzp (vP (lkZ m (pl (mcell m t 0)) (.agg (.mk [(.int .i64 hs),(.int .u64 hg)])) (.pointer (.none))))) (.br (nzp (vP (lkZ m (pl (mcell m t 0)) (.agg (.mk [(.int .i64 hs),(.int .u64 hg)])) (.pointer (.none))))) (.br (okL m1 (vP (lkZ m (pl (mcell m t 0)) (.agg (.mk [(.int .i64 hs),(.int .u64 hg)])) (.pointer (.none)))) 3 [.nilp]) (.br (cmpOK m1 (gP m1 (vP (lkZ m (pl (mcell m t 0)) (.agg (.mk [(.int .i64 hs),(.int .u64 hg)])) (.pointer (.none)))) 3) 0) (.br (peq (gP m1 (vP (lkZ m (pl (mcell m t 0)) (.agg (.mk [(.int .i64 hs),(.int .u64 hg)])) (.pointer (.none)))) 3) 0) (.br (nzp (vP (lkZ m (pl (mcell m t 0)) (.agg (.mk [(.int .i64 hs),(.int .u64 hg)])) (.pointer (.none))))) (.br (nzp (vP (lkZ m (pl (mcell m t 0)) (.agg (.mk [(.int .i64 hs),(.int .u64 hg)])) (.pointer (.none))))) (.br (okL m1 (vP (lkZ m (pl (mcell m t 0)) (.agg (.mk [(.int .i64 hs),(.int .u64 hg)])) (.pointer (.none)))) 2 [.nilp]) (.br (nzp t) (.br (nzp t) (.br (okS m1 t 1 1) (.letm (wrL m1 t 1 [(pv (gP m1 (vP (lkZ m (pl (mcell m t 0)) (.agg (.mk [(.int .i64 hs),(.int .u64 hg)])) (.pointer (.none)))) 2) 0)]) (fun m2 => (T_lrem2 m2 t (vP (lkZ m (pl (mcell m t 0)) (.agg (.mk [(.int .i64 hs),(.int .u64 hg)])) (.pointer (.none))))))) (.no 72)) (.no 76)) (.no 75)) (.no 70)) (.no 76)) (.no 75)) (.br (nzp (vP (lkZ m (pl (mcell m t 0)) (.agg (.mk [(.int .i64 hs),(.int .u64 hg)])) (.pointer (.none))))) (.br (nzp (vP (lkZ m (pl (mcell m t 0)) (.agg (.mk [(.int .i64 hs),(.int .u64 hg)])) (.pointer (.none))))) (.br (okL m1 (vP (lkZ m (pl (mcell m t 0)) (.agg (.mk [(.int .i64 hs),(.int .u64 hg)])) (.pointer (.none)))) 3 [.nilp]) (.br (nzp (vP (lkZ m (pl (mcell m t 0)) (.agg (.mk [(.int .i64 hs),(.int .u64 hg)])) (.pointer (.none))))) (.br (nzp (vP (lkZ m (pl (mcell m t 0)) (.agg (.mk [(.int .i64 hs),(.int .u64 hg)])) (.pointer (.none))))) (.br (okL m1 (vP (lkZ m (pl (mcell m t 0)) (.agg (.mk [(.int .i64 hs),(.int .u64 hg)])) (.pointer (.none)))) 2 [.nilp]) (.br (nzp (gP m1 (vP (lkZ m (pl (mcell m t 0)) (.agg (.mk [(.int .i64 hs),(.int .u64 hg)])) (.pointer (.none)))) 3)) (.br (nzp (gP m1 (vP (lkZ m (pl (mcell m t 0)) (.agg (.mk [(.int .i64 hs),(.int .u64 hg)])) (.pointer (.none)))) 3)) (.br (okS m1 (gP m1 (vP (lkZ m (pl (mcell m t 0)) (.agg (.mk [(.int .i64 hs),(.int .u64 hg)])) (.pointer (.none)))) 3) 2 1) (.letm (wrL m1 (gP m1 (vP (lkZ m (pl (mcell m t 0)) (.agg (.mk [(.int .i64 hs),(.int .u64 hg)])) (.pointer (.none)))) 3) 2 [(pv (gP m1 (vP (lkZ m (pl (mcell m t 0)) (.agg (.mk [(.int .i64 hs),(.int .u64 hg)])) (.pointer (.none)))) 2) 0)]) (fun m2 => (T_lrem2 m2 t (vP (lkZ m (pl (mcell m t 0)) (.agg (.mk [(.int .i64 hs),(.int .u64 hg)])) (.pointer (.none))))))) (.no 72)) (.no 76)) (.no 75)) (.no 70)) (.no 76)) (.no 75)) (.no 70)) (.no 76)) (.no 75))) (.no 78)) (.no 70)) (.no 76)) (.no 75))))) (.no 70)) (.no 76)) (.no 75))) (.no 70)) (.no 76)) (.no 75))))
theorem lrem2_walk {m m2 : Mem} {t q : Nat} {A B : LN} {x : Nat × Int × Int} {es : Array MapEntry} {k : Nat} (hq : m2 q = some (.map es k)) (he : Ents es.toList (nds (A ++ B))) (hsz : es.size = (A ++ B).length)
    (ht : m2 t = some (hdO q (hdA (A ++ B) 0) (laA 0 (A ++ x :: B)))) (hA : Ch m2 0 A (hdA B 0)) (hx : m2 x.1 = some (lkO x.2.1 x.2.2 (hdA B 0) (laA 0 A))) (hB : Ch m2 ((x.1 : Int) + 1) B 0)
    (hnd : ((A ++ x :: B).map (·.1)).Nodup) (htq : t ≠ q) (htL : t ∉ (A ++ x :: B).map (·.1)) (hqL : q ∉ (A ++ x :: B).map (·.1)) (hf : ∀ c,m c ≠ none → ¬ dlD t q (A ++ x :: B) c → m2 c = m c) :
    (T_lrem2 m2 ((t : Int) + 1) ((x.1 : Int) + 1)).sat (isMemo fun w y => w = .u (.c (.lb true)) ∧ DL y t q (A ++ B) ∧ keepD t q (A ++ x :: B) m y):=by
  unfold T_lrem2
  have hnd2 : ((A ++ B).map (·.1)).Nodup:=by
    refine hnd.sublist ?_
    rw [List.map_append,List.map_append]
    exact List.Sublist.append (List.Sublist.refl _) (by simp)
  obtain ⟨j1,j2,j3⟩:=nd_okL hx
  obtain ⟨g1,g2,_⟩:=nd_gP hx (hdA_nn (Int.le_refl 0)) (laA_nn (Int.le_refl 0))
  rw [brT (nz_p _),brT (nz_p _),brT j1,brT (cmp_zero _ _),g1,g2]
  cases B with
  | nil =>
    have hl : laA 0 (A ++ x :: []) = (x.1 : Int) + 1:=laA_snoc A x 0
    rw [brT (by rfl),brT (nz_p _),brT (nz_p _),brT j2,brT (nz_p _),brT (nz_p _),brT (hd_okS ht).2,sat_letm,(hd_wr ht _).2]
    refine ⟨rfl,⟨?_,⟨es,k,?_,he,hsz⟩,?_,hnd2⟩,fun c hc hd => ?_⟩
    · rw [alO_self,List.append_nil]
    · rw [alO_ne _ (Ne.symm htq)];exact hq
    · rw [List.append_nil]
      exact Ch_congr (fun c hc => alO_ne _ (by rintro rfl;exact htL (by rw [List.map_append];exact List.mem_append_left _ hc))) hA
    · rw [alO_ne _ (fun e => hd (.inl e))];exact hf c hc hd
  | cons z B =>
    have hzL : z.1 ∈ (A ++ x :: z :: B).map (·.1):=by simp
    have hz:=hB.1
    have hzt : z.1 ≠ t:=fun e => htL (e ▸ hzL)
    have hzq : z.1 ≠ q:=fun e => hqL (e ▸ hzL)
    have hp : hdA (z :: B) 0 = (z.1 : Int) + 1:=rfl
    rw [hp,brF (pz_p _),brT (nz_p _),brT (nz_p _),brT j1,brT (nz_p _),brT (nz_p _),brT j2,brT (nz_p _),brT (nz_p _),brT (nd_okS hz).2,sat_letm,(nd_wr hz _).2]
    have hndz:=hnd2
    rw [List.map_append,List.map_cons,List.nodup_append,List.nodup_cons] at hndz
    refine ⟨rfl,⟨?_,⟨es,k,?_,he,hsz⟩,?_,hnd2⟩,fun c hc hd => ?_⟩
    · rw [alO_ne _ (Ne.symm hzt),ht]
      congr 2
      rw [laA_app,laA_app];rfl
    · rw [alO_ne _ (Ne.symm hzq)];exact hq
    · rw [Ch_app]
      refine ⟨Ch_congr (fun c hc => alO_ne _ (by rintro rfl;exact hndz.2.2 _ hc _ (by simp) rfl)) (by rw [hp] at hA;exact hA),alO_self _ _ _,Ch_congr (fun c hc => alO_ne _ (by rintro rfl;exact hndz.2.1.1 hc)) hB.2⟩
    · rw [alO_ne (a:=z.1) (b:=c) _ (fun e => hd (.inr (.inr (e ▸ hzL))))];exact hf c hc hd
theorem lremove_walk {m : Mem} {t q : Nat} {L : LN} (h : DL m t q L) {s g : Int} (h1 : inI s) (h2 : inU g) :
    (T_lremove m ((t : Int) + 1) s g).sat (isMemo fun w x => lremPost m ⟨t,q,L⟩ s g (yBoo w x) ∧ ∀ ρ,w.den ρ = V.den ρ (.u (.c (.sb (hdB (yBoo w x).b))))):=by
  unfold T_lremove
  obtain ⟨l1,l2⟩:=lhas_spec h h1 h2
  rw [sat_req]
  refine ⟨l1,?_⟩
  by_cases hx : (s,g) ∈ hsL L
  rotate_left
  · have : lhasV m ((t : Int) + 1) s g = false:=by
      cases e : lhasV m ((t : Int) + 1) s g with
      | false => rfl
      | true => exact absurd (l2.1 e) hx
    rw [this,brT (by rfl)]
    exact ⟨.inl ⟨hx,rfl,rfl⟩,fun ρ => rfl⟩
  obtain ⟨k1,k2,k3⟩:=hd_okL h.hd
  rw [l2.2 hx,brF (by rfl),brT (nz_p t),brT (nz_p t),brT k1]
  obtain ⟨x,hx1,hx2⟩:=List.mem_map.1 hx
  simp only [Prod.mk.injEq] at hx2
  obtain ⟨rfl,rfl⟩:=hx2
  simp only [h.pc,h.hit hx1,vP_pv (show (0 : Int) ≤ (x.1 : Int) + 1 by omega)]
  rw [sat_req]
  refine ⟨⟨keyed29,h.okm,okKey29 h1 h2,by simp [okU,okC,isP_pv]⟩,?_⟩
  rw [brT (nz_p t),brT (nz_p t),brT k1,sat_req]
  refine ⟨⟨keyed29,h.okm,okKey29 h1 h2⟩,?_⟩
  obtain ⟨A,B,rfl⟩:=List.append_of_mem hx1
  obtain ⟨es,k,m1,m2,m3⟩:=h.mp
  have hnn : ∀ y ∈ nds (A ++ x :: B),0 ≤ y.1:=by
    intro y hy
    obtain ⟨z,_,rfl⟩:=List.mem_map.1 hy
    simp only;omega
  have hnod : ((nds (A ++ x :: B)).map (·.1)).Nodup:=by
    have e : (nds (A ++ x :: B)).map (·.1) = ((A ++ x :: B).map (·.1)).map fun a : Nat => ((a : Int) + 1):=by unfold nds;rw [List.map_map,List.map_map];rfl
    rw [e]
    refine List.Pairwise.map _ (fun a b hab => ?_) h.nd
    intro e;exact hab (by omega)
  obtain ⟨i,hi,hE⟩:=m2.del hnod hnn (j:=A.length) (p:=(x.1 : Int) + 1) (s:=x.2.1) (g:=x.2.2) (by unfold nds;simp)
  rw [nds_erase] at hE
  have hil:=(efind_lt hi).2
  rw [sat_letm,mdel_at m1 hi]
  have hEl : (es.eraseIdxIfInBounds i).toList = es.toList.eraseIdx i:=by simp
  have hsz : (es.eraseIdxIfInBounds i).size = (A ++ B).length:=by
    have : (es.eraseIdxIfInBounds i).toList.length = (es.toList.eraseIdx i).length:=by rw [hEl]
    rw [List.length_eraseIdx_of_lt (by omega)] at this
    simp only [Array.length_toList] at this
    rw [this,m3];simp
  rw [← hEl] at hE
  have htq:=h.tq
  have htL:=h.t_no
  have hqL:=h.q_no
  generalize hM1 : alO m q (.map (es.eraseIdxIfInBounds i) k) = M1
  have o1 : ∀ c,c ≠ q → M1 c = m c:=fun c hc => by rw [← hM1,alO_ne _ hc]
  have q1 : M1 q = some (.map (es.eraseIdxIfInBounds i) k):=by rw [← hM1,alO_self]
  have t1 : M1 t = some (hdO q (hdA (A ++ x :: B) 0) (laA 0 (A ++ x :: B))):=by rw [o1 t htq];exact h.hd
  have hch : Ch M1 0 (A ++ x :: B) 0:=Ch_congr (fun c hc => o1 c (by rintro rfl;exact hqL hc)) h.ch
  have hxL : x.1 ∈ (A ++ x :: B).map (·.1):=by simp
  have hxq : x.1 ≠ q:=fun e => hqL (e ▸ hxL)
  have hxt : x.1 ≠ t:=fun e => htL (e ▸ hxL)
  have x1:=hch.at'
  rw [Ch_app] at hch
  obtain ⟨j1,j2,j3⟩:=nd_okL x1
  obtain ⟨g1,g2,_⟩:=nd_gP x1 (hdA_nn (Int.le_refl 0)) (laA_nn (Int.le_refl 0))
  rw [brT (nz_p _),brT (nz_p _),brT j2,brT (cmp_zero _ _),g1,g2]
  have fin : ∀ M2 : Mem,(T_lrem2 M2 ((t : Int) + 1) ((x.1 : Int) + 1)).sat (isMemo fun w y => w = .u (.c (.lb true)) ∧ DL y t q (A ++ B) ∧ keepD t q (A ++ x :: B) m y) →
      (T_lrem2 M2 ((t : Int) + 1) ((x.1 : Int) + 1)).sat (isMemo fun w y => lremPost m ⟨t,q,A ++ x :: B⟩ x.2.1 x.2.2 (yBoo w y) ∧ ∀ ρ,w.den ρ = V.den ρ (.u (.c (.sb (hdB (yBoo w y).b))))):=fun M2 hM => by
    refine sat_mono (fun l hl => ?_) hM
    cases l with
    | memo w y =>
      obtain ⟨rfl,d1,d2⟩:=hl
      exact ⟨.inr ⟨A,x,B,rfl,rfl,rfl,rfl,d1,d2⟩,fun ρ => rfl⟩
    | _ => exact hl.elim
  have hf1 : ∀ c,m c ≠ none → ¬ dlD t q (A ++ x :: B) c → M1 c = m c:=fun c hc hd => o1 c fun e => hd (.inr (.inl e))
  rcases List.eq_nil_or_concat A with e | ⟨A',y,e⟩
  · subst e
    have hl0 : laA 0 ([] : LN) = 0:=rfl
    rw [hl0,brT (by rfl),brT (nz_p _),brT (nz_p _),brT j1,brT (nz_p _),brT (nz_p _),brT (hd_okS t1).1,sat_letm,(hd_wr t1 _).1]
    refine fin _ (lrem2_walk (es:=es.eraseIdxIfInBounds i) (k:=k) ?_ hE hsz ?_ trivial ?_ ?_ h.nd htq htL hqL fun c hc hd => ?_)
    · rw [alO_ne _ (Ne.symm htq)];exact q1
    · rw [alO_self];rfl
    · rw [alO_ne _ hxt];exact x1
    · refine Ch_congr (fun c hc => alO_ne _ ?_) hch.2.2
      rintro rfl;exact htL (by simp only [List.nil_append,List.map_cons,List.mem_cons];exact .inr hc)
    · rw [alO_ne _ (fun e => hd (.inl e))];exact hf1 c hc hd
  · rw [List.concat_eq_append] at e
    subst e
    have hyL : y.1 ∈ (A' ++ [y] ++ x :: B).map (·.1):=by simp
    have hyq : y.1 ≠ q:=fun e => hqL (e ▸ hyL)
    have hyt : y.1 ≠ t:=fun e => htL (e ▸ hyL)
    have hla : laA 0 (A' ++ [y]) = (y.1 : Int) + 1:=laA_snoc A' y 0
    have hnd:=h.nd
    rw [List.map_append,List.map_append,List.map_cons,List.nodup_append,List.nodup_append,List.nodup_cons] at hnd
    obtain ⟨⟨n1,n2,n3⟩,⟨n4,n5⟩,n6⟩:=hnd
    have hxy : x.1 ≠ y.1:=fun e => n6 y.1 (by simp) x.1 (by simp) e.symm
    have hchA:=hch.1
    rw [Ch_app] at hchA
    have y1:=hchA.2.1
    rw [hla,brF (pz_p _),brT (nz_p _),brT (nz_p _),brT j2,brT (nz_p _),brT (nz_p _),brT j1,brT (nz_p _),brT (nz_p _),brT (nd_okS y1).1,sat_letm,(nd_wr y1 _).1]
    refine fin _ (lrem2_walk (es:=es.eraseIdxIfInBounds i) (k:=k) ?_ hE hsz ?_ ?_ ?_ ?_ h.nd htq htL hqL fun c hc hd => ?_)
    · rw [alO_ne _ (Ne.symm hyq)];exact q1
    · rw [alO_ne _ (Ne.symm hyt),t1]
      congr 2
      rw [hdA_app,hdA_app,hdA_app,hdA_app];cases A' <;> rfl
    · rw [Ch_app]
      refine ⟨Ch_congr (fun c hc => alO_ne _ (by rintro rfl;exact n3 _ hc _ (by simp) rfl)) hchA.1,alO_self _ _ _,trivial⟩
    · rw [alO_ne _ hxy];exact x1
    · have:=hch.2.2
      refine Ch_congr (fun c hc => alO_ne _ ?_) this
      rintro rfl
      exact n6 y.1 (by simp) y.1 (List.mem_cons_of_mem _ hc) rfl
    · rw [alO_ne (a:=y.1) (b:=c) _ (fun e => hd (.inr (.inr (e ▸ hyL))))];exact hf1 c hc hd
def lremoveP (m : Mem) (t hs hg : Int) : Prop:=∃ G : DG,G.is m t ∧ inI hs ∧ inU hg
def lremoveQ (m : Mem) (t hs hg : Int) (y : Vars) : Prop:=∀ G : DG,(G.is m t ∧ inI hs ∧ inU hg) → lremPost m G hs hg y
def s_lremove : Sum:=memSum 65 fun m a => match a with | [a0,a1] => (match ptrOf a0,hanOf a1 with | some t,some (hs,hg) => some ⟨lremoveP m t hs hg,lremoveQ m t hs hg,fun y => .u (.c (.sb (hdB y.b)))⟩ | _,_ => none) | _ => none
theorem t_lremove (m : Mem) (t : Int) (hs hg : Int) : runm Try.prog [s_lhas] (drawx Try.prog [s_lhas]) 300 65 [.u (.c (.np t 0)),.u (.agg [.si .i64 hs,.si .u64 hg])] m [142,140,137] = T_lremove m t hs hg:=by kernel_rfl
theorem s_lremove_ok : SumOK Try.prog s_lremove:=by
  refine memSum_ok ⟨_,Try.func65,by kernel_rfl⟩ fun m args ms h hp hw ρ w hm => ?_
  split at h
  · split at h
    · rename_i a0 a1 _ _ t hs hg h0 h1
      cases h
      refine mm_ghostY nameOK (okc s_lhas_ok okn) (dOK (okc s_lhas_ok okn)) 300 _ m _ (t_lremove m t hs hg) yBoo hp (fun G hG => ?_) ρ w hm (by simp only [List.map_cons,List.map_nil,ptrOf_den h0,hanOf_den h1])
      obtain ⟨⟨rfl,g1⟩,g2,g3⟩:=hG
      refine sat_mono (fun l hl => ?_) (lremove_walk g1 g2 g3)
      cases l with
      | memo v x => exact ⟨hl.1,by unfold yBoo;split <;> rfl,hl.2⟩
      | _ => exact hl.elim
    · cases h
  · cases h
end Go.Proofs.Ytnlohongffpkpaa.T16
end
