/- Layer 16: All: a range over a tree's iterator. A text of the session's own, after the kit's worked walk of such an iterator. -/
import Derived.RangeFuncKeeps
import Derived.RangeFuncWrites
import Derived.RangeFuncBound
import Derived.RangeFuncLeaves
import Derived.Shelf.Abstract
import Derived.WalkKit
import Derived.OwnWalkIn
import Derived.TacticsInMore
import Derived.Maps.AppendAt
import Derived.Test.YtnlohongffpkpaaT16K
namespace Go.Proofs.Ytnlohongffpkpaa.T16
open Go Go.RowKit Go.Shelf Go.Proofs.Ytnlohongffpkpaa.Sx Go.Proofs
set_option linter.unusedVariables false
set_option linter.unusedSimpArgs false

attribute [local go_sem] Oper.semAt_some

theorem room_of_none {F : Fence} (hd : F.depth = none) (k : Nat) : F.room k := fun d h => by rw [hd] at h; cases h
theorem RoundIn.anyDepth {F : Fence} (hd : F.depth = none) {m m' : Nat} {P : Program} {l : Nat} {f : FuncId} {tmps : Array Value} {assign body : Code} {w : World} {R : Ending → World → Prop}
    (h : RoundIn F m P l f tmps assign body w R) : RoundIn F m' P l f tmps assign body w R := ⟨h.1, fun c cs _ => h.2 c cs (room_of_none hd _)⟩
theorem YieldAt.anyDepth {F : Fence} (hd : F.depth = none) {m : Nat} (m' : Nat) {P : Program} {l : Nat} {args : Array Value} {W : World} {R : Ending → World → Prop} (h : YieldAt F m P l args W R) : YieldAt F m' P l args W R := by
  obtain ⟨fn, tmps, assign, body, hy, hR⟩ := h
  exact ⟨fn, tmps, assign, body, hy, RoundIn.anyDepth hd hR⟩

/-- the handles of a tree, in order -/
def hans (t : T) : List (Int × Int) := (nodes t).map fun x => (x.2.1, x.2.2)
abbrev hV (x : Int × Int) : Value := .agg #[.int .i64 x.1, .int .u64 x.2]
/-- a tree lies in the heap, below a border -/
def InW (n₀ : Nat) (W : World) : T → Prop
  | .nil => True
  | .nd p s g c l r => ∃ b : Nat, p = (b : Int) + 1 ∧ b < n₀ ∧ W.cell? ⟨b, 0, none⟩ = some (.int .i64 s) ∧ W.cell? ⟨b, 1, none⟩ = some (.int .u64 g) ∧ W.cell? ⟨b, 2, none⟩ = some (pv l.ptr 0) ∧ W.cell? ⟨b, 3, none⟩ = some (pv r.ptr 0) ∧ InW n₀ W l ∧ InW n₀ W r
theorem InW.below {n₀ : Nat} {A B : World} (h : Below n₀ A B) : ∀ {t : T}, InW n₀ A t → InW n₀ B t
  | .nil, _ => trivial
  | .nd p s g c l r, ⟨b, hp, hb, c0, c1, c2, c3, hl, hr⟩ => ⟨b, hp, hb, (h.cell (p := ⟨b, 0, none⟩) hb).trans c0, (h.cell (p := ⟨b, 1, none⟩) hb).trans c1, (h.cell (p := ⟨b, 2, none⟩) hb).trans c2, (h.cell (p := ⟨b, 3, none⟩) hb).trans c3, InW.below h hl, InW.below h hr⟩
theorem pv_succ (b off : Nat) : pv ((b : Int) + 1) off = .pointer (some ⟨b, off, none⟩) := by
  unfold pv; rw [show (((b : Int) + 1).toNat) = b + 1 by omega]

/-- an operation that is passed over -/
theorem wpListIn_pass {F : Fence} {n : Nat} {P : Program} {ops : Array Oper} {Q : Exit → Act → World → Prop} {o : Oper} {rest : List Oper} {a : Act} {w : World} (hw : Region.wanted o (yielded ops a.tmps) = false) (ha : ∀ f, o.about P w a.eval = some f → F.fn f) (h : wpListIn F n P ops Q rest (a.put o.dst undef) w) : wpListIn F n P ops Q (o :: rest) a w := by
  simp only [wpListIn, hw]
  exact ⟨ha, h⟩
set_option maxRecDepth 100000 in
set_option maxHeartbeats 4000000 in
theorem tells_in (F : Fence) (hd : F.depth = none) (h79 : F.fn 79) (hro : F.round = none) (l n₀ N : Nat) (J Jx : List (Int × Int) → World → Prop)
    (hY : ∀ m pre x W, J pre W → pre.length < N → YieldAt F m Try.prog l #[hV x] W fun e W' =>
      (e = .returned (.bool true) ∧ J (pre ++ [x]) W' ∧ Below n₀ W W') ∨ (e = .returned (.bool false) ∧ Jx (pre ++ [x]) W')) (T : T) :
    ∀ (n : Nat) (pre : List (Int × Int)) (W : World), InW n₀ W T → J pre W → pre.length + (hans T).length ≤ N →
      CallsIn F n Try.prog 79 #[pv T.ptr 0, .func (.yield l) #[] #[]] W fun e W' =>
        (e = .returned (.bool true) ∧ J (pre ++ hans T) W' ∧ Below n₀ W W') ∨ (e = .returned (.bool false) ∧ ∃ q, q <+: hans T ∧ Jx (pre ++ q) W') := by
  induction T with
  | nil =>
    intro n pre W ht hJ _
    rw [show pv T.nil.ptr 0 = .pointer none from rfl]
    refine callsIn_of_wp Try.func79 rfl h79 ?_ hro
    simp only [Try.ntmps79, List.size_toArray, List.length_cons, List.length_nil, Nat.reduceAdd, Nat.reduceSub, Array.replicate_succ, Array.replicate_zero, List.push_toArray, List.append_toArray, List.nil_append, List.cons_append]
    gi_wp2_with (refine wpListIn_pass (by rfl) (by intro f hf; first | (cases (show (none : Option FuncId) = some f from hf); done) | (cases (show some 79 = some f from hf); exact h79)) ?_; simp only [go_sem])
    go_ret
    exact .inl ⟨rfl, by simpa [hans, nodes] using hJ, Below.refl _ _⟩
  | nd p s g c tl tr ihl ihr =>
    intro n pre W ht hJ hN
    obtain ⟨b, rfl, hb, c0, c1, c2, c3, hl, hr⟩ := ht
    have hdd : ∀ k : Nat, (F.depth.isSome = true → 1 ≤ k) := fun k h => by rw [hd] at h; cases h
    have eT : hans (.nd ((b : Int) + 1) s g c tl tr) = hans tl ++ (s, g) :: hans tr := by simp [hans, nodes]
    rw [eT] at hN ⊢
    simp only [List.length_append, List.length_cons] at hN
    rw [show pv (T.nd ((b : Int) + 1) s g c tl tr).ptr 0 = .pointer (some ⟨b, 0, none⟩) from pv_succ b 0]
    have hy2 : ∀ W1, J (pre ++ hans tl) W1 → Below n₀ W W1 → YieldAt F (n - 1) Try.prog l #[hV (s, g)] W1 fun e W2 =>
        (e = .returned (.bool true) ∧ J (pre ++ hans tl ++ [(s, g)]) W2 ∧ Below n₀ W W2 ∧ W2.cell? ⟨b, 3, none⟩ = some (pv tr.ptr 0) ∧ InW n₀ W2 tr) ∨ (e = .returned (.bool false) ∧ Jx (pre ++ hans tl ++ [(s, g)]) W2) := fun W1 hJ1 hb1 =>
      YieldAt.mono (hY (n - 1) _ (s, g) W1 hJ1 (by simp; omega)) fun e W2 h => h.elim
        (fun ⟨he, hj, hb2⟩ => .inl ⟨he, hj, hb1.trans hb2, ((hb1.trans hb2).cell (p := ⟨b, 3, none⟩) hb).trans c3, hr.below (hb1.trans hb2)⟩) .inr
    have ih1 := (ihl (n - 1) pre W hl hJ (by omega)).mono (R' := fun e W1 =>
        (e = .returned (.bool true) ∧ W1.cell? ⟨b, 0, none⟩ = some (.int .i64 s) ∧ W1.cell? ⟨b, 1, none⟩ = some (.int .u64 g) ∧ YieldAt F (n - 1) Try.prog l #[hV (s, g)] W1 fun e W2 =>
          (e = .returned (.bool true) ∧ J (pre ++ hans tl ++ [(s, g)]) W2 ∧ Below n₀ W W2 ∧ W2.cell? ⟨b, 3, none⟩ = some (pv tr.ptr 0) ∧ InW n₀ W2 tr) ∨ (e = .returned (.bool false) ∧ Jx (pre ++ hans tl ++ [(s, g)]) W2)) ∨
        (e = .returned (.bool false) ∧ ∃ q, q <+: hans tl ∧ Jx (pre ++ q) W1))
      (fun e W1 h => h.elim (fun ⟨he, hj, hb1⟩ => .inl ⟨he, (hb1.cell (p := ⟨b, 0, none⟩) hb).trans c0, (hb1.cell (p := ⟨b, 1, none⟩) hb).trans c1, hy2 W1 hj hb1⟩) .inr)
    clear hy2 ihl
    refine callsIn_of_wp Try.func79 rfl h79 ?_ hro
    simp only [Try.ntmps79, List.size_toArray, List.length_cons, List.length_nil, Nat.reduceAdd, Nat.reduceSub, Array.replicate_succ, Array.replicate_zero, List.push_toArray, List.append_toArray, List.nil_append, List.cons_append]
    gi_wp2_with (first
      | ((try refine ⟨hdd _, ?_⟩); gi_at_call 79; refine ih1.mono ?_; clear ih1; rintro e W1 (⟨rfl, c0', c1', fn, tmps, assign, body, hy, hR⟩ | ⟨rfl, q, hq, hx1⟩))
      | ((try refine ⟨hdd _, ?_⟩); refine hR.mono ?_; clear hR; rintro e W2 (⟨rfl, hJ2, hb2, c3', hr2⟩ | ⟨rfl, hx2⟩))
      | ((try refine ⟨hdd _, ?_⟩); gi_at_call 79; refine (ihr (n - 1) _ _ hr2 hJ2 (by simp; omega)).mono ?_; rintro e W3 (⟨rfl, hJ3, hb3⟩ | ⟨rfl, q, hq, hx3⟩))
      | (refine wpListIn_pass (by rfl) (by intro f hf; first | (cases (show (none : Option FuncId) = some f from hf); done) | (cases (show some 79 = some f from hf); exact h79)) ?_; simp only [go_sem]))
    · go_ret
      exact .inl ⟨rfl, by simpa [List.append_assoc] using hJ3, hb2.trans hb3⟩
    · go_ret
      obtain ⟨r, hr'⟩ := hq
      exact .inr ⟨rfl, hans tl ++ (s, g) :: q, ⟨r, by simp [← hr']⟩, by simpa [List.append_assoc] using hx3⟩
    · go_ret
      exact .inr ⟨rfl, hans tl ++ [(s, g)], ⟨hans tr, by simp⟩, by simpa [List.append_assoc] using hx2⟩
    · go_ret
      exact .inr ⟨rfl, q, hq.trans (by simp), hx1⟩

set_option maxHeartbeats 2000000 in
theorem each1_in (F : Fence) (hd : F.depth = none) (n : Nat) (h78 : F.fn 78) (h79 : F.fn 79) (hro : F.round = none) (l Bt n₀ : Nat) (T : T) (J Jx : List (Int × Int) → World → Prop)
    (hY : ∀ pre x W, J pre W → pre.length < (hans T).length → YieldAt F (n - 1) Try.prog l #[hV x] W fun e W' =>
      (e = .returned (.bool true) ∧ J (pre ++ [x]) W' ∧ Below n₀ W W') ∨ (e = .returned (.bool false) ∧ Jx (pre ++ [x]) W'))
    (W : World) (hBt : W.cell? ⟨Bt, 0, none⟩ = some (pv T.ptr 0)) (hT : InW n₀ W T) (h0 : J [] W) :
    CallsIn F n Try.prog 78 #[.func (.yield l) #[] #[], .pointer (some ⟨Bt, 0, none⟩)] W fun e W' => (∃ v, e = .returned v) ∧
      ((∃ ys, ys = hans T ∧ J ys W') ∨ (∃ pre, pre <+: hans T ∧ Jx pre W')) := by
  have hdd : ∀ k : Nat, (F.depth.isSome = true → 1 ≤ k) := fun k h => by rw [hd] at h; cases h
  have hp := tells_in F hd h79 hro l n₀ (hans T).length J Jx (fun m pre x W hj hl => YieldAt.anyDepth hd m (hY pre x W hj hl)) T (n - 1) [] W hT h0 (by simp)
  refine callsIn_of_wp Try.func78 rfl h78 ?_ hro
  simp only [Try.ntmps78, List.size_toArray, List.length_cons, List.length_nil, Nat.reduceAdd, Nat.reduceSub, Array.replicate_succ, Array.replicate_zero, List.push_toArray, List.append_toArray, List.nil_append, List.cons_append]
  gi_wp2_with ((try refine ⟨hdd _, ?_⟩); gi_at_call 79; refine hp.mono ?_; clear hp; rintro e W1 (⟨rfl, hJ1, _⟩ | ⟨rfl, q, hq, hx⟩))
  · go_end0
    exact ⟨⟨_, rfl⟩, .inl ⟨_, rfl, by simpa using hJ1⟩⟩
  · go_end0
    exact ⟨⟨_, rfl⟩, .inr ⟨q, hq, by simpa using hx⟩⟩

set_option maxHeartbeats 1000000 in
theorem each_in (F : Fence) (n : Nat) (h50 : F.fn 50) (hro : F.round = none) (p0 : Option Addr) (w : World) :
    CallsIn F n Try.prog 50 #[.pointer p0] w fun e w' => e = .returned (.func (.func 78) #[] #[.pointer (some ⟨w.heap.size, 0, none⟩)]) ∧ w' = w.alloc (.cells #[.pointer p0] 93) := by
  refine callsIn_of_wp Try.func50 rfl h50 ?_ hro
  simp only [Try.ntmps50, List.size_toArray, List.length_cons, List.length_nil, Nat.reduceAdd, Nat.reduceSub, Array.replicate_succ, Array.replicate_zero, List.push_toArray, List.append_toArray, List.nil_append, List.cons_append]
  gi_wp2
  go_ret
  exact ⟨rfl, rfl⟩

theorem each_stops (F : Fence) (hd : F.depth = none) (n : Nat) (h78 : F.fn 78) (h79 : F.fn 79) (hro : F.round = none) (Bt n₀ : Nat) (T : T) (w : World) (hBt : Bt < w.heap.size) (hn₀ : n₀ ≤ w.heap.size)
    (hc : w.cell? ⟨Bt, 0, none⟩ = some (pv T.ptr 0)) (hT : InW n₀ w T) :
    SeqStopsK F n Try.prog 78 #[.pointer (some ⟨Bt, 0, none⟩)] (fun x : Int × Int => #[hV x]) (Below n₀) (fun ys => ys = hans T) (fun pre => pre <+: hans T) (hans T).length w := fun l J Jx W hW _ _ hY h0 =>
  each1_in F hd n h78 h79 hro l Bt n₀ T J Jx hY W ((hW.cell (p := ⟨Bt, 0, none⟩) hBt).trans hc) (hT.below (hW.mono hn₀)) h0

def infoB (P : Program) (t sz by_ : Nat) : Bool := match P.info? t with
  | some i => (match i.zero with | some z => Nat.beq i.size sz && Nat.beq i.bytes by_ && Nat.beq z.cells.size sz | none => false)
  | none => false
theorem infoB_of {P : Program} {t sz by_ : Nat} (h : infoB P t sz by_ = true) : ∃ i z, P.info? t = some i ∧ i.zero = some z ∧ i.size = sz ∧ i.bytes = by_ ∧ z.cells.size = sz := by
  unfold infoB at h
  split at h
  · rename_i i hi
    split at h
    · rename_i z hz
      simp only [Bool.and_eq_true] at h
      exact ⟨i, z, hi, hz, Nat.eq_of_beq_eq_true h.1.1, Nat.eq_of_beq_eq_true h.1.2, Nat.eq_of_beq_eq_true h.2⟩
    · cases h
  · cases h
/-- the cells of handles -/
def hCells (l : List (Int × Int)) : List Value := l.flatMap fun x => [.int .i64 x.1, .int .u64 x.2]
theorem hCells_snoc (l : List (Int × Int)) (x : Int × Int) : hCells (l ++ [x]) = hCells l ++ [.int .i64 x.1, .int .u64 x.2] := by simp [hCells]
theorem cell_of_box {W : World} {B : Nat} {v : Value} {t : TypeId} (h : W.heap[B]? = some (.cells #[v] t (0, 0))) : W.cell? ⟨B, 0, none⟩ = some v ∧ W.frozen? ⟨B, 0, none⟩ = false := by
  constructor <;> simp [World.cell?, World.frozen?, h]
/-- what a round finds, and leaves -/
structure AllI (w : World) (lo : Loop) (pre : List (Int × Int)) (v : Value) (W : World) : Prop where
  box : W.heap[w.heap.size]? = some (.cells #[v] 35 (0, 0))
  row : W.ownsRow w.heap.size 29 2 v pre.length (hCells pre)
  below : Below w.heap.size w W
  loop : W.heap[w.heap.size + 3]? = some (.loop lo)
  df : W.heap[w.heap.size + 2]? = some (.deferred (some []))
theorem row_ne {W : World} {base : Nat} {v : Value} {n : Nat} {xs : List Value} (h : W.ownsRow base 29 2 v n xs) {j : Nat} {o : Obj} (hj : W.heap[j]? = some o) (ho : ∀ cur, o ≠ .cells cur 29 (0, 0)) : v.ownBlock = none ∨ v.ownBlock ≠ some j := by
  rcases h.2 with ⟨rfl, _⟩ | ⟨g, cap, cur, rfl, _, hg, _⟩
  · exact .inl rfl
  · refine .inr fun e => ?_
    simp only [Value.ownBlock, Option.some.injEq] at e
    subst e
    rw [hg] at hj; cases hj
    exact ho cur rfl
theorem AllI.turn {w W W' : World} {lo : Loop} {pre : List (Int × Int)} {v : Value} (h : AllI w lo pre v W) {r : Option Nat} (hg : W.grownBy W' r) (hr : ∀ k, r = some k → w.heap.size < k ∧ k ≠ w.heap.size + 2 ∧ k ≠ w.heap.size + 3) (hv : v.ownBlock = none ∨ v.ownBlock ≠ r) : AllI w lo pre v W' := by
  have lt : ∀ {k : Nat} {o : Obj}, W.heap[k]? = some o → k < W.heap.size := fun h => (Array.getElem?_eq_some_iff.1 h).1
  refine ⟨(hg.block _ (lt h.box) fun e => ?_).trans h.box, h.row.kept hg hv, h.below.grown hg h.below.size (fun k e => by have := hr k e; omega), (hg.block _ (lt h.loop) fun e => ?_).trans h.loop, (hg.block _ (lt h.df) fun e => ?_).trans h.df⟩
  · have := hr _ e.symm; omega
  · have := hr _ e.symm; omega
  · have := hr _ e.symm; omega
theorem AllI.put {w W : World} {lo : Loop} {pre : List (Int × Int)} {v : Value} (h : AllI w lo pre v W) (lo' : Loop) : AllI w lo' pre v (W.putObj (w.heap.size + 3) (.loop lo')) := by
  have lt : ∀ {k : Nat} {o : Obj}, W.heap[k]? = some o → k < W.heap.size := fun h => (Array.getElem?_eq_some_iff.1 h).1
  have hg := grownBy_putObj' W (w.heap.size + 3) (.loop lo')
  refine ⟨(World.putObj_heap_other (by omega)).trans h.box, h.row.kept hg (row_ne h.row h.loop (fun cur e => by cases e)), h.below.grown hg h.below.size (fun k e => by cases e; omega), World.putObj_heap_same (lt h.loop), (World.putObj_heap_other (by omega)).trans h.df⟩

theorem all_loop {F : Fence} (hd : F.depth = none) {n : Nat} (h78 : F.fn 78) (h79 : F.fn 79) (hro : F.round = none) (h1 : 1 ≤ n) {T : T} {w w2 : World} {A B : Code} {Q : Exit → Act → World → Prop} {act : Act}
    (hev : act.eval (Operand.tmp 11) = .func (.func 78) #[] #[.pointer (some ⟨w.heap.size + 1, 0, none⟩)]) (hT : InW w.heap.size w T) (hs2 : w2.heap.size = w.heap.size + 2) (hb2 : Below w.heap.size w w2)
    (hbox : w2.heap[w.heap.size]? = some (.cells #[.slice none 0 0] 35 (0, 0))) (hpt : w2.cell? ⟨w.heap.size + 1, 0, none⟩ = some (pv T.ptr 0))
    (hround : ∀ (lo : Loop) (pre : List (Int × Int)) (x : Int × Int) (v : Value) (W : World), lo.state = .ready → lo.pending = none → AllI w lo pre v W → pre.length < (hans T).length →
      A.wpIn (F.inRound (w.heap.size + 3)) (n - 1 - 1) Try.prog (Exit.then (fun a₁ w₁ => ∃ w₂, (Instr.beginRound (w.heap.size + 3)).run Try.prog w₁ = .ok () w₂ ∧ B.wpIn (F.inRound (w.heap.size + 3)) (n - 1 - 1) Try.prog (roundPost Try.prog (w.heap.size + 3)
        (fun e W' => e = .returned (.bool true) ∧ (∃ v', AllI w lo (pre ++ [x]) v' W') ∧ W.heap.size ≤ W'.heap.size)) a₁ w₂) (fun _ _ _ => False)) { tmps := act.tmps.setIfInBounds 12 (hV x), defers := [] } W)
    (hdone : ∀ (lo : Loop) (v : Value) (W : World), AllI w lo (hans T) v W → Q .normal { act with defers := { target := .collected (w.heap.size + 2), args := #[] } :: act.defers } W) :
    (Code.rangeFunc (Operand.tmp 11) #[12] A B).wpIn F n Try.prog Q act w2 := by
  refine wpIn_rangeFunc ?_
  intro fn hfn
  rw [hro]
  obtain ⟨lo, hlo⟩ : ∃ lo : Loop, { state := .ready, pending := none, fn := fn, tmps := act.tmps, params := #[12], assign := A, body := B, defers := w2.heap.size } = lo := ⟨_, rfl⟩
  have l1 : lo.state = .ready := by rw [← hlo]
  have l2 : lo.pending = none := by rw [← hlo]
  have hent := run_enterLoop_outer (P := Try.prog) (w := w2) fn act.tmps #[12] A B
  rw [hlo] at hent
  obtain ⟨W1, hW1⟩ : ∃ W1, (w2.alloc (.deferred (some []))).alloc (.loop lo) = W1 := ⟨_, rfl⟩
  rw [hW1] at hent
  have hb1 : Below w.heap.size w W1 := by rw [← hW1]; exact (hb2.alloc (by omega) _).alloc (by simp; omega) _
  have hI1 : AllI w lo [] (.slice none 0 0) W1 := by
    refine ⟨?_, World.ownsRow_nil _ _ _ _, hb1, ?_, ?_⟩
    · rw [← hW1]; exact (Below.heap_alloc _ _ _ (by simp; omega)).trans ((Below.heap_alloc _ _ _ (by omega)).trans hbox)
    · rw [← hW1]; have := World.alloc_heap_new (w2.alloc (.deferred (some []))) (.loop lo); rwa [World.size_alloc, hs2] at this
    · rw [← hW1]; have := World.alloc_heap_new w2 (.deferred (some [])); rw [hs2] at this; exact (Below.heap_alloc _ _ _ (by simp; omega)).trans this
  have hpt1 : W1.cell? ⟨w.heap.size + 1, 0, none⟩ = some (pv T.ptr 0) := by
    rw [← hW1]; exact (World.cell?_of_block (Below.heap_alloc _ _ _ (by simp; omega))).trans ((World.cell?_of_block (Below.heap_alloc _ _ _ (by simp; omega))).trans hpt)
  rw [hs2] at hent
  refine ⟨w.heap.size + 2 + 1, [{ target := .collected (w.heap.size + 2), args := #[] }], W1, { target := .fn (.func 78) #[.pointer (some ⟨w.heap.size + 1, 0, none⟩)], args := #[.func (.yield (w.heap.size + 2 + 1)) #[] #[]] }, W1, 78,
    #[.func (.yield (w.heap.size + 2 + 1)) #[] #[], .pointer (some ⟨w.heap.size + 1, 0, none⟩)], W1, hent, ?_, ?_, ?_, fun _ => h1, ?_⟩
  · simp only [resolve, hev]
    simp [go_sem]
  · intro f' hf'; simp [Target.leads] at hf'; subst hf'; exact h78
  · have eg := enters_of Try.func78 (by kernel_rfl) rfl
    simp [invoke, go_sem, eg]
  · refine (each1_in F hd (n - 1) h78 h79 hro (w.heap.size + 3) (w.heap.size + 1) w.heap.size T (fun pre W => ∃ v, AllI w lo pre v W) (fun _ _ => False) ?_ W1 hpt1 (hT.below hb1) ⟨_, hI1⟩).mono ?_
    · rintro pre x W ⟨v, hI⟩ hlen
      have hy := run_yield (P := Try.prog) (args := #[hV x]) hI.loop (by rw [← hlo]; rfl)
      have e1 : lo.fn = fn := by rw [← hlo]
      have e2 : lo.assign = A := by rw [← hlo]
      have e3 : lo.body = B := by rw [← hlo]
      have e4 : (lo.params.zip #[hV x]).foldl (fun tmps (t, a) => tmps.setIfInBounds t a) lo.tmps = act.tmps.setIfInBounds 12 (hV x) := by rw [← hlo]; simp
      rw [e1, e2, e3, e4] at hy
      refine ⟨fn, _, A, B, hy, (roundIn_of_wpIn hfn (hround lo pre x v W l1 l2 hI hlen)).mono ?_⟩
      rintro e W' ⟨rfl, ⟨v', hI'⟩, hsz⟩
      exact .inl ⟨rfl, ⟨v', hI'⟩, ⟨hI'.below.os.trans hI.below.os.symm, hI'.below.tape.trans hI.below.tape.symm, hI'.below.output.trans hI.below.output.symm, hsz, fun k hk => (hI'.below.block k hk).trans (hI.below.block k hk).symm⟩⟩
    · rintro e W2 ⟨⟨v0, rfl⟩, (⟨xs, rfl, v, hI⟩ | ⟨pre, _, h⟩)⟩
      · have hend := run_endLoop (P := Try.prog) hI.loop (by rw [l1]; simp)
        rw [l2] at hend
        exact ⟨none, _, hend, hdone _ v _ (hI.put _)⟩
      · exact h.elim
set_option maxRecDepth 100000 in
set_option maxHeartbeats 4000000 in
theorem all_in (F : Fence) (hd : F.depth = none) (n : Nat) (h18 : F.fn 18) (h50 : F.fn 50) (h78 : F.fn 78) (h79 : F.fn 79) (hro : F.round = none) (hn : 3 ≤ n) (a : Nat) (T : T) (w : World) (ha : a < w.heap.size) (hc : w.cell? ⟨a, 0, none⟩ = some (pv T.ptr 0)) (hT : InW w.heap.size w T) (hlen : (hans T).length < 1099511627776) :
    CallsIn F n Try.prog 18 #[.pointer (some ⟨a, 0, none⟩)] w fun e w' => ∃ v, e = .returned v ∧ w'.ownsRow w.heap.size 29 2 v (hans T).length (hCells (hans T)) ∧ Below w.heap.size w w' := by
  have h1 : 1 ≤ n := by omega
  obtain ⟨i0, z0, hi0, hz0, hz1, hz2, hz3⟩ := infoB_of (P := Try.prog) (t := 29) (sz := 2) (by_ := 16) (by kernel_rfl)
  obtain ⟨p0, hp0⟩ : ∃ p0, pv T.ptr 0 = .pointer p0 := by unfold pv; split <;> exact ⟨_, rfl⟩
  rw [hp0] at hc
  refine callsIn_of_wp_marks Try.func18 rfl h18 ?_ hro
  simp only [Try.ntmps18, List.size_toArray, List.length_cons, List.length_nil, Nat.reduceAdd, Nat.reduceSub, Array.replicate_succ, Array.replicate_zero, List.push_toArray, List.append_toArray, List.nil_append, List.cons_append]
  have hc1 : (w.alloc (.cells #[.slice none 0 0] 35)).cell? ⟨a, 0, none⟩ = some (.pointer p0) := (World.cell?_of_block (Below.heap_alloc w _ a ha)).trans hc
  gi_wp2_with (gi_at_call 50; refine (each_in F (n - 1) h50 hro _ _).mono ?_; rintro e w' ⟨rfl, rfl⟩)
  refine all_loop hd h78 h79 hro h1 (T := T) (w := w) (by rfl) hT (by simp) (((Below.refl _ w).alloc (Nat.le_refl _) _).alloc (by simp) _) ?box ?pt ?round ?done
  case box => exact (Below.heap_alloc _ _ _ (by simp)).trans (World.alloc_heap_new w _)
  case pt =>
    rw [hp0]
    have := World.alloc_heap_new (w.alloc (Obj.cells #[Value.slice none 0 0] 35)) (.cells #[Value.pointer p0] 93)
    rw [World.size_alloc] at this
    exact (cell_of_box this).1
  case done =>
    intro lo v W hI
    obtain ⟨hc3, hf3⟩ := cell_of_box hI.box
    gi_wp2
    refine ⟨by simp, .inl ⟨_, _, rfl, run_takeDeferred hI.df, ?_⟩⟩
    have hg := grownBy_putObj' W (w.heap.size + 2) (.deferred none)
    exact ⟨_, results_tmp rfl _ _ _, v, rfl, hI.row.kept hg (row_ne hI.row hI.df (fun cur e => by cases e)), hI.below.grown hg hI.below.size (fun k e => by cases e; omega)⟩
  case round =>
    intro lo pre x v W l1 l2 hI hlen
    gi_wp2
    have hIa : AllI w lo pre v (W.alloc (.cells #[.int .i64 x.1, .int .u64 x.2] 29)) := hI.turn (World.grownBy_alloc W _ none) (fun k e => by cases e) (by cases v.ownBlock <;> simp)
    refine ⟨_, run_beginRound hIa.loop l1, ?_⟩
    have hIb := hIa.put { lo with state := .busy }
    have hbW : ((W.alloc (.cells #[.int .i64 x.1, .int .u64 x.2] 29)).putObj (w.heap.size + 3) (.loop { lo with state := .busy })).heap[W.heap.size]? = some (.cells #[.int .i64 x.1, .int .u64 x.2] 29 (0, 0)) := by
      have := (Array.getElem?_eq_some_iff.1 hI.loop).1
      exact (World.putObj_heap_other (by omega)).trans (World.alloc_heap_new W _)
    have hsW : ((W.alloc (.cells #[.int .i64 x.1, .int .u64 x.2] 29)).putObj (w.heap.size + 3) (.loop { lo with state := .busy })).heap.size = W.heap.size + 1 := by simp
    generalize (W.alloc (.cells #[.int .i64 x.1, .int .u64 x.2] 29)).putObj (w.heap.size + 3) (.loop { lo with state := .busy }) = W2 at hIb hbW hsW
    obtain ⟨hc2, hf2⟩ := cell_of_box hIb.box
    have hq0 : W2.cell? ⟨W.heap.size, 0, none⟩ = some (.int .i64 x.1) := by simp [World.cell?, hbW]
    have hq1 : W2.cell? ⟨W.heap.size, 1, none⟩ = some (.int .u64 x.2) := by simp [World.cell?, hbW]
    have hIc : AllI w { lo with state := .busy } pre v (W2.alloc (.cells #[.int .i64 x.1, .int .u64 x.2] 29)) := hIb.turn (World.grownBy_alloc W2 _ none) (fun k e => by cases e) (by cases v.ownBlock <;> simp)
    have hnew : ∀ (j : Nat) (u : Value), [Value.int .i64 x.1, Value.int .u64 x.2][j]? = some u → (W2.alloc (.cells #[.int .i64 x.1, .int .u64 x.2] 29)).cell? ((⟨W.heap.size + 1, 0, none⟩ : Addr).add j) = some u := by
      intro j u hu
      have hh := World.alloc_heap_new W2 (.cells #[.int .i64 x.1, .int .u64 x.2] 29)
      rw [hsW] at hh
      have t0 : (⟨W.heap.size + 1, 0, none⟩ : Addr).add 0 = ⟨W.heap.size + 1, 0, none⟩ := by simp [Addr.add]
      have t1 : (⟨W.heap.size + 1, 0, none⟩ : Addr).add 1 = ⟨W.heap.size + 1, 1, none⟩ := by simp [Addr.add]
      rcases j with _ | _ | j
      · simp only [List.getElem?_cons_zero] at hu; cases hu; rw [t0]; unfold World.cell?; rw [hh]; rfl
      · simp only [List.getElem?_cons_succ, List.getElem?_cons_zero] at hu; cases hu; rw [show (0 + 1) = 1 from rfl, t1]; unfold World.cell?; rw [hh]; rfl
      · simp at hu
    have hfin : ∀ v' w3, w3.ownsRow w.heap.size 29 2 v' (pre.length + 1) (hCells pre ++ [Value.int .i64 x.1, Value.int .u64 x.2]) → (W2.alloc (.cells #[.int .i64 x.1, .int .u64 x.2] 29)).grownBy w3 v.ownBlock →
        w3.heap[w.heap.size]? = some (.cells #[v] 35 (0, 0)) ∧ (∃ v1, v1 = v' ∧ AllI w { lo with state := .busy } (pre ++ [x]) v1 (w3.setCell ⟨w.heap.size, 0, none⟩ v')) ∧ W.heap.size ≤ (w3.setCell ⟨w.heap.size, 0, none⟩ v').heap.size := by
      intro v' w3 ho hg
      have lt : ∀ {W : World} {k : Nat} {o : Obj}, W.heap[k]? = some o → k < W.heap.size := fun h => (Array.getElem?_eq_some_iff.1 h).1
      have hkeep : ∀ {k : Nat} {o : Obj}, (W2.alloc (.cells #[.int .i64 x.1, .int .u64 x.2] 29)).heap[k]? = some o → (∀ cur, o ≠ .cells cur 29 (0, 0)) → w3.heap[k]? = some o := fun hk hno =>
        (hg.block _ (lt hk) fun e => by
          rcases row_ne hIc.row hk hno with e' | e'
          · rw [e'] at e; cases e
          · exact e' e.symm).trans hk
      have hb3 := hkeep hIc.box (fun cur e => by cases e)
      have hl3 := hkeep hIc.loop (fun cur e => by cases e)
      have hd3 := hkeep hIc.df (fun cur e => by cases e)
      have hI3 : AllI w { lo with state := .busy } (pre ++ [x]) v' (w3.setCell ⟨w.heap.size, 0, none⟩ v') := by
        have hset : ∀ k, k ≠ w.heap.size → (w3.setCell ⟨w.heap.size, 0, none⟩ v').heap[k]? = w3.heap[k]? := fun k hk => by simp [World.setCell, Array.getElem?_modify, Ne.symm hk]
        have hgs : w3.grownBy (w3.setCell ⟨w.heap.size, 0, none⟩ v') (some w.heap.size) := ⟨rfl, rfl, rfl, by simp [World.setCell], fun k _ hk => hset k (fun e => hk (by rw [e]))⟩
        refine ⟨?_, ?_, ?_, (hset _ (by omega)).trans hl3, (hset _ (by omega)).trans hd3⟩
        · simp [World.setCell, Array.getElem?_modify, hb3]
        · have hr : w3.ownsRow w.heap.size 29 2 v' (pre ++ [x]).length (hCells (pre ++ [x])) := by rw [hCells_snoc, List.length_append]; exact ho
          exact hr.kept hgs (row_ne hr hb3 (fun cur e => by cases e))
        · have := hIc.below.grown hg hIc.below.size (fun k e => (hIc.row.lt k e).1)
          exact this.grown hgs this.size (fun k e => by cases e; exact Nat.le_refl _)
      refine ⟨hb3, ⟨_, rfl, hI3⟩, ?_⟩
      have e1 := hg.size
      have e2 : (w3.setCell ⟨w.heap.size, 0, none⟩ v').heap.size = w3.heap.size := by simp [World.setCell]
      rw [e2]
      simp only [World.size_alloc] at e1
      omega
    gi_wp2_with (first
      | (gi_at_builtin; refine wpListIn_append_own _ rfl _ _ 35 rfl w.heap.size 29 i0 z0 2 16 Try.underlying35 hi0 hz0 hz1 hz2 hz3 (by decide) v pre.length (hCells pre) rfl hIc.row ⟨W.heap.size + 1, 0, none⟩ 1 1 [.int .i64 x.1, .int .u64 x.2] rfl rfl hnew (by simp [Value.oneCell']) (by simp only [maxLen]; omega) (by omega) (by have := hIc.below.size; omega) ?_; intro v' w3 hown' hg3 hnil3
         obtain ⟨hb3, ⟨v1, hv1, hI4⟩, hsz4⟩ := hfin v' w3 hown' hg3
         obtain ⟨hc3, hf3⟩ := cell_of_box hb3
         obtain ⟨g', cap', rfl⟩ : ∃ g' cap', v' = .slice (some ⟨g', 0, none⟩) (pre.length + 1) cap' := by
           rcases hown'.2 with ⟨_, h0⟩ | ⟨g', cap', _, h', _⟩
           · exact absurd h0 (by omega)
           · exact ⟨g', cap', h'⟩))
    subst hv1
    have hI5 := hI4.put { lo with state := .ready, pending := none }
    have elo : ({ lo with state := .ready, pending := none } : Loop) = lo := by cases lo; simp_all
    rw [elo] at hI5
    refine ⟨_, _, (run_endRound none hI4.loop).trans (congrArg (fun r => Result.ok (Value.bool true) (World.putObj _ (w.heap.size + 3) (.loop r))) elo), rfl, ⟨_, hI5⟩, ?_⟩
    exact Nat.le_trans hsz4 (grownBy_putObj' _ (w.heap.size + 3) (.loop lo)).size
theorem all_calls (a : Nat) (T : T) (w : World) (ha : a < w.heap.size) (hc : w.cell? ⟨a, 0, none⟩ = some (pv T.ptr 0)) (hT : InW w.heap.size w T) (hlen : (hans T).length < 1099511627776) :
    Calls Try.prog 18 #[.pointer (some ⟨a, 0, none⟩)] w fun e w' => ∃ v, e = .returned v ∧ w'.ownsRow w.heap.size 29 2 v (hans T).length (hCells (hans T)) ∧ Below w.heap.size w w' :=
  callsIn_wide.1 (all_in Fence.wide rfl 3 trivial trivial trivial trivial rfl (Nat.le_refl _) a T w ha hc hT hlen)
end Go.Proofs.Ytnlohongffpkpaa.T16
