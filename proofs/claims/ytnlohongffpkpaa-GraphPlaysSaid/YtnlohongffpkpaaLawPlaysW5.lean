import Derived.Test.YtnlohongffpkpaaLawPlaysW4
import Derived.LoopNIn
import Derived.LoopIn
import Derived.MapKept
import Derived.Deep.Slices
import Derived.Maps.RangeRun
import Derived.Sort.MapsRangeIn
set_option linter.unusedVariables false
set_option linter.unusedSimpArgs false
section
namespace Go.Proofs.Ytnlohongffpkpaa.T16
open Go Go.RowKit Go.Shelf Go.Proofs.Ytnlohongffpkpaa.Sx Go.Proofs
set_option linter.unusedVariables false
set_option linter.unusedSimpArgs false
attribute [local go_sem] Oper.semAt_some
def IsL (n₀ : Nat) (W : World) : Option Addr → List (Int × Int) → Prop
  | p,[] => p = none
  | p,x :: xs => ∃ (b : Nat) (q : Option Addr),p = some ⟨b,0,none⟩ ∧ b < n₀ ∧ W.cell? ⟨b,0,none⟩ = some (.int .i64 x.1) ∧ W.cell? ⟨b,1,none⟩ = some (.int .u64 x.2) ∧ W.cell? ⟨b,2,none⟩ = some (.pointer q) ∧ IsL n₀ W q xs
theorem IsL.below {n₀ : Nat} {A B : World} (h : Below n₀ A B) : ∀ {p : Option Addr} {xs : List (Int × Int)},IsL n₀ A p xs → IsL n₀ B p xs
  | _,[],hl => hl
  | _,_ :: _,⟨b,q,hp,hb,h0,h1,h2,hr⟩ => ⟨b,q,hp,hb,(h.cell (p:=⟨b,0,none⟩) hb).trans h0,(h.cell (p:=⟨b,1,none⟩) hb).trans h1,(h.cell (p:=⟨b,2,none⟩) hb).trans h2,IsL.below h hr⟩
theorem IsL.unique {n₀ : Nat} {W : World} : ∀ {p : Option Addr} {xs ys : List (Int × Int)},IsL n₀ W p xs → IsL n₀ W p ys → xs = ys
  | _,[],[],_,_ => rfl
  | _,[],_ :: _,h,⟨_,_,hp,_⟩ => by rw [h] at hp;cases hp
  | _,_ :: _,[],⟨_,_,hp,_⟩,h => by rw [h] at hp;cases hp
  | _,x :: xs,y :: ys,⟨b,q,hp,_,h0,h1,h2,hr⟩,⟨b',q',hp',_,h0',h1',h2',hr'⟩ => by
    rw [hp] at hp';cases hp'
    rw [h0] at h0';rw [h1] at h1';rw [h2] at h2'
    simp only [Option.some.injEq,Value.int.injEq,true_and,Value.pointer.injEq] at h0' h1' h2'
    subst h2'
    rw [IsL.unique hr hr',Prod.ext h0' h1']
open Classical in
noncomputable def leftL (n₀ : Nat) (W : World) (v : Value) : Nat :=
  if h : ∃ r : Option Addr × List (Int × Int),v = .pointer r.1 ∧ IsL n₀ W r.1 r.2 then (Classical.choose h).2.length else 0
theorem leftL_eq {n₀ : Nat} {W : World} {q : Option Addr} {xs : List (Int × Int)} (h : IsL n₀ W q xs) : leftL n₀ W (.pointer q) = xs.length:=by
  have hex : ∃ r : Option Addr × List (Int × Int),Value.pointer q = .pointer r.1 ∧ IsL n₀ W r.1 r.2:=⟨(q,xs),rfl,h⟩
  unfold leftL
  rw [dif_pos hex]
  obtain ⟨e,hl⟩:=Classical.choose_spec hex
  have e' : q = (Classical.choose hex).1:=by simpa using e
  rw [← e'] at hl
  rw [IsL.unique hl h]
set_option maxHeartbeats 1000000 in
theorem lend_in (F : Fence) (n : Nat) (h87 : F.fn 87) (hro : F.round = none) (tl : Nat) (p0 : Option Addr) (w : World) (hc : w.cell? ⟨tl,1,none⟩ = some (.pointer p0)) :
    CallsIn F n Try.prog 87 #[.pointer (some ⟨tl,0,none⟩),.bool true] w fun e w' => e = .returned (.pointer p0) ∧ w' = w:=by
  refine callsIn_of_wp Try.func87 rfl h87 ?_ hro
  simp only [Try.ntmps87,List.size_toArray,List.length_cons,List.length_nil,Nat.reduceAdd,Nat.reduceSub,Array.replicate_succ,Array.replicate_zero,List.push_toArray,List.append_toArray,List.nil_append,List.cons_append]
  gi_wp2
  go_ret
  exact ⟨rfl,rfl⟩
set_option maxRecDepth 100000 in
set_option maxHeartbeats 2000000 in
theorem leach1_in (F : Fence) (n : Nat) (h130 : F.fn 130) (h87 : F.fn 87) (hro : F.round = none) (hn : 1 ≤ n) (l Bn n₀ tl : Nat) (p0 : Option Addr) (xs : List (Int × Int)) (J Jx : List (Int × Int) → World → Prop)
    (hY : ∀ pre x W,J pre W → pre.length < xs.length → YieldAt F (n - 1) Try.prog l #[hV x] W fun e W' =>
      (e = .returned (.bool true) ∧ J (pre ++ [x]) W' ∧ Below n₀ W W') ∨ (e = .returned (.bool false) ∧ Jx (pre ++ [x]) W'))
    (W : World) (hBn : W.cell? ⟨Bn,0,none⟩ = some (.pointer (some ⟨tl,0,none⟩))) (htl : tl < n₀) (hc1 : W.cell? ⟨tl,1,none⟩ = some (.pointer p0)) (hL : IsL n₀ W p0 xs) (h0 : J [] W) :
    CallsIn F n Try.prog 130 #[.func (.yield l) #[] #[],.pointer (some ⟨Bn,0,none⟩)] W fun e W' => (∃ v,e = .returned v) ∧
      ((∃ ys,ys = xs ∧ J ys W') ∨ (∃ pre,pre <+: xs ∧ Jx pre W')):=by
  refine callsIn_of_wp Try.func130 rfl h130 ?_ hro
  simp only [Try.ntmps130,List.size_toArray,List.length_cons,List.length_nil,Nat.reduceAdd,Nat.reduceSub,Array.replicate_succ,Array.replicate_zero,List.push_toArray,List.append_toArray,List.nil_append,List.cons_append]
  gi_wp2_with (gi_at_call 87;refine (lend_in F (n - 1) h87 hro tl p0 _ hc1).mono ?_;rintro e w' ⟨rfl,rfl⟩)
  gi_loopw [3] (fun p wr => ∃ (pre rest : List (Int × Int)) (q : Option Addr),p = .pointer q ∧ xs = pre ++ rest ∧ IsL n₀ wr q rest ∧ J pre wr)
    (fun p wr => leftL n₀ wr p)
  case atStart =>
    exact ⟨[],xs,p0,rfl,rfl,hL,h0⟩
  case round =>
    obtain ⟨pre,rest,q,rfl,hx,hl,hJs⟩:=hrel
    cases rest with
    | nil =>
      obtain rfl : q = none:=hl
      gi_wp2
      go_end0
      exact ⟨⟨_,rfl⟩,.inl ⟨pre,by simp [hx],hJs⟩⟩
    | cons x rest =>
      have hl':=hl
      obtain ⟨b,q',rfl,hb,hv,hg,hq,hr⟩:=hl
      obtain ⟨fn,tmps,assign,body,hy,hR⟩:=hY pre x wr hJs (by rw [hx];simp)
      gi_wp2
      refine hR.mono ?_
      rintro e W3 (⟨rfl,hJ3,hk3⟩ | ⟨rfl,hJx3⟩)
      · have hq3 : W3.cell? ⟨b,2,none⟩ = some (.pointer q'):=(hk3.cell (p:=⟨b,2,none⟩) hb).trans hq
        gi_wp2
        go_roundw
        case rel => exact ⟨pre ++ [x],rest,q',rfl,by simp [hx],hr.below hk3,hJ3⟩
        case measure => rw [leftL_eq (hr.below hk3),leftL_eq hl'];simp
      · gi_wp2
        refine bodyPost_ret (results_none rfl _ _ _) rfl ?_
        exact ⟨⟨_,rfl⟩,.inr ⟨pre ++ [x],⟨rest,by simp [hx]⟩,hJx3⟩⟩
set_option maxHeartbeats 1000000 in
theorem leach_in (F : Fence) (n : Nat) (h129 : F.fn 129) (hro : F.round = none) (p0 : Option Addr) (w : World) :
    CallsIn F n Try.prog 129 #[.pointer p0] w fun e w' => e = .returned (.func (.func 130) #[] #[.pointer (some ⟨w.heap.size,0,none⟩)]) ∧ w' = w.alloc (.cells #[.pointer p0] 112):=by
  refine callsIn_of_wp Try.func129 rfl h129 ?_ hro
  simp only [Try.ntmps129,List.size_toArray,List.length_cons,List.length_nil,Nat.reduceAdd,Nat.reduceSub,Array.replicate_succ,Array.replicate_zero,List.push_toArray,List.append_toArray,List.nil_append,List.cons_append]
  gi_wp2
  go_ret
  exact ⟨rfl,rfl⟩
theorem results_cell {fn : Func} {x : Tmp} {t : TypeId} {tmps : Array Value} {P : Program} {w : World} {a : Addr} {v : Value} (h : fn.results = #[.cell x t]) (hx : tmps.getD x undef = .pointer (some a)) (hz : tagg P t = some false) (hc : w.cell? a = some v) : (results fn tmps).run P w = .ok v w:=by
  have e : ([ResultVar.cell x t].mapM (resOne tmps) : Sem (List Value)).run P w = .ok [v] w:=by
    simp only [List.mapM_cons,List.mapM_nil,Sem.run_bind,resOne,hx,asAddr,Sem.run_pure,Result.andThen_ok,loadVar,run_isAgg hz]
    rw [if_neg (by simp),Sx.run_load hc]
    simp
  simp only [results_eq,Array.mapM_eq_mapM_toList,Sem.run_bind,Sem.run_map,h]
  rw [e]
  rfl
theorem lall_loop {F : Fence} (hd : F.depth = none) {n : Nat} (h130 : F.fn 130) (h87 : F.fn 87) (hro : F.round = none) (h1 : 2 ≤ n) {xs : List (Int × Int)} {tl : Nat} {p0 : Option Addr} {w w2 : World} {A B : Code} {Q : Exit → Act → World → Prop} {act : Act}
    (hev : act.eval (Operand.tmp 5) = .func (.func 130) #[] #[.pointer (some ⟨w.heap.size + 1,0,none⟩)]) (htl : tl < w.heap.size) (hc1 : w.cell? ⟨tl,1,none⟩ = some (.pointer p0)) (hT : IsL w.heap.size w p0 xs) (hs2 : w2.heap.size = w.heap.size + 2) (hb2 : Below w.heap.size w w2)
    (hbox : w2.heap[w.heap.size]? = some (.cells #[.slice none 0 0] 35 (0,0))) (hpt : w2.cell? ⟨w.heap.size + 1,0,none⟩ = some (.pointer (some ⟨tl,0,none⟩)))
    (hround : ∀ (lo : Loop) (pre : List (Int × Int)) (x : Int × Int) (v : Value) (W : World),lo.state = .ready → lo.pending = none → AllI w lo pre v W → pre.length < xs.length →
      A.wpIn (F.inRound (w.heap.size + 3)) (n - 1 - 1) Try.prog (Exit.then (fun a₁ w₁ => ∃ w₂,(Instr.beginRound (w.heap.size + 3)).run Try.prog w₁ = .ok () w₂ ∧ B.wpIn (F.inRound (w.heap.size + 3)) (n - 1 - 1) Try.prog (roundPost Try.prog (w.heap.size + 3)
        (fun e W' => e = .returned (.bool true) ∧ (∃ v',AllI w lo (pre ++ [x]) v' W') ∧ W.heap.size ≤ W'.heap.size)) a₁ w₂) (fun _ _ _ => False)) { tmps:=act.tmps.setIfInBounds 6 (hV x),defers:=[] } W)
    (hdone : ∀ (lo : Loop) (v : Value) (W : World),AllI w lo xs v W → Q .normal { act with defers:={ target:=.collected (w.heap.size + 2),args:=#[] } :: act.defers } W) :
    (Code.rangeFunc (Operand.tmp 5) #[6] A B).wpIn F n Try.prog Q act w2:=by
  refine wpIn_rangeFunc ?_
  intro fn hfn
  rw [hro]
  obtain ⟨lo,hlo⟩ : ∃ lo : Loop,{ state:=.ready,pending:=none,fn:=fn,tmps:=act.tmps,params:=#[6],assign:=A,body:=B,defers:=w2.heap.size } = lo:=⟨_,rfl⟩
  have l1 : lo.state = .ready:=by rw [← hlo]
  have l2 : lo.pending = none:=by rw [← hlo]
  have hent:=run_enterLoop_outer (P:=Try.prog) (w:=w2) fn act.tmps #[6] A B
  rw [hlo] at hent
  obtain ⟨W1,hW1⟩ : ∃ W1,(w2.alloc (.deferred (some []))).alloc (.loop lo) = W1:=⟨_,rfl⟩
  rw [hW1] at hent
  have hb1 : Below w.heap.size w W1:=by rw [← hW1];exact (hb2.alloc (by omega) _).alloc (by simp;omega) _
  have hI1 : AllI w lo [] (.slice none 0 0) W1:=by
    refine ⟨?_,World.ownsRow_nil _ _ _ _,hb1,?_,?_⟩
    · rw [← hW1];exact (Below.heap_alloc _ _ _ (by simp;omega)).trans ((Below.heap_alloc _ _ _ (by omega)).trans hbox)
    · rw [← hW1];have:=World.alloc_heap_new (w2.alloc (.deferred (some []))) (.loop lo);rwa [World.size_alloc,hs2] at this
    · rw [← hW1];have:=World.alloc_heap_new w2 (.deferred (some []));rw [hs2] at this;exact (Below.heap_alloc _ _ _ (by simp;omega)).trans this
  have hpt1 : W1.cell? ⟨w.heap.size + 1,0,none⟩ = some (.pointer (some ⟨tl,0,none⟩)):=by
    rw [← hW1];exact (World.cell?_of_block (Below.heap_alloc _ _ _ (by simp;omega))).trans ((World.cell?_of_block (Below.heap_alloc _ _ _ (by simp;omega))).trans hpt)
  rw [hs2] at hent
  refine ⟨w.heap.size + 2 + 1,[{ target:=.collected (w.heap.size + 2),args:=#[] }],W1,{ target:=.fn (.func 130) #[.pointer (some ⟨w.heap.size + 1,0,none⟩)],args:=#[.func (.yield (w.heap.size + 2 + 1)) #[] #[]] },W1,130,
    #[.func (.yield (w.heap.size + 2 + 1)) #[] #[],.pointer (some ⟨w.heap.size + 1,0,none⟩)],W1,hent,?_,?_,?_,fun _ => (by omega),?_⟩
  · simp only [resolve,hev]
    simp [go_sem]
  · intro f' hf';simp [Target.leads] at hf';subst hf';exact h130
  · have eg:=enters_of Try.func130 (by kernel_rfl) rfl
    simp [invoke,go_sem,eg]
  · refine (leach1_in F (n - 1) h130 h87 hro (by omega) (w.heap.size + 3) (w.heap.size + 1) w.heap.size tl p0 xs (fun pre W => ∃ v,AllI w lo pre v W) (fun _ _ => False) ?_ W1 hpt1 htl ((hb1.cell (p:=⟨tl,1,none⟩) htl).trans hc1) (hT.below hb1) ⟨_,hI1⟩).mono ?_
    · rintro pre x W ⟨v,hI⟩ hlen
      have hy:=run_yield (P:=Try.prog) (args:=#[hV x]) hI.loop (by rw [← hlo];rfl)
      have e1 : lo.fn = fn:=by rw [← hlo]
      have e2 : lo.assign = A:=by rw [← hlo]
      have e3 : lo.body = B:=by rw [← hlo]
      have e4 : (lo.params.zip #[hV x]).foldl (fun tmps (t,a) => tmps.setIfInBounds t a) lo.tmps = act.tmps.setIfInBounds 6 (hV x):=by rw [← hlo];simp
      rw [e1,e2,e3,e4] at hy
      refine ⟨fn,_,A,B,hy,(roundIn_of_wpIn hfn (hround lo pre x v W l1 l2 hI hlen)).mono ?_⟩
      rintro e W' ⟨rfl,⟨v',hI'⟩,hsz⟩
      exact .inl ⟨rfl,⟨v',hI'⟩,⟨hI'.below.os.trans hI.below.os.symm,hI'.below.tape.trans hI.below.tape.symm,hI'.below.output.trans hI.below.output.symm,hsz,fun k hk => (hI'.below.block k hk).trans (hI.below.block k hk).symm⟩⟩
    · rintro e W2 ⟨⟨v0,rfl⟩,(⟨xs,rfl,v,hI⟩ | ⟨pre,_,h⟩)⟩
      · have hend:=run_endLoop (P:=Try.prog) hI.loop (by rw [l1];simp)
        rw [l2] at hend
        exact ⟨none,_,hend,hdone _ v _ (hI.put _)⟩
      · exact h.elim
set_option maxRecDepth 100000 in
set_option maxHeartbeats 4000000 in
theorem lall_in (F : Fence) (hd : F.depth = none) (n : Nat) (h127 : F.fn 127) (h129 : F.fn 129) (h130 : F.fn 130) (h87 : F.fn 87) (hro : F.round = none) (hn : 3 ≤ n) (a : Nat) (p0 : Option Addr) (xs : List (Int × Int)) (w : World) (ha : a < w.heap.size) (hc : w.cell? ⟨a,1,none⟩ = some (.pointer p0)) (hT : IsL w.heap.size w p0 xs) (hlen : xs.length < 1099511627776) :
    CallsIn F n Try.prog 127 #[.pointer (some ⟨a,0,none⟩)] w fun e w' => ∃ v,e = .returned v ∧ w'.ownsRow w.heap.size 29 2 v xs.length (hCells xs) ∧ Below w.heap.size w w':=by
  have h1 : 1 ≤ n:=by omega
  obtain ⟨i0,z0,hi0,hz0,hz1,hz2,hz3⟩:=infoB_of (P:=Try.prog) (t:=29) (sz:=2) (by_:=16) (by kernel_rfl)
  refine callsIn_of_wp_marks Try.func127 rfl h127 ?_ hro
  simp only [Try.ntmps127,List.size_toArray,List.length_cons,List.length_nil,Nat.reduceAdd,Nat.reduceSub,Array.replicate_succ,Array.replicate_zero,List.push_toArray,List.append_toArray,List.nil_append,List.cons_append]
  gi_wp2_with (gi_at_call 129;refine (leach_in F (n - 1) h129 hro _ _).mono ?_;rintro e w' ⟨rfl,rfl⟩)
  refine lall_loop hd h130 h87 hro (by omega) (xs:=xs) (w:=w) (by rfl) ha hc hT (by simp) (((Below.refl _ w).alloc (Nat.le_refl _) _).alloc (by simp) _) ?box ?pt ?round ?done
  case box => exact (Below.heap_alloc _ _ _ (by simp)).trans (World.alloc_heap_new w _)
  case pt =>
    have:=World.alloc_heap_new (w.alloc (Obj.cells #[Value.slice none 0 0] 35)) (.cells #[Value.pointer (some ⟨a,0,none⟩)] 112)
    rw [World.size_alloc] at this
    exact (cell_of_box this).1
  case done =>
    intro lo v W hI
    obtain ⟨hc3,hf3⟩:=cell_of_box hI.box
    have lt : ∀ {W : World} {k : Nat} {o : Obj},W.heap[k]? = some o → k < W.heap.size:=fun h => (Array.getElem?_eq_some_iff.1 h).1
    have hset : ∀ k,k ≠ w.heap.size → (W.setCell ⟨w.heap.size,0,none⟩ v).heap[k]? = W.heap[k]?:=fun k hk => by simp [World.setCell,Array.getElem?_modify,Ne.symm hk]
    have hgs : W.grownBy (W.setCell ⟨w.heap.size,0,none⟩ v) (some w.heap.size):=⟨rfl,rfl,rfl,by simp [World.setCell],fun k _ hk => hset k (fun e => hk (by rw [e]))⟩
    have hI' : AllI w lo xs v (W.setCell ⟨w.heap.size,0,none⟩ v):=by
      refine ⟨?_,?_,?_,(hset _ (by omega)).trans hI.loop,(hset _ (by omega)).trans hI.df⟩
      · simp [World.setCell,Array.getElem?_modify,hI.box]
      · exact hI.row.kept hgs (row_ne hI.row hI.box (fun cur e => by cases e))
      · exact hI.below.grown hgs hI.below.size (fun k e => by cases e;exact Nat.le_refl _)
    obtain ⟨a',n',c',hv⟩ : ∃ a' n' c',v = .slice a' n' c':=by
      rcases hI.row.2 with ⟨e,_⟩ | ⟨g',cap',_,e,_⟩ <;> exact ⟨_,_,_,e⟩
    have hc4 : (W.setCell ⟨w.heap.size,0,none⟩ v).cell? ⟨w.heap.size,0,none⟩ = some v:=(cell_of_box hI'.box).1
    have hg:=grownBy_putObj' (W.setCell ⟨w.heap.size,0,none⟩ v) (w.heap.size + 2) (.deferred none)
    have hc5 : ((W.setCell ⟨w.heap.size,0,none⟩ v).putObj (w.heap.size + 2) (.deferred none)).cell? ⟨w.heap.size,0,none⟩ = some v:=by
      have h5 : ((W.setCell ⟨w.heap.size,0,none⟩ v).putObj (w.heap.size + 2) (.deferred none)).heap[w.heap.size]? = some (.cells #[v] 35 (0,0)):=(World.putObj_heap_other (by omega)).trans hI'.box
      exact (cell_of_box h5).1
    have hrow:=hI'.row.kept hg (row_ne hI'.row hI'.df (fun cur e => by cases e))
    have hbel:=hI'.below.grown hg hI'.below.size (fun k e => by cases e;omega)
    have hdf:=run_takeDeferred (P:=Try.prog) hI'.df
    subst hv
    gi_wp2
    refine ⟨by simp,.inl ⟨_,_,rfl,hdf,?_⟩⟩
    exact ⟨_,results_cell rfl rfl (by kernel_rfl) hc5,_,rfl,hrow,hbel⟩
  case round =>
    intro lo pre x v W l1 l2 hI hlen
    gi_wp2
    have hIa : AllI w lo pre v (W.alloc (.cells #[.int .i64 x.1,.int .u64 x.2] 29)):=hI.turn (World.grownBy_alloc W _ none) (fun k e => by cases e) (by cases v.ownBlock <;> simp)
    refine ⟨_,run_beginRound hIa.loop l1,?_⟩
    have hIb:=hIa.put { lo with state:=.busy }
    have hbW : ((W.alloc (.cells #[.int .i64 x.1,.int .u64 x.2] 29)).putObj (w.heap.size + 3) (.loop { lo with state:=.busy })).heap[W.heap.size]? = some (.cells #[.int .i64 x.1,.int .u64 x.2] 29 (0,0)):=by
      have:=(Array.getElem?_eq_some_iff.1 hI.loop).1
      exact (World.putObj_heap_other (by omega)).trans (World.alloc_heap_new W _)
    have hsW : ((W.alloc (.cells #[.int .i64 x.1,.int .u64 x.2] 29)).putObj (w.heap.size + 3) (.loop { lo with state:=.busy })).heap.size = W.heap.size + 1:=by simp
    generalize (W.alloc (.cells #[.int .i64 x.1,.int .u64 x.2] 29)).putObj (w.heap.size + 3) (.loop { lo with state:=.busy }) = W2 at hIb hbW hsW
    obtain ⟨hc2,hf2⟩:=cell_of_box hIb.box
    have hq0 : W2.cell? ⟨W.heap.size,0,none⟩ = some (.int .i64 x.1):=by simp [World.cell?,hbW]
    have hq1 : W2.cell? ⟨W.heap.size,1,none⟩ = some (.int .u64 x.2):=by simp [World.cell?,hbW]
    have hIc : AllI w { lo with state:=.busy } pre v (W2.alloc (.cells #[.int .i64 x.1,.int .u64 x.2] 29)):=hIb.turn (World.grownBy_alloc W2 _ none) (fun k e => by cases e) (by cases v.ownBlock <;> simp)
    have hnew : ∀ (j : Nat) (u : Value),[Value.int .i64 x.1,Value.int .u64 x.2][j]? = some u → (W2.alloc (.cells #[.int .i64 x.1,.int .u64 x.2] 29)).cell? ((⟨W.heap.size + 1,0,none⟩ : Addr).add j) = some u:=by
      intro j u hu
      have hh:=World.alloc_heap_new W2 (.cells #[.int .i64 x.1,.int .u64 x.2] 29)
      rw [hsW] at hh
      have t0 : (⟨W.heap.size + 1,0,none⟩ : Addr).add 0 = ⟨W.heap.size + 1,0,none⟩:=by simp [Addr.add]
      have t1 : (⟨W.heap.size + 1,0,none⟩ : Addr).add 1 = ⟨W.heap.size + 1,1,none⟩:=by simp [Addr.add]
      rcases j with _ | _ | j
      · simp only [List.getElem?_cons_zero] at hu;cases hu;rw [t0];unfold World.cell?;rw [hh];rfl
      · simp only [List.getElem?_cons_succ,List.getElem?_cons_zero] at hu;cases hu;rw [show (0 + 1) = 1 from rfl,t1];unfold World.cell?;rw [hh];rfl
      · simp at hu
    have hfin : ∀ v' w3,w3.ownsRow w.heap.size 29 2 v' (pre.length + 1) (hCells pre ++ [Value.int .i64 x.1,Value.int .u64 x.2]) → (W2.alloc (.cells #[.int .i64 x.1,.int .u64 x.2] 29)).grownBy w3 v.ownBlock →
        w3.heap[w.heap.size]? = some (.cells #[v] 35 (0,0)) ∧ (∃ v1,v1 = v' ∧ AllI w { lo with state:=.busy } (pre ++ [x]) v1 (w3.setCell ⟨w.heap.size,0,none⟩ v')) ∧ W.heap.size ≤ (w3.setCell ⟨w.heap.size,0,none⟩ v').heap.size:=by
      intro v' w3 ho hg
      have lt : ∀ {W : World} {k : Nat} {o : Obj},W.heap[k]? = some o → k < W.heap.size:=fun h => (Array.getElem?_eq_some_iff.1 h).1
      have hkeep : ∀ {k : Nat} {o : Obj},(W2.alloc (.cells #[.int .i64 x.1,.int .u64 x.2] 29)).heap[k]? = some o → (∀ cur,o ≠ .cells cur 29 (0,0)) → w3.heap[k]? = some o:=fun hk hno =>
        (hg.block _ (lt hk) fun e => by
          rcases row_ne hIc.row hk hno with e' | e'
          · rw [e'] at e;cases e
          · exact e' e.symm).trans hk
      have hb3:=hkeep hIc.box (fun cur e => by cases e)
      have hl3:=hkeep hIc.loop (fun cur e => by cases e)
      have hd3:=hkeep hIc.df (fun cur e => by cases e)
      have hI3 : AllI w { lo with state:=.busy } (pre ++ [x]) v' (w3.setCell ⟨w.heap.size,0,none⟩ v'):=by
        have hset : ∀ k,k ≠ w.heap.size → (w3.setCell ⟨w.heap.size,0,none⟩ v').heap[k]? = w3.heap[k]?:=fun k hk => by simp [World.setCell,Array.getElem?_modify,Ne.symm hk]
        have hgs : w3.grownBy (w3.setCell ⟨w.heap.size,0,none⟩ v') (some w.heap.size):=⟨rfl,rfl,rfl,by simp [World.setCell],fun k _ hk => hset k (fun e => hk (by rw [e]))⟩
        refine ⟨?_,?_,?_,(hset _ (by omega)).trans hl3,(hset _ (by omega)).trans hd3⟩
        · simp [World.setCell,Array.getElem?_modify,hb3]
        · have hr : w3.ownsRow w.heap.size 29 2 v' (pre ++ [x]).length (hCells (pre ++ [x])):=by rw [hCells_snoc,List.length_append];exact ho
          exact hr.kept hgs (row_ne hr hb3 (fun cur e => by cases e))
        · have:=hIc.below.grown hg hIc.below.size (fun k e => (hIc.row.lt k e).1)
          exact this.grown hgs this.size (fun k e => by cases e;exact Nat.le_refl _)
      refine ⟨hb3,⟨_,rfl,hI3⟩,?_⟩
      have e1:=hg.size
      have e2 : (w3.setCell ⟨w.heap.size,0,none⟩ v').heap.size = w3.heap.size:=by simp [World.setCell]
      rw [e2]
      simp only [World.size_alloc] at e1
      omega
    gi_wp2_with (first
      | (gi_at_builtin;refine wpListIn_append_own _ rfl _ _ 35 rfl w.heap.size 29 i0 z0 2 16 Try.underlying35 hi0 hz0 hz1 hz2 hz3 (by decide) v pre.length (hCells pre) rfl hIc.row ⟨W.heap.size + 1,0,none⟩ 1 1 [.int .i64 x.1,.int .u64 x.2] rfl rfl hnew (by simp [Value.oneCell']) (by simp only [maxLen];omega) (by omega) (by have:=hIc.below.size;omega) ?_;intro v' w3 hown' hg3 hnil3
         obtain ⟨hb3,⟨v1,hv1,hI4⟩,hsz4⟩:=hfin v' w3 hown' hg3
         obtain ⟨hc3,hf3⟩:=cell_of_box hb3
         obtain ⟨g',cap',rfl⟩ : ∃ g' cap',v' = .slice (some ⟨g',0,none⟩) (pre.length + 1) cap':=by
           rcases hown'.2 with ⟨_,h0⟩ | ⟨g',cap',_,h',_⟩
           · exact absurd h0 (by omega)
           · exact ⟨g',cap',h'⟩))
    subst hv1
    have hI5:=hI4.put { lo with state:=.ready,pending:=none }
    have elo : ({ lo with state:=.ready,pending:=none } : Loop) = lo:=by cases lo;simp_all
    rw [elo] at hI5
    refine ⟨_,_,(run_endRound none hI4.loop).trans (congrArg (fun r => Result.ok (Value.bool true) (World.putObj _ (w.heap.size + 3) (.loop r))) elo),rfl,⟨_,hI5⟩,?_⟩
    exact Nat.le_trans hsz4 (grownBy_putObj' _ (w.heap.size + 3) (.loop lo)).size
end Go.Proofs.Ytnlohongffpkpaa.T16
end

section
namespace Go.Proofs.Ytnlohongffpkpaa.T16
open Go Go.RowKit Go.Proofs.Ytnlohongffpkpaa.Sx Go.Proofs
set_option linter.unusedVariables false
set_option linter.unusedSimpArgs false
def pO (p : Int) : Option Addr:=match p.toNat with | 0 => none | a + 1 => some ⟨a,0,none⟩
theorem pv_pO (p : Int) : pv p 0 = .pointer (pO p):=by unfold pv pO;split <;> (rename_i e;simp [e])
theorem pO_succ (a : Nat) : pO ((a : Int) + 1) = some ⟨a,0,none⟩:=by unfold pO;rw [show ((a : Int) + 1).toNat = a + 1 by omega]
theorem isL_of {m : Mem} {w : World} (hm : ∀ a o,m a = some o → w.heap[a]? = some o) : ∀ {L : LN} {f : Int},Ch m f L 0 → IsL w.heap.size w (pO (hdA L 0)) (hsL L)
  | [],_,_ => rfl
  | x :: r,f,h => by
    have hh:=hm _ _ h.1
    refine ⟨x.1,pO (hdA r 0),pO_succ _,(Array.getElem?_eq_some_iff.1 hh).1,?_,?_,?_,isL_of hm h.2⟩
    · unfold World.cell?;rw [hh];rfl
    · unfold World.cell?;rw [hh];rfl
    · unfold World.cell?;rw [hh,← pv_pO];rfl
theorem lall_calls (a : Nat) (p0 : Option Addr) (xs : List (Int × Int)) (w : World) (ha : a < w.heap.size) (hc : w.cell? ⟨a,1,none⟩ = some (.pointer p0)) (hT : IsL w.heap.size w p0 xs) (hlen : xs.length < 1099511627776) :
    Calls Try.prog 127 #[.pointer (some ⟨a,0,none⟩)] w fun e w' => ∃ v,e = .returned v ∧ w'.ownsRow w.heap.size 29 2 v xs.length (hCells xs) ∧ Below w.heap.size w w' :=
  callsIn_wide.1 (lall_in Fence.wide rfl 3 trivial trivial trivial trivial rfl (Nat.le_refl _) a p0 xs w ha hc hT hlen)
theorem hsL_len (L : LN) : (hsL L).length = L.length:=by simp [hsL]
theorem lall_pure (m : Mem) (t q : Nat) (L : LN) (h : DL m t q L) (hsz : L.length < 1099511627776) (w : World) (hw : ∀ a o,m a = some o → w.heap[a]? = some o) :
    Calls Try.prog 127 #[pv ((t : Int) + 1) 0] w fun e w' => ∃ v m',e = .returned v ∧ rowOf m (hsL L) v m' ∧ MemTo m m' w w':=by
  have ht:=hw t _ h.hd
  have hlt:=(Array.getElem?_eq_some_iff.1 ht).1
  have hc : w.cell? ⟨t,1,none⟩ = some (.pointer (pO (hdA L 0))):=by
    unfold World.cell?;rw [ht,← pv_pO];rfl
  have ltm : ∀ a o,m a = some o → a < w.heap.size:=fun a o h => (Array.getElem?_eq_some_iff.1 (hw a o h)).1
  rw [pv_succ t 0]
  refine (lall_calls t _ _ w hlt hc (isL_of hw h.ch) (by rw [hsL_len];exact hsz)).mono ?_
  rintro e w' ⟨v,rfl,hrow,hb⟩
  rcases hrow.2 with ⟨rfl,h0⟩ | ⟨g,cap,cur,rfl,hg0,hg,h1,h2,h3,h4⟩
  · exact ⟨_,m,rfl,.inl ⟨List.eq_nil_of_length_eq_zero h0,rfl,rfl⟩,⟨hb.os,hb.tape,hb.output,hb.size,fun a o h => (hb.block a (ltm a o h)).trans (hw a o h),fun k hk _ => hb.block k hk,fun a o h => .inl (by rw [h];simp)⟩⟩
  · have hgn : m g = none:=by
      cases h : m g with
      | none => rfl
      | some o => have:=ltm g o h;omega
    refine ⟨_,alO m g (.cells cur 29 (0,0)),rfl,.inr ⟨g,cap,cur,rfl,hgn,rfl,h1,h3,h4⟩,⟨hb.os,hb.tape,hb.output,hb.size,fun a o h => ?_,fun k hk _ => hb.block k hk,fun a o h => ?_⟩⟩
    · unfold alO at h
      by_cases e : a = g
      · rw [if_pos e] at h;cases h;subst e;exact hg
      · rw [if_neg e] at h;exact (hb.block a (ltm a o h)).trans (hw a o h)
    · unfold alO at h
      by_cases e : a = g
      · subst e;exact .inr hg0
      · rw [if_neg e] at h;exact .inl (by rw [h];simp)
def lallP (m : Mem) (t : Int) : Prop:=∃ G : DG,G.is m t ∧ G.L.length < 1099511627776
def lallQ (m : Mem) (t : Int) (y : Vars) : Prop:=∀ G : DG,(G.is m t ∧ G.L.length < 1099511627776) → rowOf m (hsL G.L) (hdV y.v) y.m
def s_lall : Sum:=memSum 127 fun m a => match a with | [a0] => (match ptrOf a0 with | some t => some ⟨lallP m t,lallQ m t,fun y => .u (.c (.sv (hdV y.v)))⟩ | _ => none) | _ => none
theorem s_lall_ok : SumOK Try.prog s_lall:=by
  refine memSum_ok ⟨_,Try.func127,by kernel_rfl⟩ fun m args ms h hp hwf ρ w hm => ?_
  split at h
  · split at h
    · rename_i a0 _ t h0
      cases h
      obtain ⟨⟨t0,q,L⟩,⟨e1,e2⟩,e3⟩:=hp
      simp only at e1 e2 e3
      have hv : (List.map (V.den ρ) [a0]).toArray = #[pv ((t0 : Int) + 1) 0]:=by
        rw [List.map_cons,List.map_nil,ptrOf_den h0,e1];rfl
      rw [hv]
      refine (lall_pure m t0 q L e2 e3 w hm).mono ?_
      rintro e w' ⟨v,m',rfl,hr,hM⟩
      refine ⟨⟨[],[],[v],m'⟩,?_,?_,hM⟩
      · rintro ⟨t1,q1,L1⟩ ⟨⟨g1,g2⟩,g3⟩
        simp only at g1 g2 g3
        have et : t1 = t0:=by omega
        subst et
        have hT : hsL L1 = hsL L:=by
          have i1:=isL_of hm e2.ch
          have i2:=isL_of hm g2.ch
          have hh : pO (hdA L 0) = pO (hdA L1 0):=by rw [← e2.g1,← g2.g1]
          rw [hh] at i1
          exact IsL.unique i2 i1
        show rowOf m (hsL L1) v m'
        rw [hT];exact hr
      · rcases hr with ⟨_,rfl,_⟩ | ⟨g,cap,cur,rfl,_⟩ <;> rfl
    · cases h
  · cases h
theorem DL.hinj {m : Mem} {t q : Nat} {L : LN} (h : DL m t q L) {i j : Nat} {x : Int × Int} (hi : (hsL L)[i]? = some x) (hj : (hsL L)[j]? = some x) : i = j:=by
  obtain ⟨es,k,_,he,_⟩:=h.mp
  unfold hsL at hi hj
  rw [List.getElem?_map] at hi hj
  obtain ⟨u,hu,hux⟩:=Option.map_eq_some_iff.1 hi
  obtain ⟨v,hv,hvx⟩:=Option.map_eq_some_iff.1 hj
  obtain ⟨e,h1,hk,hw⟩:=he.fro _ (nds_mem (List.mem_of_getElem? hu))
  obtain ⟨e',h1',hk',hw'⟩:=he.fro _ (nds_mem (List.mem_of_getElem? hv))
  have hkk : e.key = e'.key:=by
    rw [← hvx] at hux
    simp only [Prod.mk.injEq] at hux
    rw [hk,hk']
    simp only [hux.1,hux.2]
  have hee : e = e':=by
    obtain ⟨a,ha⟩:=List.getElem?_of_mem h1
    obtain ⟨c,hc⟩:=List.getElem?_of_mem h1'
    have hac : a = c:=by
      rcases Nat.lt_trichotomy a c with h2 | h2 | h2
      · have:=List.pairwise_iff_getElem.1 he.ap a c (List.getElem?_eq_some_iff.1 ha).1 (List.getElem?_eq_some_iff.1 hc).1 h2
        rw [(List.getElem?_eq_some_iff.1 ha).2,(List.getElem?_eq_some_iff.1 hc).2] at this
        exact absurd hkk this
      · exact h2
      · have:=List.pairwise_iff_getElem.1 he.ap c a (List.getElem?_eq_some_iff.1 hc).1 (List.getElem?_eq_some_iff.1 ha).1 h2
        rw [(List.getElem?_eq_some_iff.1 ha).2,(List.getElem?_eq_some_iff.1 hc).2] at this
        exact absurd hkk.symm this
    subst hac
    rw [ha] at hc;cases hc;rfl
  subst hee
  have hp:=pv_inj (by simp only;omega) (by simp only;omega) (hw.symm.trans hw')
  simp only at hp
  have hi' : (L.map (·.1))[i]? = some u.1:=by simp [hu]
  have hj' : (L.map (·.1))[j]? = some u.1:=by simp [hv];omega
  exact (List.getElem?_inj (List.getElem?_eq_some_iff.1 hi').1 h.nd).1 (hi'.trans hj'.symm)
theorem hsL_app (A B : LN) : hsL (A ++ B) = hsL A ++ hsL B:=by simp [hsL]
theorem hsL_cons (x : Nat × Int × Int) (B : LN) : hsL (x :: B) = (x.2.1,x.2.2) :: hsL B:=rfl
theorem DL.split {m : Mem} {t q : Nat} {L A B : LN} {x : Nat × Int × Int} (h : DL m t q L) (e : L = A ++ x :: B) {j : Nat} (hj : (hsL L)[j]? = some (x.2.1,x.2.2)) : A.length = j ∧ hsL (A ++ B) = (hsL L).eraseIdx j:=by
  subst e
  have hA : (hsL (A ++ x :: B))[A.length]? = some (x.2.1,x.2.2):=by
    rw [hsL_app,List.getElem?_append_right (by rw [hsL_len];exact Nat.le_refl _),hsL_len,Nat.sub_self];rfl
  obtain rfl:=h.hinj hA hj
  refine ⟨rfl,?_⟩
  rw [hsL_app,hsL_app,hsL_cons,List.eraseIdx_append_of_length_le (by rw [hsL_len];exact Nat.le_refl _),hsL_len,Nat.sub_self,List.eraseIdx_cons_zero]
def T_lpop (m : Mem) (t : Int) (o : Bool) : Tr:=(.req (lpeekP m t o) (.any (lpeekQ m t o) (fun y0 => (.br (hdB y0.2) (.req (lremoveP y0.4 t (hdI y0.1) (hdI (tlI y0.1))) (.any (lremoveQ y0.4 t (hdI y0.1) (hdI (tlI y0.1))) (fun y1 => (.leaf (.memo (.tup [(.agg [(.si .i64 (hdI y0.1)),(.si .u64 (hdI (tlI y0.1)))]),(.c (.sb (hdB y0.2)))]) y1.4))))) (.leaf (.memo (.tup [(.agg [(.si .i64 (hdI y0.1)),(.si .u64 (hdI (tlI y0.1)))]),(.c (.sb (hdB y0.2)))]) y0.4))))))
def atEnd : Bool → LN → LN → Prop
  | true,A,_ => A = []
  | false,_,B => B = []
def lpopPost (m : Mem) (G : DG) (o : Bool) (y : Vars) : Prop :=
  (G.L = [] ∧ y.i = [0,0] ∧ y.b = [false] ∧ y.m = m) ∨
  (∃ A x B,G.L = A ++ x :: B ∧ atEnd o A B ∧ y.i = [x.2.1,x.2.2] ∧ y.b = [true] ∧ DL y.m G.t G.q (A ++ B) ∧ keepD G.t G.q G.L m y.m)
theorem DL.rng {m : Mem} {t q : Nat} {L : LN} (h : DL m t q L) {x : Nat × Int × Int} (hx : x ∈ L) : inI x.2.1 ∧ inU x.2.2:=by
  obtain ⟨es,k,_,he,_⟩:=h.mp
  exact he.rng _ (nds_mem hx)
theorem lpop_walk {m : Mem} {t q : Nat} {L : LN} (h : DL m t q L) (o : Bool) :
    (T_lpop m ((t : Int) + 1) o).sat (isMemo fun w x => lpopPost m ⟨t,q,L⟩ o (yOf w x) ∧ ∀ ρ,w.den ρ = (retHB (yOf w x)).den ρ):=by
  unfold T_lpop
  have hG : (DG.mk t q L).is m ((t : Int) + 1):=⟨rfl,h⟩
  rw [sat_req]
  refine ⟨⟨some _,hG⟩,?_⟩
  rw [sat_any]
  rintro ⟨yi,yb,yv,ym⟩ hy
  obtain ⟨hy2,hm⟩:=hy (some _) hG
  simp only [DG.hs] at hm hy2
  clear hy
  subst hm
  rcases hy2 with ⟨x,e1,e2,e3⟩ | ⟨e1,e2,e3⟩
  · simp only at e2 e3
    subst e2 e3
    have hsplit : ∃ A u B,L = A ++ u :: B ∧ (u.2.1,u.2.2) = x ∧ atEnd o A B:=by
      cases o with
      | true =>
        cases L with
        | nil => cases e1
        | cons u B => exact ⟨[],u,B,rfl,by simpa [endH,hsL] using e1,rfl⟩
      | false =>
        rcases List.eq_nil_or_concat L with e | ⟨A,u,e⟩
        · subst e;cases e1
        · rw [List.concat_eq_append] at e
          subst e
          exact ⟨A,u,[],rfl,by simpa [endH,hsL] using e1,rfl⟩
    obtain ⟨A,u,B,hL,rfl,hAB⟩:=hsplit
    have huL : u ∈ L:=by rw [hL];simp
    obtain ⟨r1,r2⟩:=h.rng huL
    have hG2 : (DG.mk t q L).is ym ((t : Int) + 1) ∧ inI u.2.1 ∧ inU u.2.2:=⟨hG,r1,r2⟩
    simp only [hdI,tlI,hdB]
    rw [sat_brT,sat_req]
    refine ⟨⟨_,hG2⟩,?_⟩
    rw [sat_any]
    rintro ⟨zi,zb,zv,zm⟩ hz
    have hz:=hz _ hG2
    refine ⟨?_,fun ρ => rfl⟩
    have huh : (u.2.1,u.2.2) ∈ hsL L:=List.mem_map.2 ⟨u,huL,rfl⟩
    rcases hz with ⟨c1,_⟩ | ⟨A',u',B',c1,c2,c3,c4,c5,c6⟩
    · exact absurd huh c1
    · simp only at c1 c4 c5 c6
      have hj : (hsL L)[A.length]? = some (u.2.1,u.2.2):=by
        rw [hL,hsL_app,List.getElem?_append_right (by rw [hsL_len];exact Nat.le_refl _),hsL_len,Nat.sub_self];rfl
      obtain ⟨d1,_⟩:=h.split c1 (j:=A.length) (by rw [c2,c3];exact hj)
      have hLL : A' ++ u' :: B' = A ++ u :: B:=c1.symm.trans hL
      obtain ⟨rfl,hr⟩:=List.append_inj hLL d1
      simp only [List.cons.injEq] at hr
      obtain ⟨rfl,rfl⟩:=hr
      exact .inr ⟨A',u',B',hL,hAB,rfl,rfl,c5,c6⟩
  · simp only at e2 e3
    subst e2 e3
    have hL : L = []:=by
      cases L with
      | nil => rfl
      | cons u B =>
        exfalso
        cases o with
        | true => simp [endH,hsL] at e1
        | false => simp [endH,hsL] at e1
    simp only [hdB]
    rw [sat_brF]
    exact ⟨.inl ⟨hL,rfl,rfl,rfl⟩,fun ρ => rfl⟩
theorem lpop_walk0 (m : Mem) (o : Bool) :
    (T_lpop m 0 o).sat (isMemo fun w x => ((yOf w x).i = [0,0] ∧ (yOf w x).b = [false] ∧ (yOf w x).m = m) ∧ ∀ ρ,w.den ρ = (retHB (yOf w x)).den ρ):=by
  unfold T_lpop
  rw [sat_req]
  refine ⟨⟨none,rfl⟩,?_⟩
  rw [sat_any]
  rintro ⟨yi,yb,yv,ym⟩ hy
  obtain ⟨hy2,hm⟩:=hy none rfl
  simp only at hm hy2
  subst hm
  rcases hy2 with ⟨x,e1,e2,e3⟩ | ⟨e1,e2,e3⟩
  · cases o <;> cases e1
  · simp only at e2 e3
    subst e2 e3
    simp only [hdB]
    rw [sat_brF]
    exact ⟨⟨rfl,rfl,rfl⟩,fun ρ => rfl⟩
def lpopN (m : Mem) (o : Bool) (y : Vars) : Option DG → Prop
  | none => y.i = [0,0] ∧ y.b = [false] ∧ y.m = m
  | some G => lpopPost m G o y
def lpopP (m : Mem) (t : Int) (o : Bool) : Prop:=∃ G : Option DG,DG.isN m t G
def lpopQ (m : Mem) (t : Int) (o : Bool) (y : Vars) : Prop:=∀ G : Option DG,DG.isN m t G → lpopN m o y G
def s_lpop : Sum:=memSum 63 fun m a => match a with | [a0,a1] => (match ptrOf a0,booOf a1 with | some t,some o => some ⟨lpopP m t o,lpopQ m t o,fun y => .tup [.agg [.si .i64 (hdI y.i),.si .u64 (hdI (tlI y.i))],.c (.sb (hdB y.b))]⟩ | _,_ => none) | _ => none
theorem t_lpop (m : Mem) (t : Int) (o : Bool) : runm Try.prog [s_lpeek,s_lremove] (drawx Try.prog [s_lpeek,s_lremove]) 300 63 [.u (.c (.np t 0)),.u (.c (.sb o))] m [142,140,137] = T_lpop m t o:=by kernel_rfl
theorem s_lpop_ok : SumOK Try.prog s_lpop:=by
  refine memSum_ok ⟨_,Try.func63,by kernel_rfl⟩ fun m args ms h hp hw ρ w hm => ?_
  split at h
  · split at h
    · rename_i a0 a1 _ _ t o h0 h1
      cases h
      refine mm_ghost nameOK (okc s_lpeek_ok (okc s_lremove_ok okn)) (dOK (okc s_lpeek_ok (okc s_lremove_ok okn))) 300 _ m _ (t_lpop m t o) hp (fun G hG => ?_) ρ w hm (by simp only [List.map_cons,List.map_nil,ptrOf_den h0,booOf_den h1])
      have key : (T_lpop m t o).sat (isMemo fun w x => lpopN m o (yOf w x) G ∧ ∀ ρ,w.den ρ = (retHB (yOf w x)).den ρ):=by
        cases G with
        | none => cases hG;exact lpop_walk0 m o
        | some G => obtain ⟨rfl,g1⟩:=hG;exact lpop_walk g1 o
      refine sat_mono (fun l hl => ?_) key
      cases l with
      | memo v x => exact ⟨hl.1,yOf_m _ _,hl.2⟩
      | _ => exact hl.elim
    · cases h
  · cases h
def T_lnew (m : Mem)  : Tr:=(.any (newMQ m) (fun y0 => (.any (newQ y0.4 (.mk [(pl (hdV y0.3)),(.pointer (.none)),(.pointer (.none))]) 140) (fun y1 => (.leaf (.memo (.u (.c (.np (pI y1.1) 0))) y1.4))))))
def lnewP (m : Mem) : Prop:=True
def lnewQ (m : Mem) (y : Vars) : Prop:=∃ t q : Nat,y.i = [(t : Int) + 1] ∧ m t = none ∧ m q = none ∧ DL y.m t q [] ∧ ∀ c,m c ≠ none → y.m c = m c
def s_lnew : Sum:=memSum 59 fun m a => match a with | [] => some ⟨lnewP m,lnewQ m,fun y => .u (.c (.np (hdI y.i) 0))⟩ | _ => none
theorem t_lnew (m : Mem)  : runm Try.prog [] (drawx Try.prog []) 300 59 [] m [142,140,137] = T_lnew m :=by kernel_rfl
theorem s_lnew_ok : SumOK Try.prog s_lnew:=by
  refine memSum_ok ⟨_,Try.func59,by kernel_rfl⟩ fun m args ms h hp hw ρ w hm => ?_
  split at h
  · cases h
    refine (mm_ghost nameOK okn (dOK okn) 300 _ m _ (t_lnew m) (G:=Unit) (pre:=fun _ => True) (post:=fun _ y => lnewQ m y) (ret:=fun y => .u (.c (.np (hdI y.i) 0))) ⟨(),trivial⟩ (fun _ _ => ?_) ρ w hm (by simp only [List.map_nil])).mono ?_
    · unfold T_lnew
      rw [sat_any]
      rintro ⟨yi,yb,yv,ym⟩ ⟨q,h1,h2,h3⟩
      simp only at h2 h3
      subst h2 h3
      rw [sat_any]
      rintro ⟨zi,zb,zv,zm⟩ ⟨t,g1,g2,g3⟩
      simp only at g1 g2 g3
      subst g1
      have e1 : alM (alO m q (.map #[] 0)) ((t : Int) + 1) (.mk [(pl (hdV [Value.map (some q)])),(.pointer (.none)),(.pointer (.none))]) 140 = alO (alO m q (.map #[] 0)) t (hdO q 0 0):=alM_alO _ t _ 140
      rw [e1] at g3
      subst g3
      have htq : t ≠ q:=by rintro rfl;rw [alO_self] at g2;cases g2
      have htn : m t = none:=by rw [alO_ne _ htq] at g2;exact g2
      refine ⟨⟨t,q,rfl,htn,h1,⟨alO_self _ _ _,⟨#[],0,?_,⟨List.Pairwise.nil,(fun _ h => by cases h),(fun _ h => by cases h),(fun _ h => by cases h)⟩,rfl⟩,trivial,List.nodup_nil⟩,fun c hc => ?_⟩,rfl,fun ρ => rfl⟩
      · show alO _ _ _ q = _
        rw [alO_ne _ (Ne.symm htq),alO_self]
      · show alO _ _ _ c = _
        rw [alO_ne _ (by rintro rfl;exact hc htn),alO_ne _ (by rintro rfl;exact hc h1)]
    · rintro e w' ⟨y,h1,h2,h3⟩
      exact ⟨y,h1 () trivial,h2,h3⟩
  · cases h
end Go.Proofs.Ytnlohongffpkpaa.T16
end

section
namespace Go.Proofs.Ytnlohongffpkpaa.T16
open Go Go.RowKit Go.Proofs.Ytnlohongffpkpaa.Sx Go.Proofs
set_option linter.unusedVariables false
set_option linter.unusedSimpArgs false
abbrev KI:=List (IntKind × Int)
def kVals (l : KI) : List Value:=l.map fun x => .int x.1 x.2
def kLits (l : KI) : List Lit:=l.map fun x => .int x.1 x.2
def kWf (l : KI) : Prop:=∀ x ∈ l,(Lit.int x.1 x.2).wf = true
def fldKs (P : Program) (f : TypeId → Option (List IntKind)) : Nat → List Field → Option (List IntKind)
  | _,[] => some []
  | o,x :: r => match x.name != "_" && Nat.beq x.offset o,f x.type with
    | true,some ks => (match Nat.beq (P.cellsOf x.type) ks.length,fldKs P f (o + ks.length) r with | true,some rest => some (ks ++ rest) | _,_ => none)
    | _,_ => none
def kKinds (P : Program) : Nat → TypeId → Option (List IntKind)
  | 0,_ => none
  | d + 1,t => match P.underlying t with
    | some (.int q) => some [q]
    | some (.struct fs) => (match fldKs P (kKinds P d) 0 fs.toList with
      | some ks => (match Nat.beq (P.cellsOf t) ks.length with | true => some ks | false => none)
      | none => none)
    | _ => none
theorem kVals_app (a b : KI) : kVals (a ++ b) = kVals a ++ kVals b:=by simp [kVals]
theorem kLits_app (a b : KI) : kLits (a ++ b) = kLits a ++ kLits b:=by simp [kLits]
theorem kVals_len (a : KI) : (kVals a).length = a.length:=by simp [kVals]
theorem fldKs_names {P : Program} {f : TypeId → Option (List IntKind)} : ∀ {fs : List Field} {o : Nat} {ks : List IntKind},fldKs P f o fs = some ks → fs.all (·.name != "_") = true
  | [],_,_,_ => rfl
  | x :: r,o,ks,h => by
    simp only [fldKs] at h
    split at h
    · rename_i hx hf
      split at h
      · rename_i h1 h2
        rw [Bool.and_eq_true] at hx
        rw [List.all_cons,hx.1,fldKs_names h2];rfl
      · cases h
    · cases h
theorem flds_mapM {P : Program} {f : TypeId → Option (List IntKind)} {g : TypeId → List Value → Option (List Lit)}
    (hg : ∀ t ks,f t = some ks → ∀ ls : KI,ls.map (·.1) = ks → kWf ls → g t (kVals ls) = some (kLits ls)) :
    ∀ (fs : List Field) (o : Nat) (ks : List IntKind),fldKs P f o fs = some ks → ∀ (pre : List Value) (ls : KI),pre.length = o → ls.map (·.1) = ks → kWf ls →
      (fs.mapM fun x => g x.type (((pre ++ kVals ls).drop x.offset).take (P.cellsOf x.type))).map List.flatten = some (kLits ls)
  | [],o,ks,h,pre,ls,hp,hl,hw => by
    cases h
    have : ls = []:=by simpa using hl
    subst this
    rfl
  | x :: r,o,ks,h,pre,ls,hp,hl,hw => by
    simp only [fldKs] at h
    split at h
    · rename_i ks1 hx hf
      split at h
      · rename_i rest h1 h2
        cases h
        rw [Bool.and_eq_true] at hx
        have ho:=Nat.eq_of_beq_eq_true hx.2
        have hc:=Nat.eq_of_beq_eq_true h1
        obtain ⟨l1,l2,rfl,e1,e2⟩:=List.map_eq_append_iff.1 hl
        have hlen : l1.length = ks1.length:=by rw [← e1];simp
        have hcut : ((pre ++ kVals (l1 ++ l2)).drop x.offset).take (P.cellsOf x.type) = kVals l1:=by
          rw [ho,hc,← hp,List.drop_left,kVals_app,← hlen,← kVals_len l1,List.take_left]
        have ih:=flds_mapM hg r (o + ks1.length) rest h2 (pre ++ kVals l1) l2 (by rw [List.length_append,kVals_len,hp,hlen]) e2 (fun y hy => hw y (List.mem_append_right _ hy))
        rw [List.append_assoc,← kVals_app] at ih
        rw [List.mapM_cons,hcut,hg _ _ hf l1 e1 (fun y hy => hw y (List.mem_append_left _ hy))]
        obtain ⟨ls',hls,hfl⟩:=Option.map_eq_some_iff.1 ih
        rw [hls]
        simp [kLits_app,hfl]
      · cases h
    · cases h
theorem keyLits_of {P : Program} : ∀ (d : Nat) (t : TypeId) (ks : List IntKind),kKinds P d t = some ks → ∀ (e : Nat) (ls : KI),ls.map (·.1) = ks → kWf ls → P.keyLits (d + e) t (kVals ls) = some (kLits ls)
  | 0,_,_,h,_,_,_,_ => by cases h
  | d + 1,t,ks,h,e,ls,hl,hw => by
    simp only [kKinds] at h
    rw [show d + 1 + e = (d + e) + 1 by omega]
    unfold Program.keyLits
    split at h
    · rename_i q hu
      cases h
      obtain ⟨x,rfl,hx⟩ : ∃ x,ls = [x] ∧ x.1 = q:=by
        cases ls with
        | nil => cases hl
        | cons x r =>
          simp only [List.map_cons,List.cons.injEq,List.map_eq_nil_iff] at hl
          exact ⟨x,by rw [hl.2],hl.1⟩
      have:=hw x (by simp)
      simp [hu,kVals,kLits,hx] at this ⊢
      exact this
    · rename_i fs hu
      split at h
      · rename_i ks' hf
        split at h
        · rename_i hc
          cases h
          have hc:=Nat.eq_of_beq_eq_true hc
          have hn:=fldKs_names hf
          have:=flds_mapM (g:=fun t cs => P.keyLits (d + e) t cs) (fun t ks h ls hl hw => keyLits_of d t ks h e ls hl hw) fs.toList 0 ks hf [] ls rfl hl hw
          rw [List.nil_append] at this
          have hlen : (kVals ls).length = P.cellsOf t:=by rw [hc,← hl];simp [kVals]
          have hn' : fs.all (·.name != "_") = true:=by rw [← hn,Array.all_toList]
          simp only [hu]
          rw [if_pos ⟨hlen,hn'⟩]
          exact this
        · cases h
      · cases h
    · cases h
theorem okKey_ks {P : Program} {t : TypeId} {ks : List IntKind} {d : Nat} (h : kKinds P d t = some ks) (hd : d ≤ P.types.size + 1) (hst : (match P.underlying t with | some (.struct _) => true | _ => false) = true) (hk : P.keyType t = true)
    {ls : KI} (hl : ls.map (·.1) = ks) (hw : kWf ls) : okKey P t (.agg (.mk (kVals ls))):=by
  refine ⟨?_,?_⟩
  · unfold Go.keyOf
    cases hu : P.underlying t with
    | none => rw [hu] at hst;cases hst
    | some u =>
      cases u with
      | struct fs =>
        have hc : (kVals ls).length = P.cellsOf t:=by
          cases d with
          | zero => cases h
          | succ d =>
            simp only [kKinds,hu] at h
            split at h
            · split at h
              · rename_i hc
                cases h
                rw [Nat.eq_of_beq_eq_true hc,← hl];simp [kVals]
              · cases h
            · cases h
        have hfm : Value.formed P t (.agg (.mk (kVals ls))) = true:=by simp [Value.formed,hu,hc]
        obtain ⟨e,he⟩ : ∃ e,P.types.size + 1 = d + e:=⟨P.types.size + 1 - d,by omega⟩
        simp only
        rw [if_pos (by rw [hk,hfm];rfl),he]
        have:=keyLits_of d t ks h e ls hl hw
        simp only [Value.cells]
        rw [this]
        exact ⟨_,rfl⟩
      | _ => rw [hu] at hst;cases hst
  · simp only [kSmp,kVals]
    simp [smp]
theorem wf_i64 {s : Int} (h1 : inI s) : (Lit.int .i64 s).wf = true:=by unfold inI at h1;have e1 : IntKind.min .i64 = -9223372036854775808:=rfl;have e2 : IntKind.max .i64 = 9223372036854775807:=rfl;simp only [Lit.wf,e1,e2,Bool.and_eq_true,decide_eq_true_eq];omega
theorem wf_u64 {g : Int} (h2 : inU g) : (Lit.int .u64 g).wf = true:=by unfold inU at h2;have e1 : IntKind.min .u64 = 0:=rfl;have e2 : IntKind.max .u64 = 18446744073709551615:=rfl;simp only [Lit.wf,e1,e2,Bool.and_eq_true,decide_eq_true_eq];omega
abbrev Pl:=Int × Int × Int
abbrev Hn:=Int × Int
def okP' (p : Pl) : Prop:=inI p.1 ∧ inI p.2.1 ∧ inI p.2.2
def okH (h : Hn) : Prop:=inI h.1 ∧ inU h.2
abbrev pKey (p : Pl) : Value:=.agg (.mk [(.int .i64 p.1),(.int .i64 p.2.1),(.int .i64 p.2.2)])
abbrev kKey (h : Hn) (n : Int) : Value:=.agg (.mk [(.int .i64 h.1),(.int .u64 h.2),(.int .i64 n)])
abbrev sKey (p : Pl) (h : Hn) : Value:=.agg (.mk [(.int .i64 p.1),(.int .i64 p.2.1),(.int .i64 p.2.2),(.int .i64 h.1),(.int .u64 h.2)])
theorem keyed59 : Go.Maps.Keyed Try.prog 59:=Go.Maps.Keyed.of_law (deep_law_laid (by kernel_rfl) (m:=4) (by omega) (of_decide_eq_true (by kernel_rfl)) (by kernel_rfl) (by kernel_rfl))
theorem keyed121 : Go.Maps.Keyed Try.prog 121:=Go.Maps.Keyed.of_law (deep_law_laid (by kernel_rfl) (m:=4) (by omega) (of_decide_eq_true (by kernel_rfl)) (by kernel_rfl) (by kernel_rfl))
theorem keyed126 : Go.Maps.Keyed Try.prog 126:=Go.Maps.Keyed.of_law (deep_law_laid (by kernel_rfl) (m:=4) (by omega) (of_decide_eq_true (by kernel_rfl)) (by kernel_rfl) (by kernel_rfl))
theorem okKey59 {p : Pl} (h : okP' p) : okKey Try.prog 59 (pKey p) :=
  okKey_ks (d:=4) (ks:=[.i64,.i64,.i64]) (ls:=[(.i64,p.1),(.i64,p.2.1),(.i64,p.2.2)]) (by kernel_rfl) (Nat.le_of_ble_eq_true (by kernel_rfl)) (by kernel_rfl) (by kernel_rfl) rfl (fun x hx => by
    simp only [List.mem_cons,List.not_mem_nil,or_false] at hx
    rcases hx with rfl | rfl | rfl
    · exact wf_i64 h.1
    · exact wf_i64 h.2.1
    · exact wf_i64 h.2.2)
theorem okKey121 {h : Hn} {n : Int} (h1 : okH h) (h2 : inI n) : okKey Try.prog 121 (kKey h n) :=
  okKey_ks (d:=4) (ks:=[.i64,.u64,.i64]) (ls:=[(.i64,h.1),(.u64,h.2),(.i64,n)]) (by kernel_rfl) (Nat.le_of_ble_eq_true (by kernel_rfl)) (by kernel_rfl) (by kernel_rfl) rfl (fun x hx => by
    simp only [List.mem_cons,List.not_mem_nil,or_false] at hx
    rcases hx with rfl | rfl | rfl
    · exact wf_i64 h1.1
    · exact wf_u64 h1.2
    · exact wf_i64 h2)
theorem okKey126 {p : Pl} {h : Hn} (h1 : okP' p) (h2 : okH h) : okKey Try.prog 126 (sKey p h) :=
  okKey_ks (d:=4) (ks:=[.i64,.i64,.i64,.i64,.u64]) (ls:=[(.i64,p.1),(.i64,p.2.1),(.i64,p.2.2),(.i64,h.1),(.u64,h.2)]) (by kernel_rfl) (Nat.le_of_ble_eq_true (by kernel_rfl)) (by kernel_rfl) (by kernel_rfl) rfl (fun x hx => by
    simp only [List.mem_cons,List.not_mem_nil,or_false] at hx
    rcases hx with rfl | rfl | rfl | rfl | rfl
    · exact wf_i64 h1.1
    · exact wf_i64 h1.2.1
    · exact wf_i64 h1.2.2
    · exact wf_i64 h2.1
    · exact wf_u64 h2.2)
theorem pKey_inj {p q : Pl} (h : pKey p = pKey q) : p = q:=by
  unfold pKey at h
  obtain ⟨a,b,c⟩:=p;obtain ⟨x,y,z⟩:=q
  simpa using h
theorem kKey_inj {h h' : Hn} {n n' : Int} (e : kKey h n = kKey h' n') : h = h' ∧ n = n':=by
  unfold kKey at e
  obtain ⟨a,b⟩:=h;obtain ⟨x,y⟩:=h'
  simp at e
  obtain ⟨rfl,rfl,rfl⟩:=e
  exact ⟨rfl,rfl⟩
theorem sKey_inj {p p' : Pl} {h h' : Hn} (e : sKey p h = sKey p' h') : p = p' ∧ h = h':=by
  unfold sKey at e
  obtain ⟨a,b⟩:=h;obtain ⟨x,y⟩:=h'
  obtain ⟨p1,p2,p3⟩:=p;obtain ⟨q1,q2,q3⟩:=p'
  simp at e
  obtain ⟨rfl,rfl,rfl,rfl,rfl⟩:=e
  exact ⟨rfl,rfl⟩
def isMap (kt : TypeId) (m : Mem) (q : Nat) : Prop:=∃ es c,m q = some (.map es c) ∧ (∀ e ∈ es.toList,∃ l,keyOf Try.prog kt e.key = some l) ∧ es.toList.Pairwise (fun a b => a.key ≠ b.key) ∧ MapKept.Stamped es c
section
variable {kt : TypeId} {m m' : Mem} {q : Nat} {k k' x : Value}
theorem isMap.okM (h : isMap kt m q) : okM Try.prog kt m (.map (some q)):=by
  obtain ⟨es,c,h1,h2,h3,_⟩:=h
  exact .inr ⟨q,es,c,rfl,h1,h2,h3⟩
theorem isMap.congr (h : isMap kt m q) (e : m' q = m q) : isMap kt m' q:=by
  obtain ⟨es,c,h1,h2,h3,h4⟩:=h
  exact ⟨es,c,e.trans h1,h2,h3,h4⟩
theorem mlook_congr (e : m' q = m q) (k : Value) : mlook m' (.map (some q)) k = mlook m (.map (some q)) k:=by
  simp only [mlook,mpE,e]
theorem isMap.there (h : isMap kt m q) : m q ≠ none:=by
  obtain ⟨es,c,h1,_⟩:=h
  rw [h1];simp
theorem mput_oth (v : Value) {a : Nat} (h : a ≠ q) : mput m (.map (some q)) k v a = m a:=if_neg h
theorem mdel_oth {a : Nat} (h : a ≠ q) : mdel m (.map (some q)) k a = m a:=if_neg h
theorem efind_split {k : Value} (hk : kSmp k = true) : ∀ {es : List MapEntry} {i0 j : Nat} {v : Value},efind k es i0 = some (j,v) → ∃ A e B,es = A ++ e :: B ∧ A.length + i0 = j ∧ e.key = k ∧ e.val = v ∧ ∀ a ∈ A,a.key ≠ k
  | [],_,_,_,h => by cases h
  | e :: r,i0,j,v,h => by
    simp only [efind] at h
    split at h
    · rename_i hb
      cases h
      exact ⟨[],e,r,rfl,by simp,((kEq_iff hk).1 hb).symm,rfl,by simp⟩
    · rename_i hb
      obtain ⟨A,e',B,h1,h2,h3,h4,h5⟩:=efind_split hk h
      refine ⟨e :: A,e',B,by rw [h1];rfl,by simp only [List.length_cons];omega,h3,h4,fun a ha => ?_⟩
      simp only [List.mem_cons] at ha
      rcases ha with rfl | ha
      · intro he
        rw [(kEq_iff hk).2 he.symm] at hb;cases hb
      · exact h5 a ha
theorem efind_val {k : Value} (hk : kSmp k = true) {es : List MapEntry} (hd : es.Pairwise fun a b => a.key ≠ b.key) (v : Value) : (efind k es 0).map (·.2) = some v ↔ ∃ e ∈ es,e.key = k ∧ e.val = v:=by
  constructor
  · intro h
    obtain ⟨q,h1,h2⟩:=Option.map_eq_some_iff.1 h
    obtain ⟨A,e,B,h3,_,h4,h5,_⟩:=efind_split hk (j:=q.1) (v:=q.2) h1
    exact ⟨e,by rw [h3];simp,h4,h5.trans h2⟩
  · rintro ⟨e,he,h1,h2⟩
    obtain ⟨j,hj⟩:=List.getElem?_of_mem he
    rw [efind_some hk hd hj h1,← h2];rfl
theorem isMap.look (h : isMap kt m q) (hk : kSmp k = true) (v : Value) : mlook m (.map (some q)) k = some v ↔ ∃ es c,m q = some (.map es c) ∧ ∃ e ∈ es.toList,e.key = k ∧ e.val = v:=by
  obtain ⟨es,c,h1,h2,h3,_⟩:=h
  have : mpE m (.map (some q)) = es.toList:=by simp [mpE,h1]
  unfold mlook
  rw [this,efind_val hk h3]
  constructor
  · exact fun h => ⟨es,c,h1,h⟩
  · rintro ⟨es',c',h4,h5⟩
    rw [h1] at h4;cases h4
    exact h5
theorem opt_ext {a b : Option Value} (h : ∀ v,a = some v ↔ b = some v) : a = b:=by
  cases a with
  | none => cases b with
    | none => rfl
    | some y => exact absurd ((h y).2 rfl) (by simp)
  | some x => exact ((h x).1 rfl).symm
theorem isMap.put (h : isMap kt m q) (hk : okKey Try.prog kt k) (x : Value) : isMap kt (mput m (.map (some q)) k x) q ∧ mlook (mput m (.map (some q)) k x) (.map (some q)) k = some x ∧
    ∀ k',kSmp k' = true → k' ≠ k → mlook (mput m (.map (some q)) k x) (.map (some q)) k' = mlook m (.map (some q)) k':=by
  have h0:=h
  obtain ⟨es,c,h1,h2,h3,hst⟩:=h
  have hs:=hk.2
  have hat : mput m (.map (some q)) k x q = some (esPut k x c es):=by
    simp only [mput,mchg,if_true,h1]
  cases hf : efind k es.toList 0 with
  | none =>
    have hp : mput m (.map (some q)) k x q = some (.map (es.push { key:=k,val:=x,born:=c }) (c + 1)):=by rw [hat];simp only [esPut,hf]
    have hno : ∀ e ∈ es.toList,e.key ≠ k:=by
      intro e he hek
      have:=(efind_val hs h3 e.val).2 ⟨e,he,hek,rfl⟩
      rw [hf] at this;cases this
    have hm : isMap kt (mput m (.map (some q)) k x) q:=by
      refine ⟨_,_,hp,fun e he => ?_,?_⟩
      · rw [Array.toList_push,List.mem_append,List.mem_singleton] at he
        rcases he with he | rfl
        · exact h2 e he
        · exact hk.1
      · rw [Array.toList_push,List.pairwise_append]
        refine ⟨⟨h3,List.pairwise_singleton _ _,fun a ha b hb => ?_⟩,MapKept.stamped_push hst hno⟩
        rw [List.mem_singleton] at hb
        subst hb
        exact hno a ha
    refine ⟨hm,(hm.look hs x).2 ⟨_,_,hp,⟨k,x,c⟩,by simp,rfl,rfl⟩,fun k' hk' hne => opt_ext fun v => ?_⟩
    rw [hm.look hk',h0.look hk']
    constructor
    · rintro ⟨es',c',g1,e,g2,g3,g4⟩
      rw [hp] at g1;cases g1
      rw [Array.toList_push,List.mem_append,List.mem_singleton] at g2
      rcases g2 with g2 | rfl
      · exact ⟨es,c,h1,e,g2,g3,g4⟩
      · exact absurd g3.symm hne
    · rintro ⟨es',c',g1,e,g2,g3,g4⟩
      rw [h1] at g1;cases g1
      exact ⟨_,_,hp,e,by simp [Array.mem_toList_iff.1 g2],g3,g4⟩
  | some r =>
    obtain ⟨j,v0⟩:=r
    obtain ⟨A,e0,B,g1,g2,g3,g4,g5⟩:=efind_split hs hf
    have hp : mput m (.map (some q)) k x q = some (.map (es.modify j fun e => { e with key:=k,val:=x }) c):=by rw [hat];simp only [esPut,hf]
    have hl : (es.modify j fun e => { e with key:=k,val:=x }).toList = A ++ { e0 with key:=k,val:=x } :: B:=by
      rw [Array.toList_modify,g1,List.modify_eq_take_cons_drop (by simp;omega)]
      have : j = A.length:=by omega
      subst this
      simp
    have hpw : (A ++ { e0 with key:=k,val:=x } :: B).Pairwise (fun a b => a.key ≠ b.key):=by
      rw [g1] at h3
      rw [List.pairwise_append,List.pairwise_cons] at h3 ⊢
      refine ⟨h3.1,⟨fun b hb => ?_,h3.2.1.2⟩,fun a ha b hb => ?_⟩
      · have:=h3.2.1.1 b hb;rw [g3] at this;exact this
      · rw [List.mem_cons] at hb
        rcases hb with rfl | hb
        · exact g5 a ha
        · exact h3.2.2 a ha b (List.mem_cons_of_mem _ hb)
    have hm : isMap kt (mput m (.map (some q)) k x) q:=by
      refine ⟨_,_,hp,fun e he => ?_,by rw [hl];exact hpw,MapKept.stamped_modify hst j _ (fun _ _ => rfl) (fun e he hj => ?_)⟩
      rotate_left
      · have e1 : es.toList[j]? = some e:=by simpa using hj
        have e2 : j = A.length:=by omega
        rw [g1,e2,List.getElem?_append_right (Nat.le_refl _),Nat.sub_self,List.getElem?_cons_zero] at e1
        cases e1
        exact g3.symm
      rw [hl,List.mem_append,List.mem_cons] at he
      rcases he with he | rfl | he
      · exact h2 e (by rw [g1];simp [he])
      · exact hk.1
      · exact h2 e (by rw [g1];simp [he])
    refine ⟨hm,(hm.look hs x).2 ⟨_,_,hp,{ e0 with key:=k,val:=x },by rw [hl];simp,rfl,rfl⟩,fun k' hk' hne => opt_ext fun v => ?_⟩
    rw [hm.look hk',h0.look hk']
    constructor
    · rintro ⟨es',c',i1,e,i2,i3,i4⟩
      rw [hp] at i1;cases i1
      rw [hl,List.mem_append,List.mem_cons] at i2
      rcases i2 with i2 | rfl | i2
      · exact ⟨es,c,h1,e,by rw [g1];simp [i2],i3,i4⟩
      · exact absurd i3.symm hne
      · exact ⟨es,c,h1,e,by rw [g1];simp [i2],i3,i4⟩
    · rintro ⟨es',c',i1,e,i2,i3,i4⟩
      rw [h1] at i1;cases i1
      rw [g1,List.mem_append,List.mem_cons] at i2
      refine ⟨_,_,hp,e,?_,i3,i4⟩
      rw [hl,List.mem_append,List.mem_cons]
      rcases i2 with i2 | rfl | i2
      · exact .inl i2
      · exact absurd (i3.symm.trans g3) hne
      · exact .inr (.inr i2)
theorem isMap.del (h : isMap kt m q) (hk : okKey Try.prog kt k) : isMap kt (mdel m (.map (some q)) k) q ∧ mlook (mdel m (.map (some q)) k) (.map (some q)) k = none ∧
    ∀ k',kSmp k' = true → k' ≠ k → mlook (mdel m (.map (some q)) k) (.map (some q)) k' = mlook m (.map (some q)) k':=by
  have h0:=h
  obtain ⟨es,c,h1,h2,h3,hst⟩:=h
  have hs:=hk.2
  have hat : mdel m (.map (some q)) k q = some (esDel k c es):=by
    simp only [mdel,mchg,if_true,h1]
  cases hf : efind k es.toList 0 with
  | none =>
    have hp : mdel m (.map (some q)) k q = some (.map es c):=by rw [hat];simp only [esDel,hf]
    have hq : mdel m (.map (some q)) k q = m q:=hp.trans h1.symm
    refine ⟨h0.congr hq,?_,fun k' _ _ => mlook_congr hq k'⟩
    rw [mlook_congr hq]
    have : mpE m (.map (some q)) = es.toList:=by simp [mpE,h1]
    unfold mlook
    rw [this,hf];rfl
  | some r =>
    obtain ⟨j,v0⟩:=r
    obtain ⟨A,e0,B,g1,g2,g3,g4,g5⟩:=efind_split hs hf
    have hp : mdel m (.map (some q)) k q = some (.map (es.eraseIdxIfInBounds j) c):=by rw [hat];simp only [esDel,hf]
    have hl : (es.eraseIdxIfInBounds j).toList = A ++ B:=by
      have : (es.eraseIdxIfInBounds j).toList = es.toList.eraseIdx j:=by simp
      rw [this,g1]
      have : j = A.length:=by omega
      subst this
      rw [List.eraseIdx_append_of_length_le (Nat.le_refl _)]
      simp
    have h3':=h3
    rw [g1,List.pairwise_append,List.pairwise_cons] at h3'
    have hm : isMap kt (mdel m (.map (some q)) k) q:=by
      refine ⟨_,_,hp,fun e he => ?_,?_⟩
      · rw [hl,List.mem_append] at he
        rcases he with he | he
        · exact h2 e (by rw [g1];simp [he])
        · exact h2 e (by rw [g1];simp [he])
      · rw [hl,List.pairwise_append]
        exact ⟨⟨h3'.1,h3'.2.1.2,fun a ha b hb => h3'.2.2 a ha b (List.mem_cons_of_mem _ hb)⟩,MapKept.stamped_erase hst j⟩
    have hno : ∀ e ∈ A ++ B,e.key ≠ k:=by
      intro e he hek
      rw [List.mem_append] at he
      rcases he with he | he
      · exact g5 e he hek
      · exact h3'.2.1.1 e he (g3.trans hek.symm)
    refine ⟨hm,?_,fun k' hk' hne => opt_ext fun v => ?_⟩
    · cases hv : mlook (mdel m (.map (some q)) k) (.map (some q)) k with
      | none => rfl
      | some v =>
        obtain ⟨es',c',i1,e,i2,i3,i4⟩:=(hm.look hs v).1 hv
        rw [hp] at i1;cases i1
        rw [hl] at i2
        exact absurd i3 (hno e i2)
    rw [hm.look hk',h0.look hk']
    constructor
    · rintro ⟨es',c',i1,e,i2,i3,i4⟩
      rw [hp] at i1;cases i1
      rw [hl,List.mem_append] at i2
      exact ⟨es,c,h1,e,by rw [g1,List.mem_append,List.mem_cons];exact i2.imp id .inr,i3,i4⟩
    · rintro ⟨es',c',i1,e,i2,i3,i4⟩
      rw [h1] at i1;cases i1
      rw [g1,List.mem_append,List.mem_cons] at i2
      refine ⟨_,_,hp,e,?_,i3,i4⟩
      rw [hl,List.mem_append]
      rcases i2 with i2 | rfl | i2
      · exact .inl i2
      · exact absurd (i3.symm.trans g3) hne
      · exact .inr i2
end
end Go.Proofs.Ytnlohongffpkpaa.T16
end

section
namespace Go.Proofs.Ytnlohongffpkpaa.T16
open Go Go.RowKit Go.Proofs.Ytnlohongffpkpaa.Sx Go.Proofs
set_option linter.unusedVariables false
set_option linter.unusedSimpArgs false
structure Str where
  tree : Bool
  t : Nat
  D : Nat → Prop
  hs : List Hn
def tsD (S : TS) (a : Nat) : Prop:=a = S.t ∨ a = S.q ∨ S.H ((a : Int) + 1) ≠ none
def InL (X : Str) (m : Mem) : Prop:=∃ q L,DL m X.t q L ∧ (∀ a,X.D a ↔ dlD X.t q L a) ∧ X.hs = hsL L
def InT (X : Str) (m : Mem) : Prop:=∃ (S : TS) (t : T) (n : Nat),S.mem m = m ∧ Tre S t n ∧ X.t = S.t ∧ (∀ a,X.D a ↔ tsD S a) ∧ X.hs = hans t
def Str.In (X : Str) (m : Mem) : Prop:=(X.tree = false ∧ InL X m) ∨ (X.tree = true ∧ InT X m)
theorem Str.In.l {X : Str} {m : Mem} (h : X.In m) (ht : X.tree = false) : InL X m:=by
  rcases h with h | h
  · exact h.2
  · rw [ht] at h;cases h.1
theorem Str.In.tr {X : Str} {m : Mem} (h : X.In m) (ht : X.tree = true) : InT X m:=by
  rcases h with h | h
  · rw [ht] at h;cases h.1
  · exact h.2
theorem ts_in {S : TS} {a : Nat} (h : tsD S a) (m m' : Mem) : S.mem m a = S.mem m' a:=by
  unfold TS.mem
  by_cases h1 : a = S.t
  · simp [h1]
  · by_cases h2 : a = S.q
    · rw [if_neg h1,if_pos h2,if_neg h1,if_pos h2]
    · rw [if_neg h1,if_neg h2,if_neg h1,if_neg h2]
      have h3 : S.H ((a : Int) + 1) ≠ none:=by
        rcases h with h | h | h
        · exact absurd h h1
        · exact absurd h h2
        · exact h
      cases e : S.H ((a : Int) + 1) with
      | none => exact absurd e h3
      | some d => rfl
theorem ts_out {S : TS} {a : Nat} (h : ¬ tsD S a) (m : Mem) : S.mem m a = m a:=by
  unfold TS.mem
  have h1 : a ≠ S.t:=fun e => h (.inl e)
  have h2 : a ≠ S.q:=fun e => h (.inr (.inl e))
  have h3 : S.H ((a : Int) + 1) = none:=by
    cases e : S.H ((a : Int) + 1) with
    | none => rfl
    | some d => exact absurd (.inr (.inr (by rw [e];simp))) h
  simp [h1,h2,h3]
theorem ts_there {S : TS} {a : Nat} (h : tsD S a) (m : Mem) : S.mem m a ≠ none:=by
  unfold TS.mem
  by_cases h1 : a = S.t
  · simp [h1]
  · by_cases h2 : a = S.q
    · rw [if_neg h1,if_pos h2];simp
    · rw [if_neg h1,if_neg h2]
      rcases h with h | h | h
      · exact absurd h h1
      · exact absurd h h2
      · cases e : S.H ((a : Int) + 1) with
        | none => exact absurd e h
        | some d => simp
theorem ts_idem (S : TS) (m : Mem) : S.mem (S.mem m) = S.mem m:=by
  funext a
  by_cases h : tsD S a
  · exact ts_in h _ _
  · exact ts_out h _
theorem Str.In.congr {X : Str} {m m' : Mem} (h : X.In m) (hm : ∀ a,X.D a → m' a = m a) : X.In m':=by
  rcases h with ⟨ht,q,L,h1,h2,h3⟩ | ⟨ht,S,t,n,h1,h2,h3,h4,h5⟩
  · exact .inl ⟨ht,q,L,h1.congr fun a ha => hm a ((h2 a).2 ha),h2,h3⟩
  · refine .inr ⟨ht,S,t,n,?_,h2,h3,h4,h5⟩
    funext a
    by_cases h : tsD S a
    · rw [ts_in h m' m,h1];exact (hm a ((h4 a).2 h)).symm
    · exact ts_out h _
theorem Str.In.there {X : Str} {m : Mem} (h : X.In m) {a : Nat} (ha : X.D a) : m a ≠ none:=by
  rcases h with ⟨ht,q,L,h1,h2,h3⟩ | ⟨ht,S,t,n,h1,h2,h3,h4,h5⟩
  · exact h1.there ((h2 a).1 ha)
  · rw [← h1];exact ts_there ((h4 a).1 ha) m
theorem Str.In.rng {X : Str} {m : Mem} (h : X.In m) {k : Hn} (hk : k ∈ X.hs) : okH k:=by
  rcases h with ⟨ht,q,L,h1,h2,h3⟩ | ⟨ht,S,t,n,h1,h2,h3,h4,h5⟩
  · rw [h3] at hk
    obtain ⟨x,hx,rfl⟩:=List.mem_map.1 hk
    exact h1.rng hx
  · rw [h5] at hk;exact h2.rng hk
theorem nodup_of {α : Type} {l : List α} (h : ∀ (i j : Nat) (x : α),l[i]? = some x → l[j]? = some x → i = j) : l.Nodup:=by
  rw [List.nodup_iff_pairwise_ne,List.pairwise_iff_getElem]
  intro i j hi hj hij e
  have:=h i j l[i] (List.getElem?_eq_getElem hi) (by rw [e];exact List.getElem?_eq_getElem hj)
  omega
theorem Str.In.nodup {X : Str} {m : Mem} (h : X.In m) : X.hs.Nodup:=by
  rcases h with ⟨ht,q,L,h1,h2,h3⟩ | ⟨ht,S,t,n,h1,h2,h3,h4,h5⟩
  · rw [h3];exact nodup_of fun i j x hi hj => h1.hinj hi hj
  · rw [h5];exact nodup_of fun i j x hi hj => h2.inj hi hj
def putE {α : Type} (o : Bool) (x : α) (L : List α) : List α:=match o with | true => x :: L | false => L ++ [x]
structure Str.to (X X' : Str) (m m' : Mem) : Prop where
  in' : X'.In m'
  tree : X'.tree = X.tree
  t : X'.t = X.t
  dom : ∀ a,X'.D a → X.D a ∨ m a = none
  keep : ∀ a,m a ≠ none → ¬ X.D a → m' a = m a
theorem erase_mid {A B : List Hn} {k : Hn} (h : (A ++ k :: B).Nodup) : (A ++ k :: B).erase k = A ++ B:=by
  rw [List.nodup_append] at h
  rw [List.erase_append_right _ (fun hk => h.2.2 k hk k (by simp) rfl),List.erase_cons_head]
theorem eraseIdx_erase {l : List Hn} (h : l.Nodup) {j : Nat} {k : Hn} (hj : l[j]? = some k) : l.eraseIdx j = l.erase k:=by
  obtain ⟨A,B,e,hl⟩ : ∃ A B,l = A ++ k :: B ∧ A.length = j:=by
    refine ⟨l.take j,l.drop (j + 1),?_,?_⟩
    · have hlt:=(List.getElem?_eq_some_iff.1 hj).1
      have hk:=(List.getElem?_eq_some_iff.1 hj).2
      rw [← hk]
      simp
    · rw [List.length_take];have:=(List.getElem?_eq_some_iff.1 hj).1;omega
  subst e
  rw [erase_mid h,← hl,List.eraseIdx_append_of_length_le (Nat.le_refl _)]
  simp
section
variable {X : Str} {m : Mem}
theorem Str.push (h : X.In m) (ht : X.tree = false) {k : Hn} (hk : okH k) (o : Bool) : lpushP m ((X.t : Int) + 1) k.1 k.2 o ∧
    ∀ y,lpushQ m ((X.t : Int) + 1) k.1 k.2 o y → (k ∈ X.hs ∧ y.i = [7] ∧ y.m = m) ∨ (k ∉ X.hs ∧ y.i = [0] ∧ ∃ X',X.to X' m y.m ∧ X'.hs = putE o k X.hs):=by
  obtain ⟨q,L,h1,h2,h3⟩:=h.l ht
  have hG : (DG.mk X.t q L).is m ((X.t : Int) + 1) ∧ inI k.1 ∧ inU k.2:=⟨⟨rfl,h1⟩,hk.1,hk.2⟩
  refine ⟨⟨_,hG⟩,fun y hy => ?_⟩
  rcases hy _ hG with ⟨a1,a2,a3⟩ | ⟨a1,a2,a,a3,a4,a5⟩
  · exact .inl ⟨by rw [h3];exact a1,a2,a3⟩
  · simp only at a1 a4 a5
    refine .inr ⟨by rw [h3];exact a1,a2,⟨false,X.t,dlD X.t q (putE o (a,k.1,k.2) L),putE o k X.hs⟩,⟨.inl ⟨rfl,q,putE o (a,k.1,k.2) L,a4,fun _ => Iff.rfl,?_⟩,ht.symm,rfl,fun b hb => ?_,fun b hb hd => ?_⟩,rfl⟩
    · rw [h3];cases o <;> simp [hsL,putE]
    · have : dlD X.t q L b ∨ b = a:=by
        cases o <;> simp only [dlD,putE,List.map_cons,List.map_append,List.mem_cons,List.mem_append,List.map_nil,List.not_mem_nil,or_false] at hb ⊢
        · rcases hb with hb | hb | hb | hb
          · exact .inl (.inl hb)
          · exact .inl (.inr (.inl hb))
          · exact .inl (.inr (.inr hb))
          · exact .inr hb
        · rcases hb with hb | hb | hb | hb
          · exact .inl (.inl hb)
          · exact .inl (.inr (.inl hb))
          · exact .inr hb
          · exact .inl (.inr (.inr hb))
      rcases this with hb | rfl
      · exact .inl ((h2 b).2 hb)
      · exact .inr a3
    · exact a5 b hb fun e => hd ((h2 b).2 e)
theorem lto {q : Nat} {L A B : LN} {x : Nat × Int × Int} {m' : Mem} (h : X.In m) (ht : X.tree = false) (h2 : ∀ a,X.D a ↔ dlD X.t q L a) (h3 : X.hs = hsL L) (hL : L = A ++ x :: B) (hd : DL m' X.t q (A ++ B)) (hk : keepD X.t q L m m') :
    ∃ X',X.to X' m m' ∧ X'.hs = X.hs.erase (x.2.1,x.2.2):=by
  refine ⟨⟨false,X.t,dlD X.t q (A ++ B),hsL (A ++ B)⟩,⟨.inl ⟨rfl,q,_,hd,fun _ => Iff.rfl,rfl⟩,ht.symm,rfl,fun b hb => .inl ((h2 b).2 ?_),fun b hb hn => hk b hb fun e => hn ((h2 b).2 e)⟩,?_⟩
  · rcases hb with hb | hb | hb
    · exact .inl hb
    · exact .inr (.inl hb)
    · refine .inr (.inr ?_)
      rw [hL,List.map_append,List.mem_append,List.map_cons,List.mem_cons]
      rw [List.map_append,List.mem_append] at hb
      exact hb.imp id .inr
  · have hn:=h.nodup
    show hsL (A ++ B) = _
    have e : X.hs = hsL A ++ (x.2.1,x.2.2) :: hsL B:=by rw [h3,hL,hsL_app,hsL_cons]
    rw [e] at hn ⊢
    rw [erase_mid hn,hsL_app]
theorem Str.pop (h : X.In m) (ht : X.tree = false) (o : Bool) : lpopP m ((X.t : Int) + 1) o ∧
    ∀ y,lpopQ m ((X.t : Int) + 1) o y → (X.hs = [] ∧ y.i = [0,0] ∧ y.b = [false] ∧ y.m = m) ∨ (∃ k,endH X.hs o = some k ∧ y.i = [k.1,k.2] ∧ y.b = [true] ∧ ∃ X',X.to X' m y.m ∧ X'.hs = X.hs.erase k):=by
  obtain ⟨q,L,h1,h2,h3⟩:=h.l ht
  have hG : DG.isN m ((X.t : Int) + 1) (some (DG.mk X.t q L)):=⟨rfl,h1⟩
  refine ⟨⟨_,hG⟩,fun y hy => ?_⟩
  rcases hy _ hG with ⟨a1,a2,a3,a4⟩ | ⟨A,x,B,a1,a2,a3,a4,a5,a6⟩
  · simp only at a1
    exact .inl ⟨by rw [h3,a1];rfl,a2,a3,a4⟩
  · simp only at a1
    refine .inr ⟨(x.2.1,x.2.2),?_,a3,a4,lto h ht h2 h3 a1 a5 a6⟩
    rw [h3,a1,hsL_app,hsL_cons]
    cases o with
    | true => cases a2;rfl
    | false => cases a2;simp [endH,hsL]
theorem Str.peek (h : X.In m) (ht : X.tree = false) (o : Bool) : lpeekP m ((X.t : Int) + 1) o ∧ ∀ y,lpeekQ m ((X.t : Int) + 1) o y → peekPost X.hs o y ∧ y.m = m:=by
  obtain ⟨q,L,h1,h2,h3⟩:=h.l ht
  have hG : DG.isN m ((X.t : Int) + 1) (some (DG.mk X.t q L)):=⟨rfl,h1⟩
  refine ⟨⟨_,hG⟩,fun y hy => ?_⟩
  have:=hy _ hG
  rw [h3];exact this
theorem Str.lrem (h : X.In m) (ht : X.tree = false) {k : Hn} (hk : okH k) : lremoveP m ((X.t : Int) + 1) k.1 k.2 ∧
    ∀ y,lremoveQ m ((X.t : Int) + 1) k.1 k.2 y → (k ∉ X.hs ∧ y.m = m) ∨ (k ∈ X.hs ∧ ∃ X',X.to X' m y.m ∧ X'.hs = X.hs.erase k):=by
  obtain ⟨q,L,h1,h2,h3⟩:=h.l ht
  have hG : (DG.mk X.t q L).is m ((X.t : Int) + 1) ∧ inI k.1 ∧ inU k.2:=⟨⟨rfl,h1⟩,hk.1,hk.2⟩
  refine ⟨⟨_,hG⟩,fun y hy => ?_⟩
  rcases hy _ hG with ⟨a1,a2,a3⟩ | ⟨A,x,B,a1,a2,a3,a4,a5,a6⟩
  · exact .inl ⟨by rw [h3];exact a1,a3⟩
  · simp only at a1 a5 a6
    have ek : k = (x.2.1,x.2.2):=by rw [a2,a3]
    refine .inr ⟨?_,?_⟩
    · rw [h3,a1,hsL_app,hsL_cons,ek];simp
    · rw [ek];exact lto h ht h2 h3 a1 a5 a6
theorem tto {S S' : TS} {t' : T} {n' : Nat} {m' : Mem} (ht : X.tree = true) (h1 : S.mem m = m) (h3 : X.t = S.t) (h4 : ∀ a,X.D a ↔ tsD S a) (e1 : m' = S'.mem m) (e2 : S'.t = S.t) (e3 : Tre S' t' n') (hd : ∀ a,tsD S' a → tsD S a ∨ m a = none) :
    ∃ X',X.to X' m m' ∧ X'.hs = hans t':=by
  refine ⟨⟨true,S'.t,tsD S',hans t'⟩,⟨.inr ⟨rfl,S',t',n',by rw [e1];exact ts_idem _ _,e3,rfl,fun _ => Iff.rfl,rfl⟩,ht.symm,e2.trans h3.symm,fun a ha => (hd a ha).imp (h4 a).2 id,fun a ha hn => ?_⟩,rfl⟩
  rw [e1]
  refine ts_out (fun hs => ?_) m
  rcases hd a hs with h | h
  · exact hn ((h4 a).2 h)
  · exact ha h
theorem Str.ins (h : X.In m) (ht : X.tree = true) (hsz : X.hs.length + 1 < 1152921504606846976) {k : Hn} (hk : okH k) (i : Int) : insertP m ((X.t : Int) + 1) i k.1 k.2 ∧
    ∀ y,insertQ m ((X.t : Int) + 1) i k.1 k.2 y → ((i < 0 ∨ (X.hs.length : Int) < i) ∧ y.i = [2] ∧ y.m = m) ∨ (0 ≤ i ∧ i ≤ X.hs.length ∧ k ∈ X.hs ∧ y.i = [7] ∧ y.m = m) ∨
      (0 ≤ i ∧ i ≤ X.hs.length ∧ k ∉ X.hs ∧ y.i = [0] ∧ ∃ X',X.to X' m y.m ∧ X'.hs = X.hs.take i.toNat ++ k :: X.hs.drop i.toNat):=by
  obtain ⟨S,t,n,h1,h2,h3,h4,h5⟩:=h.tr ht
  have hlen : X.hs.length = (nodes t).length:=by rw [h5];simp [hans]
  have hG : (TG.mk S m t n).is m ((X.t : Int) + 1) ∧ t.size + 1 < 1152921504606846976 ∧ inI k.1 ∧ inU k.2:=⟨⟨h1.symm,by rw [h3];rfl,h2⟩,by rw [hlen,len_nodes] at hsz;exact hsz,hk.1,hk.2⟩
  refine ⟨⟨_,hG⟩,fun y hy => ?_⟩
  have hmem : (∃ x ∈ nodes t,x.2.1 = k.1 ∧ x.2.2 = k.2) ↔ k ∈ X.hs:=by
    rw [h5,hans,List.mem_map]
    constructor
    · rintro ⟨x,hx,e1,e2⟩;exact ⟨x,hx,by rw [e1,e2]⟩
    · rintro ⟨x,hx,rfl⟩;exact ⟨x,hx,rfl,rfl⟩
  rcases hy _ hG with ⟨a1,a2,a3⟩ | ⟨a1,a2,a3,a4,a5⟩ | ⟨a1,a2,a3,a4,S',t',n',a,b1,b2,b3,b4,b5,b6,b7⟩
  · exact .inl ⟨by rw [hlen];exact a1,a2,a3.trans h1⟩
  · exact .inr (.inl ⟨a1,by rw [hlen];exact a2,hmem.1 a3,a4,a5.trans h1⟩)
  · refine .inr (.inr ⟨a1,by rw [hlen];exact a2,fun hk => ?_,a4,?_⟩)
    · obtain ⟨x,hx,e1,e2⟩:=hmem.2 hk
      exact a3 x hx ⟨e1,e2⟩
    · simp only at b1 b2 b3 b4 b5 b6 b7
      rw [h1] at b6
      obtain ⟨X',c1,c2⟩:=tto (S':=S') ht h1 h3 h4 b1 b2 b4 (fun c hc => by
        rcases hc with hc | hc | hc
        · exact .inl (.inl (hc.trans b2))
        · exact .inl (.inr (.inl (hc.trans b3)))
        · by_cases e : c = a
          · subst e;exact .inr b6
          · refine .inl (.inr (.inr fun hn => hc ((b7 _).2 ⟨hn,by omega⟩))))
      refine ⟨X',c1,?_⟩
      rw [c2,hans,b5,h5,hans]
      simp [List.map_take,List.map_drop]
theorem Str.trem (h : X.In m) (ht : X.tree = true) {k : Hn} (hk : okH k) : removeP m ((X.t : Int) + 1) k.1 k.2 ∧
    ∀ y,removeQ m ((X.t : Int) + 1) k.1 k.2 y → (k ∉ X.hs ∧ y.m = m) ∨ (k ∈ X.hs ∧ ∃ X',X.to X' m y.m ∧ X'.hs = X.hs.erase k):=by
  obtain ⟨S,t,n,h1,h2,h3,h4,h5⟩:=h.tr ht
  have hG : (TG.mk S m t n).is m ((X.t : Int) + 1) ∧ inI k.1 ∧ inU k.2:=⟨⟨h1.symm,by rw [h3];rfl,h2⟩,hk.1,hk.2⟩
  refine ⟨⟨_,hG⟩,fun y hy => ?_⟩
  rcases hy _ hG with ⟨j,a1,a2,a3,S',t',n',b1,b2,b3,b4,b5,b6⟩ | ⟨a1,a2,a3,a4⟩
  · simp only at a1 b1 b2 b3 b4 b5 b6
    refine .inr ⟨by rw [h5];exact List.mem_of_getElem? a1,?_⟩
    obtain ⟨X',c1,c2⟩:=tto (S':=S') ht h1 h3 h4 b1 b2 b4 (fun c hc => by
      rcases hc with hc | hc | hc
      · exact .inl (.inl (hc.trans b2))
      · exact .inl (.inr (.inl (hc.trans b3)))
      · exact .inl (.inr (.inr fun hn => hc ((b6 _).2 hn))))
    refine ⟨X',c1,?_⟩
    have hn:=h.nodup
    rw [h5] at hn
    rw [c2,b5,h5,eraseIdx_erase hn a1]
  · simp only at a1 a4
    exact .inl ⟨fun hk => a1 k (by rw [← h5];exact hk) rfl,a4.trans h1⟩
theorem Str.lnew {y : Vars} (h : lnewQ m y) : ∃ X : Str,y.i = [(X.t : Int) + 1] ∧ X.In y.m ∧ X.tree = false ∧ X.hs = [] ∧ (∀ a,X.D a → m a = none) ∧ ∀ a,m a ≠ none → y.m a = m a:=by
  obtain ⟨t,q,a1,a2,a3,a4,a5⟩:=h
  refine ⟨⟨false,t,dlD t q [],[]⟩,a1,.inl ⟨rfl,q,[],a4,fun _ => Iff.rfl,rfl⟩,rfl,rfl,fun a ha => ?_,a5⟩
  rcases ha with rfl | rfl | ha
  · exact a2
  · exact a3
  · cases ha
theorem Str.tnew {y : Vars} (h : freshQ m y) : ∃ X : Str,y.i = [(X.t : Int) + 1] ∧ X.In y.m ∧ X.tree = true ∧ X.hs = [] ∧ (∀ a,X.D a → m a = none) ∧ ∀ a,m a ≠ none → y.m a = m a:=by
  obtain ⟨S,a1,a2,a3,a4,a5,a6⟩:=h
  refine ⟨⟨true,S.t,tsD S,[]⟩,a1,.inr ⟨rfl,S,.nil,0,by rw [a2];exact ts_idem _ _,a3,rfl,fun _ => Iff.rfl,rfl⟩,rfl,rfl,fun a ha => ?_,fun a ha => ?_⟩
  · rcases ha with rfl | rfl | ha
    · exact a4
    · exact a5
    · exact absurd (a6 _) ha
  · rw [a2]
    refine ts_out (fun hd => ?_) m
    rcases hd with rfl | rfl | hd
    · exact ha a4
    · exact ha a5
    · exact hd (a6 _)
theorem Str.llen (h : X.In m) (ht : X.tree = false) : llenOK m ((X.t : Int) + 1) ∧ llenV m ((X.t : Int) + 1) = X.hs.length:=by
  obtain ⟨q,L,h1,h2,h3⟩:=h.l ht
  have:=llen_spec h1
  rw [h3,hsL_len];exact this
theorem Str.tlen (h : X.In m) (ht : X.tree = true) : lenOK m ((X.t : Int) + 1) ∧ lenV m ((X.t : Int) + 1) = X.hs.length:=by
  obtain ⟨S,t,n,h1,h2,h3,h4,h5⟩:=h.tr ht
  have:=len_spec (b:=m) h2.at'
  rw [h1] at this
  rw [h5,len_hans,h3];exact this
theorem Str.lall (h : X.In m) (ht : X.tree = false) (hsz : X.hs.length < 1099511627776) : lallP m ((X.t : Int) + 1) ∧ ∀ y,lallQ m ((X.t : Int) + 1) y → rowOf m X.hs (hdV y.v) y.m:=by
  obtain ⟨q,L,h1,h2,h3⟩:=h.l ht
  have hG : (DG.mk X.t q L).is m ((X.t : Int) + 1) ∧ L.length < 1099511627776:=⟨⟨rfl,h1⟩,by rw [h3,hsL_len] at hsz;exact hsz⟩
  refine ⟨⟨_,hG⟩,fun y hy => ?_⟩
  rw [h3];exact hy _ hG
theorem Str.tall (h : X.In m) (ht : X.tree = true) (hsz : X.hs.length < 1099511627776) : allP m ((X.t : Int) + 1) ∧ ∀ y,allQ m ((X.t : Int) + 1) y → rowOf m X.hs (hdV y.v) y.m:=by
  obtain ⟨S,t,n,h1,h2,h3,h4,h5⟩:=h.tr ht
  have hG : (TG.mk S m t n).is m ((X.t : Int) + 1) ∧ t.size < 1099511627776:=⟨⟨h1.symm,by rw [h3];rfl,h2⟩,by rw [h5,len_hans] at hsz;exact hsz⟩
  refine ⟨⟨_,hG⟩,fun y hy => ?_⟩
  rw [h5];exact hy _ hG
theorem Str.tat (h : X.In m) (ht : X.tree = true) {i : Nat} {k : Hn} (hi : X.hs[i]? = some k) : atP m ((X.t : Int) + 1) i ∧ ∀ y,atQ m ((X.t : Int) + 1) i y → y.m = m ∧ y.i = [k.1,k.2] ∧ y.b = [true]:=by
  obtain ⟨S,t,n,h1,h2,h3,h4,h5⟩:=h.tr ht
  have hG : (TG.mk S m t n).is m ((X.t : Int) + 1):=⟨h1.symm,by rw [h3];rfl,h2⟩
  refine ⟨⟨_,hG⟩,fun y hy => ?_⟩
  obtain ⟨a1,a2⟩:=hy _ hG
  rw [h5] at hi
  exact ⟨a2,at_ok a1 hi⟩
end
end Go.Proofs.Ytnlohongffpkpaa.T16
end

section
namespace Go.Proofs.Ytnlohongffpkpaa.T16
open Go Go.RowKit Go.Proofs.Ytnlohongffpkpaa.Sx Go.Proofs
set_option linter.unusedVariables false
set_option linter.unusedSimpArgs false
def iOf : C → Option Int
  | .li .i64 n => some n
  | .si .i64 n => some n
  | _ => none
def plaOf : V → Option (Int × Int × Int)
  | .u (.agg [a,b,c]) => (match iOf a,iOf b,iOf c with | some x,some y,some z => some (x,y,z) | _,_,_ => none)
  | _ => none
theorem iOf_den {c : C} {n : Int} (h : iOf c = some n) (ρ : Nat → Nat) : c.den ρ = .int .i64 n:=by
  unfold iOf at h
  split at h
  · cases h;rfl
  · cases h;rfl
  · cases h
theorem plaOf_den {v : V} {x y z : Int} (h : plaOf v = some (x,y,z)) (ρ : Nat → Nat) : v.den ρ = V.den ρ (.u (.agg [.si .i64 x,.si .i64 y,.si .i64 z])):=by
  unfold plaOf at h
  split at h
  · rename_i a b c
    split at h
    · rename_i h1 h2 h3
      cases h
      simp only [V.den,U.den,dens,List.map_cons,List.map_nil,iOf_den h1,iOf_den h2,iOf_den h3]
      rfl
    · cases h
  · cases h
theorem svOf_den2 {v : V} {x : Value} (h : svOf v = some x) (ρ : Nat → Nat) : v.den ρ = V.den ρ (.u (.c (.sv x))):=by
  unfold svOf at h
  split at h
  · rename_i u
    cases h
    show pl u = pl (pl u)
    cases u <;> rfl
  · cases h;rfl
  · cases h
def vU8 : V → Int
  | .u (.c (.li .u8 n)) => n
  | .u (.c (.si .u8 n)) => n
  | _ => 0
def vPB : V → Int × Int × Int × Bool
  | .tup [.agg [a,b,c],.c d] => (cI a,cI b,cI c,cB d)
  | _ => (0,0,0,false)
def flatP : Tr → Prop
  | .leaf _ => True
  | .br _ t e => flatP t ∧ flatP e
  | .req _ t => flatP t
  | .letm m f => flatP (f m)
  | .no _ => True
  | _ => False
theorem flat_spec {p : V → Mem → Prop} : ∀ {T : Tr},flatP T → T.sat (isMemo p) → okP T ∧ p (outV T) (outM T)
  | .leaf (.memo _ _),_,h => ⟨trivial,h⟩
  | .leaf (.ret _ _ _),_,h => h.elim
  | .leaf (.out _ _),_,h => h.elim
  | .leaf (.val _),_,h => h.elim
  | .leaf (.again _),_,h => h.elim
  | .leaf (.up _),_,h => h.elim
  | .br b t e,hf,h => by
    cases b
    · have:=flat_spec (T:=e) hf.2 (h.2 rfl)
      exact ⟨⟨(fun e => by cases e),fun _ => this.1⟩,this.2⟩
    · have:=flat_spec (T:=t) hf.1 (h.1 rfl)
      exact ⟨⟨fun _ => this.1,(fun e => by cases e)⟩,this.2⟩
  | .req q t,hf,h => by
    have:=flat_spec (T:=t) hf h.2
    exact ⟨⟨h.1,this.1⟩,this.2⟩
  | .letm m f,hf,h => flat_spec (T:=f m) hf h
  | .any _ _,hf,_ => hf.elim
  | .lp _ _,hf,_ => hf.elim
  | .no _,_,h => h.elim
def T_made (m : Mem) (t : Int) : Tr:=(.br (cmpOK m t 0) (.br (bNot (peq t 0)) (.br (nzp t) (.br (nzp t) (.br (okL m t 0 [(.raw (.map (.none)))]) (.br (isMpV (pl (mcell m t 0))) (.leaf (.memo (.u (.c (.sb (bNot (isNilM (pl (mcell m t 0))))))) m)) (.no 109)) (.no 70)) (.no 76)) (.no 75)) (.leaf (.memo (.u (.c (.lb false))) m))) (.no 78))
theorem t_made (m : Mem) (t : Int) : runm Try.prog [] (drawx Try.prog []) 300 57 [.u (.c (.np t 0))] m [98,92,95,142,140,137,111,107,108,109] = T_made m t:=by kernel_rfl
def madeOK (m : Mem) (t : Int) : Prop:=okP (T_made m t)
def madeV (m : Mem) (t : Int) : Bool:=vBool (outV (T_made m t))
theorem made_all (m : Mem) (t : Int) : allL (fun v m' => m' = m ∧ ∀ ρ,V.den ρ v = V.den ρ (.u (.c (.sb (vBool v))))) (T_made m t):=by
  simp only [T_made,allL]
  repeat' (first | exact fun _ => rfl | exact fun _ => trivial | exact trivial | rfl | constructor)
def s_made : Sum:=rdSum 57 fun m a => match a with | [a0] => (match ptrOf a0 with | some t => some (madeOK m t,.u (.c (.sb (madeV m t)))) | _ => none) | _ => none
theorem s_made_ok : SumOK Try.prog s_made:=by
  refine rdSum_ok ⟨_,Try.func57,by kernel_rfl⟩ fun m args pre v h hp hw ρ w hm => ?_
  split at h
  · split at h
    · rename_i a0 _  t h0
      cases h
      exact dm_calls nameOK okn (dOK okn) 300 _ m _ (t_made m t) hp (allL_out (made_all m t) hp).1 ρ ((allL_out (made_all m t) hp).2 ρ) w hm (by simp only [List.map_cons,List.map_nil,ptrOf_den h0])
    · cases h
  · cases h
def T_listed (m : Mem) (t : Int) (pm ps pa : Int) : Tr:=(.br (nzp t) (.br (nzp t) (.br (okL m t 0 [(.raw (.map (.none)))]) (.req ((Go.Maps.Keyed Try.prog 59) ∧ ((okM Try.prog 59 m (pl (mcell m t 0))) ∧ ((okKey Try.prog 59 (.agg (.mk [(.int .i64 pm),(.int .i64 ps),(.int .i64 pa)]))) ∧ (((okU (.c (.raw .nilIface)) (lkZ m (pl (mcell m t 0)) (.agg (.mk [(.int .i64 pm),(.int .i64 ps),(.int .i64 pa)])) .nilIface)) : Bool) = true)))) (.br (isIfV (pl (lkZ m (pl (mcell m t 0)) (.agg (.mk [(.int .i64 pm),(.int .i64 ps),(.int .i64 pa)])) .nilIface))) (.leaf (.memo (.u (.c (.np (ifP 112 (pl (lkZ m (pl (mcell m t 0)) (.agg (.mk [(.int .i64 pm),(.int .i64 ps),(.int .i64 pa)])) .nilIface))) 0))) m)) (.no 130))) (.no 70)) (.no 76)) (.no 75))
theorem t_listed (m : Mem) (t : Int) (pm ps pa : Int) : runm Try.prog [] (drawx Try.prog []) 300 58 [.u (.c (.np t 0)),.u (.agg [.si .i64 pm,.si .i64 ps,.si .i64 pa])] m [98,92,95,142,140,137,111,107,108,109] = T_listed m t pm ps pa:=by kernel_rfl
def listedOK (m : Mem) (t : Int) (pm ps pa : Int) : Prop:=okP (T_listed m t pm ps pa)
def listedV (m : Mem) (t : Int) (pm ps pa : Int) : Int:=vPtr (outV (T_listed m t pm ps pa))
theorem listed_all (m : Mem) (t : Int) (pm ps pa : Int) : allL (fun v m' => m' = m ∧ ∀ ρ,V.den ρ v = V.den ρ (.u (.c (.np (vPtr v) 0)))) (T_listed m t pm ps pa):=by
  simp only [T_listed,allL]
  repeat' (first | exact fun _ => rfl | exact fun _ => trivial | exact trivial | rfl | constructor)
def s_listed : Sum:=rdSum 58 fun m a => match a with | [a0,a1] => (match ptrOf a0,plaOf a1 with | some t,some (pm,ps,pa) => some (listedOK m t pm ps pa,.u (.c (.np (listedV m t pm ps pa) 0))) | _,_ => none) | _ => none
theorem s_listed_ok : SumOK Try.prog s_listed:=by
  refine rdSum_ok ⟨_,Try.func58,by kernel_rfl⟩ fun m args pre v h hp hw ρ w hm => ?_
  split at h
  · split at h
    · rename_i a0 a1 _ _  t pm ps pa h0 h1
      cases h
      exact dm_calls nameOK okn (dOK okn) 300 _ m _ (t_listed m t pm ps pa) hp (allL_out (listed_all m t pm ps pa) hp).1 ρ ((allL_out (listed_all m t pm ps pa) hp).2 ρ) w hm (by simp only [List.map_cons,List.map_nil,ptrOf_den h0,plaOf_den h1])
    · cases h
  · cases h
def T_treed (m : Mem) (t : Int) (pm ps pa : Int) : Tr:=(.br (nzp t) (.br (nzp t) (.br (okL m t 0 [(.raw (.map (.none)))]) (.req ((Go.Maps.Keyed Try.prog 59) ∧ ((okM Try.prog 59 m (pl (mcell m t 0))) ∧ ((okKey Try.prog 59 (.agg (.mk [(.int .i64 pm),(.int .i64 ps),(.int .i64 pa)]))) ∧ (((okU (.c (.raw .nilIface)) (lkZ m (pl (mcell m t 0)) (.agg (.mk [(.int .i64 pm),(.int .i64 ps),(.int .i64 pa)])) .nilIface)) : Bool) = true)))) (.br (isIfV (pl (lkZ m (pl (mcell m t 0)) (.agg (.mk [(.int .i64 pm),(.int .i64 ps),(.int .i64 pa)])) .nilIface))) (.leaf (.memo (.u (.c (.np (ifP 24 (pl (lkZ m (pl (mcell m t 0)) (.agg (.mk [(.int .i64 pm),(.int .i64 ps),(.int .i64 pa)])) .nilIface))) 0))) m)) (.no 130))) (.no 70)) (.no 76)) (.no 75))
theorem t_treed (m : Mem) (t : Int) (pm ps pa : Int) : runm Try.prog [] (drawx Try.prog []) 300 62 [.u (.c (.np t 0)),.u (.agg [.si .i64 pm,.si .i64 ps,.si .i64 pa])] m [98,92,95,142,140,137,111,107,108,109] = T_treed m t pm ps pa:=by kernel_rfl
def treedOK (m : Mem) (t : Int) (pm ps pa : Int) : Prop:=okP (T_treed m t pm ps pa)
def treedV (m : Mem) (t : Int) (pm ps pa : Int) : Int:=vPtr (outV (T_treed m t pm ps pa))
theorem treed_all (m : Mem) (t : Int) (pm ps pa : Int) : allL (fun v m' => m' = m ∧ ∀ ρ,V.den ρ v = V.den ρ (.u (.c (.np (vPtr v) 0)))) (T_treed m t pm ps pa):=by
  simp only [T_treed,allL]
  repeat' (first | exact fun _ => rfl | exact fun _ => trivial | exact trivial | rfl | constructor)
def s_treed : Sum:=rdSum 62 fun m a => match a with | [a0,a1] => (match ptrOf a0,plaOf a1 with | some t,some (pm,ps,pa) => some (treedOK m t pm ps pa,.u (.c (.np (treedV m t pm ps pa) 0))) | _,_ => none) | _ => none
theorem s_treed_ok : SumOK Try.prog s_treed:=by
  refine rdSum_ok ⟨_,Try.func62,by kernel_rfl⟩ fun m args pre v h hp hw ρ w hm => ?_
  split at h
  · split at h
    · rename_i a0 a1 _ _  t pm ps pa h0 h1
      cases h
      exact dm_calls nameOK okn (dOK okn) 300 _ m _ (t_treed m t pm ps pa) hp (allL_out (treed_all m t pm ps pa) hp).1 ρ ((allL_out (treed_all m t pm ps pa) hp).2 ρ) w hm (by simp only [List.map_cons,List.map_nil,ptrOf_den h0,plaOf_den h1])
    · cases h
  · cases h
def T_may (m : Mem) (t : Int) (pm ps pa : Int) (hs hg : Int) (n : Int) (f : Bool) : Tr:=(.req (madeOK m t) (.br (bNot (madeV m t)) (.leaf (.memo (.u (.c (.li .i64 1))) m)) (.br (nzp t) (.br (nzp t) (.br (okL m t 1 [(.raw (.map (.none)))]) (.req ((Go.Maps.Keyed Try.prog 121) ∧ ((okM Try.prog 121 m (pl (mcell m t 1))) ∧ ((okKey Try.prog 121 (.agg (.mk [(.int .i64 hs),(.int .u64 hg),(.int .i64 n)]))) ∧ (((okU (.agg [(.li .i64 0),(.li .i64 0),(.li .i64 0)]) (lkZ m (pl (mcell m t 1)) (.agg (.mk [(.int .i64 hs),(.int .u64 hg),(.int .i64 n)])) (.agg (.mk [(.int .i64 0),(.int .i64 0),(.int .i64 0)])))) : Bool) = true)))) (.br (nzp t) (.br (nzp t) (.br (okL m t 2 [(.raw (.map (.none)))]) (.req ((Go.Maps.Keyed Try.prog 126) ∧ ((okM Try.prog 126 m (pl (mcell m t 2))) ∧ ((okKey Try.prog 126 (.agg (.mk [(.int .i64 pm),(.int .i64 ps),(.int .i64 pa),(.int .i64 hs),(.int .u64 hg)]))) ∧ (((okU (.c (.li .i64 0)) (lkZ m (pl (mcell m t 2)) (.agg (.mk [(.int .i64 pm),(.int .i64 ps),(.int .i64 pa),(.int .i64 hs),(.int .u64 hg)])) (.int .i64 0))) : Bool) = true)))) (.br (mhas m (pl (mcell m t 1)) (.agg (.mk [(.int .i64 hs),(.int .u64 hg),(.int .i64 n)]))) (.leaf (.memo (.u (.c (.li .i64 7))) m)) (.br (nzp t) (.br (nzp t) (.br (okL m t 0 [(.raw (.map (.none)))]) (.req ((Go.Maps.Keyed Try.prog 59) ∧ ((okM Try.prog 59 m (pl (mcell m t 0))) ∧ ((okKey Try.prog 59 (.agg (.mk [(.int .i64 pm),(.int .i64 ps),(.int .i64 pa)]))) ∧ (((okU (.c (.raw .nilIface)) (lkZ m (pl (mcell m t 0)) (.agg (.mk [(.int .i64 pm),(.int .i64 ps),(.int .i64 pa)])) .nilIface)) : Bool) = true)))) (.br (isIfV (pl (lkZ m (pl (mcell m t 0)) (.agg (.mk [(.int .i64 pm),(.int .i64 ps),(.int .i64 pa)])) .nilIface))) (.br (bNot (isNilIf (pl (lkZ m (pl (mcell m t 0)) (.agg (.mk [(.int .i64 pm),(.int .i64 ps),(.int .i64 pa)])) .nilIface)))) (.br (bNot f) (.leaf (.memo (.u (.c (.li .i64 3))) m)) (.br (mhas m (pl (mcell m t 2)) (.agg (.mk [(.int .i64 pm),(.int .i64 ps),(.int .i64 pa),(.int .i64 hs),(.int .u64 hg)]))) (.leaf (.memo (.u (.c (.li .i64 3))) m)) (.leaf (.memo (.u (.c (.li .i64 0))) m)))) (.br (mhas m (pl (mcell m t 2)) (.agg (.mk [(.int .i64 pm),(.int .i64 ps),(.int .i64 pa),(.int .i64 hs),(.int .u64 hg)]))) (.leaf (.memo (.u (.c (.li .i64 3))) m)) (.leaf (.memo (.u (.c (.li .i64 0))) m)))) (.no 109))) (.no 70)) (.no 76)) (.no 75)))) (.no 70)) (.no 76)) (.no 75))) (.no 70)) (.no 76)) (.no 75))))
theorem t_may (m : Mem) (t : Int) (pm ps pa : Int) (hs hg : Int) (n : Int) (f : Bool) : runm Try.prog [s_made] (drawx Try.prog [s_made]) 300 56 [.u (.c (.np t 0)),.u (.agg [.si .i64 pm,.si .i64 ps,.si .i64 pa]),.u (.agg [.si .i64 hs,.si .u64 hg]),.u (.c (.si .i64 n)),.u (.c (.sb f))] m [98,92,95,142,140,137,111,107,108,109] = T_may m t pm ps pa hs hg n f:=by kernel_rfl
def mayOK (m : Mem) (t : Int) (pm ps pa : Int) (hs hg : Int) (n : Int) (f : Bool) : Prop:=okP (T_may m t pm ps pa hs hg n f)
def mayV (m : Mem) (t : Int) (pm ps pa : Int) (hs hg : Int) (n : Int) (f : Bool) : Int:=vInt (outV (T_may m t pm ps pa hs hg n f))
theorem may_all (m : Mem) (t : Int) (pm ps pa : Int) (hs hg : Int) (n : Int) (f : Bool) : allL (fun v m' => m' = m ∧ ∀ ρ,V.den ρ v = V.den ρ (.u (.c (.si .i64 (vInt v))))) (T_may m t pm ps pa hs hg n f):=by
  simp only [T_may,allL]
  repeat' (first | exact fun _ => rfl | exact fun _ => trivial | exact trivial | rfl | constructor)
def s_may : Sum:=rdSum 56 fun m a => match a with | [a0,a1,a2,a3,a4] => (match ptrOf a0,plaOf a1,hanOf a2,intOf a3,booOf a4 with | some t,some (pm,ps,pa),some (hs,hg),some n,some f => some (mayOK m t pm ps pa hs hg n f,.u (.c (.si .i64 (mayV m t pm ps pa hs hg n f)))) | _,_,_,_,_ => none) | _ => none
theorem s_may_ok : SumOK Try.prog s_may:=by
  refine rdSum_ok ⟨_,Try.func56,by kernel_rfl⟩ fun m args pre v h hp hw ρ w hm => ?_
  split at h
  · split at h
    · rename_i a0 a1 a2 a3 a4 _ _ _ _ _  t pm ps pa hs hg n f h0 h1 h2 h3 h4
      cases h
      exact dm_calls nameOK (okc s_made_ok okn) (dOK (okc s_made_ok okn)) 300 _ m _ (t_may m t pm ps pa hs hg n f) hp (allL_out (may_all m t pm ps pa hs hg n f) hp).1 ρ ((allL_out (may_all m t pm ps pa hs hg n f) hp).2 ρ) w hm (by simp only [List.map_cons,List.map_nil,ptrOf_den h0,plaOf_den h1,hanOf_den h2,intOf_den h3,booOf_den h4])
    · cases h
  · cases h
def T_gin (m : Mem) (t : Int) (hs hg : Int) (n : Int) : Tr:=(.br (cmpOK m t 0) (.br (peq t 0) (.leaf (.memo (.tup [(.agg [(.li .i64 0),(.li .i64 0),(.li .i64 0)]),(.c (.lb false))]) m)) (.br (nzp t) (.br (nzp t) (.br (okL m t 1 [(.raw (.map (.none)))]) (.req ((Go.Maps.Keyed Try.prog 121) ∧ ((okM Try.prog 121 m (pl (mcell m t 1))) ∧ ((okKey Try.prog 121 (.agg (.mk [(.int .i64 hs),(.int .u64 hg),(.int .i64 n)]))) ∧ (((okU (.agg [(.li .i64 0),(.li .i64 0),(.li .i64 0)]) (lkZ m (pl (mcell m t 1)) (.agg (.mk [(.int .i64 hs),(.int .u64 hg),(.int .i64 n)])) (.agg (.mk [(.int .i64 0),(.int .i64 0),(.int .i64 0)])))) : Bool) = true)))) (.leaf (.memo (.tup [(.agg [(.si .i64 (vI (cellAt (lkZ m (pl (mcell m t 1)) (.agg (.mk [(.int .i64 hs),(.int .u64 hg),(.int .i64 n)])) (.agg (.mk [(.int .i64 0),(.int .i64 0),(.int .i64 0)]))) 0))),(.si .i64 (vI (cellAt (lkZ m (pl (mcell m t 1)) (.agg (.mk [(.int .i64 hs),(.int .u64 hg),(.int .i64 n)])) (.agg (.mk [(.int .i64 0),(.int .i64 0),(.int .i64 0)]))) 1))),(.si .i64 (vI (cellAt (lkZ m (pl (mcell m t 1)) (.agg (.mk [(.int .i64 hs),(.int .u64 hg),(.int .i64 n)])) (.agg (.mk [(.int .i64 0),(.int .i64 0),(.int .i64 0)]))) 2)))]),(.c (.sb (mhas m (pl (mcell m t 1)) (.agg (.mk [(.int .i64 hs),(.int .u64 hg),(.int .i64 n)])))))]) m))) (.no 70)) (.no 76)) (.no 75))) (.no 78))
theorem t_gin (m : Mem) (t : Int) (hs hg : Int) (n : Int) : runm Try.prog [] (drawx Try.prog []) 300 39 [.u (.c (.np t 0)),.u (.agg [.si .i64 hs,.si .u64 hg]),.u (.c (.si .i64 n))] m [98,92,95,142,140,137,111,107,108,109] = T_gin m t hs hg n:=by kernel_rfl
def ginOK (m : Mem) (t : Int) (hs hg : Int) (n : Int) : Prop:=okP (T_gin m t hs hg n)
def ginV (m : Mem) (t : Int) (hs hg : Int) (n : Int) : Int × Int × Int × Bool:=vPB (outV (T_gin m t hs hg n))
theorem gin_all (m : Mem) (t : Int) (hs hg : Int) (n : Int) : allL (fun v m' => m' = m ∧ ∀ ρ,V.den ρ v = V.den ρ (.tup [.agg [.si .i64 (vPB v).1,.si .i64 (vPB v).2.1,.si .i64 (vPB v).2.2.1],.c (.sb (vPB v).2.2.2)])) (T_gin m t hs hg n):=by
  simp only [T_gin,allL]
  repeat' (first | exact fun _ => rfl | exact fun _ => trivial | exact trivial | rfl | constructor)
def s_gin : Sum:=rdSum 39 fun m a => match a with | [a0,a1,a2] => (match ptrOf a0,hanOf a1,intOf a2 with | some t,some (hs,hg),some n => some (ginOK m t hs hg n,.tup [.agg [.si .i64 (ginV m t hs hg n).1,.si .i64 (ginV m t hs hg n).2.1,.si .i64 (ginV m t hs hg n).2.2.1],.c (.sb (ginV m t hs hg n).2.2.2)]) | _,_,_ => none) | _ => none
theorem s_gin_ok : SumOK Try.prog s_gin:=by
  refine rdSum_ok ⟨_,Try.func39,by kernel_rfl⟩ fun m args pre v h hp hw ρ w hm => ?_
  split at h
  · split at h
    · rename_i a0 a1 a2 _ _ _  t hs hg n h0 h1 h2
      cases h
      exact dm_calls nameOK okn (dOK okn) 300 _ m _ (t_gin m t hs hg n) hp (allL_out (gin_all m t hs hg n) hp).1 ρ ((allL_out (gin_all m t hs hg n) hp).2 ρ) w hm (by simp only [List.map_cons,List.map_nil,ptrOf_den h0,hanOf_den h1,intOf_den h2])
    · cases h
  · cases h
def T_comes (m : Mem) (t : Int) (pm ps pa : Int) (hs hg : Int) (n : Int) (r : Value) : Tr:=(.br (nzp t) (.br (nzp t) (.br (okL m t 0 [(.raw (.map (.none)))]) (.req ((Go.Maps.Keyed Try.prog 59) ∧ ((okM Try.prog 59 m (pl (mcell m t 0))) ∧ ((((isNilM (pl (mcell m t 0))) : Bool) = false) ∧ (okKey Try.prog 59 (.agg (.mk [(.int .i64 pm),(.int .i64 ps),(.int .i64 pa)])))))) (.letm (mput m (pl (mcell m t 0)) (.agg (.mk [(.int .i64 pm),(.int .i64 ps),(.int .i64 pa)])) (pl r)) (fun m1 => (.br (nzp t) (.br (nzp t) (.br (okL m1 t 1 [(.raw (.map (.none)))]) (.req ((Go.Maps.Keyed Try.prog 121) ∧ ((okM Try.prog 121 m1 (pl (mcell m1 t 1))) ∧ ((((isNilM (pl (mcell m1 t 1))) : Bool) = false) ∧ (okKey Try.prog 121 (.agg (.mk [(.int .i64 hs),(.int .u64 hg),(.int .i64 n)])))))) (.letm (mput m1 (pl (mcell m1 t 1)) (.agg (.mk [(.int .i64 hs),(.int .u64 hg),(.int .i64 n)])) (.agg (.mk [(.int .i64 pm),(.int .i64 ps),(.int .i64 pa)]))) (fun m2 => (.br (nzp t) (.br (nzp t) (.br (okL m2 t 2 [(.raw (.map (.none)))]) (.req ((Go.Maps.Keyed Try.prog 126) ∧ ((okM Try.prog 126 m2 (pl (mcell m2 t 2))) ∧ ((((isNilM (pl (mcell m2 t 2))) : Bool) = false) ∧ (okKey Try.prog 126 (.agg (.mk [(.int .i64 pm),(.int .i64 ps),(.int .i64 pa),(.int .i64 hs),(.int .u64 hg)])))))) (.letm (mput m2 (pl (mcell m2 t 2)) (.agg (.mk [(.int .i64 pm),(.int .i64 ps),(.int .i64 pa),(.int .i64 hs),(.int .u64 hg)])) (.int .i64 n)) (fun m3 => (.leaf (.memo (.tup []) m3))))) (.no 70)) (.no 76)) (.no 75))))) (.no 70)) (.no 76)) (.no 75))))) (.no 70)) (.no 76)) (.no 75))
theorem t_comes (m : Mem) (t : Int) (pm ps pa : Int) (hs hg : Int) (n : Int) (r : Value) : runm Try.prog [] (drawx Try.prog []) 300 61 [.u (.c (.np t 0)),.u (.agg [.si .i64 pm,.si .i64 ps,.si .i64 pa]),.u (.agg [.si .i64 hs,.si .u64 hg]),.u (.c (.si .i64 n)),.u (.c (.sv r))] m [98,92,95,142,140,137,111,107,108,109] = T_comes m t pm ps pa hs hg n r:=by kernel_rfl
def comesOK (m : Mem) (t : Int) (pm ps pa : Int) (hs hg : Int) (n : Int) (r : Value) : Prop:=okP (T_comes m t pm ps pa hs hg n r)
def comesM (m : Mem) (t : Int) (pm ps pa : Int) (hs hg : Int) (n : Int) (r : Value) : Mem:=outM (T_comes m t pm ps pa hs hg n r)
theorem comes_all (m : Mem) (t : Int) (pm ps pa : Int) (hs hg : Int) (n : Int) (r : Value) : allL (fun v m' => ∀ ρ,V.den ρ v = V.den ρ (.tup [])) (T_comes m t pm ps pa hs hg n r):=by
  simp only [T_comes,allL]
  repeat' (first | exact fun _ => rfl | exact fun _ => trivial | exact trivial | rfl | constructor)
def s_comes : Sum:=dmSum 61 fun m a => match a with | [a0,a1,a2,a3,a4] => (match ptrOf a0,plaOf a1,hanOf a2,intOf a3,svOf a4 with | some t,some (pm,ps,pa),some (hs,hg),some n,some r => some (comesOK m t pm ps pa hs hg n r,comesM m t pm ps pa hs hg n r,.tup []) | _,_,_,_,_ => none) | _ => none
theorem s_comes_ok : SumOK Try.prog s_comes:=by
  refine dmSum_ok ⟨_,Try.func61,by kernel_rfl⟩ fun m args pre M v h hp hw ρ w hm => ?_
  split at h
  · split at h
    · rename_i a0 a1 a2 a3 a4 _ _ _ _ _  t pm ps pa hs hg n r h0 h1 h2 h3 h4
      cases h
      exact dm_calls nameOK okn (dOK okn) 300 _ m _ (t_comes m t pm ps pa hs hg n r) hp rfl ρ ((allL_out (comes_all m t pm ps pa hs hg n r) hp) ρ) w hm (by simp only [List.map_cons,List.map_nil,ptrOf_den h0,plaOf_den h1,hanOf_den h2,intOf_den h3,svOf_den2 h4])
    · cases h
  · cases h
def T_goes (m : Mem) (t : Int) (pm ps pa : Int) (hs hg : Int) : Tr:=(.br (nzp t) (.br (nzp t) (.br (okL m t 1 [(.raw (.map (.none)))]) (.br (nzp t) (.br (nzp t) (.br (okL m t 2 [(.raw (.map (.none)))]) (.req ((Go.Maps.Keyed Try.prog 126) ∧ ((okM Try.prog 126 m (pl (mcell m t 2))) ∧ ((okKey Try.prog 126 (.agg (.mk [(.int .i64 pm),(.int .i64 ps),(.int .i64 pa),(.int .i64 hs),(.int .u64 hg)]))) ∧ (((okU (.c (.li .i64 0)) (lkZ m (pl (mcell m t 2)) (.agg (.mk [(.int .i64 pm),(.int .i64 ps),(.int .i64 pa),(.int .i64 hs),(.int .u64 hg)])) (.int .i64 0))) : Bool) = true)))) (.req ((Go.Maps.Keyed Try.prog 121) ∧ ((okM Try.prog 121 m (pl (mcell m t 1))) ∧ (okKey Try.prog 121 (.agg (.mk [(.int .i64 hs),(.int .u64 hg),(.int .i64 (vI (lkZ m (pl (mcell m t 2)) (.agg (.mk [(.int .i64 pm),(.int .i64 ps),(.int .i64 pa),(.int .i64 hs),(.int .u64 hg)])) (.int .i64 0))))]))))) (.letm (mdel m (pl (mcell m t 1)) (.agg (.mk [(.int .i64 hs),(.int .u64 hg),(.int .i64 (vI (lkZ m (pl (mcell m t 2)) (.agg (.mk [(.int .i64 pm),(.int .i64 ps),(.int .i64 pa),(.int .i64 hs),(.int .u64 hg)])) (.int .i64 0))))]))) (fun m1 => (.br (nzp t) (.br (nzp t) (.br (okL m1 t 2 [(.raw (.map (.none)))]) (.req ((Go.Maps.Keyed Try.prog 126) ∧ ((okM Try.prog 126 m1 (pl (mcell m1 t 2))) ∧ (okKey Try.prog 126 (.agg (.mk [(.int .i64 pm),(.int .i64 ps),(.int .i64 pa),(.int .i64 hs),(.int .u64 hg)]))))) (.letm (mdel m1 (pl (mcell m1 t 2)) (.agg (.mk [(.int .i64 pm),(.int .i64 ps),(.int .i64 pa),(.int .i64 hs),(.int .u64 hg)]))) (fun m2 => (.br (nzp t) (.br (nzp t) (.br (okL m2 t 0 [(.raw (.map (.none)))]) (.req ((Go.Maps.Keyed Try.prog 59) ∧ ((okM Try.prog 59 m2 (pl (mcell m2 t 0))) ∧ ((okKey Try.prog 59 (.agg (.mk [(.int .i64 pm),(.int .i64 ps),(.int .i64 pa)]))) ∧ (((okU (.c (.raw .nilIface)) (lkZ m2 (pl (mcell m2 t 0)) (.agg (.mk [(.int .i64 pm),(.int .i64 ps),(.int .i64 pa)])) .nilIface)) : Bool) = true)))) (.br (isIfV (pl (lkZ m2 (pl (mcell m2 t 0)) (.agg (.mk [(.int .i64 pm),(.int .i64 ps),(.int .i64 pa)])) .nilIface))) (.br (ifIs 112 (pl (lkZ m2 (pl (mcell m2 t 0)) (.agg (.mk [(.int .i64 pm),(.int .i64 ps),(.int .i64 pa)])) .nilIface))) (.req (llenOK m2 (ifP 112 (pl (lkZ m2 (pl (mcell m2 t 0)) (.agg (.mk [(.int .i64 pm),(.int .i64 ps),(.int .i64 pa)])) .nilIface)))) (.br (iEq (llenV m2 (ifP 112 (pl (lkZ m2 (pl (mcell m2 t 0)) (.agg (.mk [(.int .i64 pm),(.int .i64 ps),(.int .i64 pa)])) .nilIface)))) 0) (.br (nzp t) (.br (nzp t) (.br (okL m2 t 0 [(.raw (.map (.none)))]) (.req ((Go.Maps.Keyed Try.prog 59) ∧ ((okM Try.prog 59 m2 (pl (mcell m2 t 0))) ∧ (okKey Try.prog 59 (.agg (.mk [(.int .i64 pm),(.int .i64 ps),(.int .i64 pa)]))))) (.letm (mdel m2 (pl (mcell m2 t 0)) (.agg (.mk [(.int .i64 pm),(.int .i64 ps),(.int .i64 pa)]))) (fun m3 => (.leaf (.memo (.tup []) m3))))) (.no 70)) (.no 76)) (.no 75)) (.leaf (.memo (.tup []) m2)))) (.br (ifIs 24 (pl (lkZ m2 (pl (mcell m2 t 0)) (.agg (.mk [(.int .i64 pm),(.int .i64 ps),(.int .i64 pa)])) .nilIface))) (.req (lenOK m2 (ifP 24 (pl (lkZ m2 (pl (mcell m2 t 0)) (.agg (.mk [(.int .i64 pm),(.int .i64 ps),(.int .i64 pa)])) .nilIface)))) (.br (iEq (lenV m2 (ifP 24 (pl (lkZ m2 (pl (mcell m2 t 0)) (.agg (.mk [(.int .i64 pm),(.int .i64 ps),(.int .i64 pa)])) .nilIface)))) 0) (.br (nzp t) (.br (nzp t) (.br (okL m2 t 0 [(.raw (.map (.none)))]) (.req ((Go.Maps.Keyed Try.prog 59) ∧ ((okM Try.prog 59 m2 (pl (mcell m2 t 0))) ∧ (okKey Try.prog 59 (.agg (.mk [(.int .i64 pm),(.int .i64 ps),(.int .i64 pa)]))))) (.letm (mdel m2 (pl (mcell m2 t 0)) (.agg (.mk [(.int .i64 pm),(.int .i64 ps),(.int .i64 pa)]))) (fun m3 => (.leaf (.memo (.tup []) m3))))) (.no 70)) (.no 76)) (.no 75)) (.leaf (.memo (.tup []) m2)))) (.no 37))) (.no 38))) (.no 70)) (.no 76)) (.no 75))))) (.no 70)) (.no 76)) (.no 75)))))) (.no 70)) (.no 76)) (.no 75)) (.no 70)) (.no 76)) (.no 75))
theorem t_goes (m : Mem) (t : Int) (pm ps pa : Int) (hs hg : Int) : runm Try.prog [s_len,s_llen] (drawx Try.prog [s_len,s_llen]) 300 64 [.u (.c (.np t 0)),.u (.agg [.si .i64 pm,.si .i64 ps,.si .i64 pa]),.u (.agg [.si .i64 hs,.si .u64 hg])] m [98,92,95,142,140,137,111,107,108,109] = T_goes m t pm ps pa hs hg:=by kernel_rfl
def goesOK (m : Mem) (t : Int) (pm ps pa : Int) (hs hg : Int) : Prop:=okP (T_goes m t pm ps pa hs hg)
def goesM (m : Mem) (t : Int) (pm ps pa : Int) (hs hg : Int) : Mem:=outM (T_goes m t pm ps pa hs hg)
theorem goes_all (m : Mem) (t : Int) (pm ps pa : Int) (hs hg : Int) : allL (fun v m' => ∀ ρ,V.den ρ v = V.den ρ (.tup [])) (T_goes m t pm ps pa hs hg):=by
  simp only [T_goes,allL]
  repeat' (first | exact fun _ => rfl | exact fun _ => trivial | exact trivial | rfl | constructor)
def s_goes : Sum:=dmSum 64 fun m a => match a with | [a0,a1,a2] => (match ptrOf a0,plaOf a1,hanOf a2 with | some t,some (pm,ps,pa),some (hs,hg) => some (goesOK m t pm ps pa hs hg,goesM m t pm ps pa hs hg,.tup []) | _,_,_ => none) | _ => none
theorem s_goes_ok : SumOK Try.prog s_goes:=by
  refine dmSum_ok ⟨_,Try.func64,by kernel_rfl⟩ fun m args pre M v h hp hw ρ w hm => ?_
  split at h
  · split at h
    · rename_i a0 a1 a2 _ _ _  t pm ps pa hs hg h0 h1 h2
      cases h
      exact dm_calls nameOK (okc s_len_ok (okc s_llen_ok okn)) (dOK (okc s_len_ok (okc s_llen_ok okn))) 300 _ m _ (t_goes m t pm ps pa hs hg) hp rfl ρ ((allL_out (goes_all m t pm ps pa hs hg) hp) ρ) w hm (by simp only [List.map_cons,List.map_nil,ptrOf_den h0,plaOf_den h1,hanOf_den h2])
    · cases h
  · cases h
def T_glen (m : Mem) (t : Int) (pm ps pa : Int) : Tr:=(.req (madeOK m t) (.br (bNot (madeV m t)) (.leaf (.memo (.u (.c (.li .i64 0))) m)) (.br (nzp t) (.br (nzp t) (.br (okL m t 0 [(.raw (.map (.none)))]) (.req ((Go.Maps.Keyed Try.prog 59) ∧ ((okM Try.prog 59 m (pl (mcell m t 0))) ∧ ((okKey Try.prog 59 (.agg (.mk [(.int .i64 pm),(.int .i64 ps),(.int .i64 pa)]))) ∧ (((okU (.c (.raw .nilIface)) (lkZ m (pl (mcell m t 0)) (.agg (.mk [(.int .i64 pm),(.int .i64 ps),(.int .i64 pa)])) .nilIface)) : Bool) = true)))) (.br (isIfV (pl (lkZ m (pl (mcell m t 0)) (.agg (.mk [(.int .i64 pm),(.int .i64 ps),(.int .i64 pa)])) .nilIface))) (.br (isNilIf (pl (lkZ m (pl (mcell m t 0)) (.agg (.mk [(.int .i64 pm),(.int .i64 ps),(.int .i64 pa)])) .nilIface))) (.leaf (.memo (.u (.c (.li .i64 0))) m)) (.br (nzp t) (.br (nzp t) (.br (okL m t 0 [(.raw (.map (.none)))]) (.req ((Go.Maps.Keyed Try.prog 59) ∧ ((okM Try.prog 59 m (pl (mcell m t 0))) ∧ ((okKey Try.prog 59 (.agg (.mk [(.int .i64 pm),(.int .i64 ps),(.int .i64 pa)]))) ∧ (((okU (.c (.raw .nilIface)) (lkZ m (pl (mcell m t 0)) (.agg (.mk [(.int .i64 pm),(.int .i64 ps),(.int .i64 pa)])) .nilIface)) : Bool) = true)))) (.br (isIfV (pl (lkZ m (pl (mcell m t 0)) (.agg (.mk [(.int .i64 pm),(.int .i64 ps),(.int .i64 pa)])) .nilIface))) (.br (ifIs 112 (pl (lkZ m (pl (mcell m t 0)) (.agg (.mk [(.int .i64 pm),(.int .i64 ps),(.int .i64 pa)])) .nilIface))) (.req (llenOK m (ifP 112 (pl (lkZ m (pl (mcell m t 0)) (.agg (.mk [(.int .i64 pm),(.int .i64 ps),(.int .i64 pa)])) .nilIface)))) (.leaf (.memo (.u (.c (.si .i64 (llenV m (ifP 112 (pl (lkZ m (pl (mcell m t 0)) (.agg (.mk [(.int .i64 pm),(.int .i64 ps),(.int .i64 pa)])) .nilIface))))))) m))) (.br (ifIs 24 (pl (lkZ m (pl (mcell m t 0)) (.agg (.mk [(.int .i64 pm),(.int .i64 ps),(.int .i64 pa)])) .nilIface))) (.req (lenOK m (ifP 24 (pl (lkZ m (pl (mcell m t 0)) (.agg (.mk [(.int .i64 pm),(.int .i64 ps),(.int .i64 pa)])) .nilIface)))) (.leaf (.memo (.u (.c (.si .i64 (lenV m (ifP 24 (pl (lkZ m (pl (mcell m t 0)) (.agg (.mk [(.int .i64 pm),(.int .i64 ps),(.int .i64 pa)])) .nilIface))))))) m))) (.no 37))) (.no 38))) (.no 70)) (.no 76)) (.no 75))) (.no 109))) (.no 70)) (.no 76)) (.no 75))))
theorem t_glen (m : Mem) (t : Int) (pm ps pa : Int) : runm Try.prog [s_made,s_len,s_llen] (drawx Try.prog [s_made,s_len,s_llen]) 300 35 [.u (.c (.np t 0)),.u (.agg [.si .i64 pm,.si .i64 ps,.si .i64 pa])] m [98,92,95,142,140,137,111,107,108,109] = T_glen m t pm ps pa:=by kernel_rfl
def glenOK (m : Mem) (t : Int) (pm ps pa : Int) : Prop:=okP (T_glen m t pm ps pa)
def glenV (m : Mem) (t : Int) (pm ps pa : Int) : Int:=vInt (outV (T_glen m t pm ps pa))
theorem glen_all (m : Mem) (t : Int) (pm ps pa : Int) : allL (fun v m' => m' = m ∧ ∀ ρ,V.den ρ v = V.den ρ (.u (.c (.si .i64 (vInt v))))) (T_glen m t pm ps pa):=by
  simp only [T_glen,allL]
  repeat' (first | exact fun _ => rfl | exact fun _ => trivial | exact trivial | rfl | constructor)
def s_glen : Sum:=rdSum 35 fun m a => match a with | [a0,a1] => (match ptrOf a0,plaOf a1 with | some t,some (pm,ps,pa) => some (glenOK m t pm ps pa,.u (.c (.si .i64 (glenV m t pm ps pa)))) | _,_ => none) | _ => none
theorem s_glen_ok : SumOK Try.prog s_glen:=by
  refine rdSum_ok ⟨_,Try.func35,by kernel_rfl⟩ fun m args pre v h hp hw ρ w hm => ?_
  split at h
  · split at h
    · rename_i a0 a1 _ _  t pm ps pa h0 h1
      cases h
      exact dm_calls nameOK (okc s_made_ok (okc s_len_ok (okc s_llen_ok okn))) (dOK (okc s_made_ok (okc s_len_ok (okc s_llen_ok okn)))) 300 _ m _ (t_glen m t pm ps pa) hp (allL_out (glen_all m t pm ps pa) hp).1 ρ ((allL_out (glen_all m t pm ps pa) hp).2 ρ) w hm (by simp only [List.map_cons,List.map_nil,ptrOf_den h0,plaOf_den h1])
    · cases h
  · cases h
def T_gkind (m : Mem) (t : Int) (pm ps pa : Int) : Tr:=(.req (glenOK m t pm ps pa) (.br (iEq (glenV m t pm ps pa) 0) (.leaf (.memo (.u (.c (.li .u8 0))) m)) (.req (listedOK m t pm ps pa) (.br (cmpOK m (listedV m t pm ps pa) 0) (.br (bNot (peq (listedV m t pm ps pa) 0)) (.leaf (.memo (.u (.c (.li .u8 1))) m)) (.leaf (.memo (.u (.c (.li .u8 2))) m))) (.no 78)))))
theorem t_gkind (m : Mem) (t : Int) (pm ps pa : Int) : runm Try.prog [s_glen,s_listed] (drawx Try.prog [s_glen,s_listed]) 300 36 [.u (.c (.np t 0)),.u (.agg [.si .i64 pm,.si .i64 ps,.si .i64 pa])] m [98,92,95,142,140,137,111,107,108,109] = T_gkind m t pm ps pa:=by kernel_rfl
def gkindOK (m : Mem) (t : Int) (pm ps pa : Int) : Prop:=okP (T_gkind m t pm ps pa)
def gkindV (m : Mem) (t : Int) (pm ps pa : Int) : Int:=vU8 (outV (T_gkind m t pm ps pa))
theorem gkind_all (m : Mem) (t : Int) (pm ps pa : Int) : allL (fun v m' => m' = m ∧ ∀ ρ,V.den ρ v = V.den ρ (.u (.c (.si .u8 (vU8 v))))) (T_gkind m t pm ps pa):=by
  simp only [T_gkind,allL]
  repeat' (first | exact fun _ => rfl | exact fun _ => trivial | exact trivial | rfl | constructor)
def s_gkind : Sum:=rdSum 36 fun m a => match a with | [a0,a1] => (match ptrOf a0,plaOf a1 with | some t,some (pm,ps,pa) => some (gkindOK m t pm ps pa,.u (.c (.si .u8 (gkindV m t pm ps pa)))) | _,_ => none) | _ => none
theorem s_gkind_ok : SumOK Try.prog s_gkind:=by
  refine rdSum_ok ⟨_,Try.func36,by kernel_rfl⟩ fun m args pre v h hp hw ρ w hm => ?_
  split at h
  · split at h
    · rename_i a0 a1 _ _  t pm ps pa h0 h1
      cases h
      exact dm_calls nameOK (okc s_glen_ok (okc s_listed_ok okn)) (dOK (okc s_glen_ok (okc s_listed_ok okn))) 300 _ m _ (t_gkind m t pm ps pa) hp (allL_out (gkind_all m t pm ps pa) hp).1 ρ ((allL_out (gkind_all m t pm ps pa) hp).2 ρ) w hm (by simp only [List.map_cons,List.map_nil,ptrOf_den h0,plaOf_den h1])
    · cases h
  · cases h
structure GG where
  g : Nat
  mr : Nat
  mi : Nat
  mb : Nat
  R : Pl → Option Str
  N : Pl → Hn → Option Int
  I : Hn → Int → Option Pl
def gO (mr mi mb : Nat) : Obj:=.cells #[.map (some mr),.map (some mi),.map (some mb)] 111 (0,0)
def Str.ifv (X : Str) : Value:=match X.tree with | false => mkIf 112 ((X.t : Int) + 1) | true => mkIf 24 ((X.t : Int) + 1)
structure GM (G : GG) (m : Mem) : Prop where
  hd : m G.g = some (gO G.mr G.mi G.mb)
  kr : isMap 59 m G.mr
  ki : isMap 121 m G.mi
  kb : isMap 126 m G.mb
  lr : ∀ p,okP' p → mlook m (.map (some G.mr)) (pKey p) = (G.R p).map Str.ifv
  li : ∀ h n,okH h → inI n → mlook m (.map (some G.mi)) (kKey h n) = (G.I h n).map pKey
  lb : ∀ p h,okP' p → okH h → mlook m (.map (some G.mb)) (sKey p h) = (G.N p h).map fun n => .int .i64 n
  d1 : G.mr ≠ G.mi
  d2 : G.mr ≠ G.mb
  d3 : G.mi ≠ G.mb
structure GG.is (G : GG) (m : Mem) : Prop extends GM G m where
  st : ∀ p X,G.R p = some X → X.In m ∧ X.hs ≠ [] ∧ okP' p
  ap : ∀ p q X Y,G.R p = some X → G.R q = some Y → p ≠ q → ∀ a,X.D a → ¬ Y.D a
  own : ∀ p X,G.R p = some X → ∀ a,X.D a → a ≠ G.g ∧ a ≠ G.mr ∧ a ≠ G.mi ∧ a ≠ G.mb
  nh : ∀ p h,(G.N p h).isSome = true ↔ ∃ X,G.R p = some X ∧ h ∈ X.hs
  nr : ∀ p h n,G.N p h = some n → inI n
  nu : ∀ h n p,G.I h n = some p ↔ G.N p h = some n
def gMap (G : GG) (a : Nat) : Prop:=a = G.g ∨ a = G.mr ∨ a = G.mi ∨ a = G.mb
theorem GM.congr {G : GG} {m m' : Mem} (h : GM G m) (hm : ∀ a,gMap G a → m' a = m a) : GM G m':=by
  have hg:=hm G.g (.inl rfl)
  have hr:=hm G.mr (.inr (.inl rfl))
  have hi:=hm G.mi (.inr (.inr (.inl rfl)))
  have hb:=hm G.mb (.inr (.inr (.inr rfl)))
  exact ⟨hg.trans h.hd,h.kr.congr hr,h.ki.congr hi,h.kb.congr hb,fun p hp => (mlook_congr hr _).trans (h.lr p hp),fun k n hk hn => (mlook_congr hi _).trans (h.li k n hk hn),fun p k hp hk => (mlook_congr hb _).trans (h.lb p k hp hk),h.d1,h.d2,h.d3⟩
theorem GM.there {G : GG} {m : Mem} (h : GM G m) {a : Nat} (ha : gMap G a) : m a ≠ none:=by
  rcases ha with rfl | rfl | rfl | rfl
  · rw [h.hd];simp
  · exact h.kr.there
  · exact h.ki.there
  · exact h.kb.there
theorem GM.gne {G : GG} {m : Mem} (h : GM G m) : G.g ≠ G.mr ∧ G.g ≠ G.mi ∧ G.g ≠ G.mb:=by
  refine ⟨fun e => ?_,fun e => ?_,fun e => ?_⟩
  · obtain ⟨es,c,h1,_⟩:=h.kr;rw [← e,h.hd] at h1;cases h1
  · obtain ⟨es,c,h1,_⟩:=h.ki;rw [← e,h.hd] at h1;cases h1
  · obtain ⟨es,c,h1,_⟩:=h.kb;rw [← e,h.hd] at h1;cases h1
def rv : Option Str → Value
  | none => .nilIface
  | some X => X.ifv
def lP : Option Str → Int
  | none => 0
  | some X => match X.tree with | false => (X.t : Int) + 1 | true => 0
def tP : Option Str → Int
  | none => 0
  | some X => match X.tree with | true => (X.t : Int) + 1 | false => 0
theorem mkIf_eq (T t : Nat) : mkIf T ((t : Int) + 1) = .iface T (.pointer (some ⟨t,0,none⟩)):=by unfold mkIf;rw [pv_succ]
theorem rv_ok (r : Option Str) : okU (.c (.raw .nilIface)) (rv r) = true ∧ isIfV (pl (rv r)) = true ∧ ifP 112 (pl (rv r)) = lP r ∧ ifP 24 (pl (rv r)) = tP r ∧ isNilIf (pl (rv r)) = r.isNone:=by
  cases r with
  | none => exact ⟨rfl,rfl,rfl,rfl,rfl⟩
  | some X =>
    simp only [rv,Str.ifv,lP,tP]
    cases X.tree <;> simp only [mkIf_eq]
    · exact ⟨rfl,rfl,rfl,rfl,rfl⟩
    · exact ⟨rfl,rfl,rfl,rfl,rfl⟩
section
variable {G : GG} {m : Mem}
theorem GM.okL (h : GM G m) : okL m ((G.g : Int) + 1) 0 [.raw (.map none)] = true ∧ okL m ((G.g : Int) + 1) 1 [.raw (.map none)] = true ∧ okL m ((G.g : Int) + 1) 2 [.raw (.map none)] = true:=by
  unfold Sx.okL;rw [mget_of h.hd]
  exact ⟨rfl,rfl,rfl⟩
theorem GM.c0 (h : GM G m) : pl (mcell m ((G.g : Int) + 1) 0) = .map (some G.mr):=by unfold mcell;rw [mget_of h.hd];rfl
theorem GM.c1 (h : GM G m) : pl (mcell m ((G.g : Int) + 1) 1) = .map (some G.mi):=by unfold mcell;rw [mget_of h.hd];rfl
theorem GM.c2 (h : GM G m) : pl (mcell m ((G.g : Int) + 1) 2) = .map (some G.mb):=by unfold mcell;rw [mget_of h.hd];rfl
theorem GM.lkR (h : GM G m) {a b c : Int} (hp : okP' (a,b,c)) : lkZ m (.map (some G.mr)) (.agg (.mk [(.int .i64 a),(.int .i64 b),(.int .i64 c)])) .nilIface = rv (G.R (a,b,c)):=by
  unfold lkZ
  rw [show mlook m (.map (some G.mr)) (.agg (.mk [(.int .i64 a),(.int .i64 b),(.int .i64 c)])) = _ from h.lr (a,b,c) hp]
  cases G.R (a,b,c) <;> rfl
theorem GM.rq (h : GM G m) {a b c : Int} (hp : okP' (a,b,c)) : Go.Maps.Keyed Try.prog 59 ∧ okM Try.prog 59 m (.map (some G.mr)) ∧ okKey Try.prog 59 (.agg (.mk [(.int .i64 a),(.int .i64 b),(.int .i64 c)])) ∧ ((okU (.c (.raw .nilIface)) (rv (G.R (a,b,c)))) : Bool) = true :=
  ⟨keyed59,h.kr.okM,okKey59 (p:=(a,b,c)) hp,(rv_ok _).1⟩
def zP : Value:=.agg (.mk [(.int .i64 0),(.int .i64 0),(.int .i64 0)])
def iV : Option Pl → Value
  | none => zP
  | some p => pKey p
theorem GM.lkI (h : GM G m) {a b n : Int} (hk : okH (a,b)) (hn : inI n) : lkZ m (.map (some G.mi)) (.agg (.mk [(.int .i64 a),(.int .u64 b),(.int .i64 n)])) (.agg (.mk [(.int .i64 0),(.int .i64 0),(.int .i64 0)])) = iV (G.I (a,b) n) ∧
    mhas m (.map (some G.mi)) (.agg (.mk [(.int .i64 a),(.int .u64 b),(.int .i64 n)])) = (G.I (a,b) n).isSome:=by
  unfold lkZ mhas
  rw [show mlook m (.map (some G.mi)) (.agg (.mk [(.int .i64 a),(.int .u64 b),(.int .i64 n)])) = _ from h.li (a,b) n hk hn]
  cases G.I (a,b) n <;> exact ⟨rfl,rfl⟩
theorem GM.iq (h : GM G m) {a b n : Int} (hk : okH (a,b)) (hn : inI n) : Go.Maps.Keyed Try.prog 121 ∧ okM Try.prog 121 m (.map (some G.mi)) ∧ okKey Try.prog 121 (.agg (.mk [(.int .i64 a),(.int .u64 b),(.int .i64 n)])) ∧ ((okU (.agg [(.li .i64 0),(.li .i64 0),(.li .i64 0)]) (iV (G.I (a,b) n))) : Bool) = true :=
  ⟨keyed121,h.ki.okM,okKey121 (h:=(a,b)) hk hn,by cases G.I (a,b) n <;> rfl⟩
def nV : Option Int → Value
  | none => .int .i64 0
  | some n => .int .i64 n
theorem GM.lkN (h : GM G m) {a b c k l : Int} (hp : okP' (a,b,c)) (hk : okH (k,l)) : lkZ m (.map (some G.mb)) (.agg (.mk [(.int .i64 a),(.int .i64 b),(.int .i64 c),(.int .i64 k),(.int .u64 l)])) (.int .i64 0) = nV (G.N (a,b,c) (k,l)) ∧
    mhas m (.map (some G.mb)) (.agg (.mk [(.int .i64 a),(.int .i64 b),(.int .i64 c),(.int .i64 k),(.int .u64 l)])) = (G.N (a,b,c) (k,l)).isSome:=by
  unfold lkZ mhas
  rw [show mlook m (.map (some G.mb)) (.agg (.mk [(.int .i64 a),(.int .i64 b),(.int .i64 c),(.int .i64 k),(.int .u64 l)])) = _ from h.lb (a,b,c) (k,l) hp hk]
  cases G.N (a,b,c) (k,l) <;> exact ⟨rfl,rfl⟩
theorem GM.nq (h : GM G m) {a b c k l : Int} (hp : okP' (a,b,c)) (hk : okH (k,l)) : Go.Maps.Keyed Try.prog 126 ∧ okM Try.prog 126 m (.map (some G.mb)) ∧ okKey Try.prog 126 (.agg (.mk [(.int .i64 a),(.int .i64 b),(.int .i64 c),(.int .i64 k),(.int .u64 l)])) ∧ ((okU (.c (.li .i64 0)) (nV (G.N (a,b,c) (k,l)))) : Bool) = true :=
  ⟨keyed126,h.kb.okM,okKey126 (p:=(a,b,c)) (h:=(k,l)) hp hk,by cases G.N (a,b,c) (k,l) <;> rfl⟩
theorem made_spec (h : GM G m) : madeOK m ((G.g : Int) + 1) ∧ madeV m ((G.g : Int) + 1) = true:=by
  refine flat_spec (p:=fun v x => vBool v = true) (by simp [T_made,flatP]) ?_
  unfold T_made
  rw [brT (cmp_zero _ _),brT (by rw [pz_p];rfl),brT (nz_p _),brT (nz_p _),brT h.okL.1,h.c0,brT (by rfl)]
  rfl
theorem listed_spec (h : GM G m) {a b c : Int} (hp : okP' (a,b,c)) : listedOK m ((G.g : Int) + 1) a b c ∧ listedV m ((G.g : Int) + 1) a b c = lP (G.R (a,b,c)):=by
  refine flat_spec (p:=fun v x => vPtr v = lP (G.R (a,b,c))) (by simp [T_listed,flatP]) ?_
  unfold T_listed
  rw [brT (nz_p _),brT (nz_p _),brT h.okL.1,h.c0,h.lkR hp,sat_req]
  refine ⟨h.rq hp,?_⟩
  obtain ⟨r1,r2,r3,r4,r5⟩:=rv_ok (G.R (a,b,c))
  rw [brT r2,r3]
  rfl
theorem treed_spec (h : GM G m) {a b c : Int} (hp : okP' (a,b,c)) : treedOK m ((G.g : Int) + 1) a b c ∧ treedV m ((G.g : Int) + 1) a b c = tP (G.R (a,b,c)):=by
  refine flat_spec (p:=fun v x => vPtr v = tP (G.R (a,b,c))) (by simp [T_treed,flatP]) ?_
  unfold T_treed
  rw [brT (nz_p _),brT (nz_p _),brT h.okL.1,h.c0,h.lkR hp,sat_req]
  refine ⟨h.rq hp,?_⟩
  obtain ⟨r1,r2,r3,r4,r5⟩:=rv_ok (G.R (a,b,c))
  rw [brT r2,r4]
  rfl
def mayE (G : GG) (p : Pl) (k : Hn) (n : Int) (f : Bool) : Int :=
  match (G.I k n).isSome with
  | true => 7
  | false => match ((G.R p).isSome && !f) || (G.N p k).isSome with
    | true => 3
    | false => 0
theorem may_spec (h : GM G m) {a b c k l n : Int} (hp : okP' (a,b,c)) (hk : okH (k,l)) (hn : inI n) (f : Bool) : mayOK m ((G.g : Int) + 1) a b c k l n f ∧ mayV m ((G.g : Int) + 1) a b c k l n f = mayE G (a,b,c) (k,l) n f:=by
  refine flat_spec (p:=fun v x => vInt v = mayE G (a,b,c) (k,l) n f) (by simp [T_may,flatP]) ?_
  unfold T_may
  obtain ⟨m1,m2⟩:=made_spec h
  obtain ⟨i1,i2⟩:=h.lkI hk hn
  obtain ⟨n1,n2⟩:=h.lkN hp hk
  obtain ⟨r1,r2,r3,r4,r5⟩:=rv_ok (G.R (a,b,c))
  rw [sat_req,m2]
  refine ⟨m1,?_⟩
  rw [brF (by rfl),brT (nz_p _),brT (nz_p _),brT h.okL.2.1,h.c1,i1,i2,sat_req]
  refine ⟨h.iq hk hn,?_⟩
  rw [brT (nz_p _),brT (nz_p _),brT h.okL.2.2,h.c2,n1,n2,sat_req]
  refine ⟨h.nq hp hk,?_⟩
  unfold mayE
  cases (G.I (k,l) n).isSome with
  | true => rw [sat_brT];rfl
  | false =>
    rw [sat_brF,brT (nz_p _),brT (nz_p _),brT h.okL.1,h.c0,h.lkR hp,sat_req]
    refine ⟨h.rq hp,?_⟩
    rw [brT r2,r5]
    cases G.R (a,b,c) <;> cases f <;> cases (G.N (a,b,c) (k,l)).isSome <;> simp [bNot,Tr.sat,isMemo,vInt,intOf]
def gin4 : Option Pl → Int × Int × Int × Bool
  | none => (0,0,0,false)
  | some p => (p.1,p.2.1,p.2.2,true)
theorem gin_spec (h : GM G m) {k l n : Int} (hk : okH (k,l)) (hn : inI n) : ginOK m ((G.g : Int) + 1) k l n ∧ ginV m ((G.g : Int) + 1) k l n = gin4 (G.I (k,l) n):=by
  refine flat_spec (p:=fun v x => vPB v = gin4 (G.I (k,l) n)) (by simp [T_gin,flatP]) ?_
  unfold T_gin
  obtain ⟨i1,i2⟩:=h.lkI hk hn
  rw [brT (cmp_zero _ _),brF (pz_p _),brT (nz_p _),brT (nz_p _),brT h.okL.2.1,h.c1,i1,i2,sat_req]
  refine ⟨h.iq hk hn,?_⟩
  cases G.I (k,l) n <;> rfl
theorem comes_spec (h : GM G m) {a b c k l n : Int} (hp : okP' (a,b,c)) (hk : okH (k,l)) (hn : inI n) (r : Value) : comesOK m ((G.g : Int) + 1) a b c k l n r ∧
    comesM m ((G.g : Int) + 1) a b c k l n r = mput (mput (mput m (.map (some G.mr)) (pKey (a,b,c)) (pl r)) (.map (some G.mi)) (kKey (k,l) n) (pKey (a,b,c))) (.map (some G.mb)) (sKey (a,b,c) (k,l)) (.int .i64 n):=by
  refine flat_spec (p:=fun v x => x = _) (by simp [T_comes,flatP]) ?_
  obtain ⟨g1,g2,g3⟩:=h.gne
  unfold T_comes
  rw [brT (nz_p _),brT (nz_p _),brT h.okL.1,h.c0,sat_req]
  refine ⟨⟨keyed59,h.kr.okM,rfl,okKey59 (p:=(a,b,c)) hp⟩,?_⟩
  rw [sat_letm]
  have e1 : mput m (.map (some G.mr)) (pKey (a,b,c)) (pl r) G.g = m G.g:=mput_oth _ g1
  have k1 : isMap 121 (mput m (.map (some G.mr)) (pKey (a,b,c)) (pl r)) G.mi:=h.ki.congr (mput_oth _ (Ne.symm h.d1))
  have hd1 : mput m (.map (some G.mr)) (pKey (a,b,c)) (pl r) G.g = some (gO G.mr G.mi G.mb):=e1.trans h.hd
  have o1 : okL (mput m (.map (some G.mr)) (pKey (a,b,c)) (pl r)) ((G.g : Int) + 1) 1 [.raw (.map none)] = true:=by unfold Sx.okL;rw [mget_of hd1];rfl
  have c1 : pl (mcell (mput m (.map (some G.mr)) (pKey (a,b,c)) (pl r)) ((G.g : Int) + 1) 1) = .map (some G.mi):=by unfold mcell;rw [mget_of hd1];rfl
  rw [brT (nz_p _),brT (nz_p _),brT o1]
  simp only [c1]
  rw [sat_req]
  refine ⟨⟨keyed121,k1.okM,rfl,okKey121 (h:=(k,l)) hk hn⟩,?_⟩
  rw [sat_letm]
  generalize hM : mput m (.map (some G.mr)) (pKey (a,b,c)) (pl r) = M at k1 hd1
  have hMb : M G.mb = m G.mb:=by rw [← hM];exact mput_oth _ (Ne.symm h.d2)
  have hd2 : mput M (.map (some G.mi)) (kKey (k,l) n) (pKey (a,b,c)) G.g = some (gO G.mr G.mi G.mb):=(mput_oth _ g2).trans hd1
  have k2 : isMap 126 (mput M (.map (some G.mi)) (kKey (k,l) n) (pKey (a,b,c))) G.mb:=h.kb.congr ((mput_oth _ (Ne.symm h.d3)).trans hMb)
  have o2 : okL (mput M (.map (some G.mi)) (kKey (k,l) n) (pKey (a,b,c))) ((G.g : Int) + 1) 2 [.raw (.map none)] = true:=by unfold Sx.okL;rw [mget_of hd2];rfl
  have c2 : pl (mcell (mput M (.map (some G.mi)) (kKey (k,l) n) (pKey (a,b,c))) ((G.g : Int) + 1) 2) = .map (some G.mb):=by unfold mcell;rw [mget_of hd2];rfl
  rw [brT (nz_p _),brT (nz_p _),brT o2]
  simp only [c2]
  rw [sat_req]
  refine ⟨⟨keyed126,k2.okM,rfl,okKey126 (p:=(a,b,c)) (h:=(k,l)) hp hk⟩,?_⟩
  rfl
end
end Go.Proofs.Ytnlohongffpkpaa.T16
end

section
namespace Go.Proofs.Ytnlohongffpkpaa.T16
open Go Go.RowKit Go.Proofs.Ytnlohongffpkpaa.Sx Go.Proofs
set_option linter.unusedVariables false
set_option linter.unusedSimpArgs false
def upd1 {α : Type} (f : Pl → α) (p : Pl) (x : α) : Pl → α:=fun q => if q = p then x else f q
def updN {α : Type} (f : Pl → Hn → α) (p : Pl) (k : Hn) (x : α) : Pl → Hn → α:=fun q h => if q = p ∧ h = k then x else f q h
def updI {α : Type} (f : Hn → Int → α) (k : Hn) (n : Int) (x : α) : Hn → Int → α:=fun h j => if h = k ∧ j = n then x else f h j
section
variable {G : GG} {m : Mem}
theorem GM.putR (h : GM G m) {p : Pl} (hp : okP' p) (X : Str) : GM { G with R:=upd1 G.R p (some X) } (mput m (.map (some G.mr)) (pKey p) X.ifv):=by
  obtain ⟨g1,g2,g3⟩:=h.gne
  obtain ⟨a1,a2,a3⟩:=h.kr.put (okKey59 hp) X.ifv
  refine ⟨(mput_oth _ g1).trans h.hd,a1,h.ki.congr (mput_oth _ (Ne.symm h.d1)),h.kb.congr (mput_oth _ (Ne.symm h.d2)),fun q hq => ?_,fun k n hk hn => (mlook_congr (mput_oth _ (Ne.symm h.d1)) _).trans (h.li k n hk hn),fun p k hp hk => (mlook_congr (mput_oth _ (Ne.symm h.d2)) _).trans (h.lb p k hp hk),h.d1,h.d2,h.d3⟩
  simp only [upd1]
  by_cases e : q = p
  · subst e;rw [if_pos rfl];exact a2
  · rw [if_neg e]
    exact (a3 _ (okKey59 hq).2 fun e2 => e (pKey_inj e2)).trans (h.lr q hq)
theorem GM.delR (h : GM G m) {p : Pl} (hp : okP' p) : GM { G with R:=upd1 G.R p none } (mdel m (.map (some G.mr)) (pKey p)):=by
  obtain ⟨g1,g2,g3⟩:=h.gne
  obtain ⟨a1,a2,a3⟩:=h.kr.del (okKey59 hp)
  refine ⟨(mdel_oth g1).trans h.hd,a1,h.ki.congr (mdel_oth (Ne.symm h.d1)),h.kb.congr (mdel_oth (Ne.symm h.d2)),fun q hq => ?_,fun k n hk hn => (mlook_congr (mdel_oth (Ne.symm h.d1)) _).trans (h.li k n hk hn),fun p k hp hk => (mlook_congr (mdel_oth (Ne.symm h.d2)) _).trans (h.lb p k hp hk),h.d1,h.d2,h.d3⟩
  simp only [upd1]
  by_cases e : q = p
  · subst e;rw [if_pos rfl];exact a2
  · rw [if_neg e]
    exact (a3 _ (okKey59 hq).2 fun e2 => e (pKey_inj e2)).trans (h.lr q hq)
theorem GM.putI (h : GM G m) {k : Hn} {n : Int} (hk : okH k) (hn : inI n) (p : Pl) : GM { G with I:=updI G.I k n (some p) } (mput m (.map (some G.mi)) (kKey k n) (pKey p)):=by
  obtain ⟨g1,g2,g3⟩:=h.gne
  obtain ⟨a1,a2,a3⟩:=h.ki.put (okKey121 hk hn) (pKey p)
  refine ⟨(mput_oth _ g2).trans h.hd,h.kr.congr (mput_oth _ h.d1),a1,h.kb.congr (mput_oth _ (Ne.symm h.d3)),fun q hq => (mlook_congr (mput_oth _ h.d1) _).trans (h.lr q hq),fun k' n' hk' hn' => ?_,fun p k hp hk => (mlook_congr (mput_oth _ (Ne.symm h.d3)) _).trans (h.lb p k hp hk),h.d1,h.d2,h.d3⟩
  simp only [updI]
  by_cases e : k' = k ∧ n' = n
  · obtain ⟨rfl,rfl⟩:=e;rw [if_pos ⟨rfl,rfl⟩];exact a2
  · rw [if_neg e]
    exact (a3 _ (okKey121 hk' hn').2 fun e2 => e (kKey_inj e2)).trans (h.li k' n' hk' hn')
theorem GM.delI (h : GM G m) {k : Hn} {n : Int} (hk : okH k) (hn : inI n) : GM { G with I:=updI G.I k n none } (mdel m (.map (some G.mi)) (kKey k n)):=by
  obtain ⟨g1,g2,g3⟩:=h.gne
  obtain ⟨a1,a2,a3⟩:=h.ki.del (okKey121 hk hn)
  refine ⟨(mdel_oth g2).trans h.hd,h.kr.congr (mdel_oth h.d1),a1,h.kb.congr (mdel_oth (Ne.symm h.d3)),fun q hq => (mlook_congr (mdel_oth h.d1) _).trans (h.lr q hq),fun k' n' hk' hn' => ?_,fun p k hp hk => (mlook_congr (mdel_oth (Ne.symm h.d3)) _).trans (h.lb p k hp hk),h.d1,h.d2,h.d3⟩
  simp only [updI]
  by_cases e : k' = k ∧ n' = n
  · obtain ⟨rfl,rfl⟩:=e;rw [if_pos ⟨rfl,rfl⟩];exact a2
  · rw [if_neg e]
    exact (a3 _ (okKey121 hk' hn').2 fun e2 => e (kKey_inj e2)).trans (h.li k' n' hk' hn')
theorem GM.putN (h : GM G m) {p : Pl} {k : Hn} (hp : okP' p) (hk : okH k) (n : Int) : GM { G with N:=updN G.N p k (some n) } (mput m (.map (some G.mb)) (sKey p k) (.int .i64 n)):=by
  obtain ⟨g1,g2,g3⟩:=h.gne
  obtain ⟨a1,a2,a3⟩:=h.kb.put (okKey126 hp hk) (.int .i64 n)
  refine ⟨(mput_oth _ g3).trans h.hd,h.kr.congr (mput_oth _ h.d2),h.ki.congr (mput_oth _ h.d3),a1,fun q hq => (mlook_congr (mput_oth _ h.d2) _).trans (h.lr q hq),fun k' n' hk' hn' => (mlook_congr (mput_oth _ h.d3) _).trans (h.li k' n' hk' hn'),fun q k' hq hk' => ?_,h.d1,h.d2,h.d3⟩
  simp only [updN]
  by_cases e : q = p ∧ k' = k
  · obtain ⟨rfl,rfl⟩:=e;rw [if_pos ⟨rfl,rfl⟩];exact a2
  · rw [if_neg e]
    exact (a3 _ (okKey126 hq hk').2 fun e2 => e (sKey_inj e2)).trans (h.lb q k' hq hk')
theorem GM.delN (h : GM G m) {p : Pl} {k : Hn} (hp : okP' p) (hk : okH k) : GM { G with N:=updN G.N p k none } (mdel m (.map (some G.mb)) (sKey p k)):=by
  obtain ⟨g1,g2,g3⟩:=h.gne
  obtain ⟨a1,a2,a3⟩:=h.kb.del (okKey126 hp hk)
  refine ⟨(mdel_oth g3).trans h.hd,h.kr.congr (mdel_oth h.d2),h.ki.congr (mdel_oth h.d3),a1,fun q hq => (mlook_congr (mdel_oth h.d2) _).trans (h.lr q hq),fun k' n' hk' hn' => (mlook_congr (mdel_oth h.d3) _).trans (h.li k' n' hk' hn'),fun q k' hq hk' => ?_,h.d1,h.d2,h.d3⟩
  simp only [updN]
  by_cases e : q = p ∧ k' = k
  · obtain ⟨rfl,rfl⟩:=e;rw [if_pos ⟨rfl,rfl⟩];exact a2
  · rw [if_neg e]
    exact (a3 _ (okKey126 hq hk').2 fun e2 => e (sKey_inj e2)).trans (h.lb q k' hq hk')
end
def GG.dom (G : GG) (a : Nat) : Prop:=gMap G a ∨ ∃ p X,G.R p = some X ∧ X.D a
structure GG.to (G G' : GG) (m m' : Mem) : Prop where
  is' : G'.is m'
  g : G'.g = G.g
  dom : ∀ a,G'.dom a → G.dom a ∨ m a = none
  keep : ∀ a,m a ≠ none → ¬ G.dom a → m' a = m a
theorem GG.to.refl {G : GG} {m : Mem} (h : G.is m) : G.to G m m:=⟨h,rfl,fun _ h => .inl h,fun _ _ _ => rfl⟩
theorem GG.is.there {G : GG} {m : Mem} (h : G.is m) {a : Nat} (ha : G.dom a) : m a ≠ none:=by
  rcases ha with ha | ⟨p,X,h1,h2⟩
  · exact h.toGM.there ha
  · exact (h.st p X h1).1.there h2
theorem GG.is.congr {G : GG} {m m' : Mem} (h : G.is m) (hm : ∀ a,G.dom a → m' a = m a) : G.is m' :=
  ⟨h.toGM.congr fun a ha => hm a (.inl ha),fun p X hX => ⟨(h.st p X hX).1.congr fun a ha => hm a (.inr ⟨p,X,hX,ha⟩),(h.st p X hX).2⟩,h.ap,h.own,h.nh,h.nr,h.nu⟩
structure GG.mid (G : GG) (m0 m1 : Mem) (p : Pl) (X' : Str) : Prop where
  is : G.is m0
  in' : X'.In m1
  keep : ∀ a,m0 a ≠ none → (∀ X,G.R p = some X → ¬ X.D a) → m1 a = m0 a
  dom : ∀ a,X'.D a → (∃ X,G.R p = some X ∧ X.D a) ∨ m0 a = none
section
variable {G : GG} {m0 m1 : Mem} {p : Pl} {X' : Str}
theorem GG.is.mid_to (h : G.is m0) {X : Str} (hX : G.R p = some X) (ht : X.to X' m0 m1) : G.mid m0 m1 p X' :=
  ⟨h,ht.in',fun a ha hn => ht.keep a ha (hn X hX),fun a ha => (ht.dom a ha).imp (fun hd => ⟨X,hX,hd⟩) id⟩
theorem GG.mid.gm (h : G.mid m0 m1 p X') : GM G m1 :=
  h.is.toGM.congr fun a ha => h.keep a (h.is.toGM.there ha) fun X hX hd => by
    obtain ⟨o1,o2,o3,o4⟩:=h.is.own p X hX a hd
    rcases ha with rfl | rfl | rfl | rfl
    · exact o1 rfl
    · exact o2 rfl
    · exact o3 rfl
    · exact o4 rfl
theorem GG.mid.own (h : G.mid m0 m1 p X') {a : Nat} (ha : X'.D a) : ¬ gMap G a:=by
  intro hm
  rcases h.dom a ha with ⟨X,hX,hd⟩ | hn
  · obtain ⟨o1,o2,o3,o4⟩:=h.is.own p X hX a hd
    rcases hm with rfl | rfl | rfl | rfl
    · exact o1 rfl
    · exact o2 rfl
    · exact o3 rfl
    · exact o4 rfl
  · exact h.is.toGM.there hm hn
theorem GG.mid.oth (h : G.mid m0 m1 p X') {q : Pl} {Y : Str} (hq : q ≠ p) (hY : G.R q = some Y) : Y.In m1 ∧ ∀ a,X'.D a → ¬ Y.D a:=by
  have hin:=(h.is.st q Y hY).1
  refine ⟨hin.congr fun a ha => h.keep a (hin.there ha) fun X hX hd => h.is.ap p q X Y hX hY (Ne.symm hq) a hd ha,fun a ha hd => ?_⟩
  rcases h.dom a ha with ⟨X,hX,hx⟩ | hn
  · exact h.is.ap p q X Y hX hY (Ne.symm hq) a hx hd
  · exact hin.there hd hn
theorem GG.mid.fin (h : G.mid m0 m1 p X') {G' : GG} {m3 : Mem} (h3 : GM G' m3) (eg : G'.g = G.g ∧ G'.mr = G.mr ∧ G'.mi = G.mi ∧ G'.mb = G.mb) {r : Option Str} (hR : G'.R = upd1 G.R p r) (hr : ∀ Y,r = some Y → Y = X' ∧ X'.hs ≠ [])
    (hp : okP' p) (hk : ∀ a,¬ gMap G a → m3 a = m1 a) (nh : ∀ p h,(G'.N p h).isSome = true ↔ ∃ X,G'.R p = some X ∧ h ∈ X.hs) (nr : ∀ p h n,G'.N p h = some n → inI n) (nu : ∀ h n p,G'.I h n = some p ↔ G'.N p h = some n) : G.to G' m0 m3:=by
  obtain ⟨e1,e2,e3,e4⟩:=eg
  have hmap : ∀ a,gMap G' a ↔ gMap G a:=fun a => by unfold gMap;rw [e1,e2,e3,e4]
  have row : ∀ q Y,G'.R q = some Y → (q = p ∧ Y = X' ∧ X'.hs ≠ []) ∨ (q ≠ p ∧ G.R q = some Y):=by
    intro q Y hY
    rw [hR] at hY
    simp only [upd1] at hY
    by_cases e : q = p
    · rw [if_pos e] at hY
      obtain ⟨rfl,g⟩:=hr Y hY
      exact .inl ⟨e,rfl,g⟩
    · rw [if_neg e] at hY;exact .inr ⟨e,hY⟩
  have hin : X'.In m3:=h.in'.congr fun a ha => hk a (h.own ha)
  have ownY : ∀ q Y,G.R q = some Y → ∀ a,Y.D a → ¬ gMap G a:=fun q Y hY a ha hm => by
    obtain ⟨o1,o2,o3,o4⟩:=h.is.own q Y hY a ha
    rcases hm with rfl | rfl | rfl | rfl
    · exact o1 rfl
    · exact o2 rfl
    · exact o3 rfl
    · exact o4 rfl
  refine ⟨⟨h3,fun q Y hY => ?_,fun q q' Y Y' hY hY' hne a ha => ?_,fun q Y hY a ha => ?_,nh,nr,nu⟩,e1,fun a ha => ?_,fun a ha hd => ?_⟩
  · rcases row q Y hY with ⟨rfl,rfl,hne⟩ | ⟨hq,hY⟩
    · exact ⟨hin,hne,hp⟩
    · obtain ⟨s1,s2⟩:=h.is.st q Y hY
      exact ⟨(h.oth hq hY).1.congr fun a ha => hk a (ownY q Y hY a ha),s2⟩
  · rcases row q Y hY with ⟨rfl,rfl,_⟩ | ⟨hq,hY⟩
    · rcases row q' Y' hY' with ⟨rfl,rfl,_⟩ | ⟨hq',hY'⟩
      · exact absurd rfl hne
      · exact (h.oth hq' hY').2 a ha
    · rcases row q' Y' hY' with ⟨rfl,rfl,_⟩ | ⟨hq',hY'⟩
      · exact fun hb => (h.oth hq hY).2 a hb ha
      · exact h.is.ap q q' Y Y' hY hY' hne a ha
  · have hn : ¬ gMap G' a:=by
      rw [hmap]
      rcases row q Y hY with ⟨rfl,rfl,_⟩ | ⟨hq,hY⟩
      · exact h.own ha
      · exact ownY q Y hY a ha
    exact ⟨fun e => hn (.inl e),fun e => hn (.inr (.inl e)),fun e => hn (.inr (.inr (.inl e))),fun e => hn (.inr (.inr (.inr e)))⟩
  · rcases ha with ha | ⟨q,Y,hY,hd⟩
    · exact .inl (.inl ((hmap a).1 ha))
    · rcases row q Y hY with ⟨rfl,rfl,_⟩ | ⟨hq,hY⟩
      · rcases h.dom a hd with ⟨X,hX,hx⟩ | hn
        · exact .inl (.inr ⟨_,X,hX,hx⟩)
        · exact .inr hn
      · exact .inl (.inr ⟨q,Y,hY,hd⟩)
  · have h1 : ¬ gMap G a:=fun e => hd (.inl e)
    rw [hk a h1]
    exact h.keep a ha fun X hX hx => hd (.inr ⟨p,X,hX,hx⟩)
theorem GG.mid.comes (h : G.mid m0 m1 p X') (hp : okP' p) {k : Hn} {n : Int} (hk : okH k) (hn : inI n) (hI : G.I k n = none) (hN : G.N p k = none) (hne : X'.hs ≠ []) (hhs : ∀ j,j ∈ X'.hs ↔ j = k ∨ ∃ X,G.R p = some X ∧ j ∈ X.hs) :
    comesOK m1 ((G.g : Int) + 1) p.1 p.2.1 p.2.2 k.1 k.2 n X'.ifv ∧ G.to ⟨G.g,G.mr,G.mi,G.mb,upd1 G.R p (some X'),updN G.N p k (some n),updI G.I k n (some p)⟩ m0 (comesM m1 ((G.g : Int) + 1) p.1 p.2.1 p.2.2 k.1 k.2 n X'.ifv):=by
  obtain ⟨pa,pb,pc⟩:=p
  obtain ⟨k1,k2⟩:=k
  obtain ⟨c1,c2⟩:=comes_spec h.gm (a:=pa) (b:=pb) (c:=pc) hp (k:=k1) (l:=k2) hk hn X'.ifv
  refine ⟨c1,?_⟩
  have hpl : pl X'.ifv = X'.ifv:=by unfold Str.ifv;cases X'.tree <;> rfl
  rw [hpl] at c2
  show G.to _ m0 (comesM m1 ((G.g : Int) + 1) pa pb pc k1 k2 n X'.ifv)
  rw [c2]
  have t1:=h.gm.putR hp X'
  have t2:=t1.putI hk hn (pa,pb,pc)
  have t3:=t2.putN hp hk n
  refine h.fin (r:=some X') t3 ⟨rfl,rfl,rfl,rfl⟩ rfl (fun Y hY => ?_) hp (fun a ha => ?_) (fun q j => ?_) (fun q j n' hj => ?_) (fun j n' q => ?_)
  · cases hY;exact ⟨rfl,hne⟩
  · have a1 : a ≠ G.mr:=fun e => ha (.inr (.inl e))
    have a2 : a ≠ G.mi:=fun e => ha (.inr (.inr (.inl e)))
    have a3 : a ≠ G.mb:=fun e => ha (.inr (.inr (.inr e)))
    rw [mput_oth _ a3,mput_oth _ a2,mput_oth _ a1]
  · simp only [updN,upd1]
    by_cases e : q = (pa,pb,pc)
    · subst e
      rw [if_pos rfl]
      by_cases e2 : j = (k1,k2)
      · subst e2
        rw [if_pos ⟨rfl,rfl⟩]
        exact ⟨fun _ => ⟨X',rfl,(hhs _).2 (.inl rfl)⟩,fun _ => rfl⟩
      · rw [if_neg (fun h => e2 h.2),h.is.nh]
        constructor
        · intro hx;exact ⟨X',rfl,(hhs _).2 (.inr hx)⟩
        · rintro ⟨Y,hY,hj⟩
          cases hY
          rcases (hhs _).1 hj with h | h
          · exact absurd h e2
          · exact h
    · rw [if_neg e,if_neg (fun h => e h.1)]
      exact h.is.nh q j
  · simp only [updN] at hj
    split at hj
    · cases hj;exact hn
    · exact h.is.nr q j n' hj
  · simp only [updN,updI]
    by_cases e : j = (k1,k2)
    · subst e
      by_cases e2 : n' = n
      · subst e2
        rw [if_pos ⟨rfl,rfl⟩]
        by_cases e3 : q = (pa,pb,pc)
        · subst e3;rw [if_pos ⟨rfl,rfl⟩];simp
        · rw [if_neg (fun h => e3 h.1),← h.is.nu,hI]
          constructor
          · intro hh;cases hh;exact absurd rfl e3
          · intro hh;cases hh
      · rw [if_neg (fun h => e2 h.2),h.is.nu]
        by_cases e3 : q = (pa,pb,pc)
        · subst e3;rw [if_pos ⟨rfl,rfl⟩,hN]
          constructor
          · intro hh;cases hh
          · intro hh;cases hh;exact absurd rfl e2
        · rw [if_neg (fun h => e3 h.1)]
    · rw [if_neg (fun h => e h.1),if_neg (fun h => e h.2)]
      exact h.is.nu j n' q
end
def goneR (X : Str) : Option Str:=match X.hs with | [] => none | _ :: _ => some X
section
variable {G : GG} {m0 m1 : Mem} {p : Pl} {X X' : Str}
theorem GG.mid.goes (h : G.mid m0 m1 p X') (hX : G.R p = some X) (ht : X'.tree = X.tree) (ha : X'.t = X.t) {k : Hn} {n : Int} (hk : okH k) (hN : G.N p k = some n) (hhs : X'.hs = X.hs.erase k) :
    goesOK m1 ((G.g : Int) + 1) p.1 p.2.1 p.2.2 k.1 k.2 ∧ G.to ⟨G.g,G.mr,G.mi,G.mb,upd1 G.R p (goneR X'),updN G.N p k none,updI G.I k n none⟩ m0 (goesM m1 ((G.g : Int) + 1) p.1 p.2.1 p.2.2 k.1 k.2):=by
  have hp : okP' p:=(h.is.st p X hX).2.2
  have hnd:=(h.is.st p X hX).1.nodup
  have hn : inI n:=h.is.nr p k n hN
  obtain ⟨pa,pb,pc⟩:=p
  obtain ⟨k1,k2⟩:=k
  have hg:=h.gm
  have t1:=hg.delI hk hn
  have t2:=t1.delN hp hk
  have t3:=t2.delR hp
  have hM2 : ∀ a,¬ gMap G a → mdel (mdel m1 (.map (some G.mi)) (kKey (k1,k2) n)) (.map (some G.mb)) (sKey (pa,pb,pc) (k1,k2)) a = m1 a:=fun a ha => by
    rw [mdel_oth (fun e => ha (.inr (.inr (.inr e)))),mdel_oth (fun e => ha (.inr (.inr (.inl e))))]
  have hin2 : X'.In (mdel (mdel m1 (.map (some G.mi)) (kKey (k1,k2) n)) (.map (some G.mb)) (sKey (pa,pb,pc) (k1,k2))):=h.in'.congr fun a ha => hM2 a (h.own ha)
  have hres : G.to ⟨G.g,G.mr,G.mi,G.mb,upd1 G.R (pa,pb,pc) (goneR X'),updN G.N (pa,pb,pc) (k1,k2) none,updI G.I (k1,k2) n none⟩ m0
      (match X'.hs with | [] => mdel (mdel (mdel m1 (.map (some G.mi)) (kKey (k1,k2) n)) (.map (some G.mb)) (sKey (pa,pb,pc) (k1,k2))) (.map (some G.mr)) (pKey (pa,pb,pc)) | _ :: _ => mdel (mdel m1 (.map (some G.mi)) (kKey (k1,k2) n)) (.map (some G.mb)) (sKey (pa,pb,pc) (k1,k2))):=by
    have hmem : ∀ j,j ∈ X'.hs ↔ j ≠ (k1,k2) ∧ j ∈ X.hs:=fun j => by rw [hhs];exact hnd.mem_erase_iff
    refine h.fin (r:=goneR X') ?_ ⟨rfl,rfl,rfl,rfl⟩ rfl (fun Y hY => ?_) hp (fun a ha => ?_) (fun q j => ?_) (fun q j n' hj => ?_) (fun j n' q => ?_)
    · unfold goneR
      cases he : X'.hs with
      | nil => exact t3
      | cons x r =>
        have hsame : upd1 G.R (pa,pb,pc) (some X') (pa,pb,pc) = some X':=if_pos rfl
        refine ⟨t2.hd,t2.kr,t2.ki,t2.kb,fun q hq => ?_,t2.li,t2.lb,t2.d1,t2.d2,t2.d3⟩
        refine (t2.lr q hq).trans ?_
        show (G.R q).map Str.ifv = (upd1 G.R (pa,pb,pc) (some X') q).map Str.ifv
        simp only [upd1]
        by_cases e : q = (pa,pb,pc)
        · subst e
          rw [if_pos rfl,hX]
          simp only [Option.map_some,Str.ifv,ht,ha]
        · rw [if_neg e]
    · unfold goneR at hY
      split at hY
      · cases hY
      · rename_i x r he
        cases hY
        exact ⟨rfl,by rw [he];simp⟩
    · have a1 : a ≠ G.mr:=fun e => ha (.inr (.inl e))
      cases he : X'.hs with
      | nil => exact (mdel_oth a1).trans (hM2 a ha)
      | cons x r => exact hM2 a ha
    · simp only [updN,upd1]
      by_cases e : q = (pa,pb,pc)
      · subst e
        rw [if_pos rfl]
        have key : (∃ Y,goneR X' = some Y ∧ j ∈ Y.hs) ↔ j ∈ X'.hs:=by
          unfold goneR
          cases he : X'.hs with
          | nil => simp
          | cons x r => simp [he]
        rw [key,hmem]
        by_cases e2 : j = (k1,k2)
        · subst e2;rw [if_pos ⟨rfl,rfl⟩];simp
        · rw [if_neg (fun h => e2 h.2),h.is.nh,hX]
          constructor
          · rintro ⟨Y,hY,hj⟩;cases hY;exact ⟨e2,hj⟩
          · rintro ⟨_,hj⟩;exact ⟨X,rfl,hj⟩
      · rw [if_neg e,if_neg (fun h => e h.1)]
        exact h.is.nh q j
    · simp only [updN] at hj
      split at hj
      · cases hj
      · exact h.is.nr q j n' hj
    · simp only [updN,updI]
      by_cases e : j = (k1,k2)
      · subst e
        by_cases e3 : q = (pa,pb,pc)
        · subst e3
          rw [if_pos (c:=(pa,pb,pc) = (pa,pb,pc) ∧ (k1,k2) = (k1,k2)) ⟨rfl,rfl⟩]
          by_cases e2 : n' = n
          · rw [if_pos ⟨rfl,e2⟩];simp
          · rw [if_neg (fun h => e2 h.2),h.is.nu,hN]
            constructor
            · intro hh;cases hh;exact absurd rfl e2
            · intro hh;cases hh
        · rw [if_neg (c:=q = (pa,pb,pc) ∧ _) (fun h => e3 h.1),← h.is.nu]
          by_cases e2 : n' = n
          · subst e2
            rw [if_pos ⟨rfl,rfl⟩]
            constructor
            · intro hh;cases hh
            · intro hh
              have:=(h.is.nu (k1,k2) n' (pa,pb,pc)).2 hN
              rw [hh] at this;cases this;exact absurd rfl e3
          · rw [if_neg (fun h => e2 h.2)]
      · rw [if_neg (fun h => e h.1),if_neg (fun h => e h.2)]
        exact h.is.nu j n' q
  suffices hs : goesOK m1 ((G.g : Int) + 1) pa pb pc k1 k2 ∧ goesM m1 ((G.g : Int) + 1) pa pb pc k1 k2 = (match X'.hs with | [] => mdel (mdel (mdel m1 (.map (some G.mi)) (kKey (k1,k2) n)) (.map (some G.mb)) (sKey (pa,pb,pc) (k1,k2))) (.map (some G.mr)) (pKey (pa,pb,pc)) | _ :: _ => mdel (mdel m1 (.map (some G.mi)) (kKey (k1,k2) n)) (.map (some G.mb)) (sKey (pa,pb,pc) (k1,k2))) by
    refine ⟨hs.1,?_⟩
    show G.to _ m0 (goesM m1 ((G.g : Int) + 1) pa pb pc k1 k2)
    rw [hs.2];exact hres
  clear hres
  refine flat_spec (p:=fun v x => x = _) (by simp [T_goes,flatP]) ?_
  unfold T_goes
  obtain ⟨n1,n2⟩:=hg.lkN hp hk
  rw [hN] at n1
  have hvI : vI (nV (some n)) = n:=rfl
  rw [brT (nz_p _),brT (nz_p _),brT hg.okL.2.1,brT (nz_p _),brT (nz_p _),brT hg.okL.2.2]
  simp only [hg.c1,hg.c2,n1,hvI]
  rw [sat_req]
  refine ⟨⟨keyed126,hg.kb.okM,okKey126 (p:=(pa,pb,pc)) (h:=(k1,k2)) hp hk,rfl⟩,?_⟩
  rw [sat_req]
  refine ⟨⟨keyed121,hg.ki.okM,okKey121 (h:=(k1,k2)) hk hn⟩,?_⟩
  rw [sat_letm,brT (nz_p _),brT (nz_p _),brT t1.okL.2.2]
  simp only [show pl (mcell (mdel m1 (.map (some G.mi)) (.agg (.mk [(.int .i64 k1),(.int .u64 k2),(.int .i64 n)]))) ((G.g : Int) + 1) 2) = .map (some G.mb) from t1.c2]
  rw [sat_req]
  refine ⟨⟨keyed126,t1.kb.okM,okKey126 (p:=(pa,pb,pc)) (h:=(k1,k2)) hp hk⟩,?_⟩
  rw [sat_letm,brT (nz_p _),brT (nz_p _),brT t2.okL.1]
  have l2:=t2.lkR (a:=pa) (b:=pb) (c:=pc) hp
  have q2:=t2.rq (a:=pa) (b:=pb) (c:=pc) hp
  have c2:=t2.c0
  have hkr:=t2.kr
  simp only at l2 q2 c2 hkr
  rw [hX] at l2 q2
  generalize mdel (mdel m1 (.map (some G.mi)) (kKey (k1,k2) n)) (.map (some G.mb)) (sKey (pa,pb,pc) (k1,k2)) = M2 at *
  simp only [c2,l2]
  rw [sat_req]
  refine ⟨q2,?_⟩
  obtain ⟨r1,r2,r3,r4,r5⟩:=rv_ok (some X)
  rw [brT r2]
  have okL2:=t2.okL.1
  have hlen0 : iEq (X'.hs.length : Int) 0 = X'.hs.isEmpty:=by cases X'.hs <;> simp [iEq];omega
  cases htr : X.tree with
  | false =>
    have hif : ifIs 112 (pl (rv (some X))) = true:=by simp only [rv,Str.ifv,htr,mkIf_eq];rfl
    obtain ⟨s1,s2⟩:=Str.llen hin2 (ht.trans htr)
    have e3 : ifP 112 (pl (rv (some X))) = (X'.t : Int) + 1:=by rw [r3];simp [lP,htr,ha]
    rw [brT hif,e3,sat_req,s2,hlen0]
    refine ⟨s1,?_⟩
    cases he : X'.hs with
    | nil =>
      rw [brT (by rfl),brT (nz_p _),brT (nz_p _),brT okL2,sat_req]
      refine ⟨⟨keyed59,hkr.okM,okKey59 (p:=(pa,pb,pc)) hp⟩,?_⟩
      rfl
    | cons x r => rw [brF (by rfl)];rfl
  | true =>
    have hif : ifIs 112 (pl (rv (some X))) = false:=by simp only [rv,Str.ifv,htr,mkIf_eq];rfl
    have hif2 : ifIs 24 (pl (rv (some X))) = true:=by simp only [rv,Str.ifv,htr,mkIf_eq];rfl
    obtain ⟨s1,s2⟩:=Str.tlen hin2 (ht.trans htr)
    have e3 : ifP 24 (pl (rv (some X))) = (X'.t : Int) + 1:=by rw [r4];simp [tP,htr,ha]
    rw [brF hif,brT hif2,e3,sat_req,s2,hlen0]
    refine ⟨s1,?_⟩
    cases he : X'.hs with
    | nil =>
      rw [brT (by rfl),brT (nz_p _),brT (nz_p _),brT okL2,sat_req]
      refine ⟨⟨keyed59,hkr.okM,okKey59 (p:=(pa,pb,pc)) hp⟩,?_⟩
      rfl
    | cons x r => rw [brF (by rfl)];rfl
end
def hsO (r : Option Str) : List Hn:=match r with | none => [] | some X => X.hs
def kindO (r : Option Str) : Int:=match r with | none => 0 | some X => match X.tree with | false => 1 | true => 2
section
variable {G : GG} {m : Mem}
theorem glen_spec (h : G.is m) {a b c : Int} (hp : okP' (a,b,c)) : glenOK m ((G.g : Int) + 1) a b c ∧ glenV m ((G.g : Int) + 1) a b c = (hsO (G.R (a,b,c))).length:=by
  refine flat_spec (p:=fun v x => vInt v = _) (by simp [T_glen,flatP]) ?_
  unfold T_glen
  have hg:=h.toGM
  obtain ⟨m1,m2⟩:=made_spec hg
  obtain ⟨r1,r2,r3,r4,r5⟩:=rv_ok (G.R (a,b,c))
  rw [sat_req,m2]
  refine ⟨m1,?_⟩
  rw [brF (by rfl),brT (nz_p _),brT (nz_p _),brT hg.okL.1]
  simp only [hg.c0,hg.lkR hp]
  rw [sat_req]
  refine ⟨hg.rq hp,?_⟩
  rw [brT r2,r5]
  cases hX : G.R (a,b,c) with
  | none => rw [brT (by rfl)];rfl
  | some X =>
    rw [← hX]
    rw [brF (by rw [hX];rfl),brT (nz_p _),brT (nz_p _),brT hg.okL.1,sat_req]
    refine ⟨hg.rq hp,?_⟩
    rw [brT r2,r3,r4,hX]
    have hin:=(h.st _ X hX).1
    cases htr : X.tree with
    | false =>
      have hif : ifIs 112 (pl (rv (some X))) = true:=by simp only [rv,Str.ifv,htr,mkIf_eq];rfl
      obtain ⟨s1,s2⟩:=Str.llen hin htr
      have e3 : lP (some X) = (X.t : Int) + 1:=by simp [lP,htr]
      rw [brT hif,e3,sat_req,s2]
      exact ⟨s1,rfl⟩
    | true =>
      have hif : ifIs 112 (pl (rv (some X))) = false:=by simp only [rv,Str.ifv,htr,mkIf_eq];rfl
      have hif2 : ifIs 24 (pl (rv (some X))) = true:=by simp only [rv,Str.ifv,htr,mkIf_eq];rfl
      obtain ⟨s1,s2⟩:=Str.tlen hin htr
      have e3 : tP (some X) = (X.t : Int) + 1:=by simp [tP,htr]
      rw [brF hif,brT hif2,e3,sat_req,s2]
      exact ⟨s1,rfl⟩
theorem gkind_spec (h : G.is m) {a b c : Int} (hp : okP' (a,b,c)) : gkindOK m ((G.g : Int) + 1) a b c ∧ gkindV m ((G.g : Int) + 1) a b c = kindO (G.R (a,b,c)):=by
  refine flat_spec (p:=fun v x => vU8 v = _) (by simp [T_gkind,flatP]) ?_
  unfold T_gkind
  obtain ⟨l1,l2⟩:=glen_spec h hp
  obtain ⟨d1,d2⟩:=listed_spec h.toGM hp
  rw [sat_req,l2,d2]
  refine ⟨l1,?_⟩
  cases hX : G.R (a,b,c) with
  | none => rw [brT (by rfl)];rfl
  | some X =>
    have hne:=(h.st _ X hX).2.1
    have hl : iEq ((hsO (some X)).length : Int) 0 = false:=by
      show iEq (X.hs.length : Int) 0 = false
      cases he : X.hs with
      | nil => exact absurd he hne
      | cons x r => simp [iEq];omega
    rw [brF hl,sat_req]
    refine ⟨d1,?_⟩
    rw [brT (cmp_zero _ _)]
    simp only [lP,kindO]
    cases X.tree with
    | false => rw [brT (by simp only [pz_p];rfl)];rfl
    | true => rw [brF (by rfl)];rfl
end
end Go.Proofs.Ytnlohongffpkpaa.T16
end

section
namespace Go.Proofs.Ytnlohongffpkpaa.T16
open Go Go.RowKit Go.Proofs.Ytnlohongffpkpaa.Sx Go.Proofs
set_option linter.unusedVariables false
set_option linter.unusedSimpArgs false
def listB (r : Option Str) : Bool:=match r with | none => false | some X => !X.tree
def treeB (r : Option Str) : Bool:=match r with | none => false | some X => X.tree
def lsO (r : Option Str) : List Hn:=match r with | none => [] | some X => match X.tree with | false => X.hs | true => []
theorem lP_b (r : Option Str) : peq (lP r) 0 = !listB r:=by
  cases r with
  | none => rfl
  | some X => simp only [lP,listB];cases X.tree <;> simp only [pz_p] <;> rfl
theorem tP_b (r : Option Str) : peq (tP r) 0 = !treeB r:=by
  cases r with
  | none => rfl
  | some X => simp only [tP,treeB];cases X.tree <;> simp only [pz_p] <;> rfl
theorem mayE_zero {G : GG} {p : Pl} {k : Hn} {n : Int} {f : Bool} (h : mayE G p k n f = 0) : G.I k n = none ∧ G.N p k = none ∧ ((G.R p).isSome = true → f = true):=by
  unfold mayE at h
  cases hI : G.I k n with
  | some q => rw [hI] at h;cases h
  | none =>
    rw [hI] at h
    simp only [Option.isSome_none] at h
    cases hN : G.N p k with
    | some q => rw [hN] at h;simp at h
    | none =>
      refine ⟨rfl,rfl,fun hR => ?_⟩
      rw [hN,hR] at h
      cases f with
      | true => rfl
      | false => simp at h
def GG.come (G : GG) (p : Pl) (k : Hn) (n : Int) (X' : Str) : GG:=⟨G.g,G.mr,G.mi,G.mb,upd1 G.R p (some X'),updN G.N p k (some n),updI G.I k n (some p)⟩
def GG.go (G : GG) (p : Pl) (k : Hn) (n : Int) (X' : Str) : GG:=⟨G.g,G.mr,G.mi,G.mb,upd1 G.R p (goneR X'),updN G.N p k none,updI G.I k n none⟩
theorem lifv {X' : Str} (h : X'.tree = false) {p : Int} (hp : p = (X'.t : Int) + 1) : pl (mkIf 112 p) = X'.ifv:=by
  subst hp;simp only [Str.ifv,h,mkIf_eq];rfl
theorem tifv {X' : Str} (h : X'.tree = true) {p : Int} (hp : p = (X'.t : Int) + 1) : pl (mkIf 24 p) = X'.ifv:=by
  subst hp;simp only [Str.ifv,h,mkIf_eq];rfl
theorem GG.is.mid_new {G : GG} {m0 m1 m2 : Mem} {p : Pl} {X0 X' : Str} (h : G.is m0) (hR : G.R p = none) (h1 : ∀ a,X0.D a → m0 a = none) (h2 : ∀ a,m0 a ≠ none → m1 a = m0 a) (ht : X0.to X' m1 m2) : G.mid m0 m2 p X':=by
  refine ⟨h,ht.in',fun a ha _ => ?_,fun a ha => .inr ?_⟩
  · exact (ht.keep a (by rw [h2 a ha];exact ha) fun hd => ha (h1 a hd)).trans (h2 a ha)
  · rcases ht.dom a ha with hd | hn
    · exact h1 a hd
    · cases e : m0 a with
      | none => rfl
      | some o => have:=h2 a (by rw [e];simp);rw [hn,e] at this;cases this
def T_gnew (m : Mem)  : Tr:=(.any (newMQ m) (fun y0 => (.any (newMQ y0.4) (fun y1 => (.any (newMQ y1.4) (fun y2 => (.any (newQ y2.4 (.mk [(pl (hdV y0.3)),(pl (hdV y1.3)),(pl (hdV y2.3))]) 111) (fun y3 => (.leaf (.memo (.u (.c (.np (pI y3.1) 0))) y3.4))))))))))
def gnewP (m : Mem) : Prop:=∃ G : Unit,True
def gnewPost (m : Mem) (y : Vars) : Prop:=∃ G : GG,y.i = [(G.g : Int) + 1] ∧ G.is y.m ∧ (∀ p,G.R p = none) ∧ (∀ p h,G.N p h = none) ∧ (∀ h n,G.I h n = none) ∧ (∀ a,G.dom a → m a = none) ∧ ∀ a,m a ≠ none → y.m a = m a
def gnewQ (m : Mem) (y : Vars) : Prop:=∀ G : Unit,True → gnewPost m y
def s_gnew : Sum:=memSum 29 fun m a => match a with | [] => some ⟨gnewP m,gnewQ m,fun y => .u (.c (.np (hdI y.i) 0))⟩ | _ => none
theorem isMap_new {kt : TypeId} {m : Mem} {q : Nat} (h : m q = some (.map #[] 0)) : isMap kt m q ∧ ∀ k,mlook m (.map (some q)) k = none:=by
  refine ⟨⟨#[],0,h,fun e he => by simp at he,List.Pairwise.nil,MapKept.stamped_empty 0⟩,fun k => ?_⟩
  simp [mlook,mpE,h,efind]
theorem gnew_walk {m : Mem} (G : Unit) (hG : True) : (T_gnew m).sat (isMemo fun v x => gnewPost m (yOf v x) ∧ (yOf v x).m = x ∧ ∀ ρ,v.den ρ = V.den ρ (.u (.c (.np (hdI (yOf v x).i) 0)))):=by
  unfold T_gnew
  rw [sat_any]
  rintro ⟨ai,ab,av,am⟩ ⟨mr,a1,a2,a3⟩
  simp only at a2 a3
  subst a2 a3
  rw [sat_any]
  rintro ⟨bi,bb,bv,bm⟩ ⟨mi,b1,b2,b3⟩
  simp only at b1 b2 b3
  subst b2 b3
  rw [sat_any]
  rintro ⟨ci,cb,cv,cm⟩ ⟨mb,c1,c2,c3⟩
  simp only at c1 c2 c3
  subst c2 c3
  rw [sat_any]
  rintro ⟨di,db,dv,dm⟩ ⟨g,d1,d2,d3⟩
  simp only at d1 d2 d3
  subst d1
  have e1 : alM (alO (alO (alO m mr (.map #[] 0)) mi (.map #[] 0)) mb (.map #[] 0)) ((g : Int) + 1) (.mk [(pl (hdV [Value.map (some mr)])),(pl (hdV [Value.map (some mi)])),(pl (hdV [Value.map (some mb)]))]) 111 = alO (alO (alO (alO m mr (.map #[] 0)) mi (.map #[] 0)) mb (.map #[] 0)) g (gO mr mi mb):=alM_alO _ g _ 111
  rw [e1] at d3
  subst d3
  have n1 : mi ≠ mr:=by rintro rfl;rw [alO_self] at b1;cases b1
  have n2 : mb ≠ mi:=by rintro rfl;rw [alO_self] at c1;cases c1
  have n3 : mb ≠ mr:=by rintro rfl;rw [alO_ne _ (Ne.symm n1),alO_self] at c1;cases c1
  have n4 : g ≠ mb:=by rintro rfl;rw [alO_self] at d2;cases d2
  have n5 : g ≠ mi:=by rintro rfl;rw [alO_ne _ (Ne.symm n2),alO_self] at d2;cases d2
  have n6 : g ≠ mr:=by rintro rfl;rw [alO_ne _ (Ne.symm n3),alO_ne _ (Ne.symm n1),alO_self] at d2;cases d2
  have f2 : m mi = none:=by rw [alO_ne _ n1] at b1;exact b1
  have f3 : m mb = none:=by rw [alO_ne _ n2,alO_ne _ n3] at c1;exact c1
  have f4 : m g = none:=by rw [alO_ne _ n4,alO_ne _ n5,alO_ne _ n6] at d2;exact d2
  generalize hM : alO (alO (alO (alO m mr (.map #[] 0)) mi (.map #[] 0)) mb (.map #[] 0)) g (gO mr mi mb) = M
  have hg : M g = some (gO mr mi mb):=by rw [← hM,alO_self]
  have hb : M mb = some (.map #[] 0):=by rw [← hM,alO_ne _ (Ne.symm n4),alO_self]
  have hi : M mi = some (.map #[] 0):=by rw [← hM,alO_ne _ (Ne.symm n5),alO_ne _ (Ne.symm n2),alO_self]
  have hr : M mr = some (.map #[] 0):=by rw [← hM,alO_ne _ (Ne.symm n6),alO_ne _ (Ne.symm n3),alO_ne _ (Ne.symm n1),alO_self]
  have ho : ∀ a,m a ≠ none → M a = m a:=fun a ha => by
    rw [← hM,alO_ne _ (by rintro rfl;exact ha f4),alO_ne _ (by rintro rfl;exact ha f3),alO_ne _ (by rintro rfl;exact ha f2),alO_ne _ (by rintro rfl;exact ha a1)]
  refine ⟨⟨⟨g,mr,mi,mb,fun _ => none,fun _ _ => none,fun _ _ => none⟩,rfl,⟨⟨hg,(isMap_new hr).1,(isMap_new hi).1,(isMap_new hb).1,fun p _ => (isMap_new (kt:=59) hr).2 _,fun h n _ _ => (isMap_new (kt:=59) hi).2 _,fun p h _ _ => (isMap_new (kt:=59) hb).2 _,Ne.symm n1,Ne.symm n3,Ne.symm n2⟩,(fun p X h => by cases h),(fun p q X Y h => by cases h),(fun p X h => by cases h),(fun p h => by simp),(fun p h n hn => by cases hn),(fun h n p => by simp)⟩,fun _ => rfl,fun _ _ => rfl,fun _ _ => rfl,fun a ha => ?_,ho⟩,rfl,fun ρ => rfl⟩
  rcases ha with (rfl | rfl | rfl | rfl) | ⟨p,X,hX,_⟩
  · exact f4
  · exact a1
  · exact f2
  · exact f3
  · cases hX
theorem t_gnew (m : Mem)  : runm Try.prog [] (drawx Try.prog []) 300 29 [] m [98,92,95,142,140,137,111,107,108,109] = T_gnew m :=by kernel_rfl
theorem s_gnew_ok : SumOK Try.prog s_gnew:=by
  refine memSum_ok ⟨_,Try.func29,by kernel_rfl⟩ fun m args ms h hp hw ρ w hm => ?_
  split at h
  · cases h
    exact mm_ghostY nameOK okn (dOK okn) 300 _ m _ (t_gnew m) yOf hp (pre:=fun _ : Unit => True) (post:=fun _ y => gnewPost m y) (ret:=fun y => .u (.c (.np (hdI y.i) 0))) (fun G hG => gnew_walk G hG) ρ w hm (by simp only [List.map_nil])
  · cases h
def T_gpush (m : Mem) (t : Int) (pm ps pa : Int) (hs hg : Int) (n : Int) (o : Bool) : Tr:=(.req (madeOK m t) (.req ((([(1,([(.si .i64 hs),(.si .u64 hg)],29)),(0,([(.si .i64 pm),(.si .i64 ps),(.si .i64 pa)],59))] : List (Nat × Blk)) = [(1,([(.si .i64 hs),(.si .u64 hg)],29)),(0,([(.si .i64 pm),(.si .i64 ps),(.si .i64 pa)],59))]) ∧ (([] : List (Nat × MBlk)) = [])) (.br (madeV m t) (.req (listedOK m t pm ps pa) (.req ((([(1,([(.si .i64 hs),(.si .u64 hg)],29)),(0,([(.si .i64 pm),(.si .i64 ps),(.si .i64 pa)],59))] : List (Nat × Blk)) = [(1,([(.si .i64 hs),(.si .u64 hg)],29)),(0,([(.si .i64 pm),(.si .i64 ps),(.si .i64 pa)],59))]) ∧ (([] : List (Nat × MBlk)) = [])) (.br (cmpOK m (listedV m t pm ps pa) 0) (.req (mayOK m t pm ps pa hs hg n (bNot (peq (listedV m t pm ps pa) 0))) (.req ((([(1,([(.si .i64 hs),(.si .u64 hg)],29)),(0,([(.si .i64 pm),(.si .i64 ps),(.si .i64 pa)],59))] : List (Nat × Blk)) = [(1,([(.si .i64 hs),(.si .u64 hg)],29)),(0,([(.si .i64 pm),(.si .i64 ps),(.si .i64 pa)],59))]) ∧ (([] : List (Nat × MBlk)) = [])) (.br (iNe (mayV m t pm ps pa hs hg n (bNot (peq (listedV m t pm ps pa) 0))) 0) (.leaf (.memo (.u (.c (.si .i64 (mayV m t pm ps pa hs hg n (bNot (peq (listedV m t pm ps pa) 0)))))) m)) (.req (listedOK m t pm ps pa) (.br (cmpOK m (listedV m t pm ps pa) 0) (.br (peq (listedV m t pm ps pa) 0) (.req (lnewP m) (.any (lnewQ m) (fun y0 => (.req (lpushP y0.4 (hdI y0.1) hs hg o) (.any (lpushQ y0.4 (hdI y0.1) hs hg o) (fun y1 => (.req (comesOK y1.4 t pm ps pa hs hg n (pl (mkIf 112 (hdI y0.1)))) (.letm (comesM y1.4 t pm ps pa hs hg n (pl (mkIf 112 (hdI y0.1)))) (fun m1 => (.leaf (.memo (.u (.c (.si .i64 (hdI y1.1)))) m1))))))))))) (.req (lpushP m (listedV m t pm ps pa) hs hg o) (.any (lpushQ m (listedV m t pm ps pa) hs hg o) (fun y0 => (.req (comesOK y0.4 t pm ps pa hs hg n (pl (mkIf 112 (listedV m t pm ps pa)))) (.letm (comesM y0.4 t pm ps pa hs hg n (pl (mkIf 112 (listedV m t pm ps pa)))) (fun m1 => (.leaf (.memo (.u (.c (.si .i64 (hdI y0.1)))) m1))))))))) (.no 78)))))) (.no 78)))) (.req ((([(1,([(.si .i64 hs),(.si .u64 hg)],29)),(0,([(.si .i64 pm),(.si .i64 ps),(.si .i64 pa)],59))] : List (Nat × Blk)) = [(1,([(.si .i64 hs),(.si .u64 hg)],29)),(0,([(.si .i64 pm),(.si .i64 ps),(.si .i64 pa)],59))]) ∧ (([] : List (Nat × MBlk)) = [])) (.req (mayOK m t pm ps pa hs hg n false) (.req ((([(1,([(.si .i64 hs),(.si .u64 hg)],29)),(0,([(.si .i64 pm),(.si .i64 ps),(.si .i64 pa)],59))] : List (Nat × Blk)) = [(1,([(.si .i64 hs),(.si .u64 hg)],29)),(0,([(.si .i64 pm),(.si .i64 ps),(.si .i64 pa)],59))]) ∧ (([] : List (Nat × MBlk)) = [])) (.br (iNe (mayV m t pm ps pa hs hg n false) 0) (.leaf (.memo (.u (.c (.si .i64 (mayV m t pm ps pa hs hg n false)))) m)) (.req (listedOK m t pm ps pa) (.br (cmpOK m (listedV m t pm ps pa) 0) (.br (peq (listedV m t pm ps pa) 0) (.req (lnewP m) (.any (lnewQ m) (fun y0 => (.req (lpushP y0.4 (hdI y0.1) hs hg o) (.any (lpushQ y0.4 (hdI y0.1) hs hg o) (fun y1 => (.req (comesOK y1.4 t pm ps pa hs hg n (pl (mkIf 112 (hdI y0.1)))) (.letm (comesM y1.4 t pm ps pa hs hg n (pl (mkIf 112 (hdI y0.1)))) (fun m1 => (.leaf (.memo (.u (.c (.si .i64 (hdI y1.1)))) m1))))))))))) (.req (lpushP m (listedV m t pm ps pa) hs hg o) (.any (lpushQ m (listedV m t pm ps pa) hs hg o) (fun y0 => (.req (comesOK y0.4 t pm ps pa hs hg n (pl (mkIf 112 (listedV m t pm ps pa)))) (.letm (comesM y0.4 t pm ps pa hs hg n (pl (mkIf 112 (listedV m t pm ps pa)))) (fun m1 => (.leaf (.memo (.u (.c (.si .i64 (hdI y0.1)))) m1))))))))) (.no 78))))))))))
def gpushPre (G : GG) (m : Mem) (t pm ps pa hs hg n : Int) : Prop:=t = (G.g : Int) + 1 ∧ G.is m ∧ okP' (pm,ps,pa) ∧ okH (hs,hg) ∧ inI n
def gpushPost (m : Mem) (G : GG) (p : Pl) (k : Hn) (n : Int) (o : Bool) (y : Vars) : Prop :=
  (mayE G p k n (listB (G.R p)) ≠ 0 ∧ y.i = [mayE G p k n (listB (G.R p))] ∧ y.m = m) ∨
  (mayE G p k n (listB (G.R p)) = 0 ∧ y.i = [0] ∧ ∃ X',X'.tree = false ∧ X'.hs = putE o k (hsO (G.R p)) ∧ G.to (G.come p k n X') m y.m)
def gpushP (m : Mem) (t pm ps pa hs hg n : Int) (o : Bool) : Prop:=∃ G,gpushPre G m t pm ps pa hs hg n
def gpushQ (m : Mem) (t pm ps pa hs hg n : Int) (o : Bool) (y : Vars) : Prop:=∀ G,gpushPre G m t pm ps pa hs hg n → gpushPost m G (pm,ps,pa) (hs,hg) n o y
def s_gpush : Sum:=memSum 31 fun m a => match a with | [a0,a1,a2,a3,a4] => (match ptrOf a0,plaOf a1,hanOf a2,intOf a3,booOf a4 with | some t,some (pm,ps,pa),some (hs,hg),some n,some o => some ⟨gpushP m t pm ps pa hs hg n o,gpushQ m t pm ps pa hs hg n o,fun y => .u (.c (.si .i64 (hdI y.i)))⟩ | _,_,_,_,_ => none) | _ => none
theorem mem_putE {α : Type} {o : Bool} {k j : α} {l : List α} : j ∈ putE o k l ↔ j = k ∨ j ∈ l:=by
  cases o <;> simp [putE,or_comm]
theorem putE_ne {α : Type} (o : Bool) (k : α) (l : List α) : putE o k l ≠ []:=by cases o <;> simp [putE]
theorem gpush_walk {m : Mem} {t a b c k l n : Int} {o : Bool} (G : GG) (hG : gpushPre G m t a b c k l n) : (T_gpush m t a b c k l n o).sat (isMemo fun v x => gpushPost m G (a,b,c) (k,l) n o (yOf v x) ∧ (yOf v x).m = x ∧ ∀ ρ,v.den ρ = V.den ρ (.u (.c (.si .i64 (hdI (yOf v x).i))))):=by
  obtain ⟨rfl,h,hp,hk,hn⟩:=hG
  have hg:=h.toGM
  obtain ⟨m1,m2⟩:=made_spec hg
  obtain ⟨l1,l2⟩:=listed_spec hg hp
  obtain ⟨y1,y2⟩:=may_spec hg hp hk hn (listB (G.R (a,b,c)))
  have hb : bNot (peq (lP (G.R (a,b,c))) 0) = listB (G.R (a,b,c)):=by rw [lP_b];simp [bNot]
  unfold T_gpush
  simp only [l2,hb,y2]
  rw [sat_req]
  refine ⟨m1,?_⟩
  rw [sat_req]
  refine ⟨⟨trivial,trivial⟩,?_⟩
  rw [brT m2,sat_req]
  refine ⟨l1,?_⟩
  rw [sat_req]
  refine ⟨⟨trivial,trivial⟩,?_⟩
  rw [brT (cmp_zero _ _),sat_req]
  refine ⟨y1,?_⟩
  rw [sat_req]
  refine ⟨⟨trivial,trivial⟩,?_⟩
  by_cases he : mayE G (a,b,c) (k,l) n (listB (G.R (a,b,c))) = 0
  rotate_left
  · rw [brT (by simpa [iNe] using he)]
    exact ⟨.inl ⟨he,rfl,rfl⟩,rfl,fun ρ => rfl⟩
  rw [brF (by simp [iNe,he]),sat_req]
  refine ⟨l1,?_⟩
  rw [brT (cmp_zero _ _),lP_b]
  obtain ⟨z1,z2,z3⟩:=mayE_zero he
  cases hX : G.R (a,b,c) with
  | none =>
    rw [brT (by rfl),sat_req]
    refine ⟨trivial,?_⟩
    rw [sat_any]
    rintro ⟨ui,ub,uv,um⟩ hu
    obtain ⟨X0,u1,u2,u3,u4,u5,u6⟩:=Str.lnew hu
    simp only at u1 u2 u6
    subst u1
    obtain ⟨q1,q2⟩:=Str.push u2 u3 hk o
    simp only [hdI]
    rw [sat_req]
    refine ⟨q1,?_⟩
    rw [sat_any]
    rintro ⟨wi,wb,wv,wm⟩ hw
    rcases q2 _ hw with ⟨s1,_⟩ | ⟨s1,s2,X',s3,s4⟩
    · rw [u4] at s1;cases s1
    simp only at s2 s3
    subst s2
    have hmid:=h.mid_new hX u5 u6 s3
    have hX't : X'.tree = false:=s3.tree.trans u3
    rw [lifv hX't (by rw [s3.t])]
    rw [u4] at s4
    obtain ⟨c1,c2⟩:=hmid.comes hp hk hn z1 z2 (by rw [s4];exact putE_ne _ _ _) (fun j => by rw [s4,mem_putE,hX];simp)
    rw [sat_req]
    refine ⟨c1,?_⟩
    exact ⟨.inr ⟨he,rfl,X',hX't,by rw [hX];exact s4,c2⟩,rfl,fun ρ => rfl⟩
  | some X =>
    have hf:=z3 (by rw [hX];rfl)
    rw [hX] at hf
    have ht : X.tree = false:=by simpa [listB] using hf
    have hin:=(h.st _ X hX).1
    have hl : lP (some X) = (X.t : Int) + 1:=by simp [lP,ht]
    obtain ⟨q1,q2⟩:=Str.push hin ht hk o
    rw [brF (by rw [hf];rfl),sat_req,hl]
    refine ⟨q1,?_⟩
    rw [sat_any]
    rintro ⟨wi,wb,wv,wm⟩ hw
    rcases q2 _ hw with ⟨s1,_⟩ | ⟨s1,s2,X',s3,s4⟩
    · exfalso
      have:=(h.nh (a,b,c) (k,l)).2 ⟨X,hX,s1⟩
      rw [z2] at this;cases this
    simp only at s2 s3
    subst s2
    have hmid:=h.mid_to hX s3
    have hX't : X'.tree = false:=s3.tree.trans ht
    rw [lifv hX't (by rw [s3.t])]
    obtain ⟨c1,c2⟩:=hmid.comes hp hk hn z1 z2 (by rw [s4];exact putE_ne _ _ _) (fun j => by rw [s4,mem_putE,hX];simp)
    rw [sat_req]
    refine ⟨c1,?_⟩
    exact ⟨.inr ⟨he,rfl,X',hX't,by rw [hX];exact s4,c2⟩,rfl,fun ρ => rfl⟩
theorem t_gpush (m : Mem) (t : Int) (pm ps pa : Int) (hs hg : Int) (n : Int) (o : Bool) : runm Try.prog [s_made,s_listed,s_may,s_lnew,s_lpush,s_comes] (drawh Try.prog [s_made,s_listed,s_may,s_lnew,s_lpush,s_comes] (fun _ _ => none) (fun _ _ _ => none)) 300 31 [.u (.c (.np t 0)),.u (.agg [.si .i64 pm,.si .i64 ps,.si .i64 pa]),.u (.agg [.si .i64 hs,.si .u64 hg]),.u (.c (.si .i64 n)),.u (.c (.sb o))] m [98,92,95,142,140,137,111,107,108,109] = T_gpush m t pm ps pa hs hg n o:=by kernel_rfl
theorem s_gpush_ok : SumOK Try.prog s_gpush:=by
  refine memSum_ok ⟨_,Try.func31,by kernel_rfl⟩ fun m args ms h hp hw ρ w hm => ?_
  split at h
  · split at h
    · rename_i a0 a1 a2 a3 a4 _ _ _ _ _ t pm ps pa hs hg n o h0 h1 h2 h3 h4
      cases h
      have hS : ∀ q ∈ [s_made,s_listed,s_may,s_lnew,s_lpush,s_comes],SumOK Try.prog q:=(okc s_made_ok (okc s_listed_ok (okc s_may_ok (okc s_lnew_ok (okc s_lpush_ok (okc s_comes_ok okn))))))
      exact mm_ghostY nameOK hS (drawh_sound nameOK hS (by kernel_rfl) _ _) 300 _ m _ (t_gpush m t pm ps pa hs hg n o) yOf hp (fun G hG => gpush_walk G hG) ρ w hm (by simp only [List.map_cons,List.map_nil,ptrOf_den h0,plaOf_den h1,hanOf_den h2,intOf_den h3,booOf_den h4])
    · cases h
  · cases h
def T_ginsert (m : Mem) (t : Int) (pm ps pa : Int) (i : Int) (hs hg : Int) (n : Int) : Tr:=(.req (madeOK m t) (.req ((([(1,([(.si .i64 hs),(.si .u64 hg)],29)),(0,([(.si .i64 pm),(.si .i64 ps),(.si .i64 pa)],59))] : List (Nat × Blk)) = [(1,([(.si .i64 hs),(.si .u64 hg)],29)),(0,([(.si .i64 pm),(.si .i64 ps),(.si .i64 pa)],59))]) ∧ (([] : List (Nat × MBlk)) = [])) (.br (madeV m t) (.req (treedOK m t pm ps pa) (.req ((([(1,([(.si .i64 hs),(.si .u64 hg)],29)),(0,([(.si .i64 pm),(.si .i64 ps),(.si .i64 pa)],59))] : List (Nat × Blk)) = [(1,([(.si .i64 hs),(.si .u64 hg)],29)),(0,([(.si .i64 pm),(.si .i64 ps),(.si .i64 pa)],59))]) ∧ (([] : List (Nat × MBlk)) = [])) (.br (cmpOK m (treedV m t pm ps pa) 0) (.req (mayOK m t pm ps pa hs hg n (bNot (peq (treedV m t pm ps pa) 0))) (.req ((([(1,([(.si .i64 hs),(.si .u64 hg)],29)),(0,([(.si .i64 pm),(.si .i64 ps),(.si .i64 pa)],59))] : List (Nat × Blk)) = [(1,([(.si .i64 hs),(.si .u64 hg)],29)),(0,([(.si .i64 pm),(.si .i64 ps),(.si .i64 pa)],59))]) ∧ (([] : List (Nat × MBlk)) = [])) (.br (iNe (mayV m t pm ps pa hs hg n (bNot (peq (treedV m t pm ps pa) 0))) 0) (.leaf (.memo (.u (.c (.si .i64 (mayV m t pm ps pa hs hg n (bNot (peq (treedV m t pm ps pa) 0)))))) m)) (.req (treedOK m t pm ps pa) (.br (cmpOK m (treedV m t pm ps pa) 0) (.br (peq (treedV m t pm ps pa) 0) (.req (freshP m) (.any (freshQ m) (fun y0 => (.req (insertP y0.4 (hdI y0.1) i hs hg) (.any (insertQ y0.4 (hdI y0.1) i hs hg) (fun y1 => (.br (iEq (hdI y1.1) 0) (.req (comesOK y1.4 t pm ps pa hs hg n (pl (mkIf 24 (hdI y0.1)))) (.letm (comesM y1.4 t pm ps pa hs hg n (pl (mkIf 24 (hdI y0.1)))) (fun m1 => (.leaf (.memo (.u (.c (.si .i64 (hdI y1.1)))) m1))))) (.leaf (.memo (.u (.c (.si .i64 (hdI y1.1)))) y1.4))))))))) (.req (insertP m (treedV m t pm ps pa) i hs hg) (.any (insertQ m (treedV m t pm ps pa) i hs hg) (fun y0 => (.br (iEq (hdI y0.1) 0) (.req (comesOK y0.4 t pm ps pa hs hg n (pl (mkIf 24 (treedV m t pm ps pa)))) (.letm (comesM y0.4 t pm ps pa hs hg n (pl (mkIf 24 (treedV m t pm ps pa)))) (fun m1 => (.leaf (.memo (.u (.c (.si .i64 (hdI y0.1)))) m1))))) (.leaf (.memo (.u (.c (.si .i64 (hdI y0.1)))) y0.4))))))) (.no 78)))))) (.no 78)))) (.req ((([(1,([(.si .i64 hs),(.si .u64 hg)],29)),(0,([(.si .i64 pm),(.si .i64 ps),(.si .i64 pa)],59))] : List (Nat × Blk)) = [(1,([(.si .i64 hs),(.si .u64 hg)],29)),(0,([(.si .i64 pm),(.si .i64 ps),(.si .i64 pa)],59))]) ∧ (([] : List (Nat × MBlk)) = [])) (.req (mayOK m t pm ps pa hs hg n false) (.req ((([(1,([(.si .i64 hs),(.si .u64 hg)],29)),(0,([(.si .i64 pm),(.si .i64 ps),(.si .i64 pa)],59))] : List (Nat × Blk)) = [(1,([(.si .i64 hs),(.si .u64 hg)],29)),(0,([(.si .i64 pm),(.si .i64 ps),(.si .i64 pa)],59))]) ∧ (([] : List (Nat × MBlk)) = [])) (.br (iNe (mayV m t pm ps pa hs hg n false) 0) (.leaf (.memo (.u (.c (.si .i64 (mayV m t pm ps pa hs hg n false)))) m)) (.req (treedOK m t pm ps pa) (.br (cmpOK m (treedV m t pm ps pa) 0) (.br (peq (treedV m t pm ps pa) 0) (.req (freshP m) (.any (freshQ m) (fun y0 => (.req (insertP y0.4 (hdI y0.1) i hs hg) (.any (insertQ y0.4 (hdI y0.1) i hs hg) (fun y1 => (.br (iEq (hdI y1.1) 0) (.req (comesOK y1.4 t pm ps pa hs hg n (pl (mkIf 24 (hdI y0.1)))) (.letm (comesM y1.4 t pm ps pa hs hg n (pl (mkIf 24 (hdI y0.1)))) (fun m1 => (.leaf (.memo (.u (.c (.si .i64 (hdI y1.1)))) m1))))) (.leaf (.memo (.u (.c (.si .i64 (hdI y1.1)))) y1.4))))))))) (.req (insertP m (treedV m t pm ps pa) i hs hg) (.any (insertQ m (treedV m t pm ps pa) i hs hg) (fun y0 => (.br (iEq (hdI y0.1) 0) (.req (comesOK y0.4 t pm ps pa hs hg n (pl (mkIf 24 (treedV m t pm ps pa)))) (.letm (comesM y0.4 t pm ps pa hs hg n (pl (mkIf 24 (treedV m t pm ps pa)))) (fun m1 => (.leaf (.memo (.u (.c (.si .i64 (hdI y0.1)))) m1))))) (.leaf (.memo (.u (.c (.si .i64 (hdI y0.1)))) y0.4))))))) (.no 78))))))))))
def ginsertPre (G : GG) (m : Mem) (t pm ps pa hs hg n : Int) : Prop:=gpushPre G m t pm ps pa hs hg n ∧ (hsO (G.R (pm,ps,pa))).length + 1 < 1152921504606846976
def ginsertPost (m : Mem) (G : GG) (p : Pl) (i : Int) (k : Hn) (n : Int) (y : Vars) : Prop :=
  (mayE G p k n (treeB (G.R p)) ≠ 0 ∧ y.i = [mayE G p k n (treeB (G.R p))] ∧ y.m = m) ∨
  (mayE G p k n (treeB (G.R p)) = 0 ∧ (i < 0 ∨ ((hsO (G.R p)).length : Int) < i) ∧ y.i = [2] ∧ ∀ a,m a ≠ none → y.m a = m a) ∨
  (mayE G p k n (treeB (G.R p)) = 0 ∧ 0 ≤ i ∧ i ≤ (hsO (G.R p)).length ∧ y.i = [0] ∧ ∃ X',X'.tree = true ∧ X'.hs = (hsO (G.R p)).take i.toNat ++ k :: (hsO (G.R p)).drop i.toNat ∧ G.to (G.come p k n X') m y.m)
def ginsertP (m : Mem) (t pm ps pa i hs hg n : Int) : Prop:=∃ G,ginsertPre G m t pm ps pa hs hg n
def ginsertQ (m : Mem) (t pm ps pa i hs hg n : Int) (y : Vars) : Prop:=∀ G,ginsertPre G m t pm ps pa hs hg n → ginsertPost m G (pm,ps,pa) i (hs,hg) n y
def s_ginsert : Sum:=memSum 32 fun m a => match a with | [a0,a1,a2,a3,a4] => (match ptrOf a0,plaOf a1,intOf a2,hanOf a3,intOf a4 with | some t,some (pm,ps,pa),some i,some (hs,hg),some n => some ⟨ginsertP m t pm ps pa i hs hg n,ginsertQ m t pm ps pa i hs hg n,fun y => .u (.c (.si .i64 (hdI y.i)))⟩ | _,_,_,_,_ => none) | _ => none
theorem mem_cutin {k j : Hn} {l : List Hn} (i : Nat) : j ∈ l.take i ++ k :: l.drop i ↔ j = k ∨ j ∈ l:=by
  conv => rhs;rw [← List.take_append_drop i l]
  simp only [List.mem_append,List.mem_cons]
  constructor
  · rintro (h | h | h)
    · exact .inr (.inl h)
    · exact .inl h
    · exact .inr (.inr h)
  · rintro (h | h | h)
    · exact .inr (.inl h)
    · exact .inl h
    · exact .inr (.inr h)
theorem ginsert_walk {m : Mem} {t a b c i k l n : Int} (G : GG) (hG : ginsertPre G m t a b c k l n) : (T_ginsert m t a b c i k l n).sat (isMemo fun v x => ginsertPost m G (a,b,c) i (k,l) n (yOf v x) ∧ (yOf v x).m = x ∧ ∀ ρ,v.den ρ = V.den ρ (.u (.c (.si .i64 (hdI (yOf v x).i))))):=by
  obtain ⟨⟨rfl,h,hp,hk,hn⟩,hsz⟩:=hG
  have hg:=h.toGM
  obtain ⟨m1,m2⟩:=made_spec hg
  obtain ⟨l1,l2⟩:=treed_spec hg hp
  obtain ⟨y1,y2⟩:=may_spec hg hp hk hn (treeB (G.R (a,b,c)))
  have hb : bNot (peq (tP (G.R (a,b,c))) 0) = treeB (G.R (a,b,c)):=by rw [tP_b];simp [bNot]
  unfold T_ginsert
  simp only [l2,hb,y2]
  rw [sat_req]
  refine ⟨m1,?_⟩
  rw [sat_req]
  refine ⟨⟨trivial,trivial⟩,?_⟩
  rw [brT m2,sat_req]
  refine ⟨l1,?_⟩
  rw [sat_req]
  refine ⟨⟨trivial,trivial⟩,?_⟩
  rw [brT (cmp_zero _ _),sat_req]
  refine ⟨y1,?_⟩
  rw [sat_req]
  refine ⟨⟨trivial,trivial⟩,?_⟩
  by_cases he : mayE G (a,b,c) (k,l) n (treeB (G.R (a,b,c))) = 0
  rotate_left
  · rw [brT (by simpa [iNe] using he)]
    exact ⟨.inl ⟨he,rfl,rfl⟩,rfl,fun ρ => rfl⟩
  rw [brF (by simp [iNe,he]),sat_req]
  refine ⟨l1,?_⟩
  rw [brT (cmp_zero _ _),tP_b]
  obtain ⟨z1,z2,z3⟩:=mayE_zero he
  cases hX : G.R (a,b,c) with
  | none =>
    rw [brT (by rfl),sat_req]
    refine ⟨trivial,?_⟩
    rw [sat_any]
    rintro ⟨ui,ub,uv,um⟩ hu
    obtain ⟨X0,u1,u2,u3,u4,u5,u6⟩:=Str.tnew hu
    simp only at u1 u2 u6
    subst u1
    obtain ⟨q1,q2⟩:=Str.ins u2 u3 (by rw [u4];decide) hk i
    simp only [hdI]
    rw [sat_req]
    refine ⟨q1,?_⟩
    rw [sat_any]
    rintro ⟨wi,wb,wv,wm⟩ hw
    rcases q2 _ hw with ⟨s1,s2,s3⟩ | ⟨_,_,s1,_⟩ | ⟨i1,i2,s1,s2,X',s3,s4⟩
    · simp only at s2 s3
      subst s2 s3
      rw [brF (by rfl)]
      refine ⟨.inr (.inl ⟨he,?_,rfl,u6⟩),rfl,fun ρ => rfl⟩
      rw [u4] at s1;rw [hX];exact s1
    · rw [u4] at s1;cases s1
    simp only at s2 s3
    subst s2
    have hmid:=h.mid_new hX u5 u6 s3
    have hX't : X'.tree = true:=s3.tree.trans u3
    rw [brT (by rfl),tifv hX't (by rw [s3.t])]
    rw [u4] at s4 i2
    obtain ⟨c1,c2⟩:=hmid.comes hp hk hn z1 z2 (by rw [s4];simp) (fun j => by rw [s4,mem_cutin,hX];simp)
    rw [sat_req]
    refine ⟨c1,?_⟩
    exact ⟨.inr (.inr ⟨he,i1,by rw [hX];exact i2,rfl,X',hX't,by rw [hX];exact s4,c2⟩),rfl,fun ρ => rfl⟩
  | some X =>
    have hf:=z3 (by rw [hX];rfl)
    rw [hX] at hf hsz
    have ht : X.tree = true:=by simpa [treeB] using hf
    have hin:=(h.st _ X hX).1
    have hl : tP (some X) = (X.t : Int) + 1:=by simp [tP,ht]
    obtain ⟨q1,q2⟩:=Str.ins hin ht hsz hk i
    rw [brF (by rw [hf];rfl),sat_req,hl]
    refine ⟨q1,?_⟩
    rw [sat_any]
    rintro ⟨wi,wb,wv,wm⟩ hw
    rcases q2 _ hw with ⟨s1,s2,s3⟩ | ⟨_,_,s1,_⟩ | ⟨i1,i2,s1,s2,X',s3,s4⟩
    · simp only at s2 s3
      subst s2 s3
      simp only [hdI]
      rw [brF (by rfl)]
      exact ⟨.inr (.inl ⟨he,by rw [hX];exact s1,rfl,fun _ _ => rfl⟩),rfl,fun ρ => rfl⟩
    · exfalso
      have:=(h.nh (a,b,c) (k,l)).2 ⟨X,hX,s1⟩
      rw [z2] at this;cases this
    simp only at s2 s3
    subst s2
    have hmid:=h.mid_to hX s3
    have hX't : X'.tree = true:=s3.tree.trans ht
    simp only [hdI]
    rw [brT (by rfl),tifv hX't (by rw [s3.t])]
    obtain ⟨c1,c2⟩:=hmid.comes hp hk hn z1 z2 (by rw [s4];simp) (fun j => by rw [s4,mem_cutin,hX];simp)
    rw [sat_req]
    refine ⟨c1,?_⟩
    exact ⟨.inr (.inr ⟨he,i1,by rw [hX];exact i2,rfl,X',hX't,by rw [hX];exact s4,c2⟩),rfl,fun ρ => rfl⟩
theorem t_ginsert (m : Mem) (t : Int) (pm ps pa : Int) (i : Int) (hs hg : Int) (n : Int) : runm Try.prog [s_made,s_treed,s_may,s_fresh,s_insert,s_comes] (drawh Try.prog [s_made,s_treed,s_may,s_fresh,s_insert,s_comes] (fun _ _ => none) (fun _ _ _ => none)) 300 32 [.u (.c (.np t 0)),.u (.agg [.si .i64 pm,.si .i64 ps,.si .i64 pa]),.u (.c (.si .i64 i)),.u (.agg [.si .i64 hs,.si .u64 hg]),.u (.c (.si .i64 n))] m [98,92,95,142,140,137,111,107,108,109] = T_ginsert m t pm ps pa i hs hg n:=by kernel_rfl
theorem s_ginsert_ok : SumOK Try.prog s_ginsert:=by
  refine memSum_ok ⟨_,Try.func32,by kernel_rfl⟩ fun m args ms h hp hw ρ w hm => ?_
  split at h
  · split at h
    · rename_i a0 a1 a2 a3 a4 _ _ _ _ _ t pm ps pa i hs hg n h0 h1 h2 h3 h4
      cases h
      have hS : ∀ q ∈ [s_made,s_treed,s_may,s_fresh,s_insert,s_comes],SumOK Try.prog q:=(okc s_made_ok (okc s_treed_ok (okc s_may_ok (okc s_fresh_ok (okc s_insert_ok (okc s_comes_ok okn))))))
      exact mm_ghostY nameOK hS (drawh_sound nameOK hS (by kernel_rfl) _ _) 300 _ m _ (t_ginsert m t pm ps pa i hs hg n) yOf hp (fun G hG => ginsert_walk G hG) ρ w hm (by simp only [List.map_cons,List.map_nil,ptrOf_den h0,plaOf_den h1,intOf_den h2,hanOf_den h3,intOf_den h4])
    · cases h
  · cases h
def T_gpop (m : Mem) (t : Int) (pm ps pa : Int) (o : Bool) : Tr:=(.req (madeOK m t) (.br (bNot (madeV m t)) (.leaf (.memo (.tup [(.agg [(.li .i64 0),(.li .u64 0)]),(.c (.lb false))]) m)) (.req (listedOK m t pm ps pa) (.req (lpopP m (listedV m t pm ps pa) o) (.any (lpopQ m (listedV m t pm ps pa) o) (fun y0 => (.br (hdB y0.2) (.req (goesOK y0.4 t pm ps pa (hdI y0.1) (hdI (tlI y0.1))) (.letm (goesM y0.4 t pm ps pa (hdI y0.1) (hdI (tlI y0.1))) (fun m1 => (.leaf (.memo (.tup [(.agg [(.si .i64 (hdI y0.1)),(.si .u64 (hdI (tlI y0.1)))]),(.c (.sb (hdB y0.2)))]) m1))))) (.leaf (.memo (.tup [(.agg [(.si .i64 (hdI y0.1)),(.si .u64 (hdI (tlI y0.1)))]),(.c (.sb (hdB y0.2)))]) y0.4)))))))))
def gpopPre (G : GG) (m : Mem) (t pm ps pa : Int) : Prop:=t = (G.g : Int) + 1 ∧ G.is m ∧ okP' (pm,ps,pa)
def gpopPost (m : Mem) (G : GG) (p : Pl) (o : Bool) (y : Vars) : Prop :=
  (listB (G.R p) = false ∧ y.i = [0,0] ∧ y.b = [false] ∧ y.m = m) ∨
  (∃ k n X',listB (G.R p) = true ∧ endH (hsO (G.R p)) o = some k ∧ y.i = [k.1,k.2] ∧ y.b = [true] ∧ G.N p k = some n ∧ X'.tree = false ∧ X'.hs = (hsO (G.R p)).erase k ∧ G.to (G.go p k n X') m y.m)
def gpopP (m : Mem) (t pm ps pa : Int) (o : Bool) : Prop:=∃ G,gpopPre G m t pm ps pa
def gpopQ (m : Mem) (t pm ps pa : Int) (o : Bool) (y : Vars) : Prop:=∀ G,gpopPre G m t pm ps pa → gpopPost m G (pm,ps,pa) o y
def s_gpop : Sum:=memSum 33 fun m a => match a with | [a0,a1,a2] => (match ptrOf a0,plaOf a1,booOf a2 with | some t,some (pm,ps,pa),some o => some ⟨gpopP m t pm ps pa o,gpopQ m t pm ps pa o,fun y => .tup [.agg [.si .i64 (hdI y.i),.si .u64 (hdI (tlI y.i))],.c (.sb (hdB y.b))]⟩ | _,_,_ => none) | _ => none
theorem endH_mem {l : List Hn} {o : Bool} {k : Hn} (h : endH l o = some k) : k ∈ l:=by
  cases o with
  | true => exact List.mem_of_mem_head? h
  | false => exact List.mem_of_mem_getLast? h
theorem gpop_walk {m : Mem} {t a b c : Int} {o : Bool} (G : GG) (hG : gpopPre G m t a b c) : (T_gpop m t a b c o).sat (isMemo fun v x => gpopPost m G (a,b,c) o (yOf v x) ∧ (yOf v x).m = x ∧ ∀ ρ,v.den ρ = V.den ρ (.tup [.agg [.si .i64 (hdI (yOf v x).i),.si .u64 (hdI (tlI (yOf v x).i))],.c (.sb (hdB (yOf v x).b))])):=by
  obtain ⟨rfl,h,hp⟩:=hG
  have hg:=h.toGM
  obtain ⟨m1,m2⟩:=made_spec hg
  obtain ⟨l1,l2⟩:=listed_spec hg hp
  unfold T_gpop
  simp only [l2]
  rw [sat_req]
  refine ⟨m1,?_⟩
  rw [m2,brF (by rfl),sat_req]
  refine ⟨l1,?_⟩
  have no : listB (G.R (a,b,c)) = false → lP (G.R (a,b,c)) = 0:=fun hl => by
    cases hX : G.R (a,b,c) with
    | none => rfl
    | some X => rw [hX] at hl;simp only [listB,Bool.not_eq_false'] at hl;simp [lP,hl]
  cases hlb : listB (G.R (a,b,c)) with
  | false =>
    rw [no hlb,sat_req]
    refine ⟨⟨none,rfl⟩,?_⟩
    rw [sat_any]
    rintro ⟨wi,wb,wv,wm⟩ hw
    obtain ⟨w1,w2,w3⟩:=hw none rfl
    simp only at w1 w2 w3
    subst w1 w2 w3
    simp only [hdB]
    rw [sat_brF]
    exact ⟨.inl ⟨hlb,rfl,rfl,rfl⟩,rfl,fun ρ => rfl⟩
  | true =>
    obtain ⟨X,hX,ht⟩ : ∃ X,G.R (a,b,c) = some X ∧ X.tree = false:=by
      cases hX : G.R (a,b,c) with
      | none => rw [hX] at hlb;cases hlb
      | some X => rw [hX] at hlb;exact ⟨X,rfl,by simpa [listB] using hlb⟩
    obtain ⟨hin,hne,_⟩:=h.st _ X hX
    have hl : lP (some X) = (X.t : Int) + 1:=by simp [lP,ht]
    obtain ⟨q1,q2⟩:=Str.pop hin ht o
    rw [hX,hl,sat_req]
    refine ⟨q1,?_⟩
    rw [sat_any]
    rintro ⟨wi,wb,wv,wm⟩ hw
    rcases q2 _ hw with ⟨s1,_⟩ | ⟨k,s1,s2,s3,X',s4,s5⟩
    · exact absurd s1 hne
    simp only at s2 s3 s4
    subst s2 s3
    simp only [hdB,hdI,tlI]
    have hkm : k ∈ X.hs:=endH_mem s1
    obtain ⟨n,hN⟩:=Option.isSome_iff_exists.1 ((h.nh (a,b,c) k).2 ⟨X,hX,hkm⟩)
    obtain ⟨c1,c2⟩:=(h.mid_to hX s4).goes hX s4.tree s4.t (hin.rng hkm) hN s5
    rw [sat_brT,sat_req]
    refine ⟨c1,?_⟩
    exact ⟨.inr ⟨k,n,X',hlb,by rw [hX];exact s1,rfl,rfl,hN,s4.tree.trans ht,by rw [hX];exact s5,c2⟩,rfl,fun ρ => rfl⟩
theorem t_gpop (m : Mem) (t : Int) (pm ps pa : Int) (o : Bool) : runm Try.prog [s_made,s_listed,s_lpop,s_goes] (drawx Try.prog [s_made,s_listed,s_lpop,s_goes]) 300 33 [.u (.c (.np t 0)),.u (.agg [.si .i64 pm,.si .i64 ps,.si .i64 pa]),.u (.c (.sb o))] m [98,92,95,142,140,137,111,107,108,109] = T_gpop m t pm ps pa o:=by kernel_rfl
theorem s_gpop_ok : SumOK Try.prog s_gpop:=by
  refine memSum_ok ⟨_,Try.func33,by kernel_rfl⟩ fun m args ms h hp hw ρ w hm => ?_
  split at h
  · split at h
    · rename_i a0 a1 a2 _ _ _ t pm ps pa o h0 h1 h2
      cases h
      have hS : ∀ q ∈ [s_made,s_listed,s_lpop,s_goes],SumOK Try.prog q:=(okc s_made_ok (okc s_listed_ok (okc s_lpop_ok (okc s_goes_ok okn))))
      exact mm_ghostY nameOK hS (dOK hS) 300 _ m _ (t_gpop m t pm ps pa o) yOf hp (fun G hG => gpop_walk G hG) ρ w hm (by simp only [List.map_cons,List.map_nil,ptrOf_den h0,plaOf_den h1,booOf_den h2])
    · cases h
  · cases h
def T_gpeek (m : Mem) (t : Int) (pm ps pa : Int) (o : Bool) : Tr:=(.req (madeOK m t) (.br (bNot (madeV m t)) (.leaf (.memo (.tup [(.agg [(.li .i64 0),(.li .u64 0)]),(.c (.lb false))]) m)) (.req (listedOK m t pm ps pa) (.req (lpeekP m (listedV m t pm ps pa) o) (.any (lpeekQ m (listedV m t pm ps pa) o) (fun y0 => (.leaf (.memo (.tup [(.agg [(.si .i64 (hdI y0.1)),(.si .u64 (hdI (tlI y0.1)))]),(.c (.sb (hdB y0.2)))]) y0.4))))))))
def gpeekP (m : Mem) (t pm ps pa : Int) (o : Bool) : Prop:=∃ G,gpopPre G m t pm ps pa
def gpeekQ (m : Mem) (t pm ps pa : Int) (o : Bool) (y : Vars) : Prop:=∀ G,gpopPre G m t pm ps pa → peekPost (lsO (G.R (pm,ps,pa))) o y ∧ y.m = m
def s_gpeek : Sum:=memSum 45 fun m a => match a with | [a0,a1,a2] => (match ptrOf a0,plaOf a1,booOf a2 with | some t,some (pm,ps,pa),some o => some ⟨gpeekP m t pm ps pa o,gpeekQ m t pm ps pa o,fun y => .tup [.agg [.si .i64 (hdI y.i),.si .u64 (hdI (tlI y.i))],.c (.sb (hdB y.b))]⟩ | _,_,_ => none) | _ => none
theorem gpeek_walk {m : Mem} {t a b c : Int} {o : Bool} (G : GG) (hG : gpopPre G m t a b c) : (T_gpeek m t a b c o).sat (isMemo fun v x => (peekPost (lsO (G.R (a,b,c))) o (yOf v x) ∧ (yOf v x).m = m) ∧ (yOf v x).m = x ∧ ∀ ρ,v.den ρ = V.den ρ (.tup [.agg [.si .i64 (hdI (yOf v x).i),.si .u64 (hdI (tlI (yOf v x).i))],.c (.sb (hdB (yOf v x).b))])):=by
  obtain ⟨rfl,h,hp⟩:=hG
  have hg:=h.toGM
  obtain ⟨m1,m2⟩:=made_spec hg
  obtain ⟨l1,l2⟩:=listed_spec hg hp
  unfold T_gpeek
  simp only [l2]
  rw [sat_req]
  refine ⟨m1,?_⟩
  rw [m2,brF (by rfl),sat_req]
  refine ⟨l1,?_⟩
  have key : lpeekP m (lP (G.R (a,b,c))) o ∧ ∀ y,lpeekQ m (lP (G.R (a,b,c))) o y → peekPost (lsO (G.R (a,b,c))) o y ∧ y.m = m:=by
    cases hX : G.R (a,b,c) with
    | none => exact ⟨⟨none,rfl⟩,fun y hy => hy none rfl⟩
    | some X =>
      have hin:=(h.st _ X hX).1
      cases ht : X.tree with
      | false =>
        have:=Str.peek hin ht o
        simp only [lP,lsO,ht];exact this
      | true =>
        simp only [lP,lsO,ht]
        exact ⟨⟨none,rfl⟩,fun y hy => hy none rfl⟩
  rw [sat_req]
  refine ⟨key.1,?_⟩
  rw [sat_any]
  rintro ⟨wi,wb,wv,wm⟩ hw
  obtain ⟨s,s4⟩:=key.2 _ hw
  simp only at s4
  subst s4
  rcases s with ⟨x,s1,s2,s3⟩ | ⟨s1,s2,s3⟩
  · simp only at s2 s3
    subst s2 s3
    exact ⟨⟨.inl ⟨x,s1,rfl,rfl⟩,rfl⟩,rfl,fun ρ => rfl⟩
  · simp only at s2 s3
    subst s2 s3
    exact ⟨⟨.inr ⟨s1,rfl,rfl⟩,rfl⟩,rfl,fun ρ => rfl⟩
theorem t_gpeek (m : Mem) (t : Int) (pm ps pa : Int) (o : Bool) : runm Try.prog [s_made,s_listed,s_lpeek] (drawx Try.prog [s_made,s_listed,s_lpeek]) 300 45 [.u (.c (.np t 0)),.u (.agg [.si .i64 pm,.si .i64 ps,.si .i64 pa]),.u (.c (.sb o))] m [98,92,95,142,140,137,111,107,108,109] = T_gpeek m t pm ps pa o:=by kernel_rfl
theorem s_gpeek_ok : SumOK Try.prog s_gpeek:=by
  refine memSum_ok ⟨_,Try.func45,by kernel_rfl⟩ fun m args ms h hp hw ρ w hm => ?_
  split at h
  · split at h
    · rename_i a0 a1 a2 _ _ _ t pm ps pa o h0 h1 h2
      cases h
      have hS : ∀ q ∈ [s_made,s_listed,s_lpeek],SumOK Try.prog q:=(okc s_made_ok (okc s_listed_ok (okc s_lpeek_ok okn)))
      exact mm_ghostY nameOK hS (dOK hS) 300 _ m _ (t_gpeek m t pm ps pa o) yOf hp (fun G hG => gpeek_walk G hG) ρ w hm (by simp only [List.map_cons,List.map_nil,ptrOf_den h0,plaOf_den h1,booOf_den h2])
    · cases h
  · cases h
def T_gremove (m : Mem) (t : Int) (pm ps pa : Int) (hs hg : Int) (n : Int) : Tr:=(.req (madeOK m t) (.br (bNot (madeV m t)) (.leaf (.memo (.u (.c (.lb false))) m)) (.br (nzp t) (.br (nzp t) (.br (okL m t 1 [(.raw (.map (.none)))]) (.req ((Go.Maps.Keyed Try.prog 121) ∧ ((okM Try.prog 121 m (pl (mcell m t 1))) ∧ ((okKey Try.prog 121 (.agg (.mk [(.int .i64 hs),(.int .u64 hg),(.int .i64 n)]))) ∧ (((okU (.agg [(.li .i64 0),(.li .i64 0),(.li .i64 0)]) (lkZ m (pl (mcell m t 1)) (.agg (.mk [(.int .i64 hs),(.int .u64 hg),(.int .i64 n)])) (.agg (.mk [(.int .i64 0),(.int .i64 0),(.int .i64 0)])))) : Bool) = true)))) (.br (bNot (mhas m (pl (mcell m t 1)) (.agg (.mk [(.int .i64 hs),(.int .u64 hg),(.int .i64 n)])))) (.leaf (.memo (.u (.c (.lb false))) m)) (.br (bNot (bAnd (iEq (vI (cellAt (lkZ m (pl (mcell m t 1)) (.agg (.mk [(.int .i64 hs),(.int .u64 hg),(.int .i64 n)])) (.agg (.mk [(.int .i64 0),(.int .i64 0),(.int .i64 0)]))) 0)) pm) (bAnd (iEq (vI (cellAt (lkZ m (pl (mcell m t 1)) (.agg (.mk [(.int .i64 hs),(.int .u64 hg),(.int .i64 n)])) (.agg (.mk [(.int .i64 0),(.int .i64 0),(.int .i64 0)]))) 1)) ps) (iEq (vI (cellAt (lkZ m (pl (mcell m t 1)) (.agg (.mk [(.int .i64 hs),(.int .u64 hg),(.int .i64 n)])) (.agg (.mk [(.int .i64 0),(.int .i64 0),(.int .i64 0)]))) 2)) pa)))) (.leaf (.memo (.u (.c (.lb false))) m)) (.br (nzp t) (.br (nzp t) (.br (okL m t 0 [(.raw (.map (.none)))]) (.req ((Go.Maps.Keyed Try.prog 59) ∧ ((okM Try.prog 59 m (pl (mcell m t 0))) ∧ ((okKey Try.prog 59 (.agg (.mk [(.int .i64 pm),(.int .i64 ps),(.int .i64 pa)]))) ∧ (((okU (.c (.raw .nilIface)) (lkZ m (pl (mcell m t 0)) (.agg (.mk [(.int .i64 pm),(.int .i64 ps),(.int .i64 pa)])) .nilIface)) : Bool) = true)))) (.br (isIfV (pl (lkZ m (pl (mcell m t 0)) (.agg (.mk [(.int .i64 pm),(.int .i64 ps),(.int .i64 pa)])) .nilIface))) (.br (ifIs 112 (pl (lkZ m (pl (mcell m t 0)) (.agg (.mk [(.int .i64 pm),(.int .i64 ps),(.int .i64 pa)])) .nilIface))) (.req (lremoveP m (ifP 112 (pl (lkZ m (pl (mcell m t 0)) (.agg (.mk [(.int .i64 pm),(.int .i64 ps),(.int .i64 pa)])) .nilIface))) hs hg) (.any (lremoveQ m (ifP 112 (pl (lkZ m (pl (mcell m t 0)) (.agg (.mk [(.int .i64 pm),(.int .i64 ps),(.int .i64 pa)])) .nilIface))) hs hg) (fun y0 => (.req (goesOK y0.4 t pm ps pa hs hg) (.letm (goesM y0.4 t pm ps pa hs hg) (fun m1 => (.leaf (.memo (.u (.c (.lb true))) m1)))))))) (.br (isIfV (pl (lkZ m (pl (mcell m t 0)) (.agg (.mk [(.int .i64 pm),(.int .i64 ps),(.int .i64 pa)])) .nilIface))) (.br (ifIs 24 (pl (lkZ m (pl (mcell m t 0)) (.agg (.mk [(.int .i64 pm),(.int .i64 ps),(.int .i64 pa)])) .nilIface))) (.req (removeP m (ifP 24 (pl (lkZ m (pl (mcell m t 0)) (.agg (.mk [(.int .i64 pm),(.int .i64 ps),(.int .i64 pa)])) .nilIface))) hs hg) (.any (removeQ m (ifP 24 (pl (lkZ m (pl (mcell m t 0)) (.agg (.mk [(.int .i64 pm),(.int .i64 ps),(.int .i64 pa)])) .nilIface))) hs hg) (fun y0 => (.req (goesOK y0.4 t pm ps pa hs hg) (.letm (goesM y0.4 t pm ps pa hs hg) (fun m1 => (.leaf (.memo (.u (.c (.lb true))) m1)))))))) (.req (goesOK m t pm ps pa hs hg) (.letm (goesM m t pm ps pa hs hg) (fun m1 => (.leaf (.memo (.u (.c (.lb true))) m1)))))) (.no 130))) (.no 130))) (.no 70)) (.no 76)) (.no 75))))) (.no 70)) (.no 76)) (.no 75))))
def gremovePost (m : Mem) (G : GG) (p : Pl) (k : Hn) (n : Int) (y : Vars) : Prop :=
  (G.I k n ≠ some p ∧ y.b = [false] ∧ y.m = m) ∨
  (G.I k n = some p ∧ y.b = [true] ∧ ∃ X X',G.R p = some X ∧ X'.tree = X.tree ∧ X'.hs = X.hs.erase k ∧ G.to (G.go p k n X') m y.m)
def gremoveP (m : Mem) (t pm ps pa hs hg n : Int) : Prop:=∃ G,gpushPre G m t pm ps pa hs hg n
def gremoveQ (m : Mem) (t pm ps pa hs hg n : Int) (y : Vars) : Prop:=∀ G,gpushPre G m t pm ps pa hs hg n → gremovePost m G (pm,ps,pa) (hs,hg) n y
def s_gremove : Sum:=memSum 34 fun m a => match a with | [a0,a1,a2,a3] => (match ptrOf a0,plaOf a1,hanOf a2,intOf a3 with | some t,some (pm,ps,pa),some (hs,hg),some n => some ⟨gremoveP m t pm ps pa hs hg n,gremoveQ m t pm ps pa hs hg n,fun y => .u (.c (.sb (hdB y.b)))⟩ | _,_,_,_ => none) | _ => none
theorem iV_cells (p : Pl) : vI (cellAt (iV (some p)) 0) = p.1 ∧ vI (cellAt (iV (some p)) 1) = p.2.1 ∧ vI (cellAt (iV (some p)) 2) = p.2.2:=⟨rfl,rfl,rfl⟩
theorem gremove_walk {m : Mem} {t a b c k l n : Int} (G : GG) (hG : gpushPre G m t a b c k l n) : (T_gremove m t a b c k l n).sat (isMemo fun v x => gremovePost m G (a,b,c) (k,l) n (yBoo v x) ∧ (yBoo v x).m = x ∧ ∀ ρ,v.den ρ = V.den ρ (.u (.c (.sb (hdB (yBoo v x).b))))):=by
  obtain ⟨rfl,h,hp,hk,hn⟩:=hG
  have hg:=h.toGM
  obtain ⟨m1,m2⟩:=made_spec hg
  obtain ⟨i1,i2⟩:=hg.lkI hk hn
  unfold T_gremove
  simp only [hg.c0,hg.c1,i1,i2,hg.lkR hp]
  rw [sat_req]
  refine ⟨m1,?_⟩
  rw [m2,brF (by rfl),brT (nz_p _),brT (nz_p _),brT hg.okL.2.1,sat_req]
  refine ⟨hg.iq hk hn,?_⟩
  cases hI : G.I (k,l) n with
  | none =>
    rw [brT (by rfl)]
    exact ⟨.inl ⟨by rw [hI];simp,rfl,rfl⟩,rfl,fun ρ => rfl⟩
  | some q =>
    obtain ⟨v1,v2,v3⟩:=iV_cells q
    rw [brF (by rfl),v1,v2,v3]
    by_cases hq : q = (a,b,c)
    rotate_left
    · have hne : bNot (bAnd (iEq q.1 a) (bAnd (iEq q.2.1 b) (iEq q.2.2 c))) = true:=by
        obtain ⟨x,y,z⟩:=q
        simp only [bNot,bAnd,iEq,Bool.not_eq_true',Bool.and_eq_false_iff,beq_eq_false_iff_ne]
        by_cases e1 : x = a
        · by_cases e2 : y = b
          · by_cases e3 : z = c
            · subst e1 e2 e3;exact absurd rfl hq
            · exact .inr (.inr e3)
          · exact .inr (.inl e2)
        · exact .inl e1
      rw [brT hne]
      exact ⟨.inl ⟨by rw [hI];simpa using hq,rfl,rfl⟩,rfl,fun ρ => rfl⟩
    subst hq
    rw [brF (by simp [bNot,bAnd,iEq]),brT (nz_p _),brT (nz_p _),brT hg.okL.1,sat_req]
    refine ⟨hg.rq hp,?_⟩
    have hN:=(h.nu (k,l) n (a,b,c)).1 hI
    obtain ⟨X,hX,hkm⟩:=(h.nh (a,b,c) (k,l)).1 (by rw [hN];rfl)
    obtain ⟨hin,hne,_⟩:=h.st _ X hX
    obtain ⟨r1,r2,r3,r4,r5⟩:=rv_ok (G.R (a,b,c))
    rw [brT r2,r3,r4]
    rw [hX] at r2 ⊢
    cases ht : X.tree with
    | false =>
      have hif : ifIs 112 (pl (rv (some X))) = true:=by simp only [rv,Str.ifv,ht,mkIf_eq];rfl
      have hl : lP (some X) = (X.t : Int) + 1:=by simp [lP,ht]
      obtain ⟨q1,q2⟩:=Str.lrem hin ht hk
      rw [brT hif,hl,sat_req]
      refine ⟨q1,?_⟩
      rw [sat_any]
      rintro ⟨wi,wb,wv,wm⟩ hw
      rcases q2 _ hw with ⟨s1,_⟩ | ⟨_,X',s4,s5⟩
      · exact absurd hkm s1
      simp only at s4
      obtain ⟨c1,c2⟩:=(h.mid_to hX s4).goes hX s4.tree s4.t hk hN s5
      rw [sat_req]
      refine ⟨c1,?_⟩
      exact ⟨.inr ⟨hI,rfl,X,X',hX,s4.tree,s5,c2⟩,rfl,fun ρ => rfl⟩
    | true =>
      have hif : ifIs 112 (pl (rv (some X))) = false:=by simp only [rv,Str.ifv,ht,mkIf_eq];rfl
      have hif2 : ifIs 24 (pl (rv (some X))) = true:=by simp only [rv,Str.ifv,ht,mkIf_eq];rfl
      have hl : tP (some X) = (X.t : Int) + 1:=by simp [tP,ht]
      obtain ⟨q1,q2⟩:=Str.trem hin ht hk
      rw [brF hif,brT r2,brT hif2,hl,sat_req]
      refine ⟨q1,?_⟩
      rw [sat_any]
      rintro ⟨wi,wb,wv,wm⟩ hw
      rcases q2 _ hw with ⟨s1,_⟩ | ⟨_,X',s4,s5⟩
      · exact absurd hkm s1
      simp only at s4
      obtain ⟨c1,c2⟩:=(h.mid_to hX s4).goes hX s4.tree s4.t hk hN s5
      rw [sat_req]
      refine ⟨c1,?_⟩
      exact ⟨.inr ⟨hI,rfl,X,X',hX,s4.tree,s5,c2⟩,rfl,fun ρ => rfl⟩
theorem t_gremove (m : Mem) (t : Int) (pm ps pa : Int) (hs hg : Int) (n : Int) : runm Try.prog [s_made,s_goes,s_lremove,s_remove] (drawx Try.prog [s_made,s_goes,s_lremove,s_remove]) 300 34 [.u (.c (.np t 0)),.u (.agg [.si .i64 pm,.si .i64 ps,.si .i64 pa]),.u (.agg [.si .i64 hs,.si .u64 hg]),.u (.c (.si .i64 n))] m [98,92,95,142,140,137,111,107,108,109] = T_gremove m t pm ps pa hs hg n:=by kernel_rfl
theorem s_gremove_ok : SumOK Try.prog s_gremove:=by
  refine memSum_ok ⟨_,Try.func34,by kernel_rfl⟩ fun m args ms h hp hw ρ w hm => ?_
  split at h
  · split at h
    · rename_i a0 a1 a2 a3 _ _ _ _ t pm ps pa hs hg n h0 h1 h2 h3
      cases h
      have hS : ∀ q ∈ [s_made,s_goes,s_lremove,s_remove],SumOK Try.prog q:=(okc s_made_ok (okc s_goes_ok (okc s_lremove_ok (okc s_remove_ok okn))))
      exact mm_ghostY nameOK hS (dOK hS) 300 _ m _ (t_gremove m t pm ps pa hs hg n) yBoo hp (fun G hG => gremove_walk G hG) ρ w hm (by simp only [List.map_cons,List.map_nil,ptrOf_den h0,plaOf_den h1,hanOf_den h2,intOf_den h3])
    · cases h
  · cases h
end Go.Proofs.Ytnlohongffpkpaa.T16
end

section
namespace Go.Proofs.Ytnlohongffpkpaa.T16
open Go Go.RowKit Go.Proofs.Ytnlohongffpkpaa.Sx Go.Proofs
set_option linter.unusedVariables false
set_option linter.unusedSimpArgs false
def RowB (m : Mem) (v : Value) (hs : List Hn) : Prop :=
  (v = .slice none 0 0 ∧ hs = []) ∨ ∃ g cap cur,v = .slice (some ⟨g,0,none⟩) hs.length cap ∧ m g = some (.cells cur 29 (0,0)) ∧ hs.length ≤ cap ∧ cur.toList.take (hs.length * 2) = hCells hs
section
variable {m m' : Mem} {v : Value} {hs : List Hn}
theorem RowB.of (h : rowOf m hs v m') : RowB m' v hs ∧ (∀ a,m a ≠ none → m' a = m a) ∧ ∀ a : Nat,slB v = (a : Int) + 1 → m a = none:=by
  rcases h with ⟨rfl,rfl,rfl⟩ | ⟨g,cap,cur,rfl,hg,rfl,h1,h2,h3⟩
  · refine ⟨.inl ⟨rfl,rfl⟩,fun _ _ => rfl,fun a ha => ?_⟩
    simp only [slB] at ha;omega
  · refine ⟨.inr ⟨g,cap,cur,rfl,alO_self _ _ _,h1,h3⟩,fun a ha => alO_ne _ (by rintro rfl;exact ha hg),fun a ha => ?_⟩
    simp only [slB] at ha
    have : g = a:=by omega
    rw [← this];exact hg
theorem RowB.sl (h : RowB m v hs) : pl v = v ∧ isSlV v = true ∧ slN v = hs.length:=by
  rcases h with ⟨rfl,rfl⟩ | ⟨g,cap,cur,rfl,_⟩ <;> exact ⟨rfl,rfl,rfl⟩
theorem RowB.more (h : RowB m v hs) (hm : ∀ a : Nat,slB v = (a : Int) + 1 → m a ≠ none → m' a = m a) : RowB m' v hs:=by
  rcases h with ⟨rfl,rfl⟩ | ⟨g,cap,cur,rfl,h1,h2,h3⟩
  · exact .inl ⟨rfl,rfl⟩
  · exact .inr ⟨g,cap,cur,rfl,(hm g rfl (by rw [h1];simp)).trans h1,h2,h3⟩
theorem RowB.there (h : RowB m v hs) {a : Nat} (ha : slB v = (a : Int) + 1) : m a ≠ none:=by
  rcases h with ⟨rfl,rfl⟩ | ⟨g,cap,cur,rfl,h1,h2,h3⟩
  · simp only [slB] at ha;omega
  · simp only [slB] at ha
    have : g = a:=by omega
    rw [← this,h1];simp
theorem RowB.get (h : RowB m v hs) {i : Nat} {x : Hn} (hx : hs[i]? = some x) :
    inSl v (i : Int) = true ∧ okL m (slB v) (aOff (slO v) i 2) [.li .i64 0,.li .u64 0] = true ∧ gI m (slB v) (aOff (slO v) i 2) = x.1 ∧ gI m (slB v) (.succ (aOff (slO v) i 2)) = x.2:=by
  have hlt : i < hs.length:=(List.getElem?_eq_some_iff.1 hx).1
  rcases h with ⟨rfl,rfl⟩ | ⟨g,cap,cur,rfl,h1,h2,h3⟩
  · simp at hlt
  obtain ⟨c1,c2⟩:=hCells_get hs i x hx
  have k1 : cur[2 * i]? = some (.int .i64 x.1):=by
    have : cur.toList[2 * i]? = some (.int .i64 x.1):=by rw [← c1,← h3,List.getElem?_take_of_lt (by omega)]
    simpa using this
  have k2 : cur[2 * i + 1]? = some (.int .u64 x.2):=by
    have : cur.toList[2 * i + 1]? = some (.int .u64 x.2):=by rw [← c2,← h3,List.getElem?_take_of_lt (by omega)]
    simpa using this
  have ea : aOff 0 (i : Int) 2 = 2 * i:=by simp [aOff];omega
  have eb : (2 * i).succ = 2 * i + 1:=rfl
  simp only [slB,slO,ea,eb]
  refine ⟨?_,?_,?_,?_⟩
  · have : Nat.ble hs.length cap = true:=Nat.ble_eq_true_of_le h2
    simp [inSl,isSl,slN,this,hlt]
  · unfold okL;rw [mget_of h1]
    simp only [okR,k1,k2,okC,isK,decide_true,Bool.and_self]
  · unfold gI mcell;rw [mget_of h1];simp [k1,vI]
  · unfold gI mcell;rw [mget_of h1];simp [k2,vI]
end
def T_gat (m : Mem) (t : Int) (pm ps pa : Int) (i : Int) : Tr:=(.br (iLt i 0) (.leaf (.memo (.tup [(.agg [(.li .i64 0),(.li .u64 0)]),(.c (.lb false))]) m)) (.req (glenOK m t pm ps pa) (.br (iGe i (glenV m t pm ps pa)) (.leaf (.memo (.tup [(.agg [(.li .i64 0),(.li .u64 0)]),(.c (.lb false))]) m)) (.req (treedOK m t pm ps pa) (.br (cmpOK m (treedV m t pm ps pa) 0) (.br (bNot (peq (treedV m t pm ps pa) 0)) (.req (atP m (treedV m t pm ps pa) i) (.any (atQ m (treedV m t pm ps pa) i) (fun y0 => (.leaf (.memo (.tup [(.agg [(.si .i64 (hdI y0.1)),(.si .u64 (hdI (tlI y0.1)))]),(.c (.sb (hdB y0.2)))]) y0.4))))) (.br (nzp t) (.br (nzp t) (.br (okL m t 0 [(.raw (.map (.none)))]) (.req ((Go.Maps.Keyed Try.prog 59) ∧ ((okM Try.prog 59 m (pl (mcell m t 0))) ∧ ((okKey Try.prog 59 (.agg (.mk [(.int .i64 pm),(.int .i64 ps),(.int .i64 pa)]))) ∧ (((okU (.c (.raw .nilIface)) (lkZ m (pl (mcell m t 0)) (.agg (.mk [(.int .i64 pm),(.int .i64 ps),(.int .i64 pa)])) .nilIface)) : Bool) = true)))) (.br (isIfV (pl (lkZ m (pl (mcell m t 0)) (.agg (.mk [(.int .i64 pm),(.int .i64 ps),(.int .i64 pa)])) .nilIface))) (.br (ifIs 112 (pl (lkZ m (pl (mcell m t 0)) (.agg (.mk [(.int .i64 pm),(.int .i64 ps),(.int .i64 pa)])) .nilIface))) (.req (lallP m (ifP 112 (pl (lkZ m (pl (mcell m t 0)) (.agg (.mk [(.int .i64 pm),(.int .i64 ps),(.int .i64 pa)])) .nilIface)))) (.any (lallQ m (ifP 112 (pl (lkZ m (pl (mcell m t 0)) (.agg (.mk [(.int .i64 pm),(.int .i64 ps),(.int .i64 pa)])) .nilIface)))) (fun y0 => (.req ((([(0,([(.si .i64 pm),(.si .i64 ps),(.si .i64 pa)],59))] : List (Nat × Blk)) = [(0,([(.si .i64 pm),(.si .i64 ps),(.si .i64 pa)],59))]) ∧ (([] : List (Nat × MBlk)) = [])) (.br (inSl (pl (hdV y0.3)) i) (.br (okL y0.4 (slB (pl (hdV y0.3))) (aOff (slO (pl (hdV y0.3))) i 2) [(.li .i64 0),(.li .u64 0)]) (.req ((([(0,([(.si .i64 pm),(.si .i64 ps),(.si .i64 pa)],59))] : List (Nat × Blk)) = [(0,([(.si .i64 pm),(.si .i64 ps),(.si .i64 pa)],59))]) ∧ (([] : List (Nat × MBlk)) = [])) (.leaf (.memo (.tup [(.agg [(.si .i64 (gI y0.4 (slB (pl (hdV y0.3))) (aOff (slO (pl (hdV y0.3))) i 2))),(.si .u64 (gI y0.4 (slB (pl (hdV y0.3))) (.succ (aOff (slO (pl (hdV y0.3))) i 2))))]),(.c (.lb true))]) y0.4))) (.no 70)) (.no 104)))))) (.br (ifIs 24 (pl (lkZ m (pl (mcell m t 0)) (.agg (.mk [(.int .i64 pm),(.int .i64 ps),(.int .i64 pa)])) .nilIface))) (.req (allP m (ifP 24 (pl (lkZ m (pl (mcell m t 0)) (.agg (.mk [(.int .i64 pm),(.int .i64 ps),(.int .i64 pa)])) .nilIface)))) (.any (allQ m (ifP 24 (pl (lkZ m (pl (mcell m t 0)) (.agg (.mk [(.int .i64 pm),(.int .i64 ps),(.int .i64 pa)])) .nilIface)))) (fun y0 => (.req ((([(0,([(.si .i64 pm),(.si .i64 ps),(.si .i64 pa)],59))] : List (Nat × Blk)) = [(0,([(.si .i64 pm),(.si .i64 ps),(.si .i64 pa)],59))]) ∧ (([] : List (Nat × MBlk)) = [])) (.br (inSl (pl (hdV y0.3)) i) (.br (okL y0.4 (slB (pl (hdV y0.3))) (aOff (slO (pl (hdV y0.3))) i 2) [(.li .i64 0),(.li .u64 0)]) (.req ((([(0,([(.si .i64 pm),(.si .i64 ps),(.si .i64 pa)],59))] : List (Nat × Blk)) = [(0,([(.si .i64 pm),(.si .i64 ps),(.si .i64 pa)],59))]) ∧ (([] : List (Nat × MBlk)) = [])) (.leaf (.memo (.tup [(.agg [(.si .i64 (gI y0.4 (slB (pl (hdV y0.3))) (aOff (slO (pl (hdV y0.3))) i 2))),(.si .u64 (gI y0.4 (slB (pl (hdV y0.3))) (.succ (aOff (slO (pl (hdV y0.3))) i 2))))]),(.c (.lb true))]) y0.4))) (.no 70)) (.no 104)))))) (.no 37))) (.no 38))) (.no 70)) (.no 76)) (.no 75))) (.no 78))))))
def gatPre (G : GG) (m : Mem) (t pm ps pa : Int) : Prop:=gpopPre G m t pm ps pa ∧ (hsO (G.R (pm,ps,pa))).length < 1099511627776
def gatPost (m : Mem) (G : GG) (p : Pl) (i : Int) (y : Vars) : Prop :=
  (∃ (j : Nat) (k : Hn),i = j ∧ (hsO (G.R p))[j]? = some k ∧ y.i = [k.1,k.2] ∧ y.b = [true] ∧ ∀ a,m a ≠ none → y.m a = m a) ∨
  ((i < 0 ∨ ((hsO (G.R p)).length : Int) ≤ i) ∧ y.i = [0,0] ∧ y.b = [false] ∧ y.m = m)
def gatP (m : Mem) (t pm ps pa i : Int) : Prop:=∃ G,gatPre G m t pm ps pa
def gatQ (m : Mem) (t pm ps pa i : Int) (y : Vars) : Prop:=∀ G,gatPre G m t pm ps pa → gatPost m G (pm,ps,pa) i y
def s_gat : Sum:=memSum 37 fun m a => match a with | [a0,a1,a2] => (match ptrOf a0,plaOf a1,intOf a2 with | some t,some (pm,ps,pa),some i => some ⟨gatP m t pm ps pa i,gatQ m t pm ps pa i,fun y => .tup [.agg [.si .i64 (hdI y.i),.si .u64 (hdI (tlI y.i))],.c (.sb (hdB y.b))]⟩ | _,_,_ => none) | _ => none
theorem gat_walk {m : Mem} {t a b c i : Int} (G : GG) (hG : gatPre G m t a b c) : (T_gat m t a b c i).sat (isMemo fun v x => gatPost m G (a,b,c) i (yOf v x) ∧ (yOf v x).m = x ∧ ∀ ρ,v.den ρ = V.den ρ (.tup [.agg [.si .i64 (hdI (yOf v x).i),.si .u64 (hdI (tlI (yOf v x).i))],.c (.sb (hdB (yOf v x).b))])):=by
  obtain ⟨⟨rfl,h,hp⟩,hsz⟩:=hG
  have hg:=h.toGM
  obtain ⟨m1,m2⟩:=made_spec hg
  obtain ⟨l1,l2⟩:=treed_spec hg hp
  obtain ⟨n1,n2⟩:=glen_spec h hp
  unfold T_gat
  simp only [l2,n2,hg.c0,hg.lkR hp]
  by_cases i0 : i < 0
  · rw [brT (by simpa [iLt] using i0)]
    exact ⟨.inr ⟨.inl i0,rfl,rfl,rfl⟩,rfl,fun ρ => rfl⟩
  rw [brF (by simpa [iLt] using i0),sat_req]
  refine ⟨n1,?_⟩
  by_cases i1 : ((hsO (G.R (a,b,c))).length : Int) ≤ i
  · rw [brT (by simpa [iGe] using i1)]
    exact ⟨.inr ⟨.inr i1,rfl,rfl,rfl⟩,rfl,fun ρ => rfl⟩
  rw [brF (by simpa [iGe] using i1),sat_req]
  refine ⟨l1,?_⟩
  obtain ⟨j,rfl⟩ : ∃ j : Nat,i = j:=⟨i.toNat,by omega⟩
  have hj : j < (hsO (G.R (a,b,c))).length:=by omega
  obtain ⟨k,hk⟩ : ∃ k,(hsO (G.R (a,b,c)))[j]? = some k:=⟨_,List.getElem?_eq_getElem hj⟩
  cases hX : G.R (a,b,c) with
  | none => rw [hX] at hj;simp [hsO] at hj
  | some X =>
    have hin:=(h.st _ X hX).1
    obtain ⟨r1,r2,r3,r4,r5⟩:=rv_ok (some X)
    have hk' : X.hs[j]? = some k:=by rw [hX] at hk;exact hk
    rw [hX] at hsz
    rw [brT (cmp_zero _ _),tP_b]
    cases ht : X.tree with
    | true =>
      have hl : tP (some X) = (X.t : Int) + 1:=by simp [tP,ht]
      obtain ⟨q1,q2⟩:=Str.tat hin ht hk'
      rw [brT (by simp [treeB,ht,bNot]),hl,sat_req]
      refine ⟨q1,?_⟩
      rw [sat_any]
      rintro ⟨wi,wb,wv,wm⟩ hw
      obtain ⟨s1,s2,s3⟩:=q2 _ hw
      simp only at s1 s2 s3
      subst s1 s2 s3
      exact ⟨.inl ⟨j,k,rfl,hk,rfl,rfl,fun _ _ => rfl⟩,rfl,fun ρ => rfl⟩
    | false =>
      have hl : lP (some X) = (X.t : Int) + 1:=by simp [lP,ht]
      have hif : ifIs 112 (pl (rv (some X))) = true:=by simp only [rv,Str.ifv,ht,mkIf_eq];rfl
      have hrq:=hg.rq hp
      rw [hX] at hrq
      rw [brF (by simp [treeB,ht,bNot]),brT (nz_p _),brT (nz_p _),brT hg.okL.1,sat_req]
      refine ⟨hrq,?_⟩
      obtain ⟨q1,q2⟩:=Str.lall hin ht hsz
      rw [brT r2,brT hif,r3,hl,sat_req]
      refine ⟨q1,?_⟩
      rw [sat_any]
      rintro ⟨wi,wb,wv,wm⟩ hw
      obtain ⟨s1,s2,s3⟩:=RowB.of (q2 _ hw)
      simp only at s1 s2 s3
      obtain ⟨e1,e2,e3⟩:=s1.sl
      obtain ⟨g1,g2,g3,g4⟩:=s1.get hk'
      simp only [e1]
      rw [sat_req]
      refine ⟨⟨trivial,trivial⟩,?_⟩
      rw [brT g1,brT g2,sat_req,g3,g4]
      exact ⟨⟨trivial,trivial⟩,.inl ⟨j,k,rfl,hk,rfl,rfl,s2⟩,rfl,fun ρ => rfl⟩
theorem t_gat (m : Mem) (t : Int) (pm ps pa : Int) (i : Int) : runm Try.prog [s_glen,s_treed,s_at,s_all,s_lall] (drawh Try.prog [s_glen,s_treed,s_at,s_all,s_lall] (fun _ _ => none) (fun _ _ _ => none)) 300 37 [.u (.c (.np t 0)),.u (.agg [.si .i64 pm,.si .i64 ps,.si .i64 pa]),.u (.c (.si .i64 i))] m [98,92,95,142,140,137,111,107,108,109] = T_gat m t pm ps pa i:=by kernel_rfl
theorem s_gat_ok : SumOK Try.prog s_gat:=by
  refine memSum_ok ⟨_,Try.func37,by kernel_rfl⟩ fun m args ms h hp hw ρ w hm => ?_
  split at h
  · split at h
    · rename_i a0 a1 a2 _ _ _ t pm ps pa i h0 h1 h2
      cases h
      have hS : ∀ q ∈ [s_glen,s_treed,s_at,s_all,s_lall],SumOK Try.prog q:=(okc s_glen_ok (okc s_treed_ok (okc s_at_ok (okc s_all_ok (okc s_lall_ok okn)))))
      exact mm_ghostY nameOK hS (drawh_sound nameOK hS (by kernel_rfl) _ _) 300 _ m _ (t_gat m t pm ps pa i) yOf hp (fun G hG => gat_walk G hG) ρ w hm (by simp only [List.map_cons,List.map_nil,ptrOf_den h0,plaOf_den h1,intOf_den h2])
    · cases h
  · cases h
theorem GG.to.trans {G1 G2 G3 : GG} {m1 m2 m3 : Mem} (h : G1.to G2 m1 m2) (k : G2.to G3 m2 m3) : G1.to G3 m1 m3:=by
  refine ⟨k.is',k.g.trans h.g,fun a ha => ?_,fun a ha hd => ?_⟩
  · rcases k.dom a ha with h2 | h2
    · exact h.dom a h2
    · cases e : m1 a with
      | none => exact .inr rfl
      | some o =>
        refine Classical.byContradiction fun hn => ?_
        have hd : ¬ G1.dom a:=fun hd => hn (.inl hd)
        have:=h.keep a (by rw [e];simp) hd
        rw [h2,e] at this;cases this
  · have h1:=h.keep a ha hd
    refine (k.keep a (by rw [h1];exact ha) fun h2 => ?_).trans h1
    rcases h.dom a h2 with h3 | h3
    · exact hd h3
    · exact ha h3
theorem GG.to.less {G G' : GG} {m0 m1 m' : Mem} (h : G.to G' m1 m') (hm : ∀ a,m0 a ≠ none → m1 a = m0 a) : G.to G' m0 m':=by
  refine ⟨h.is',h.g,fun a ha => (h.dom a ha).imp id fun hn => ?_,fun a ha hd => ?_⟩
  · cases e : m0 a with
    | none => rfl
    | some o => have:=hm a (by rw [e];simp);rw [hn,e] at this;cases this
  · exact (h.keep a (by rw [hm a ha];exact ha) hd).trans (hm a ha)
def T_dloop (m0 : Mem) (t pm ps pa : Int) (v : Value) : Tr:=(.lp (.mk [0] [] [] m0) (fun y1 j1 => (.br (iLt (hdI y1.1) (slN (pl v))) (.br (inSl (pl v) (hdI y1.1)) (.br (okL y1.4 (slB (pl v)) (aOff (slO (pl v)) (hdI y1.1) 2) [(.li .i64 0),(.li .u64 0)]) (.br (nzp t) (.br (nzp t) (.br (okL y1.4 t 2 [(.raw (.map (.none)))]) (.req ((Go.Maps.Keyed Try.prog 126) ∧ ((okM Try.prog 126 y1.4 (pl (mcell y1.4 t 2))) ∧ ((okKey Try.prog 126 (.agg (.mk [(.int .i64 pm),(.int .i64 ps),(.int .i64 pa),(.int .i64 (gI y1.4 (slB (pl v)) (aOff (slO (pl v)) (hdI y1.1) 2))),(.int .u64 (gI y1.4 (slB (pl v)) (.succ (aOff (slO (pl v)) (hdI y1.1) 2))))]))) ∧ (((okU (.c (.li .i64 0)) (lkZ y1.4 (pl (mcell y1.4 t 2)) (.agg (.mk [(.int .i64 pm),(.int .i64 ps),(.int .i64 pa),(.int .i64 (gI y1.4 (slB (pl v)) (aOff (slO (pl v)) (hdI y1.1) 2))),(.int .u64 (gI y1.4 (slB (pl v)) (.succ (aOff (slO (pl v)) (hdI y1.1) 2))))])) (.int .i64 0))) : Bool) = true)))) (.req (gremoveP y1.4 t pm ps pa (gI y1.4 (slB (pl v)) (aOff (slO (pl v)) (hdI y1.1) 2)) (gI y1.4 (slB (pl v)) (.succ (aOff (slO (pl v)) (hdI y1.1) 2))) (vI (lkZ y1.4 (pl (mcell y1.4 t 2)) (.agg (.mk [(.int .i64 pm),(.int .i64 ps),(.int .i64 pa),(.int .i64 (gI y1.4 (slB (pl v)) (aOff (slO (pl v)) (hdI y1.1) 2))),(.int .u64 (gI y1.4 (slB (pl v)) (.succ (aOff (slO (pl v)) (hdI y1.1) 2))))])) (.int .i64 0)))) (.any (gremoveQ y1.4 t pm ps pa (gI y1.4 (slB (pl v)) (aOff (slO (pl v)) (hdI y1.1) 2)) (gI y1.4 (slB (pl v)) (.succ (aOff (slO (pl v)) (hdI y1.1) 2))) (vI (lkZ y1.4 (pl (mcell y1.4 t 2)) (.agg (.mk [(.int .i64 pm),(.int .i64 ps),(.int .i64 pa),(.int .i64 (gI y1.4 (slB (pl v)) (aOff (slO (pl v)) (hdI y1.1) 2))),(.int .u64 (gI y1.4 (slB (pl v)) (.succ (aOff (slO (pl v)) (hdI y1.1) 2))))])) (.int .i64 0)))) (fun y2 => (.req ((([(0,(.u (.c (.np t 0)))),(3,(.u (.c (.ptr 0 0)))),(4,(.u (.c (.raw (.slice (.none) 0 0))))),(5,(.u (.c (.sv v)))),(19,(.u (.c (.sv v)))),(20,(.u (.c (.si .i64 (slN (pl v))))))] : List (Nat × V)) = [(0,(.u (.c (.np t 0)))),(3,(.u (.c (.ptr 0 0)))),(4,(.u (.c (.raw (.slice (.none) 0 0))))),(5,(.u (.c (.sv v)))),(19,(.u (.c (.sv v)))),(20,(.u (.c (.si .i64 (slN (pl v))))))]) ∧ (([(0,([(.si .i64 pm),(.si .i64 ps),(.si .i64 pa)],59))] : List (Nat × Blk)) = [(0,([(.si .i64 pm),(.si .i64 ps),(.si .i64 pa)],59))])) (.leaf (.again (.mk [(iAdd .i64 (hdI y1.1) 1)] [] [] y2.4)))))))) (.no 70)) (.no 76)) (.no 75)) (.no 70)) (.no 104)) (.leaf (.up (.memo (.u (.c (.sv v))) y1.4))))))
def T_gdrain (m : Mem) (t : Int) (pm ps pa : Int) : Tr:=(.req (glenOK m t pm ps pa) (.br (iEq (glenV m t pm ps pa) 0) (.leaf (.memo (.u (.c (.raw (.slice (.none) 0 0)))) m)) (.br (nzp t) (.br (nzp t) (.br (okL m t 0 [(.raw (.map (.none)))]) (.req ((Go.Maps.Keyed Try.prog 59) ∧ ((okM Try.prog 59 m (pl (mcell m t 0))) ∧ ((okKey Try.prog 59 (.agg (.mk [(.int .i64 pm),(.int .i64 ps),(.int .i64 pa)]))) ∧ (((okU (.c (.raw .nilIface)) (lkZ m (pl (mcell m t 0)) (.agg (.mk [(.int .i64 pm),(.int .i64 ps),(.int .i64 pa)])) .nilIface)) : Bool) = true)))) (.br (isIfV (pl (lkZ m (pl (mcell m t 0)) (.agg (.mk [(.int .i64 pm),(.int .i64 ps),(.int .i64 pa)])) .nilIface))) (.br (ifIs 112 (pl (lkZ m (pl (mcell m t 0)) (.agg (.mk [(.int .i64 pm),(.int .i64 ps),(.int .i64 pa)])) .nilIface))) (.req (lallP m (ifP 112 (pl (lkZ m (pl (mcell m t 0)) (.agg (.mk [(.int .i64 pm),(.int .i64 ps),(.int .i64 pa)])) .nilIface)))) (.any (lallQ m (ifP 112 (pl (lkZ m (pl (mcell m t 0)) (.agg (.mk [(.int .i64 pm),(.int .i64 ps),(.int .i64 pa)])) .nilIface)))) (fun y0 => (.req ((([(0,([(.si .i64 pm),(.si .i64 ps),(.si .i64 pa)],59))] : List (Nat × Blk)) = [(0,([(.si .i64 pm),(.si .i64 ps),(.si .i64 pa)],59))]) ∧ (([] : List (Nat × MBlk)) = [])) (.br (isSlV (pl (hdV y0.3))) (T_dloop y0.4 t pm ps pa (hdV y0.3)) (.no 123)))))) (.br (ifIs 24 (pl (lkZ m (pl (mcell m t 0)) (.agg (.mk [(.int .i64 pm),(.int .i64 ps),(.int .i64 pa)])) .nilIface))) (.req (allP m (ifP 24 (pl (lkZ m (pl (mcell m t 0)) (.agg (.mk [(.int .i64 pm),(.int .i64 ps),(.int .i64 pa)])) .nilIface)))) (.any (allQ m (ifP 24 (pl (lkZ m (pl (mcell m t 0)) (.agg (.mk [(.int .i64 pm),(.int .i64 ps),(.int .i64 pa)])) .nilIface)))) (fun y0 => (.req ((([(0,([(.si .i64 pm),(.si .i64 ps),(.si .i64 pa)],59))] : List (Nat × Blk)) = [(0,([(.si .i64 pm),(.si .i64 ps),(.si .i64 pa)],59))]) ∧ (([] : List (Nat × MBlk)) = [])) (.br (isSlV (pl (hdV y0.3))) (T_dloop y0.4 t pm ps pa (hdV y0.3)) (.no 123)))))) (.no 37))) (.no 38))) (.no 70)) (.no 76)) (.no 75))))
def gdrainPost (m : Mem) (G : GG) (p : Pl) (y : Vars) : Prop:=∃ G' : GG,G.to G' m y.m ∧ (∀ q,G'.R q = if q = p then none else G.R q) ∧ (∀ q h,G'.N q h = if q = p then none else G.N q h) ∧ (∀ h n,G'.I h n = if G.I h n = some p then none else G.I h n) ∧
  RowB y.m (hdV y.v) (hsO (G.R p)) ∧ ∀ a : Nat,slB (hdV y.v) = (a : Int) + 1 → m a = none ∧ ¬ G'.dom a
def gdrainP (m : Mem) (t pm ps pa : Int) : Prop:=∃ G,gatPre G m t pm ps pa
def gdrainQ (m : Mem) (t pm ps pa : Int) (y : Vars) : Prop:=∀ G,gatPre G m t pm ps pa → gdrainPost m G (pm,ps,pa) y
def s_gdrain : Sum:=memSum 38 fun m a => match a with | [a0,a1] => (match ptrOf a0,plaOf a1 with | some t,some (pm,ps,pa) => some ⟨gdrainP m t pm ps pa,gdrainQ m t pm ps pa,fun y => .u (.c (.sv (hdV y.v)))⟩ | _,_ => none) | _ => none
def yVal (v : V) (m : Mem) : Vars :=
  match v with
  | .u (.c (.sv x)) => ⟨[],[],[pl x],m⟩
  | .u (.c (.raw x)) => ⟨[],[],[pl x],m⟩
  | _ => ⟨[],[],[],m⟩
theorem dloop_walk {m m1 : Mem} {a b c : Int} {v : Value} (G : GG) (h : G.is m1) (hp : okP' (a,b,c)) (hv : RowB m1 v (hsO (G.R (a,b,c)))) (hf : ∀ x : Nat,slB v = (x : Int) + 1 → m x = none ∧ ¬ G.dom x) (hm : ∀ x,m x ≠ none → m1 x = m x) (hsz : (hsO (G.R (a,b,c))).length < 1099511627776) :
    (T_dloop m1 ((G.g : Int) + 1) a b c v).sat (isMemo fun w x => gdrainPost m G (a,b,c) (yVal w x) ∧ (yVal w x).m = x ∧ ∀ ρ,w.den ρ = V.den ρ (.u (.c (.sv (hdV (yVal w x).v))))):=by
  obtain ⟨e1,e2,e3⟩:=hv.sl
  have hnd : (hsO (G.R (a,b,c))).Nodup:=by
    cases hX : G.R (a,b,c) with
    | none => exact List.nodup_nil
    | some X => exact (h.st _ X hX).1.nodup
  unfold T_dloop
  simp only [e1,e3]
  let J : Nat → Vars → Prop:=fun N y => ∃ (i : Nat) (Gi : GG),i + N = (hsO (G.R (a,b,c))).length ∧ y.i = [(i : Int)] ∧ G.to Gi m1 y.m ∧ hsO (Gi.R (a,b,c)) = (hsO (G.R (a,b,c))).drop i ∧ (∀ q,q ≠ (a,b,c) → Gi.R q = G.R q) ∧
    (∀ q k,Gi.N q k = if q = (a,b,c) ∧ k ∈ (hsO (G.R (a,b,c))).take i then none else G.N q k) ∧ (∀ k n,Gi.I k n = if G.I k n = some (a,b,c) ∧ k ∈ (hsO (G.R (a,b,c))).take i then none else G.I k n)
  refine lp_idx J (n0:=(hsO (G.R (a,b,c))).length) ⟨0,G,by omega,rfl,GG.to.refl h,by simp,fun _ _ => rfl,fun q k => by simp,fun k n => by simp⟩ ?_
  rintro N ⟨yi,yb,yv,ym⟩ _ ⟨i,Gi,hi,rfl,hto,hR,hRo,hN,hI⟩
  simp only at hto hi
  simp only [hdI]
  have hvi : RowB ym v (hsO (G.R (a,b,c))):=hv.more fun x hx hxn => hto.keep x hxn (hf x hx).2
  have his:=hto.is'
  by_cases hlt : i < (hsO (G.R (a,b,c))).length
  rotate_left
  · rw [brF (by simp [iLt];omega)]
    have hi' : i = (hsO (G.R (a,b,c))).length:=by omega
    rw [hi',List.drop_length] at hR
    rw [hi'] at hN hI
    simp only [List.take_length] at hN hI
    have hRn : Gi.R (a,b,c) = none:=by
      cases hX : Gi.R (a,b,c) with
      | none => rfl
      | some X => rw [hX] at hR;exact absurd hR (his.st _ X hX).2.1
    have hall : ∀ k,(G.N (a,b,c) k).isSome = true → k ∈ hsO (G.R (a,b,c)):=fun k hk => by
      obtain ⟨X,hX,hx⟩:=(h.nh _ k).1 hk
      rw [hX];exact hx
    refine ⟨⟨Gi,hto.less hm,fun q => ?_,fun q k => ?_,fun k n => ?_,?_,fun x hx => ?_⟩,rfl,fun ρ => ?_⟩
    · by_cases e : q = (a,b,c)
      · rw [if_pos e,e];exact hRn
      · rw [if_neg e];exact hRo q e
    · rw [hN]
      by_cases e : q = (a,b,c)
      · subst e
        rw [if_pos rfl]
        by_cases e2 : k ∈ hsO (G.R (a,b,c))
        · rw [if_pos ⟨rfl,e2⟩]
        · rw [if_neg (fun h => e2 h.2)]
          cases hx : G.N (a,b,c) k with
          | none => rfl
          | some n => exact absurd (hall k (by rw [hx];rfl)) e2
      · rw [if_neg e,if_neg (fun h => e h.1)]
    · rw [hI]
      by_cases e : G.I k n = some (a,b,c)
      · rw [if_pos e]
        have:=(h.nu k n (a,b,c)).1 e
        rw [if_pos ⟨e,hall k (by rw [this];rfl)⟩]
      · rw [if_neg e,if_neg (fun h => e h.1)]
    · show RowB ym (pl v) _
      rw [e1];exact hvi
    · have hx : slB v = (x : Int) + 1:=by rw [← e1];exact hx
      obtain ⟨f1,f2⟩:=hf x hx
      refine ⟨f1,fun hd => ?_⟩
      rcases hto.dom x hd with hd | hn
      · exact f2 hd
      · exact hv.there hx hn
    · show pl v = pl (pl v)
      rw [e1,e1]
  obtain ⟨k,hk⟩ : ∃ k,(hsO (G.R (a,b,c)))[i]? = some k:=⟨_,List.getElem?_eq_getElem hlt⟩
  obtain ⟨k1,k2⟩:=k
  obtain ⟨g1,g2,g3,g4⟩:=hvi.get hk
  have hdrop : (hsO (G.R (a,b,c))).drop i = (k1,k2) :: (hsO (G.R (a,b,c))).drop (i + 1):=by
    rw [List.drop_eq_getElem_cons hlt]
    rw [List.getElem?_eq_getElem hlt] at hk
    rw [Option.some.inj hk]
  rw [hdrop] at hR
  obtain ⟨X,hX,hXh⟩ : ∃ X,Gi.R (a,b,c) = some X ∧ X.hs = (k1,k2) :: (hsO (G.R (a,b,c))).drop (i + 1):=by
    cases hX : Gi.R (a,b,c) with
    | none => rw [hX] at hR;cases hR
    | some X => rw [hX] at hR;exact ⟨X,rfl,hR⟩
  have hkm : (k1,k2) ∈ X.hs:=by rw [hXh];simp
  have hkok : okH (k1,k2):=(his.st _ X hX).1.rng hkm
  obtain ⟨n,hNk⟩:=Option.isSome_iff_exists.1 ((his.nh (a,b,c) (k1,k2)).2 ⟨X,hX,hkm⟩)
  have hn : inI n:=his.nr _ _ _ hNk
  have hg:=his.toGM
  obtain ⟨n1,n2⟩:=hg.lkN hp hkok
  rw [hNk] at n1
  have hvI : vI (nV (some n)) = n:=rfl
  have eg : (Gi.g : Int) + 1 = (G.g : Int) + 1:=by rw [hto.g]
  have hnq:=hg.nq hp hkok
  rw [hNk] at hnq
  have okL2:=hg.okL.2.2
  have c2:=hg.c2
  rw [eg] at okL2 c2
  simp only [g3,g4,c2,n1,hvI]
  rw [brT (by simp [iLt];omega),brT g1,brT g2,brT (nz_p _),brT (nz_p _),brT okL2,sat_req]
  refine ⟨hnq,?_⟩
  have hpre : gpushPre Gi ym ((G.g : Int) + 1) a b c k1 k2 n:=⟨eg.symm,his,hp,hkok,hn⟩
  rw [sat_req]
  refine ⟨⟨Gi,hpre⟩,?_⟩
  rw [sat_any]
  rintro ⟨wi,wb,wv,wm⟩ hw
  have hIk:=(his.nu (k1,k2) n (a,b,c)).2 hNk
  rcases hw Gi hpre with ⟨s1,_⟩ | ⟨_,_,X1,X',s1,s2,s3,s4⟩
  · exact absurd hIk s1
  simp only at s4
  rw [hX] at s1;cases s1
  rw [sat_req]
  refine ⟨⟨trivial,trivial⟩,?_⟩
  have hX'h : X'.hs = (hsO (G.R (a,b,c))).drop (i + 1):=by rw [s3,hXh,List.erase_cons_head]
  have hin : iAdd .i64 (i : Int) 1 = ((i + 1 : Nat) : Int):=by rw [iadd_i (by omega)];omega
  rw [hin]
  have htake : ∀ j,j ∈ (hsO (G.R (a,b,c))).take (i + 1) ↔ j = (k1,k2) ∨ j ∈ (hsO (G.R (a,b,c))).take i:=fun j => by
    rw [List.take_add_one,hk];simp [or_comm]
  refine ⟨N - 1,by omega,i + 1,Gi.go (a,b,c) (k1,k2) n X',by omega,rfl,hto.trans s4,?_,fun q hq => ?_,fun q j => ?_,fun j n' => ?_⟩
  · show hsO (upd1 Gi.R (a,b,c) (goneR X') (a,b,c)) = _
    rw [show upd1 Gi.R (a,b,c) (goneR X') (a,b,c) = goneR X' from if_pos rfl,← hX'h]
    unfold goneR
    cases he : X'.hs with
    | nil => rfl
    | cons x r => exact he
  · show upd1 Gi.R (a,b,c) (goneR X') q = _
    rw [show upd1 Gi.R (a,b,c) (goneR X') q = Gi.R q from if_neg hq]
    exact hRo q hq
  · show updN Gi.N (a,b,c) (k1,k2) none q j = _
    simp only [updN,htake]
    by_cases e : q = (a,b,c)
    · subst e
      by_cases e2 : j = (k1,k2)
      · subst e2;rw [if_pos ⟨rfl,rfl⟩,if_pos ⟨rfl,.inl rfl⟩]
      · rw [if_neg (fun h => e2 h.2),hN]
        by_cases e3 : j ∈ (hsO (G.R (a,b,c))).take i
        · rw [if_pos ⟨rfl,e3⟩,if_pos ⟨rfl,.inr e3⟩]
        · rw [if_neg (fun h => e3 h.2),if_neg (fun h => by rcases h.2 with h | h;exact e2 h;exact e3 h)]
    · rw [if_neg (fun h => e h.1),if_neg (fun h => e h.1),hN,if_neg (fun h => e h.1)]
  · show updI Gi.I (k1,k2) n none j n' = _
    simp only [updI,htake]
    have hknot : (k1,k2) ∉ (hsO (G.R (a,b,c))).take i:=by
      intro hm
      have:=hnd
      rw [← List.take_append_drop i (hsO (G.R (a,b,c))),hdrop,List.nodup_append] at this
      exact this.2.2 _ hm _ (by simp) rfl
    have hGI : G.I (k1,k2) n = some (a,b,c):=by
      have:=hI (k1,k2) n
      rw [if_neg (fun h => hknot h.2)] at this
      rw [← this];exact hIk
    by_cases e : j = (k1,k2)
    · subst e
      by_cases e2 : n' = n
      · subst e2;rw [if_pos ⟨rfl,rfl⟩,if_pos ⟨hGI,.inl rfl⟩]
      · rw [if_neg (fun h => e2 h.2),hI,if_neg (fun h => hknot h.2)]
        by_cases e3 : G.I (k1,k2) n' = some (a,b,c)
        · exfalso
          have x1:=(h.nu _ _ _).1 e3
          have x2:=(h.nu _ _ _).1 hGI
          rw [x1] at x2;cases x2;exact e2 rfl
        · rw [if_neg (fun h => e3 h.1)]
    · rw [if_neg (fun h => e h.1),hI]
      by_cases e3 : G.I j n' = some (a,b,c) ∧ j ∈ (hsO (G.R (a,b,c))).take i
      · rw [if_pos e3,if_pos ⟨e3.1,.inr e3.2⟩]
      · rw [if_neg e3,if_neg (fun h => by rcases h.2 with h2 | h2;exact e h2;exact e3 ⟨h.1,h2⟩)]
theorem gdrain_walk {m : Mem} {t a b c : Int} (G : GG) (hG : gatPre G m t a b c) : (T_gdrain m t a b c).sat (isMemo fun w x => gdrainPost m G (a,b,c) (yVal w x) ∧ (yVal w x).m = x ∧ ∀ ρ,w.den ρ = V.den ρ (.u (.c (.sv (hdV (yVal w x).v))))):=by
  obtain ⟨⟨rfl,h,hp⟩,hsz⟩:=hG
  have hg:=h.toGM
  obtain ⟨n1,n2⟩:=glen_spec h hp
  unfold T_gdrain
  simp only [n2,hg.c0,hg.lkR hp]
  rw [sat_req]
  refine ⟨n1,?_⟩
  obtain ⟨r1,r2,r3,r4,r5⟩:=rv_ok (G.R (a,b,c))
  cases hX : G.R (a,b,c) with
  | none =>
    rw [brT (by rfl)]
    refine ⟨⟨G,GG.to.refl h,fun q => ?_,fun q k => ?_,fun k n => ?_,?_,fun x hx => ?_⟩,rfl,fun ρ => rfl⟩
    · by_cases e : q = (a,b,c)
      · rw [if_pos e,e];exact hX
      · rw [if_neg e]
    · by_cases e : q = (a,b,c)
      · rw [if_pos e,e]
        cases hN : G.N (a,b,c) k with
        | none => rfl
        | some n => obtain ⟨X,h1,_⟩:=(h.nh _ k).1 (by rw [hN];rfl);rw [hX] at h1;cases h1
      · rw [if_neg e]
    · by_cases e : G.I k n = some (a,b,c)
      · have:=(h.nu k n _).1 e
        obtain ⟨X,h1,_⟩:=(h.nh _ k).1 (by rw [this];rfl);rw [hX] at h1;cases h1
      · rw [if_neg e]
    · exact .inl ⟨rfl,by rw [hX];rfl⟩
    · have : slB (.slice none 0 0) = (x : Int) + 1:=hx
      simp only [slB] at this;omega
  | some X =>
    have hne:=(h.st _ X hX).2.1
    have hin:=(h.st _ X hX).1
    have hl : iEq ((hsO (some X)).length : Int) 0 = false:=by
      show iEq (X.hs.length : Int) 0 = false
      cases he : X.hs with
      | nil => exact absurd he hne
      | cons x r => simp [iEq];omega
    have hrq:=hg.rq hp
    rw [hX] at hrq r2 r3 r4 hsz
    rw [brF hl,brT (nz_p _),brT (nz_p _),brT hg.okL.1,sat_req]
    refine ⟨hrq,?_⟩
    have fin : ∀ y : Vars,rowOf m X.hs (hdV y.v) y.m → (Tr.br (isSlV (pl (hdV y.v))) (T_dloop y.m ((G.g : Int) + 1) a b c (hdV y.v)) (.no 123)).sat (isMemo fun w x => gdrainPost m G (a,b,c) (yVal w x) ∧ (yVal w x).m = x ∧ ∀ ρ,w.den ρ = V.den ρ (.u (.c (.sv (hdV (yVal w x).v))))):=by
      intro y hy
      obtain ⟨s1,s2,s3⟩:=RowB.of hy
      obtain ⟨e1,e2,e3⟩:=s1.sl
      rw [brT (by rw [e1];exact e2)]
      refine dloop_walk G (h.congr fun x hx => s2 x (h.there hx)) hp (by rw [hX];exact s1) (fun x hx => ⟨s3 x hx,fun hd => h.there hd (s3 x hx)⟩) s2 (by rw [hX];exact hsz)
    rw [brT r2,r3,r4]
    cases ht : X.tree with
    | false =>
      have hif : ifIs 112 (pl (rv (some X))) = true:=by simp only [rv,Str.ifv,ht,mkIf_eq];rfl
      have hl : lP (some X) = (X.t : Int) + 1:=by simp [lP,ht]
      obtain ⟨q1,q2⟩:=Str.lall hin ht hsz
      rw [brT hif,hl,sat_req]
      refine ⟨q1,?_⟩
      rw [sat_any]
      exact fun y hy => ⟨⟨trivial,trivial⟩,fin y (q2 y hy)⟩
    | true =>
      have hif : ifIs 112 (pl (rv (some X))) = false:=by simp only [rv,Str.ifv,ht,mkIf_eq];rfl
      have hif2 : ifIs 24 (pl (rv (some X))) = true:=by simp only [rv,Str.ifv,ht,mkIf_eq];rfl
      have hl : tP (some X) = (X.t : Int) + 1:=by simp [tP,ht]
      obtain ⟨q1,q2⟩:=Str.tall hin ht hsz
      rw [brF hif,brT hif2,hl,sat_req]
      refine ⟨q1,?_⟩
      rw [sat_any]
      exact fun y hy => ⟨⟨trivial,trivial⟩,fin y (q2 y hy)⟩
theorem t_gdrain (m : Mem) (t : Int) (pm ps pa : Int) : runm Try.prog [s_glen,s_all,s_lall,s_gremove] (drawh Try.prog [s_glen,s_all,s_lall,s_gremove] (fun _ _ => some ⟨[21],[],[0,3,4,5,19,20],[0]⟩) (fun _ _ _ => none)) 300 38 [.u (.c (.np t 0)),.u (.agg [.si .i64 pm,.si .i64 ps,.si .i64 pa])] m [98,92,95,142,140,137,111,107,108,109] = T_gdrain m t pm ps pa:=by kernel_rfl
theorem s_gdrain_ok : SumOK Try.prog s_gdrain:=by
  refine memSum_ok ⟨_,Try.func38,by kernel_rfl⟩ fun m args ms h hp hw ρ w hm => ?_
  split at h
  · split at h
    · rename_i a0 a1 _ _ t pm ps pa h0 h1
      cases h
      have hS : ∀ q ∈ [s_glen,s_all,s_lall,s_gremove],SumOK Try.prog q:=(okc s_glen_ok (okc s_all_ok (okc s_lall_ok (okc s_gremove_ok okn))))
      exact mm_ghostY nameOK hS (drawh_sound nameOK hS (by kernel_rfl) _ _) 300 _ m _ (t_gdrain m t pm ps pa) yVal hp (fun G hG => gdrain_walk G hG) ρ w hm (by simp only [List.map_cons,List.map_nil,ptrOf_den h0,plaOf_den h1])
    · cases h
  · cases h
end Go.Proofs.Ytnlohongffpkpaa.T16
end

section
namespace Go.Proofs.Ytnlohongffpkpaa.T16
open Go Go.RowKit Go.Proofs.Ytnlohongffpkpaa.Sx Go.Proofs
set_option linter.unusedVariables false
set_option linter.unusedSimpArgs false
def joinR (Q : Vars → Prop) (R : Leaf → Prop) : Leaf → Prop
  | .again y => hdI y.i = 1 ∧ Q ⟨tlI y.i,y.b,y.v,y.m⟩
  | .up l => R l
  | _ => False
def upR (R : Leaf → Prop) : Leaf → Prop
  | .up l => R l
  | _ => False
theorem sat_jn {R : Leaf → Prop} {m : Mem} {A : Tr} {f : Vars → (Nat → Value) → Tr} (Q : Vars → Prop) (hA : A.sat (joinR Q R))
    (hf : ∀ v j,hdI v.i = 1 → Q ⟨tlI v.i,v.b,v.v,v.m⟩ → (f v j).sat (upR R)) : (Tr.lp ⟨[0],[],[],m⟩ fun v j => .br (iZero? (hdI v.i)) A (f v j)).sat R:=by
  refine ⟨fun v => hdI v.i = 0 ∨ (hdI v.i = 1 ∧ Q ⟨tlI v.i,v.b,v.v,v.m⟩),fun v => if hdI v.i = 0 then 1 else 0,.inl rfl,fun v j hv => ⟨fun hz => ?_,fun hz => ?_⟩⟩
  · have hz : hdI v.i = 0:=by simpa [iZero?] using hz
    refine sat_mono (fun l hl => ?_) hA
    cases l with
    | again y =>
      refine ⟨.inr hl,?_⟩
      have h1 : hdI y.i = 1:=hl.1
      simp only [h1,hz];decide
    | up l => exact hl
    | _ => exact hl.elim
  · have hz : ¬ hdI v.i = 0:=by simpa [iZero?] using hz
    rcases hv with hv | hv
    · exact absurd hv hz
    · refine sat_mono (fun l hl => ?_) (hf v j hv.1 hv.2)
      cases l with
      | up l => exact hl
      | _ => exact hl.elim
structure Stp where
  rm : Bool
  at' : Int
  s : Int
  g : Int
structure ArgS (l : Value) (xs : List Stp) (m : Mem) : Prop where
  sl : isSlV (pl l) = true
  n : slN (pl l) = xs.length
  at' : ∀ i : Nat,∀ x,xs[i]? = some x → inSl (pl l) i = true ∧ okL m (slB (pl l)) (aOff (slO (pl l)) i 4) [.lb false,.li .i64 0,.li .i64 0,.li .u64 0] = true ∧ gB m (slB (pl l)) (aOff (slO (pl l)) i 4) = x.rm ∧ gI m (slB (pl l)) (.succ (aOff (slO (pl l)) i 4)) = x.at' ∧
    gI m (slB (pl l)) (.succ (.succ (aOff (slO (pl l)) i 4))) = x.s ∧ gI m (slB (pl l)) (.succ (.succ (.succ (aOff (slO (pl l)) i 4)))) = x.g
  rng : ∀ x ∈ xs,inI x.s ∧ inU x.g
theorem ArgS.more {l : Value} {xs : List Stp} {m m' : Mem} (h : ArgS l xs m) (hm : ∀ a,m a ≠ none → m' a = m a) : ArgS l xs m':=by
  refine ⟨h.sl,h.n,fun i x hx => ?_,h.rng⟩
  obtain ⟨a1,a2,a3,a4,a5,a6⟩:=h.at' i x hx
  obtain ⟨b1,b2⟩:=okL_more hm a2
  unfold gI at a4 a5 a6
  unfold gB at a3
  refine ⟨a1,b1,?_,?_,?_,?_⟩
  · unfold gB;rw [b2];exact a3
  · unfold gI;rw [b2];exact a4
  · unfold gI;rw [b2];exact a5
  · unfold gI;rw [b2];exact a6
theorem lst_mem {S : TS} {b : Mem} {r : Int} {v : Value} {hs ks : List (Int × Int)} {y : Vars} (hF : Fre S b) (hL : Lst b r v hs) (h : lstPost (S.mem b) r ks y) :
    ∃ b' u,y.m = S.mem b' ∧ Fre S b' ∧ Lst b' r u ks ∧ ∀ a : Nat,b a ≠ none → (a : Int) + 1 ≠ r → b' a = b a:=by
  obtain ⟨u,h1,h2,h3⟩:=h
  obtain ⟨⟨p0,rfl,hp0⟩,hsl⟩:=hL
  have hb0 : b p0 ≠ none:=by rw [hp0];simp
  have ht : p0 ≠ S.t:=by rintro rfl;exact hb0 hF.t
  have hq : p0 ≠ S.q:=by rintro rfl;exact hb0 hF.q
  have hH : S.H ((p0 : Int) + 1) = none:=by
    cases e : S.H ((p0 : Int) + 1) with
    | none => rfl
    | some d => exact absurd (hF.H p0 (by rw [e];simp)) hb0
  let b' : Mem:=fun a => if a = S.t ∨ a = S.q ∨ S.H ((a : Int) + 1) ≠ none then none else y.m a
  have e0 : ∀ a,¬ (a = S.t ∨ a = S.q ∨ S.H ((a : Int) + 1) ≠ none) → b' a = y.m a:=fun a ha => by simp only [b',if_neg ha]
  have em : y.m = S.mem b':=by
    funext a
    by_cases ha : a = S.t ∨ a = S.q ∨ S.H ((a : Int) + 1) ≠ none
    · have hs : S.mem b a ≠ none ∧ S.mem b a = S.mem b' a:=by
        unfold TS.mem
        by_cases e1 : a = S.t
        · simp [e1]
        · by_cases e2 : a = S.q
          · subst e2;simp [e1]
          · have e3 : S.H ((a : Int) + 1) ≠ none:=by rcases ha with h | h | h;exact absurd h e1;exact absurd h e2;exact h
            cases e : S.H ((a : Int) + 1) with
            | none => exact absurd e e3
            | some d => simp [e1,e2]
      have hne : (a : Int) + 1 ≠ (p0 : Int) + 1:=by
        intro e
        have : a = p0:=by omega
        subst this
        rcases ha with h | h | h
        · exact ht h
        · exact hq h
        · exact h hH
      rw [h2 a hs.1 hne,hs.2]
    · rw [← e0 a ha]
      have h':=ha
      simp only [not_or,Decidable.not_not] at h'
      obtain ⟨x1,x2,x3⟩:=h'
      simp [TS.mem,x1,x2,x3]
  have hpn : ¬ (p0 = S.t ∨ p0 = S.q ∨ S.H ((p0 : Int) + 1) ≠ none):=by simp [ht,hq,hH]
  refine ⟨b',u,em,⟨by simp [b'],by simp [b'],fun a ha => by simp [b',ha]⟩,⟨⟨p0,rfl,?_⟩,?_⟩,fun a ha hne => ?_⟩
  · obtain ⟨a,ha,h4⟩:=h1.hd
    have : a = p0:=by omega
    subst this
    rw [e0 _ hpn];exact h4
  · refine h1.sl.more fun a ha _ => ?_
    have:=h3 a ha
    obtain ⟨x1,x2,x3⟩:=free_at this
    exact e0 a (by simp [x1,x2,x3])
  · have hs : S.mem b a = b a:=hF.more a ha
    have x1 : a ≠ S.t:=by rintro rfl;exact ha hF.t
    have x2 : a ≠ S.q:=by rintro rfl;exact ha hF.q
    have x3 : S.H ((a : Int) + 1) = none:=by
      cases e : S.H ((a : Int) + 1) with
      | none => rfl
      | some d => exact absurd (hF.H a (by rw [e];simp)) ha
    rw [e0 a (by simp [x1,x2,x3]),h2 a (by rw [hs];exact ha) hne,hs]
def PlI (m0 : Mem) (p r : Int) (k : Nat) (m : Mem) : Prop :=
  ∃ (S : TS) (b : Mem) (t : T) (n : Nat) (v : Value),m = S.mem b ∧ S.p = p ∧ Tre S t n ∧ Fre S b ∧ (∀ a,m0 a ≠ none → b a = m0 a) ∧ Lst b r v (hans t) ∧ t.size ≤ k ∧ ∀ a : Nat,r = (a : Int) + 1 → m0 a = none
theorem PlI.of {m0 : Mem} {p r : Int} {k : Nat} {S : TS} {b : Mem} {t : T} {n : Nat} {v : Value} {hs : List (Int × Int)} {y : Vars} (e1 : S.p = p) (hT : Tre S t n) (hF : Fre S b) (hk : ∀ a,m0 a ≠ none → b a = m0 a) (hL : Lst b r v hs) (hs' : t.size ≤ k) (hr : ∀ a : Nat,r = (a : Int) + 1 → m0 a = none)
    (h : lstPost (S.mem b) r (hans t) y) : PlI m0 p r k y.m:=by
  obtain ⟨b',u,h1,h2,h3,h4⟩:=lst_mem hF hL h
  refine ⟨S,b',t,n,u,h1,e1,hT,h2,fun a ha => ?_,h3,hs',hr⟩
  rw [h4 a (by rw [hk a ha];exact ha) (fun e => ha (hr a e.symm)),hk a ha]
end Go.Proofs.Ytnlohongffpkpaa.T16
end

section
namespace Go.Proofs.Ytnlohongffpkpaa.T16
open Go Go.RowKit Go.Proofs.Ytnlohongffpkpaa.Sx Go.Proofs Go.WideShapes Go.ChangeShapes
set_option linter.unusedVariables false
set_option linter.unusedSimpArgs false
theorem wf_inI {n : Int} (h : (Lit.int .i64 n).wf = true) : inI n:=by
  have e1 : IntKind.min .i64 = -9223372036854775808:=rfl
  have e2 : IntKind.max .i64 = 9223372036854775807:=rfl
  simp only [Lit.wf,e1,e2,Bool.and_eq_true,decide_eq_true_eq] at h
  unfold inI;omega
theorem wf_inU {n : Int} (h : (Lit.int .u64 n).wf = true) : inU n:=by
  have e1 : IntKind.min .u64 = 0:=rfl
  have e2 : IntKind.max .u64 = 18446744073709551615:=rfl
  simp only [Lit.wf,e1,e2,Bool.and_eq_true,decide_eq_true_eq] at h
  unfold inU;omega
section
variable {H : Type} {enc : TypeId × Value → H} {P : Program} {W : World} {base : Nat} {sp : Nat → Bool} {held : Bool}
theorem han_cells {t n : Nat} {cs : List Value} {x : DataW H × List MemPlace} (ht : hTy P t = true) (h : DataW.trod enc P W base sp held n t cs = some x) : ∃ s g,cs = [.int .i64 s,.int .u64 g] ∧ inI s ∧ inU g:=by
  unfold hTy at ht
  split at ht
  · rename_i fs hu
    split at ht
    · rename_i f g hfs
      simp only [Bool.and_eq_true] at ht
      obtain ⟨⟨⟨⟨⟨⟨⟨⟨a1,a2⟩,a3⟩,a4⟩,a5⟩,a6⟩,a7⟩,a8⟩,a9⟩:=ht
      replace a3:=Nat.eq_of_beq_eq_true a3
      replace a4:=Nat.eq_of_beq_eq_true a4
      replace a5:=Nat.eq_of_beq_eq_true a5
      replace a6:=Nat.eq_of_beq_eq_true a6
      replace a7:=Nat.eq_of_beq_eq_true a7
      have hf : fs = #[f,g]:=by rw [← Array.toArray_toList (xs:=fs),hfs]
      subst hf
      have u1 : P.underlying f.type = some (.int .i64):=by revert a8;split <;> simp_all
      have u2 : P.underlying g.type = some (.int .u64):=by revert a9;split <;> simp_all
      obtain ⟨xs,k,_,_,hl,hxl,hall⟩:=DataW.trod_struct hu h
      rw [a7] at hl
      match cs,hl with
      | [v0,v1],_ =>
        match xs,hxl with
        | [y0,y1],_ =>
          have g0:=hall 0 f rfl
          have g1:=hall 1 g rfl
          simp [a3,a4,a5,a6] at g0 g1
          obtain ⟨s,e0,_,w0⟩:=DataW.trod_int u1 g0
          obtain ⟨q,e1,_,w1⟩:=DataW.trod_int u2 g1
          simp only [List.cons.injEq,and_true] at e0 e1
          subst e0 e1
          exact ⟨s,q,rfl,wf_inI w0,wf_inU w1⟩
    · cases ht
  · cases ht
instance : Inhabited Stp:=⟨⟨false,0,0,0⟩⟩
end
end Go.Proofs.Ytnlohongffpkpaa.T16
end

section
namespace Go.Proofs.Ytnlohongffpkpaa.T16
open Go Go.RowKit Go.Shelf Go.Proofs.Ytnlohongffpkpaa.Sx Go.Proofs
set_option linter.unusedVariables false
set_option linter.unusedSimpArgs false
attribute [local go_sem] Oper.semAt_some
theorem flds_inv {P : Program} {f : TypeId → Option (List IntKind)} {g : TypeId → List Value → Option (List Lit)}
    (hg : ∀ t ks cs x,f t = some ks → g t cs = some x → ∃ ls : KI,ls.map (·.1) = ks ∧ kWf ls ∧ cs = kVals ls) :
    ∀ (fs : List Field) (o : Nat) (ks : List IntKind),fldKs P f o fs = some ks → ∀ (cs : List Value) (x : List (List Lit)),(fs.mapM fun y => g y.type ((cs.drop y.offset).take (P.cellsOf y.type))) = some x →
      ∃ ls : KI,ls.map (·.1) = ks ∧ kWf ls ∧ (cs.drop o).take ks.length = kVals ls
  | [],o,ks,h,cs,x,hx => by
    cases h
    exact ⟨[],rfl,fun _ h => by simp at h,by simp [kVals]⟩
  | y :: r,o,ks,h,cs,x,hx => by
    simp only [fldKs] at h
    split at h
    · rename_i ks1 hn hf
      split at h
      · rename_i rest h1 h2
        cases h
        rw [Bool.and_eq_true] at hn
        have ho:=Nat.eq_of_beq_eq_true hn.2
        have hc:=Nat.eq_of_beq_eq_true h1
        rw [List.mapM_cons] at hx
        cases e1 : g y.type ((cs.drop y.offset).take (P.cellsOf y.type)) with
        | none => rw [e1] at hx;cases hx
        | some x1 =>
          rw [e1] at hx
          cases e2 : (r.mapM fun y => g y.type ((cs.drop y.offset).take (P.cellsOf y.type))) with
          | none => rw [e2] at hx;cases hx
          | some x2 =>
            obtain ⟨l1,a1,a2,a3⟩:=hg _ _ _ _ hf e1
            obtain ⟨l2,b1,b2,b3⟩:=flds_inv hg r (o + ks1.length) rest h2 cs x2 e2
            refine ⟨l1 ++ l2,by simp [a1,b1],fun z hz => (List.mem_append.1 hz).elim (a2 z) (b2 z),?_⟩
            rw [ho,hc] at a3
            rw [kVals_app,← a3,← b3,List.length_append,← List.drop_drop,← List.take_add]
      · cases h
    · cases h
theorem keyLits_inv {P : Program} : ∀ (d : Nat) (t : TypeId) (ks : List IntKind),kKinds P d t = some ks → ∀ (e : Nat) (cs : List Value) (x : List Lit),P.keyLits (d + e) t cs = some x → ∃ ls : KI,ls.map (·.1) = ks ∧ kWf ls ∧ cs = kVals ls
  | 0,_,_,h,_,_,_,_ => by cases h
  | d + 1,t,ks,h,e,cs,x,hx => by
    simp only [kKinds] at h
    rw [show d + 1 + e = (d + e) + 1 by omega] at hx
    unfold Program.keyLits at hx
    split at h
    · rename_i q hu
      cases h
      rw [hu] at hx
      obtain ⟨n,rfl⟩ : ∃ n,cs = [.int q n]:=by
        rcases cs with _ | ⟨v,_ | ⟨v2,r⟩⟩
        · simp at hx
        · cases v with
          | int q' n =>
            simp only at hx
            split at hx
            · rename_i hq;exact ⟨n,by rw [hq.1]⟩
            · cases hx
          | _ => simp at hx
        · cases v <;> simp at hx
      refine ⟨[(q,n)],rfl,fun z hz => ?_,rfl⟩
      simp only at hx
      split at hx
      · rename_i hq
        simp at hz;subst hz;exact hq.2
      · cases hx
    · rename_i fs hu
      split at h
      · rename_i ks' hf
        split at h
        · rename_i hc
          cases h
          have hc:=Nat.eq_of_beq_eq_true hc
          rw [hu] at hx
          simp only at hx
          split at hx
          · rename_i hl
            obtain ⟨y,hy,_⟩:=Option.map_eq_some_iff.1 hx
            obtain ⟨ls,a1,a2,a3⟩:=flds_inv (g:=fun t cs => P.keyLits (d + e) t cs) (fun t ks cs x h hx => keyLits_inv d t ks h e cs x hx) fs.toList 0 ks hf cs y hy
            refine ⟨ls,a1,a2,?_⟩
            rw [← a3,List.drop_zero,List.take_of_length_le (by omega)]
          · cases hx
        · cases h
      · cases h
    · cases h
theorem key59_inv {v : Value} {l : Lit} (h : keyOf Try.prog 59 v = some l) : ∃ p : Pl,v = pKey p ∧ okP' p:=by
  have hu : ∃ fs,Try.prog.underlying 59 = some (.struct fs):=⟨_,Try.underlying59⟩
  obtain ⟨fs,hu⟩:=hu
  unfold Go.keyOf at h
  rw [hu] at h
  simp only at h
  split at h
  · rename_i hf
    rw [Bool.and_eq_true] at hf
    obtain ⟨x,hx,_⟩:=Option.map_eq_some_iff.1 h
    obtain ⟨e,he⟩ : ∃ e,Try.prog.types.size + 1 = 3 + e:=⟨Try.prog.types.size + 1 - 3,by have : 2 ≤ Try.prog.types.size:=of_decide_eq_true (by kernel_rfl);omega⟩
    rw [he] at hx
    have hk : kKinds Try.prog 3 59 = some [.i64,.i64,.i64]:=by kernel_rfl
    obtain ⟨ls,a1,a2,a3⟩:=keyLits_inv 3 59 _ hk e _ x hx
    match ls,a1 with
    | [(q1,n1),(q2,n2),(q3,n3)],a1 =>
      simp only [List.map_cons,List.map_nil,List.cons.injEq,and_true] at a1
      obtain ⟨rfl,rfl,rfl⟩:=a1
      refine ⟨(n1,n2,n3),?_,?_⟩
      · have hv : ∃ cs,v = .agg cs:=by
          have h2:=hf.2
          unfold Value.formed at h2
          cases v with
          | agg cs => exact ⟨cs,rfl⟩
          | _ => simp [hu] at h2
        obtain ⟨cs,rfl⟩:=hv
        simp only [Value.cells] at a3
        exact congrArg Value.agg (Array.ext' a3)
      · have w1:=a2 (.i64,n1) (by simp)
        have w2:=a2 (.i64,n2) (by simp)
        have w3:=a2 (.i64,n3) (by simp)
        refine ⟨?_,?_,?_⟩
        · exact wf_inI w1
        · exact wf_inI w2
        · exact wf_inI w3
  · cases h
section
variable {F : Fence} {n : Nat} {P : Program} (w : World) {ops : Array Oper} {rest : List Oper} {o : Oper} {a : Act} {Q : Exit → Act → World → Prop}
theorem wpListIn_range_raw (hg : o.guard = none) (m : Operand) (t : TypeId) (hop : o.op = Op.range t m) (k e : TypeId) (ht : P.underlying t = some (.map k e)) (b : Nat) (es : Array MapEntry) (c : Nat) (hm : a.eval m = .map (some b)) (hb : w.heap[b]? = some (.map es c))
    (hK : wpListIn F n P ops Q rest (a.put o.dst (.pointer (some ⟨w.heap.size,0,none⟩))) (w.alloc (.mapIter (some b) c #[] c))) :
    wpListIn F n P ops Q (o :: rest) a w:=by
  refine wpListIn_plain hg fun K' hK' => ?_
  unfold Oper.wpIn
  refine ⟨?_,?_⟩
  · simp [Oper.about,hop]
  · rw [Oper.semAt_plain F _ _ (by rw [hop];intro c hc';cases hc')]
    simp [execOp,hop,hm,run_range_map w t k e b es c ht hb,Result.andThen]
    exact hK' _ _ hK
def NoneLeft (es : Array MapEntry) (seen : Array Nat) : Prop:=(leftOf es seen).size = 0
def IsLeft (e : MapEntry) (es : Array MapEntry) (seen : Array Nat) : Prop:=e ∈ (leftOf es seen).toList
def KeyAt (kp : MapEntry → Pl) (e : MapEntry) (x1 x2 x3 : Int) : Prop:=kp e = (x1,x2,x3)
theorem wpListIn_next_raw (hg : o.guard = none) (it : Operand) (hop : o.op = Op.next it false) (kp : MapEntry → Pl) (b r since last c : Nat) (seen : Array Nat) (es : Array MapEntry)
    (hit : a.eval it = .pointer (some ⟨r,0,none⟩)) (hr : w.heap[r]? = some (.mapIter (some b) since seen last)) (hb : w.heap[b]? = some (.map es c)) (hne : r ≠ b) (hold : ∀ x ∈ es.toList,x.born < since) (hsc : since ≤ last) (hn : (es.toList.map (·.born)).Nodup) (hkp : ∀ e ∈ es.toList,e.key = pKey (kp e))
    (hDone : NoneLeft es seen → wpListIn F n P ops Q rest (a.put o.dst (.tuple #[.bool false])) w)
    (hMore : ∀ (e : MapEntry) (x1 x2 x3 : Int) (u : Value) (w' : World),IsLeft e es seen → KeyAt kp e x1 x2 x3 → w'.heap[r]? = some (.mapIter (some b) since (seen.push e.born) c) → w.grownBy w' (some r) → w'.heap.size = w.heap.size →
      (Instr.entry (.pointer (some ⟨r,0,none⟩))).run P w' = .ok (.tuple #[.agg #[.int .i64 x1,.int .i64 x2,.int .i64 x3],u]) w' → wpListIn F n P ops Q rest (a.put o.dst (.tuple #[.bool true,.agg #[.int .i64 x1,.int .i64 x2,.int .i64 x3],u])) w') :
    wpListIn F n P ops Q (o :: rest) a w:=by
  refine wpListIn_plain hg fun K' hK' => ?_
  unfold Oper.wpIn
  refine ⟨by simp [Oper.about,hop],?_⟩
  rw [Oper.semAt_plain F _ _ (by rw [hop];intro c hc';cases hc')]
  rcases run_next_at (P:=P) w o.type r b since last seen es c hr hb hold hsc with ⟨h0,hrun⟩ | ⟨e,he,w1,hal,hrun⟩
  · simp [execOp,hop,hit,hrun,Result.andThen]
    exact hK' _ _ (hDone h0)
  · obtain ⟨hem,hes⟩:=mem_left he
    have hr1 : w1.heap[r]? = some (.mapIter (some b) since seen last):=by rcases hal with rfl | rfl <;> exact hr
    have hb1 : w1.heap[b]? = some (.map es c):=by rcases hal with rfl | rfl <;> exact hb
    have hset:=MapKept.heap_set (o':=.mapIter (some b) since (seen.push e.born) c) hr1
    have hb' : (ChangeMaps.setBlock w1 r (.mapIter (some b) since (seen.push e.born) c)).heap[b]? = some (.map es c):=(hset.2 b (fun e1 => hne e1.symm)).trans hb1
    have hkey:=hkp e hem
    have hen:=run_entry_at (P:=P) _ r b since seen es c e hset.1 hb' hem hn
    rw [hkey] at hrun hen
    simp [execOp,hop,hit,hrun,Result.andThen]
    refine hK' _ _ (hMore e _ _ _ e.val _ he rfl hset.1 ?_ ?_ hen)
    · rcases hal with rfl | rfl <;> exact ⟨rfl,rfl,rfl,by simp [ChangeMaps.setBlock],fun i _ hi => hset.2 i (fun e1 => hi (by rw [e1]))⟩
    · rcases hal with rfl | rfl <;> simp [ChangeMaps.setBlock]
end
end Go.Proofs.Ytnlohongffpkpaa.T16
end
