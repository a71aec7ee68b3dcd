import Derived.Test.YtnlohongffpkpaaLawPlaysW5
import Derived.Shelf.SlSortCmp.NoneTotal
import Derived.StillTailTactics
import Derived.LoopN
set_option linter.unusedVariables false
set_option linter.unusedSimpArgs false
section
namespace Go.Proofs.Ytnlohongffpkpaa.T16
open Go Go.RowKit Go.Shelf Go.Proofs.Ytnlohongffpkpaa.Sx Go.Proofs
set_option linter.unusedVariables false
set_option linter.unusedSimpArgs false
attribute [local go_sem] Oper.semAt_some
def pEnc (p : Pl) : List Value:=[.int .i64 p.1,.int .i64 p.2.1,.int .i64 p.2.2]
def pCells (l : List Pl) : List Value:=l.flatMap pEnc
theorem pCells_snoc (l : List Pl) (x : Pl) : pCells (l ++ [x]) = pCells l ++ [.int .i64 x.1,.int .i64 x.2.1,.int .i64 x.2.2]:=by simp [pCells,pEnc]
structure GatI (w : World) (lo : Loop) (pre : List Pl) (v : Value) (W : World) : Prop where
  box : W.heap[w.heap.size]? = some (.cells #[v] 80 (0,0))
  row : W.ownsRow w.heap.size 59 3 v pre.length (pCells pre)
  below : Below w.heap.size w W
  loop : W.heap[w.heap.size + 2]? = some (.loop lo)
  df : W.heap[w.heap.size + 1]? = some (.deferred (some []))
theorem prow_ne {W : World} {base : Nat} {v : Value} {n : Nat} {xs : List Value} (h : W.ownsRow base 59 3 v n xs) {j : Nat} {o : Obj} (hj : W.heap[j]? = some o) (ho : ∀ cur,o ≠ .cells cur 59 (0,0)) : v.ownBlock = none ∨ v.ownBlock ≠ some j:=by
  rcases h.2 with ⟨rfl,_⟩ | ⟨g,cap,cur,rfl,_,hg,_⟩
  · exact .inl rfl
  · refine .inr fun e => ?_
    simp only [Value.ownBlock,Option.some.injEq] at e
    subst e
    rw [hg] at hj;cases hj
    exact ho cur rfl
theorem GatI.turn {w W W' : World} {lo : Loop} {pre : List Pl} {v : Value} (h : GatI w lo pre v W) {r : Option Nat} (hg : W.grownBy W' r) (hr : ∀ k,r = some k → w.heap.size < k ∧ k ≠ w.heap.size + 1 ∧ k ≠ w.heap.size + 2) (hv : v.ownBlock = none ∨ v.ownBlock ≠ r) : GatI w lo pre v W':=by
  have lt : ∀ {k : Nat} {o : Obj},W.heap[k]? = some o → k < W.heap.size:=fun h => (Array.getElem?_eq_some_iff.1 h).1
  refine ⟨(hg.block _ (lt h.box) fun e => ?_).trans h.box,h.row.kept hg hv,h.below.grown hg h.below.size (fun k e => by have:=hr k e;omega),(hg.block _ (lt h.loop) fun e => ?_).trans h.loop,(hg.block _ (lt h.df) fun e => ?_).trans h.df⟩
  · have:=hr _ e.symm;omega
  · have:=hr _ e.symm;omega
  · have:=hr _ e.symm;omega
theorem GatI.walk {w W W' : World} {lo : Loop} {pre : List Pl} {v : Value} (h : GatI w lo pre v W) {r : Nat} {o : Obj} (ho : W.heap[r]? = some o) (hw : o.isWalk = true) (hr : w.heap.size ≤ r) (hg : W.grownBy W' (some r)) : GatI w lo pre v W':=by
  refine h.turn hg (fun k e => ?_) ?_
  · cases e
    refine ⟨?_,?_,?_⟩
    · rcases Nat.lt_or_eq_of_le hr with h1 | h1
      · exact h1
      · subst h1;rw [h.box] at ho;cases ho;cases hw
    · rintro rfl;rw [h.df] at ho;cases ho;cases hw
    · rintro rfl;rw [h.loop] at ho;cases ho;cases hw
  · exact prow_ne h.row ho (fun cur e => by subst e;cases hw)
theorem GatI.put {w W : World} {lo : Loop} {pre : List Pl} {v : Value} (h : GatI w lo pre v W) (lo' : Loop) : GatI w lo' pre v (W.putObj (w.heap.size + 2) (.loop lo')):=by
  have lt : ∀ {k : Nat} {o : Obj},W.heap[k]? = some o → k < W.heap.size:=fun h => (Array.getElem?_eq_some_iff.1 h).1
  have hg:=grownBy_putObj' W (w.heap.size + 2) (.loop lo')
  refine ⟨(World.putObj_heap_other (by omega)).trans h.box,h.row.kept hg (prow_ne h.row h.loop (fun cur e => by cases e)),h.below.grown hg h.below.size (fun k e => by cases e;omega),World.putObj_heap_same (lt h.loop),(World.putObj_heap_other (by omega)).trans h.df⟩
def Told {α : Type} (es : Array MapEntry) (kp : MapEntry → α) (seen : Array Nat) (pre : List α) : Prop:=∃ D : List MapEntry,(∀ e ∈ D,e ∈ es.toList) ∧ seen.toList = D.map (·.born) ∧ pre = D.map kp ∧ (D.map (·.born)).Nodup
theorem Told.start {α : Type} (es : Array MapEntry) (kp : MapEntry → α) : Told es kp #[] []:=⟨[],by simp,rfl,rfl,by simp⟩
theorem Told.step {α : Type} {es : Array MapEntry} {kp : MapEntry → α} {seen : Array Nat} {pre : List α} (h : Told es kp seen pre) {e : MapEntry} (he : e ∈ (leftOf es seen).toList) : Told es kp (seen.push e.born) (pre ++ [kp e]):=by
  obtain ⟨D,h1,h2,h3,h4⟩:=h
  obtain ⟨g1,g2⟩:=mem_left he
  refine ⟨D ++ [e],fun x hx => ?_,by simp [h2],by simp [h3],?_⟩
  · rcases List.mem_append.1 hx with hx | hx
    · exact h1 x hx
    · simp at hx;subst hx;exact g1
  · rw [List.map_append,List.nodup_append]
    refine ⟨h4,by simp,fun x hx y hy e' => ?_⟩
    simp at hy
    subst hy e'
    rw [← h2] at hx
    have : seen.contains e.born = true:=by simpa using hx
    rw [g2] at this;cases this
theorem nodup_le {α : Type} [DecidableEq α] : ∀ {l l' : List α},l.Nodup → (∀ x ∈ l,x ∈ l') → l.length ≤ l'.length
  | [],_,_,_ => Nat.zero_le _
  | x :: r,l',hn,hs => by
    rw [List.nodup_cons] at hn
    have hx:=hs x (by simp)
    have:=nodup_le (l':=l'.erase x) hn.2 fun y hy => (List.mem_erase_of_ne (fun e => hn.1 (by rw [← e];exact hy))).2 (hs y (by simp [hy]))
    have h2:=List.length_erase_of_mem hx
    have h3:=List.length_pos_of_mem hx
    simp only [List.length_cons];omega
theorem Told.len {α : Type} {es : Array MapEntry} {kp : MapEntry → α} {seen : Array Nat} {pre : List α} (h : Told es kp seen pre) {e : MapEntry} (he : e ∈ (leftOf es seen).toList) (hn : (es.toList.map (·.born)).Nodup) : pre.length < es.size:=by
  obtain ⟨D,h1,h2,h3,h4⟩:=h.step he
  have : (D.map (·.born)).length ≤ (es.toList.map (·.born)).length:=nodup_le h4 (fun x hx => by
    obtain ⟨y,hy,rfl⟩:=List.mem_map.1 hx
    exact List.mem_map_of_mem (h1 y hy))
  have h5:=congrArg List.length h3
  simp at this h5
  omega
theorem Told.all {α : Type} {es : Array MapEntry} {kp : MapEntry → α} {seen : Array Nat} {pre : List α} (h : Told es kp seen pre) (h0 : (leftOf es seen).size = 0) (hn : (es.toList.map (·.born)).Nodup) : pre.Perm (es.toList.map kp):=by
  obtain ⟨D,h1,h2,h3,h4⟩:=h
  rw [h3]
  refine List.Perm.map kp ?_
  have nd : D.Nodup:=(List.pairwise_map.1 h4).imp fun h e => h (by rw [e])
  have nd2 : es.toList.Nodup:=(List.pairwise_map.1 hn).imp fun h e => h (by rw [e])
  refine (List.perm_ext_iff_of_nodup nd nd2).2 fun x => ⟨h1 x,fun hx => ?_⟩
  have hc:=all_seen es seen h0 x hx
  have hc : x.born ∈ seen.toList:=by simpa using hc
  rw [h2] at hc
  obtain ⟨y,hy,e⟩:=List.mem_map.1 hc
  rw [← born_inj hn (h1 y hy) hx e];exact hy
set_option maxRecDepth 100000 in
set_option maxHeartbeats 4000000 in
theorem keys1_in (F : Fence) (n : Nat) (h83 : F.fn 83) (hro : F.round = none) (l Bm b c : Nat) (w : World) (lo : Loop) (es : Array MapEntry) (kp : MapEntry → Pl)
    (hY : ∀ pre x v W,GatI w lo pre v W → pre.length < es.size → YieldAt F (n - 1) Try.prog l #[pKey x] W fun e W' => e = .returned (.bool true) ∧ (∃ v',GatI w lo (pre ++ [x]) v' W') ∧ KeepsWalks W W')
    (hd : F.depth = none) (hbl : b < w.heap.size) (hst : MapKept.Stamped es c) (hkp : ∀ e ∈ es.toList,e.key = pKey (kp e)) (hb : w.heap[b]? = some (.map es c))
    (W : World) (v0 : Value) (hBm : W.cell? ⟨Bm,0,none⟩ = some (.map (some b))) (h0 : GatI w lo [] v0 W) :
    CallsIn F n Try.prog 83 #[.func (.yield l) #[] #[],.pointer (some ⟨Bm,0,none⟩)] W fun e W' => (∃ v,e = .returned v) ∧ ∃ ps v,ps.Perm (es.toList.map kp) ∧ GatI w lo ps v W':=by
  obtain ⟨st1,st2,st3⟩:=(MapKept.stamped_iff es c).1 hst
  have hdd : ∀ k : Nat,(F.depth.isSome = true → 1 ≤ k):=fun k h => by rw [hd] at h;cases h
  have u107 : Try.prog.underlying 107 = some (.map 59 123):=by kernel_rfl
  have hbW : ∀ {W' : World} {pre v},GatI w lo pre v W' → W'.heap[b]? = some (.map es c):=fun h => (h.below.block b hbl).trans hb
  refine callsIn_of_wp Try.func83 rfl h83 ?_ hro
  simp only [Try.ntmps83,List.size_toArray,List.length_cons,List.length_nil,Nat.reduceAdd,Nat.reduceSub,Array.replicate_succ,Array.replicate_zero,List.push_toArray,List.append_toArray,List.nil_append,List.cons_append]
  have hbs : b ≠ W.heap.size:=by have:=h0.below.size;omega
  gi_wp2_with (first
    | (gi_at_range;refine wpListIn_range_raw _ rfl _ 107 rfl 59 123 u107 b es c rfl (hbW h0) ?_)
    | gi_in)
  go_frame
  gi_loopw [3] (fun _ wr => ∃ (seen : Array Nat) (last : Nat) (pre : List Pl) (v : Value),wr.heap[W.heap.size]? = some (.mapIter (some b) c seen last) ∧ c ≤ last ∧ Told es kp seen pre ∧ GatI w lo pre v wr)
    (fun _ wr => wr.rangeLeft b W.heap.size)
  case atStart =>
    exact ⟨#[],c,[],v0,World.alloc_heap_new W _,Nat.le_refl _,Told.start _ _,h0.turn (World.grownBy_alloc W _ none) (fun k e => by cases e) (by cases v0.ownBlock <;> simp)⟩
  case round =>
    obtain ⟨seen,last,pre,v,hit,hcl,hT,hG⟩:=hrel
    have hws : w.heap.size ≤ W.heap.size:=h0.below.size
    gi_wp2_with (first
      | (gi_at_next;refine wpListIn_next_raw _ rfl _ rfl kp b W.heap.size c last c seen es rfl hit (hbW hG) (Ne.symm hbs) st1 hcl st2 hkp ?_ ?_)
      | gi_in)
    · intro h00
      gi_wp2
      go_end0
      exact ⟨⟨_,rfl⟩,pre,v,hT.all h00 st2,hG⟩
    · intro e x1 x2 x3 u w2 he hx hit2 hg2 hs2 hen
      obtain ⟨x,rfl,rfl,rfl⟩ : ∃ x : Pl,x.1 = x1 ∧ x.2.1 = x2 ∧ x.2.2 = x3:=⟨(x1,x2,x3),rfl,rfl,rfl⟩
      have hx : kp e = x:=hx
      have hG2 : GatI w lo pre v w2:=hG.walk hit rfl hws hg2
      have hG3 : GatI w lo pre v (w2.alloc (.cells #[.int .i64 x.1,.int .i64 x.2.1,.int .i64 x.2.2] 59)):=hG2.turn (World.grownBy_alloc w2 _ none) (fun k e => by cases e) (by cases v.ownBlock <;> simp)
      have hit3 : (w2.alloc (.cells #[.int .i64 x.1,.int .i64 x.2.1,.int .i64 x.2.2] 59)).heap[W.heap.size]? = some (.mapIter (some b) c (seen.push e.born) c):=(Below.heap_alloc _ _ _ (Array.getElem?_eq_some_iff.1 hit2).1).trans hit2
      obtain ⟨fn,tmps,assign,body,hy,hR⟩:=hY pre x v _ hG3 (hT.len he st2)
      clear hs2
      gi_wp2
      refine hR.mono ?_
      rintro e' W3 ⟨rfl,⟨v',hG4⟩,hk4⟩
      gi_wp2
      have hit4:=hk4.same _ _ hit3 rfl
      go_roundw
      case rel => exact ⟨_,c,pre ++ [x],v',hit4,Nat.le_refl _,hx ▸ hT.step he,hG4⟩
      case measure =>
        unfold World.rangeLeft
        rw [hbW hG4,hit4,hbW hG,hit]
        exact left_shrinks es seen e he
theorem gat_loop {F : Fence} (hd : F.depth = none) {n : Nat} (h83 : F.fn 83) (hro : F.round = none) (h1 : 1 ≤ n) {w w2 : World} {A B : Code} {Q : Exit → Act → World → Prop} {act : Act} {Bm b c : Nat} {es : Array MapEntry} {kp : MapEntry → Pl}
    (hev : act.eval (Operand.tmp 6) = .func (.func 83) #[] #[.pointer (some ⟨Bm,0,none⟩)]) (hbl : b < w.heap.size) (hst : MapKept.Stamped es c) (hkp : ∀ e ∈ es.toList,e.key = pKey (kp e)) (hb : w.heap[b]? = some (.map es c)) (hBm : w.cell? ⟨Bm,0,none⟩ = some (.map (some b))) (hBl : Bm < w.heap.size)
    (hs2 : w2.heap.size = w.heap.size + 1) (hb2 : Below w.heap.size w w2) (hbox : w2.heap[w.heap.size]? = some (.cells #[.slice none 0 0] 80 (0,0)))
    (hround : ∀ (lo : Loop) (pre : List Pl) (x : Pl) (v : Value) (W : World),lo.state = .ready → lo.pending = none → GatI w lo pre v W → pre.length < es.size →
      A.wpIn (F.inRound (w.heap.size + 2)) (n - 1 - 1) Try.prog (Exit.then (fun a₁ w₁ => ∃ w₂,(Instr.beginRound (w.heap.size + 2)).run Try.prog w₁ = .ok () w₂ ∧ B.wpIn (F.inRound (w.heap.size + 2)) (n - 1 - 1) Try.prog (roundPost Try.prog (w.heap.size + 2)
        (fun e W' => e = .returned (.bool true) ∧ (∃ v',GatI w lo (pre ++ [x]) v' W') ∧ KeepsWalks W W')) a₁ w₂) (fun _ _ _ => False)) { tmps:=act.tmps.setIfInBounds 7 (pKey x),defers:=[] } W)
    (hdone : ∀ (lo : Loop) (ps : List Pl) (v : Value) (W : World),ps.Perm (es.toList.map kp) → GatI w lo ps v W → Q .normal { act with defers:={ target:=.collected (w.heap.size + 1),args:=#[] } :: act.defers } W) :
    (Code.rangeFunc (Operand.tmp 6) #[7] A B).wpIn F n Try.prog Q act w2:=by
  refine wpIn_rangeFunc ?_
  intro fn hfn
  rw [hro]
  obtain ⟨lo,hlo⟩ : ∃ lo : Loop,{ state:=.ready,pending:=none,fn:=fn,tmps:=act.tmps,params:=#[7],assign:=A,body:=B,defers:=w2.heap.size } = lo:=⟨_,rfl⟩
  have l1 : lo.state = .ready:=by rw [← hlo]
  have l2 : lo.pending = none:=by rw [← hlo]
  have hent:=run_enterLoop_outer (P:=Try.prog) (w:=w2) fn act.tmps #[7] A B
  rw [hlo] at hent
  obtain ⟨W1,hW1⟩ : ∃ W1,(w2.alloc (.deferred (some []))).alloc (.loop lo) = W1:=⟨_,rfl⟩
  rw [hW1] at hent
  have hb1 : Below w.heap.size w W1:=by rw [← hW1];exact (hb2.alloc (by omega) _).alloc (by simp;omega) _
  have hI1 : GatI w lo [] (.slice none 0 0) W1:=by
    refine ⟨?_,World.ownsRow_nil _ _ _ _,hb1,?_,?_⟩
    · rw [← hW1];exact (Below.heap_alloc _ _ _ (by simp;omega)).trans ((Below.heap_alloc _ _ _ (by omega)).trans hbox)
    · rw [← hW1];have:=World.alloc_heap_new (w2.alloc (.deferred (some []))) (.loop lo);rwa [World.size_alloc,hs2] at this
    · rw [← hW1];have:=World.alloc_heap_new w2 (.deferred (some []));rw [hs2] at this;exact (Below.heap_alloc _ _ _ (by simp;omega)).trans this
  rw [hs2] at hent
  refine ⟨w.heap.size + 1 + 1,[{ target:=.collected (w.heap.size + 1),args:=#[] }],W1,{ target:=.fn (.func 83) #[.pointer (some ⟨Bm,0,none⟩)],args:=#[.func (.yield (w.heap.size + 1 + 1)) #[] #[]] },W1,83,
    #[.func (.yield (w.heap.size + 1 + 1)) #[] #[],.pointer (some ⟨Bm,0,none⟩)],W1,hent,?_,?_,?_,fun _ => h1,?_⟩
  · simp only [resolve,hev]
    simp [go_sem]
  · intro f' hf';simp [Target.leads] at hf';subst hf';exact h83
  · have eg:=enters_of Try.func83 (by kernel_rfl) rfl
    simp [invoke,go_sem,eg]
  · refine (keys1_in F (n - 1) h83 hro (w.heap.size + 2) Bm b c w lo es kp ?_ hd hbl hst hkp hb W1 _ ((hb1.cell (p:=⟨Bm,0,none⟩) hBl).trans hBm) hI1).mono ?_
    · intro pre x v W hI hlen
      have hy:=run_yield (P:=Try.prog) (args:=#[pKey x]) hI.loop (by rw [← hlo];rfl)
      have e1 : lo.fn = fn:=by rw [← hlo]
      have e2 : lo.assign = A:=by rw [← hlo]
      have e3 : lo.body = B:=by rw [← hlo]
      have e4 : (lo.params.zip #[pKey x]).foldl (fun tmps (t,a) => tmps.setIfInBounds t a) lo.tmps = act.tmps.setIfInBounds 7 (pKey x):=by rw [← hlo];simp
      rw [e1,e2,e3,e4] at hy
      exact ⟨fn,_,A,B,hy,roundIn_of_wpIn hfn (hround lo pre x v W l1 l2 hI hlen)⟩
    · rintro e W2 ⟨⟨v0,rfl⟩,ps,v,hps,hI⟩
      have hend:=run_endLoop (P:=Try.prog) hI.loop (by rw [l1];simp)
      rw [l2] at hend
      exact ⟨none,_,hend,hdone _ ps v _ hps (hI.put _)⟩
theorem prow_walk {W : World} {base : Nat} {v : Value} {n : Nat} {xs : List Value} (h : W.ownsRow base 59 3 v n xs) (j : Nat) (o : Obj) (hj : v.ownBlock = some j) (ho : W.heap[j]? = some o) : o.isWalk = false:=by
  rcases h.2 with ⟨rfl,_⟩ | ⟨g,cap,cur,rfl,_,hg,_⟩
  · cases hj
  · simp only [Value.ownBlock,Option.some.injEq] at hj
    subst hj
    rw [hg] at ho;cases ho;rfl
set_option maxRecDepth 100000 in
set_option maxHeartbeats 4000000 in
theorem gather_in (F : Fence) (hd : F.depth = none) (n : Nat) (h89 : F.fn 89) (h83 : F.fn 83) (hro : F.round = none) (hn : 2 ≤ n) (Bm b c : Nat) (es : Array MapEntry) (kp : MapEntry → Pl) (w : World) (hbl : b < w.heap.size) (hst : MapKept.Stamped es c) (hkp : ∀ e ∈ es.toList,e.key = pKey (kp e))
    (hb : w.heap[b]? = some (.map es c)) (hBm : w.cell? ⟨Bm,0,none⟩ = some (.map (some b))) (hBl : Bm < w.heap.size) (hlen : es.size < 1099511627776) :
    CallsIn F n Try.prog 89 #[.slice none 0 0,.func (.func 83) #[] #[.pointer (some ⟨Bm,0,none⟩)]] w fun e w' => ∃ v ps,e = .returned v ∧ ps.Perm (es.toList.map kp) ∧ w'.ownsRow w.heap.size 59 3 v ps.length (pCells ps) ∧ Below w.heap.size w w':=by
  have h1 : 1 ≤ n:=by omega
  obtain ⟨i0,z0,hi0,hz0,hz1,hz2,hz3⟩:=infoB_of (P:=Try.prog) (t:=59) (sz:=3) (by_:=24) (by kernel_rfl)
  refine callsIn_of_wp_marks Try.func89 rfl h89 ?_ hro
  simp only [Try.ntmps89,List.size_toArray,List.length_cons,List.length_nil,Nat.reduceAdd,Nat.reduceSub,Array.replicate_succ,Array.replicate_zero,List.push_toArray,List.append_toArray,List.nil_append,List.cons_append]
  gi_wp2
  refine gat_loop hd h83 hro h1 (w:=w) (es:=es) (kp:=kp) (by rfl) hbl hst hkp hb hBm hBl (by simp) ((Below.refl _ w).alloc (Nat.le_refl _) _) ?box ?round ?done
  case box => exact World.alloc_heap_new w _
  case done =>
    intro lo ps v W hps hI
    obtain ⟨hc3,hf3⟩:=cell_of_box hI.box
    gi_wp2
    refine ⟨by simp,.inl ⟨_,_,rfl,run_takeDeferred hI.df,?_⟩⟩
    have hg:=grownBy_putObj' W (w.heap.size + 1) (.deferred none)
    exact ⟨_,results_tmp rfl _ _ _,v,ps,rfl,hps,hI.row.kept hg (prow_ne hI.row hI.df (fun cur e => by cases e)),hI.below.grown hg hI.below.size (fun k e => by cases e;omega)⟩
  case round =>
    intro lo pre x v W l1 l2 hI hlen'
    gi_wp2
    have hIa : GatI w lo pre v (W.alloc (.cells #[.int .i64 x.1,.int .i64 x.2.1,.int .i64 x.2.2] 59)):=hI.turn (World.grownBy_alloc W _ none) (fun k e => by cases e) (by cases v.ownBlock <;> simp)
    have kA : KeepsWalks W (W.alloc (.cells #[.int .i64 x.1,.int .i64 x.2.1,.int .i64 x.2.2] 59)):=KeepsWalks.alloc _ _
    refine ⟨_,run_beginRound hIa.loop l1,?_⟩
    have hIb:=hIa.put { lo with state:=.busy }
    have kB:=kA.trans (KeepsWalks.putObj (.loop { lo with state:=.busy }) hIa.loop rfl)
    have hbW : ((W.alloc (.cells #[.int .i64 x.1,.int .i64 x.2.1,.int .i64 x.2.2] 59)).putObj (w.heap.size + 2) (.loop { lo with state:=.busy })).heap[W.heap.size]? = some (.cells #[.int .i64 x.1,.int .i64 x.2.1,.int .i64 x.2.2] 59 (0,0)):=by
      have:=(Array.getElem?_eq_some_iff.1 hI.loop).1
      exact (World.putObj_heap_other (by omega)).trans (World.alloc_heap_new W _)
    have hsW : ((W.alloc (.cells #[.int .i64 x.1,.int .i64 x.2.1,.int .i64 x.2.2] 59)).putObj (w.heap.size + 2) (.loop { lo with state:=.busy })).heap.size = W.heap.size + 1:=by simp
    generalize (W.alloc (.cells #[.int .i64 x.1,.int .i64 x.2.1,.int .i64 x.2.2] 59)).putObj (w.heap.size + 2) (.loop { lo with state:=.busy }) = W2 at hIb hbW hsW kB
    obtain ⟨hc2,hf2⟩:=cell_of_box hIb.box
    have hq0 : W2.cell? ⟨W.heap.size,0,none⟩ = some (.int .i64 x.1):=by simp [World.cell?,hbW]
    have hq1 : W2.cell? ⟨W.heap.size,1,none⟩ = some (.int .i64 x.2.1):=by simp [World.cell?,hbW]
    have hq2 : W2.cell? ⟨W.heap.size,2,none⟩ = some (.int .i64 x.2.2):=by simp [World.cell?,hbW]
    have hIc : GatI w { lo with state:=.busy } pre v (W2.alloc (.cells #[.int .i64 x.1,.int .i64 x.2.1,.int .i64 x.2.2] 59)):=hIb.turn (World.grownBy_alloc W2 _ none) (fun k e => by cases e) (by cases v.ownBlock <;> simp)
    have kC:=kB.trans (KeepsWalks.alloc W2 (.cells #[.int .i64 x.1,.int .i64 x.2.1,.int .i64 x.2.2] 59))
    have hnew : ∀ (j : Nat) (u : Value),[Value.int .i64 x.1,Value.int .i64 x.2.1,Value.int .i64 x.2.2][j]? = some u → (W2.alloc (.cells #[.int .i64 x.1,.int .i64 x.2.1,.int .i64 x.2.2] 59)).cell? ((⟨W.heap.size + 1,0,none⟩ : Addr).add j) = some u:=by
      intro j u hu
      have hh:=World.alloc_heap_new W2 (.cells #[.int .i64 x.1,.int .i64 x.2.1,.int .i64 x.2.2] 59)
      rw [hsW] at hh
      have t0 : (⟨W.heap.size + 1,0,none⟩ : Addr).add 0 = ⟨W.heap.size + 1,0,none⟩:=by simp [Addr.add]
      have t1 : (⟨W.heap.size + 1,0,none⟩ : Addr).add 1 = ⟨W.heap.size + 1,1,none⟩:=by simp [Addr.add]
      have t2 : (⟨W.heap.size + 1,0,none⟩ : Addr).add 2 = ⟨W.heap.size + 1,2,none⟩:=by simp [Addr.add]
      rcases j with _ | _ | _ | j
      · simp only [List.getElem?_cons_zero] at hu;cases hu;rw [t0];unfold World.cell?;rw [hh];rfl
      · simp only [List.getElem?_cons_succ,List.getElem?_cons_zero] at hu;cases hu;rw [show (0 + 1) = 1 from rfl,t1];unfold World.cell?;rw [hh];rfl
      · simp only [List.getElem?_cons_succ,List.getElem?_cons_zero] at hu;cases hu;rw [show (0 + 1 + 1) = 2 from rfl,t2];unfold World.cell?;rw [hh];rfl
      · simp at hu
    have hfin : ∀ v' w3,w3.ownsRow w.heap.size 59 3 v' (pre.length + 1) (pCells pre ++ [Value.int .i64 x.1,Value.int .i64 x.2.1,Value.int .i64 x.2.2]) → (W2.alloc (.cells #[.int .i64 x.1,.int .i64 x.2.1,.int .i64 x.2.2] 59)).grownBy w3 v.ownBlock →
        w3.heap[w.heap.size]? = some (.cells #[v] 80 (0,0)) ∧ (∃ v1,v1 = v' ∧ GatI w { lo with state:=.busy } (pre ++ [x]) v1 (w3.setCell ⟨w.heap.size,0,none⟩ v')) ∧ KeepsWalks W (w3.setCell ⟨w.heap.size,0,none⟩ v'):=by
      intro v' w3 ho hg
      have lt : ∀ {W : World} {k : Nat} {o : Obj},W.heap[k]? = some o → k < W.heap.size:=fun h => (Array.getElem?_eq_some_iff.1 h).1
      have hkeep : ∀ {k : Nat} {o : Obj},(W2.alloc (.cells #[.int .i64 x.1,.int .i64 x.2.1,.int .i64 x.2.2] 59)).heap[k]? = some o → (∀ cur,o ≠ .cells cur 59 (0,0)) → w3.heap[k]? = some o:=fun hk hno =>
        (hg.block _ (lt hk) fun e => by
          rcases prow_ne hIc.row hk hno with e' | e'
          · rw [e'] at e;cases e
          · exact e' e.symm).trans hk
      have hb3:=hkeep hIc.box (fun cur e => by cases e)
      have hl3:=hkeep hIc.loop (fun cur e => by cases e)
      have hd3:=hkeep hIc.df (fun cur e => by cases e)
      have hI3 : GatI w { lo with state:=.busy } (pre ++ [x]) v' (w3.setCell ⟨w.heap.size,0,none⟩ v'):=by
        have hset : ∀ k,k ≠ w.heap.size → (w3.setCell ⟨w.heap.size,0,none⟩ v').heap[k]? = w3.heap[k]?:=fun k hk => by simp [World.setCell,Array.getElem?_modify,Ne.symm hk]
        have hgs : w3.grownBy (w3.setCell ⟨w.heap.size,0,none⟩ v') (some w.heap.size):=⟨rfl,rfl,rfl,by simp [World.setCell],fun k _ hk => hset k (fun e => hk (by rw [e]))⟩
        refine ⟨?_,?_,?_,(hset _ (by omega)).trans hl3,(hset _ (by omega)).trans hd3⟩
        · simp [World.setCell,Array.getElem?_modify,hb3]
        · have hr : w3.ownsRow w.heap.size 59 3 v' (pre ++ [x]).length (pCells (pre ++ [x])):=by rw [pCells_snoc,List.length_append];exact ho
          exact hr.kept hgs (prow_ne hr hb3 (fun cur e => by cases e))
        · have:=hIc.below.grown hg hIc.below.size (fun k e => (hIc.row.lt k e).1)
          exact this.grown hgs this.size (fun k e => by cases e;exact Nat.le_refl _)
      exact ⟨hb3,⟨_,rfl,hI3⟩,(kC.trans (KeepsWalks.of_grownBy hg (prow_walk hIc.row))).trans (KeepsWalks.setCell _ _ _)⟩
    gi_wp2_with (first
      | (gi_at_builtin;refine wpListIn_append_own _ rfl _ _ 80 rfl w.heap.size 59 i0 z0 3 24 Try.underlying80 hi0 hz0 hz1 hz2 hz3 (by decide) v pre.length (pCells pre) rfl hIc.row ⟨W.heap.size + 1,0,none⟩ 1 1 [.int .i64 x.1,.int .i64 x.2.1,.int .i64 x.2.2] rfl rfl hnew (by simp [Value.oneCell']) (by simp only [maxLen];omega) (by omega) (by have:=hIc.below.size;omega) ?_;intro v' w3 hown' hg3 hnil3
         obtain ⟨hb3,⟨v1,hv1,hI4⟩,hk4⟩:=hfin v' w3 hown' hg3
         obtain ⟨hc3,hf3⟩:=cell_of_box hb3
         obtain ⟨g',cap',rfl⟩ : ∃ g' cap',v' = .slice (some ⟨g',0,none⟩) (pre.length + 1) cap':=by
           rcases hown'.2 with ⟨_,h0⟩ | ⟨g',cap',_,h',_⟩
           · exact absurd h0 (by omega)
           · exact ⟨g',cap',h'⟩))
    subst hv1
    have hI5:=hI4.put { lo with state:=.ready,pending:=none }
    have elo : ({ lo with state:=.ready,pending:=none } : Loop) = lo:=by cases lo;simp_all
    rw [elo] at hI5
    refine ⟨_,_,(run_endRound none hI4.loop).trans (congrArg (fun r => Result.ok (Value.bool true) (World.putObj _ (w.heap.size + 2) (.loop r))) elo),rfl,⟨_,hI5⟩,?_⟩
    exact hk4.trans (KeepsWalks.putObj (.loop lo) hI4.loop rfl)
end Go.Proofs.Ytnlohongffpkpaa.T16
end

section
namespace Go.Proofs.Ytnlohongffpkpaa.T16
open Go Go.RowKit Go.Shelf Go.Proofs.Ytnlohongffpkpaa.Sx Go.Proofs
set_option linter.unusedVariables false
set_option linter.unusedSimpArgs false
def ci (x y : Int) : Int:=if x < y then -1 else if x > y then 1 else 0
set_option maxHeartbeats 1000000 in
theorem nan_calls (x : Int) (w : World) : Calls Try.prog 84 #[.int .i64 x] w fun e w' => e = .returned (.bool false) ∧ w' = w:=by
  go_enter Try.func84,Try.ntmps84
  go_wp2
  go_ret
  exact ⟨by simp,rfl⟩
set_option maxHeartbeats 1000000 in
theorem cmp_calls (x y : Int) (w : World) : Calls Try.prog 70 #[.int .i64 x,.int .i64 y] w fun e w' => e = .returned (.int .i64 (ci x y)) ∧ w' = w:=by
  go_enter Try.func70,Try.ntmps70
  go_wp2_with (go_at_call 84;refine (nan_calls _ _).mono ?_;rintro e w' ⟨rfl,hw⟩;rw [hw])
  all_goals (go_ret;refine ⟨?_,rfl⟩;unfold ci;(repeat' split) <;> first | rfl | (exfalso;omega))
def orI (x y z : Int) : Int:=if x ≠ 0 then x else if y ≠ 0 then y else z
set_option maxHeartbeats 2000000 in
theorem or_calls (x y z : Int) (b cap : Nat) (w : World) (h0 : w.cell? ⟨b,0,none⟩ = some (.int .i64 x)) (h1 : w.cell? ⟨b,1,none⟩ = some (.int .i64 y)) (h2 : w.cell? ⟨b,2,none⟩ = some (.int .i64 z)) :
    Calls Try.prog 69 #[.slice (some ⟨b,0,none⟩) 3 cap] w fun e w' => e = .returned (.int .i64 (orI x y z)) ∧ w' = w:=by
  go_enter Try.func69,Try.ntmps69
  go_wp2
  refine wp_loop_rounds 4 ?_
  rw [rounds_succ]
  go_wp2
  · go_ret
    refine ⟨?_,rfl⟩
    simp_all [orI]
  · rw [rounds_succ]
    go_wp2
    · go_ret
      refine ⟨?_,rfl⟩
      simp_all [orI]
    · rw [rounds_succ]
      go_wp2
      · go_ret
        refine ⟨?_,rfl⟩
        simp_all [orI]
      · rw [rounds_succ]
        go_wp2
        go_ret
        refine ⟨?_,rfl⟩
        simp_all [orI]
theorem mixedTry : Try.prog.follows .mixedOrders = true:=by kernel_rfl
def cfP (p q : Pl) : Int:=orI (ci p.1 q.1) (ci p.2.1 q.2.1) (ci p.2.2 q.2.2)
set_option maxRecDepth 100000 in
set_option maxHeartbeats 4000000 in
theorem plc_calls (p q : Pl) (w : World) : Calls Try.prog 68 #[.agg #[.int .i64 p.1,.int .i64 p.2.1,.int .i64 p.2.2],.agg #[.int .i64 q.1,.int .i64 q.2.1,.int .i64 q.2.2]] w fun e w' => e = .returned (.int .i64 (cfP p q)) ∧ ∃ n os',w' = Sort.grow (w.drewN n) os':=by
  have hc:=fun x y W => cmp_calls x y W
  unfold cfP
  generalize e1 : ci p.1 q.1 = c1
  generalize e2 : ci p.2.1 q.2.1 = c2
  generalize e3 : ci p.2.2 q.2.2 = c3
  have h1:=fun W => hc p.1 q.1 W
  have h2:=fun W => hc p.2.1 q.2.1 W
  have h3:=fun W => hc p.2.2 q.2.2 W
  rw [e1] at h1;rw [e2] at h2;rw [e3] at h3
  clear hc
  go_enter Try.func68,Try.ntmps68
  go_wp2
  have b1 : ((w.alloc (.cells #[.int .i64 p.1,.int .i64 p.2.1,.int .i64 p.2.2] 59)).alloc (.cells #[.int .i64 q.1,.int .i64 q.2.1,.int .i64 q.2.2] 59)).heap[w.heap.size]? = some (.cells #[.int .i64 p.1,.int .i64 p.2.1,.int .i64 p.2.2] 59 (0,0)):=(Below.heap_alloc _ _ _ (by simp)).trans (World.alloc_heap_new w _)
  have b2 : ((w.alloc (.cells #[.int .i64 p.1,.int .i64 p.2.1,.int .i64 p.2.2] 59)).alloc (.cells #[.int .i64 q.1,.int .i64 q.2.1,.int .i64 q.2.2] 59)).heap[w.heap.size + 1]? = some (.cells #[.int .i64 q.1,.int .i64 q.2.1,.int .i64 q.2.2] 59 (0,0)):=by
    have:=World.alloc_heap_new (w.alloc (.cells #[.int .i64 p.1,.int .i64 p.2.1,.int .i64 p.2.2] 59)) (.cells #[.int .i64 q.1,.int .i64 q.2.1,.int .i64 q.2.2] 59)
    rwa [World.size_alloc] at this
  have hW : (w.alloc (.cells #[.int .i64 p.1,.int .i64 p.2.1,.int .i64 p.2.2] 59)).alloc (.cells #[.int .i64 q.1,.int .i64 q.2.1,.int .i64 q.2.2] 59) = Sort.grow w #[.cells #[.int .i64 p.1,.int .i64 p.2.1,.int .i64 p.2.2] 59,.cells #[.int .i64 q.1,.int .i64 q.2.1,.int .i64 q.2.2] 59]:=by rw [Sort.alloc_eq_grow,Sort.alloc_eq_grow,Sort.grow_grow];rfl
  generalize (w.alloc (.cells #[.int .i64 p.1,.int .i64 p.2.1,.int .i64 p.2.2] 59)).alloc (.cells #[.int .i64 q.1,.int .i64 q.2.1,.int .i64 q.2.2] 59) = W2 at b1 b2 hW ⊢
  generalize w.heap.size = s at b1 b2 ⊢
  have a0 : W2.cell? ⟨s,0,none⟩ = some (.int .i64 p.1):=by simp [World.cell?,b1]
  have a1 : W2.cell? ⟨s,1,none⟩ = some (.int .i64 p.2.1):=by simp [World.cell?,b1]
  have a2 : W2.cell? ⟨s,2,none⟩ = some (.int .i64 p.2.2):=by simp [World.cell?,b1]
  have a3 : W2.cell? ⟨s + 1,0,none⟩ = some (.int .i64 q.1):=by simp [World.cell?,b2]
  have a4 : W2.cell? ⟨s + 1,1,none⟩ = some (.int .i64 q.2.1):=by simp [World.cell?,b2]
  have a5 : W2.cell? ⟨s + 1,2,none⟩ = some (.int .i64 q.2.2):=by simp [World.cell?,b2]
  clear b1 b2
  have A : Aside (W2 = Sort.grow w #[.cells #[.int .i64 p.1,.int .i64 p.2.1,.int .i64 p.2.2] 59,.cells #[.int .i64 q.1,.int .i64 q.2.1,.int .i64 q.2.2] 59]):=hW
  clear hW
  refine wp_region_still_tail 15 mixedTry (by kernel_rfl) ?_
  simp only [List.take_succ_cons,List.take_zero,List.drop_succ_cons,List.drop_zero]
  iterate 4 still_step
  still_call (h1 _)
  iterate 4 still_step
  still_call (h2 _)
  iterate 4 still_step
  still_call (h3 _)
  refine wpStill_nil ?_
  clear h1 h2 h3
  clear a0 a1 a2 a3 a4 a5
  go_wp2_with (go_at_call 69;refine (or_calls c1 c2 c3 _ 3 _ (by go_simp) (by go_simp) (by go_simp)).mono ?_;rintro e w' ⟨rfl,hw⟩;rw [hw])
  have A : W2 = _:=A
  have hend : (W2.alloc (.cells #[.int .i64 c1,.int .i64 c2,.int .i64 c3] 3)).drew = Sort.grow (w.drewN 1) (#[.cells #[.int .i64 p.1,.int .i64 p.2.1,.int .i64 p.2.2] 59,.cells #[.int .i64 q.1,.int .i64 q.2.1,.int .i64 q.2.2] 59] ++ #[.cells #[.int .i64 c1,.int .i64 c2,.int .i64 c3] 3]):=by
    rw [A,Sort.alloc_eq_grow,Sort.grow_grow]
    rfl
  clear A
  go_ret
  exact ⟨rfl,1,_,hend⟩
def plt (p q : Pl) : Bool:=decide (p.1 < q.1 ∨ (p.1 = q.1 ∧ (p.2.1 < q.2.1 ∨ (p.2.1 = q.2.1 ∧ p.2.2 < q.2.2))))
theorem lt_cfP (p q : Pl) : ltOf cfP p q = plt p q:=by
  obtain ⟨a,b,c⟩:=p
  obtain ⟨x,y,z⟩:=q
  unfold ltOf cfP plt orI ci
  simp only [decide_eq_decide]
  constructor
  · intro h
    (repeat' split at h) <;> omega
  · intro h
    (repeat' split) <;> omega
theorem swoP : Sort.SWO (ltOf cfP) where
  irrefl x:=by rw [lt_cfP];simp [plt]
  trans x y z h1 h2:=by rw [lt_cfP] at *;simp only [plt,decide_eq_true_eq] at *;omega
  ntrans x y z h1 h2:=by rw [lt_cfP] at *;simp only [plt,decide_eq_false_iff_not] at *;omega
def sortPl_ren : Go.Shelf.Ren:=⟨fun | 6 => 82 | 15 => 91 | 14 => 90 | 28 => 101 | 29 => 102 | 20 => 93 | 21 => 94 | 22 => 95 | 23 => 96 | 24 => 97 | 25 => 98 | 26 => 99 | 27 => 100 | 46 => 103 | 47 => 104 | 48 => 105 | 49 => 106 | 50 => 107 | 57 => 108 | n => n,fun | 22 => 80 | 24 => 59 | 25 => 133 | 3 => 3 | 39 => 155 | 0 => 0 | 53 => 165 | 55 => 27 | 4 => 4 | 46 => 159 | 45 => 158 | 50 => 40 | 5 => 5 | 9 => 9 | 66 => 167 | 70 => 171 | 76 => 173 | 77 => 174 | n => n,fun | n => n⟩
theorem sortPl : Go.Proofs.SlLaysF0.n6 Try.prog sortPl_ren:={
  mixed:=by kernel_rfl
  f6:=⟨Try.f82.name,by decide,Try.func82.trans (congrArg some (by kernel_rfl))⟩
  f14:=⟨Try.f90.name,by decide,Try.func90.trans (congrArg some (by kernel_rfl))⟩
  f15:=Try.func91.trans (congrArg some (by kernel_rfl))
  f20:=⟨Try.f93.name,by decide,Try.func93.trans (congrArg some (by kernel_rfl))⟩
  f21:=⟨Try.f94.name,by decide,Try.func94.trans (congrArg some (by kernel_rfl))⟩
  f22:=⟨Try.f95.name,by decide,Try.func95.trans (congrArg some (by kernel_rfl))⟩
  f23:=⟨Try.f96.name,by decide,Try.func96.trans (congrArg some (by kernel_rfl))⟩
  f24:=⟨Try.f97.name,by decide,Try.func97.trans (congrArg some (by kernel_rfl))⟩
  f25:=⟨Try.f98.name,by decide,Try.func98.trans (congrArg some (by kernel_rfl))⟩
  f26:=⟨Try.f99.name,by decide,Try.func99.trans (congrArg some (by kernel_rfl))⟩
  f27:=⟨Try.f100.name,by decide,Try.func100.trans (congrArg some (by kernel_rfl))⟩
  f28:=Try.func101.trans (congrArg some (by kernel_rfl))
  f29:=Try.func102.trans (congrArg some (by kernel_rfl))
  f46:=⟨Try.f103.name,by decide,Try.func103.trans (congrArg some (by kernel_rfl))⟩
  f47:=Try.func104.trans (congrArg some (by kernel_rfl))
  f48:=Try.func105.trans (congrArg some (by kernel_rfl))
  f49:=⟨Try.f106.name,by decide,Try.func106.trans (congrArg some (by kernel_rfl))⟩
  f50:=⟨Try.f107.name,by decide,Try.func107.trans (congrArg some (by kernel_rfl))⟩
  f57:=⟨Try.f108.name,by decide,Try.func108.trans (congrArg some (by kernel_rfl))⟩
  t0:=Try.underlying0
  a0:=Try.isAgg0
  z0:=Try.sizeOf0
  v0:=Try.zeroValue0
  t3:=Try.underlying3
  a3:=Try.isAgg3
  z3:=Try.sizeOf3
  v3:=Try.zeroValue3
  t4:=Try.underlying4
  a4:=Try.isAgg4
  z4:=Try.sizeOf4
  v4:=Try.zeroValue4
  t5:=Try.underlying5
  a5:=Try.isAgg5
  z5:=Try.sizeOf5
  v5:=Try.zeroValue5
  t9:=Try.underlying9
  a9:=Try.isAgg9
  z9:=Try.sizeOf9
  v9:=Try.zeroValue9
  t22:=Try.underlying80
  a22:=Try.isAgg80
  z22:=Try.sizeOf80
  v22:=Try.zeroValue80
  t25:=Try.underlying133
  a25:=Try.isAgg133
  z25:=Try.sizeOf133
  v25:=Try.zeroValue133
  t39:=Try.underlying155
  a39:=Try.isAgg155
  z39:=Try.sizeOf155
  v39:=Try.zeroValue155
  t45:=Try.underlying158
  a45:=Try.isAgg158
  z45:=Try.sizeOf158
  v45:=Try.zeroValue158
  t46:=Try.underlying159
  a46:=Try.isAgg159
  z46:=Try.sizeOf159
  v46:=Try.zeroValue159
  t50:=Try.underlying40
  a50:=Try.isAgg40
  z50:=Try.sizeOf40
  v50:=Try.zeroValue40
  t53:=Try.underlying165
  a53:=Try.isAgg165
  z53:=Try.sizeOf165
  v53:=Try.zeroValue165
  t55:=Try.underlying27
  a55:=Try.isAgg27
  z55:=Try.sizeOf27
  v55:=Try.zeroValue27
  t66:=Try.underlying167
  a66:=Try.isAgg167
  z66:=Try.sizeOf167
  v66:=Try.zeroValue167
  t70:=Try.underlying171
  a70:=Try.isAgg171
  z70:=Try.sizeOf171
  v70:=Try.zeroValue171
  t76:=Try.underlying173
  a76:=Try.isAgg173
  z76:=Try.sizeOf173
  v76:=Try.zeroValue173
  t77:=Try.underlying174
  a77:=Try.isAgg174
  z77:=Try.sizeOf174
  v77:=Try.zeroValue174 }
def RowPW (base : Nat) (W : World) (v : Value) (ps : List Pl) : Prop :=
  (v = .slice none 0 0 ∧ ps = []) ∨ ∃ g cap cur,v = .slice (some ⟨g,0,none⟩) ps.length cap ∧ base ≤ g ∧ W.heap[g]? = some (.cells cur 59 (0,0)) ∧ ps.length ≤ cap ∧
    ∀ i p,ps[i]? = some p → cur[i * 3]? = some (.int .i64 p.1) ∧ cur[i * 3 + 1]? = some (.int .i64 p.2.1) ∧ cur[i * 3 + 2]? = some (.int .i64 p.2.2)
theorem pCells_get : ∀ (ps : List Pl) (i : Nat) (p : Pl),ps[i]? = some p → (pCells ps)[i * 3]? = some (.int .i64 p.1) ∧ (pCells ps)[i * 3 + 1]? = some (.int .i64 p.2.1) ∧ (pCells ps)[i * 3 + 2]? = some (.int .i64 p.2.2)
  | [],i,p,h => by simp at h
  | q :: ps,0,p,h => by
    simp only [List.getElem?_cons_zero,Option.some.injEq] at h
    subst h
    exact ⟨rfl,rfl,rfl⟩
  | q :: ps,i + 1,p,h => by
    simp only [List.getElem?_cons_succ] at h
    obtain ⟨h1,h2,h3⟩:=pCells_get ps i p h
    have e : pCells (q :: ps) = .int .i64 q.1 :: .int .i64 q.2.1 :: .int .i64 q.2.2 :: pCells ps:=rfl
    rw [e]
    refine ⟨?_,?_,?_⟩
    · rw [show (i + 1) * 3 = i * 3 + 1 + 1 + 1 by omega];simp only [List.getElem?_cons_succ];exact h1
    · rw [show (i + 1) * 3 + 1 = i * 3 + 1 + 1 + 1 + 1 by omega];simp only [List.getElem?_cons_succ];exact h2
    · rw [show (i + 1) * 3 + 2 = i * 3 + 2 + 1 + 1 + 1 by omega];simp only [List.getElem?_cons_succ];exact h3
theorem holds_row {W : World} {g : Nat} {cur : Array Value} {ps : List Pl} (hg : W.heap[g]? = some (.cells cur 59 (0,0))) (hc : cur.toList.take (ps.length * 3) = pCells ps) : Sort.HoldsK pEnc 3 W g 0 ps.toArray:=by
  intro j hj
  have hj' : j < ps.length * 3:=by simpa [Sort.flatK] using hj
  have hi : j / 3 < ps.length:=by omega
  obtain ⟨q,hq⟩ : ∃ q,ps[j / 3]? = some q:=⟨_,List.getElem?_eq_getElem hi⟩
  obtain ⟨c0,c1,c2⟩:=pCells_get ps (j / 3) _ hq
  have hget : ∀ k,k < ps.length * 3 → cur[k]? = (pCells ps)[k]?:=fun k hk => by
    rw [← hc,List.getElem?_take_of_lt hk];simp
  refine ⟨?_,by simp [World.frozen?,hg]⟩
  rw [Sort.get_flatK pEnc 3 _ j (by simpa using hj')]
  have e1 : ps.toArray[j / 3]! = q:=by simp [hq]
  rw [e1]
  simp only [World.cell?,hg,Nat.zero_add,id]
  rw [hget j hj']
  have hm : j % 3 = 0 ∨ j % 3 = 1 ∨ j % 3 = 2:=by omega
  rcases hm with h | h | h
  · rw [h,show j = j / 3 * 3 by omega];simp only [Option.isSome_none,Bool.false_eq_true,if_false];rw [c0];rfl
  · rw [h,show j = j / 3 * 3 + 1 by omega];simp only [Option.isSome_none,Bool.false_eq_true,if_false];rw [c1];rfl
  · rw [h,show j = j / 3 * 3 + 2 by omega];simp only [Option.isSome_none,Bool.false_eq_true,if_false];rw [c2];rfl
theorem row_of_holds {W : World} {g : Nat} {cur : Array Value} {d : Array Pl} (hg : W.heap[g]? = some (.cells cur 59 (0,0))) (hH : Sort.HoldsK pEnc 3 W g 0 d) (i : Nat) (p : Pl) (hp : d.toList[i]? = some p) :
    cur[i * 3]? = some (.int .i64 p.1) ∧ cur[i * 3 + 1]? = some (.int .i64 p.2.1) ∧ cur[i * 3 + 2]? = some (.int .i64 p.2.2):=by
  have hi : i < d.size:=by simpa using (List.getElem?_eq_some_iff.1 hp).1
  have hd : d[i]! = p:=by
    rw [Array.getElem?_toList] at hp
    rw [getElem!_def,hp]
  have key : ∀ c,c < 3 → cur[i * 3 + c]? = some (pEnc p)[c]!:=fun c hc => by
    have:=(hH (i * 3 + c) (by simp [Sort.flatK];omega)).1
    rw [Sort.get_flatK pEnc 3 _ _ (by omega)] at this
    rw [show (i * 3 + c) / 3 = i by omega,show (i * 3 + c) % 3 = c by omega,hd] at this
    simpa [World.cell?,hg] using this
  exact ⟨key 0 (by omega),key 1 (by omega),key 2 (by omega)⟩
set_option maxHeartbeats 1000000 in
theorem collect_calls (Bm b c : Nat) (es : Array MapEntry) (kp : MapEntry → Pl) (w : World) (hbl : b < w.heap.size) (hst : MapKept.Stamped es c) (hkp : ∀ e ∈ es.toList,e.key = pKey (kp e))
    (hb : w.heap[b]? = some (.map es c)) (hBm : w.cell? ⟨Bm,0,none⟩ = some (.map (some b))) (hBl : Bm < w.heap.size) (hlen : es.size < 1099511627776) :
    Calls Try.prog 81 #[.func (.func 83) #[] #[.pointer (some ⟨Bm,0,none⟩)]] w fun e w' => ∃ v ps,e = .returned v ∧ ps.Perm (es.toList.map kp) ∧ w'.ownsRow w.heap.size 59 3 v ps.length (pCells ps) ∧ Below w.heap.size w w':=by
  have hg:=callsIn_wide.1 (gather_in Fence.wide rfl 2 trivial trivial rfl (Nat.le_refl _) Bm b c es kp w hbl hst hkp hb hBm hBl hlen)
  go_enter Try.func81,Try.ntmps81
  go_wp2_with (go_at_call 89;refine hg.mono ?_;rintro e w' ⟨v,ps,rfl,h1,h2,h3⟩)
  go_ret
  exact ⟨v,ps,rfl,h1,h2,h3⟩
set_option maxHeartbeats 1000000 in
theorem sort_calls (v : Value) (ps : List Pl) (base : Nat) (w : World) (hrow : w.ownsRow base 59 3 v ps.length (pCells ps)) (hlen : ps.length < 1099511627776) (hbase : base ≤ w.heap.size) :
    Calls Try.prog 82 #[v,.func (.func 68) #[] #[]] w fun e w' => e = .returned (.tuple #[]) ∧ ∃ qs,qs.Perm ps ∧ qs.Pairwise (fun a b => plt b a = false) ∧ RowPW base w' v qs ∧ Below base w w':=by
  rcases hrow.2 with ⟨rfl,h0⟩ | ⟨g,cap,cur,rfl,hbg,hg,hcap,hmax,hsz,hcur⟩
  · have hps : ps = []:=List.eq_nil_of_length_eq_zero h0
    subst hps
    have:=AnyF.slices_SortFunc_none sortPl none 0 (.func (.func 68) #[] #[]) w
    change Calls Try.prog 82 _ _ _ at this
    refine this.mono ?_
    rintro e w' ⟨rfl,rfl⟩
    exact ⟨rfl,[],List.Perm.refl _,List.Pairwise.nil,.inl ⟨rfl,rfl⟩,Below.refl _ _⟩
  · have hlt : g < w.heap.size:=(Array.getElem?_eq_some_iff.1 hg).1
    have hH:=holds_row hg hcur
    have eg : ∀ args w,(callFunc 68 args).run Try.prog w = .ok (.enter 68 args) w:=enters_of Try.func68 (by kernel_rfl) rfl
    have hcmp : CmpLays Try.prog 68 #[] pEnc 3 cfP g 0 ps.toArray.size w:=fun m os dk hs x y => plc_calls x y _
    have:=AnyQ.slices_SortFunc sortPl 3 Try.isAgg59 Try.sizeOf59 pEnc (fun _ => rfl) (fun x v hv => by simp [pEnc] at hv;rcases hv with rfl | rfl | rfl <;> rfl) cfP swoP 68 #[] g 0 cap ps.toArray w eg hcmp hH hlt (by simp;omega)
    change Calls Try.prog 82 _ _ _ at this
    have e1 : ps.toArray.size = ps.length:=by simp
    rw [e1] at this
    refine this.mono ?_
    rintro e w' ⟨rfl,d',n,os,hperm,hsort,rfl⟩
    obtain ⟨p1,p2,p3⟩:=hperm
    have hd : d'.size = ps.length:=by rw [p1,e1]
    have hP : d'.toList.Perm ps:=by
      have h1 : (d'.extract 0 ps.length).toList = d'.toList:=by rw [← hd];simp
      have h2 : (ps.toArray.extract 0 ps.length).toList = ps:=by rw [← e1];simp
      rw [h1,h2] at p3;exact p3
    have hH' : Sort.HoldsK pEnc 3 (Sort.putRowK pEnc 3 (Sort.ahead w n) g 0 d') g 0 d':=Sort.holdsK_putRowK pEnc 3 _ g 0 _ _ (Sort.holdsK_ahead pEnc 3 w n g 0 _ hH) (by rw [hd,e1])
    have hsz0 : (Sort.putRowK pEnc 3 (Sort.ahead w n) g 0 d').heap.size = w.heap.size:=by simp [Sort.putRowK,Sort.putRow,Sort.mapBlock,Sort.ahead]
    have hH2 : Sort.HoldsK pEnc 3 (sortWorldK pEnc 3 w g 0 n d' os) g 0 d':=Sort.holdsK_grow pEnc 3 _ os g 0 d' (by rw [hsz0];exact hlt) hH'
    obtain ⟨cur',hcur'⟩ : ∃ cur',(sortWorldK pEnc 3 w g 0 n d' os).heap[g]? = some (.cells cur' 59 (0,0)):=by
      refine ⟨Sort.putCells id 0 (Sort.flatK pEnc 3 d') cur,?_⟩
      show ((w.heap.modify g (Sort.onCells (Sort.putCells id 0 (Sort.flatK pEnc 3 d')))) ++ os)[g]? = _
      rw [Array.getElem?_append_left (by simpa using hlt),Array.getElem?_modify,if_pos rfl,hg]
      rfl
    have hfar : ∀ k,k < w.heap.size → k ≠ g → (sortWorldK pEnc 3 w g 0 n d' os).heap[k]? = w.heap[k]?:=fun k hk hne => by
      show ((w.heap.modify g _) ++ os)[k]? = _
      rw [Array.getElem?_append_left (by simpa using hk),Array.getElem?_modify,if_neg (Ne.symm hne)]
    refine ⟨rfl,d'.toList,hP,?_,.inr ⟨g,cap,cur',(by show Value.slice _ ps.toArray.size cap = _;rw [Array.length_toList,hd,e1]),hbg,hcur',by rw [Array.length_toList,hd];exact hcap,fun i p hp => row_of_holds hcur' hH2 i p hp⟩,⟨rfl,rfl,rfl,?_,fun k hk => hfar k (by omega) (by omega)⟩⟩
    · rw [List.pairwise_iff_getElem]
      intro i j hi hj hij
      have:=hsort i j (Nat.zero_le _) hij (by simpa [hd] using hj)
      rw [lt_cfP] at this
      simpa [show i < d'.size by simpa using hi,show j < d'.size by simpa using hj] using this
    · show w.heap.size ≤ ((w.heap.modify g _) ++ os).size
      simp
set_option maxHeartbeats 1000000 in
theorem sorted_calls (Bm b c : Nat) (es : Array MapEntry) (kp : MapEntry → Pl) (w : World) (hbl : b < w.heap.size) (hst : MapKept.Stamped es c) (hkp : ∀ e ∈ es.toList,e.key = pKey (kp e))
    (hb : w.heap[b]? = some (.map es c)) (hBm : w.cell? ⟨Bm,0,none⟩ = some (.map (some b))) (hBl : Bm < w.heap.size) (hlen : es.size < 1099511627776) :
    Calls Try.prog 66 #[.func (.func 83) #[] #[.pointer (some ⟨Bm,0,none⟩)],.func (.func 68) #[] #[]] w fun e w' => ∃ v qs,e = .returned v ∧ qs.Perm (es.toList.map kp) ∧ qs.Pairwise (fun a b => plt b a = false) ∧ RowPW w.heap.size w' v qs ∧ Below w.heap.size w w':=by
  have hg:=collect_calls Bm b c es kp w hbl hst hkp hb hBm hBl hlen
  go_enter Try.func66,Try.ntmps66
  go_wp2_with (first
    | (go_at_call 81;refine hg.mono ?_;rintro e w1 ⟨v,ps,rfl,h1,h2,h3⟩)
    | (go_at_call 82;refine (sort_calls v ps w.heap.size w1 h2 (by have:=h1.length_eq;simp at this;omega) h3.size).mono ?_;rintro e w2 ⟨rfl,qs,g1,g2,g3,g4⟩))
  go_ret
  exact ⟨v,qs,rfl,g1.trans h1,g2,g3,h3.trans g4⟩
set_option maxHeartbeats 1000000 in
theorem keys_calls (b : Nat) (w : World) : Calls Try.prog 67 #[.map (some b)] w fun e w' => e = .returned (.func (.func 83) #[] #[.pointer (some ⟨w.heap.size,0,none⟩)]) ∧ w' = w.alloc (.cells #[.map (some b)] 107):=by
  go_enter Try.func67,Try.ntmps67
  go_wp2
  go_ret
  exact ⟨rfl,rfl⟩
set_option maxHeartbeats 1000000 in
theorem places_calls (a b c : Nat) (es : Array MapEntry) (kp : MapEntry → Pl) (w : World) (ha : w.cell? ⟨a,0,none⟩ = some (.map (some b))) (hst : MapKept.Stamped es c) (hkp : ∀ e ∈ es.toList,e.key = pKey (kp e))
    (hb : w.heap[b]? = some (.map es c)) (hlen : es.size < 1099511627776) :
    Calls Try.prog 40 #[.pointer (some ⟨a,0,none⟩)] w fun e w' => ∃ v qs,e = .returned v ∧ qs.Perm (es.toList.map kp) ∧ qs.Pairwise (fun a b => plt b a = false) ∧ RowPW w.heap.size w' v qs ∧ Below w.heap.size w w':=by
  have hbl : b < w.heap.size:=(Array.getElem?_eq_some_iff.1 hb).1
  have hbox:=World.alloc_heap_new w (.cells #[.map (some b)] 107)
  have hB : Below w.heap.size w (w.alloc (.cells #[.map (some b)] 107)):=(Below.refl _ w).alloc (Nat.le_refl _) _
  have hs:=sorted_calls w.heap.size b c es kp (w.alloc (.cells #[.map (some b)] 107)) (by simp;omega) hst hkp ((hB.block b hbl).trans hb) (cell_of_box hbox).1 (by simp) hlen
  have hk:=keys_calls b w
  clear hbox
  go_enter Try.func40,Try.ntmps40
  go_wp2_with (first
    | (go_at_call 67;refine hk.mono ?_;rintro e w1 ⟨rfl,hw1⟩;rw [hw1])
    | (go_at_call 66;refine hs.mono ?_;rintro e w2 ⟨v,qs,rfl,g1,g2,g3,g4⟩))
  go_ret
  refine ⟨v,qs,rfl,g1,g2,?_,hB.trans (g4.mono (by simp))⟩
  rcases g3 with g3 | ⟨g,cap,cur,x1,x2,x3⟩
  · exact .inl g3
  · exact .inr ⟨g,cap,cur,x1,by simp at x2;omega,x3⟩
end Go.Proofs.Ytnlohongffpkpaa.T16
end

section
namespace Go.Proofs.Ytnlohongffpkpaa.T16
open Go Go.RowKit Go.Proofs.Ytnlohongffpkpaa.Sx Go.Proofs
set_option linter.unusedVariables false
set_option linter.unusedSimpArgs false
def RowP (m : Mem) (v : Value) (ps : List Pl) : Prop :=
  (v = .slice none 0 0 ∧ ps = []) ∨ ∃ g cap cur,v = .slice (some ⟨g,0,none⟩) ps.length cap ∧ m g = some (.cells cur 59 (0,0)) ∧ ps.length ≤ cap ∧
    ∀ i p,ps[i]? = some p → cur[i * 3]? = some (.int .i64 p.1) ∧ cur[i * 3 + 1]? = some (.int .i64 p.2.1) ∧ cur[i * 3 + 2]? = some (.int .i64 p.2.2)
section
variable {m m' : Mem} {v : Value} {ps : List Pl}
theorem RowP.sl (h : RowP m v ps) : pl v = v ∧ isSlV v = true ∧ slN v = ps.length:=by
  rcases h with ⟨rfl,rfl⟩ | ⟨g,cap,cur,rfl,_⟩ <;> exact ⟨rfl,rfl,rfl⟩
theorem RowP.more (h : RowP m v ps) (hm : ∀ a : Nat,slB v = (a : Int) + 1 → m a ≠ none → m' a = m a) : RowP m' v ps:=by
  rcases h with ⟨rfl,rfl⟩ | ⟨g,cap,cur,rfl,h1,h2,h3⟩
  · exact .inl ⟨rfl,rfl⟩
  · exact .inr ⟨g,cap,cur,rfl,(hm g rfl (by rw [h1];simp)).trans h1,h2,h3⟩
theorem RowP.there (h : RowP m v ps) {a : Nat} (ha : slB v = (a : Int) + 1) : m a ≠ none:=by
  rcases h with ⟨rfl,rfl⟩ | ⟨g,cap,cur,rfl,h1,h2,h3⟩
  · simp only [slB] at ha;omega
  · simp only [slB] at ha
    have : g = a:=by omega
    rw [← this,h1];simp
theorem RowP.get (h : RowP m v ps) {i : Nat} {p : Pl} (hp : ps[i]? = some p) :
    inSl v (i : Int) = true ∧ okL m (slB v) (aOff (slO v) i 3) [.li .i64 0,.li .i64 0,.li .i64 0] = true ∧ gI m (slB v) (aOff (slO v) i 3) = p.1 ∧ gI m (slB v) (.succ (aOff (slO v) i 3)) = p.2.1 ∧ gI m (slB v) (.succ (.succ (aOff (slO v) i 3))) = p.2.2:=by
  have hlt : i < ps.length:=(List.getElem?_eq_some_iff.1 hp).1
  rcases h with ⟨rfl,rfl⟩ | ⟨g,cap,cur,rfl,h1,h2,h3⟩
  · simp at hlt
  obtain ⟨c0,c1,c2⟩:=h3 i p hp
  have ea : aOff 0 (i : Int) 3 = i * 3:=by simp [aOff]
  have eb : (i * 3).succ = i * 3 + 1:=rfl
  have ec : (i * 3 + 1).succ = i * 3 + 2:=rfl
  simp only [slB,slO,ea,eb,ec]
  refine ⟨?_,?_,?_,?_,?_⟩
  · have : Nat.ble ps.length cap = true:=Nat.ble_eq_true_of_le h2
    simp [inSl,isSl,slN,this,hlt]
  · unfold okL;rw [mget_of h1]
    simp only [okR,c0,c1,c2,okC,isK,decide_true,Bool.and_self]
  · unfold gI mcell;rw [mget_of h1];simp [c0,vI]
  · unfold gI mcell;rw [mget_of h1];simp [c1,vI]
  · unfold gI mcell;rw [mget_of h1];simp [c2,vI]
end
theorem dom_iff {G : GG} {m : Mem} (h : G.is m) {es : Array MapEntry} {c : Nat} (hm : m G.mr = some (.map es c)) (p : Pl) : (∃ e ∈ es.toList,e.key = pKey p) ↔ (G.R p).isSome = true:=by
  obtain ⟨es',c',k1,k2,k3,k4⟩:=h.kr
  rw [hm] at k1;cases k1
  have key : okP' p → ((∃ e ∈ es.toList,e.key = pKey p) ↔ (G.R p).isSome = true):=fun hp => by
    have hl:=h.lr p hp
    constructor
    · rintro ⟨e,he,ek⟩
      have:=(h.kr.look (okKey59 hp).2 e.val).2 ⟨es,c,hm,e,he,ek,rfl⟩
      rw [hl] at this
      cases hR : G.R p with
      | none => rw [hR] at this;cases this
      | some X => rfl
    · intro hR
      obtain ⟨X,hX⟩:=Option.isSome_iff_exists.1 hR
      rw [hX] at hl
      obtain ⟨es',c',e1,e,he,ek,_⟩:=(h.kr.look (okKey59 hp).2 _).1 hl
      rw [hm] at e1;cases e1
      exact ⟨e,he,ek⟩
  constructor
  · rintro ⟨e,he,ek⟩
    obtain ⟨l,hl⟩:=k2 e he
    obtain ⟨q,hq,hq2⟩:=key59_inv hl
    have : p = q:=pKey_inj (ek.symm.trans hq)
    subst this
    exact (key hq2).1 ⟨e,he,ek⟩
  · intro hR
    obtain ⟨X,hX⟩:=Option.isSome_iff_exists.1 hR
    exact (key (h.st p X hX).2.2).2 hR
def placesPre (G : GG) (m : Mem) (t : Int) : Prop:=t = (G.g : Int) + 1 ∧ G.is m ∧ ∀ L : List Pl,L.Nodup → (∀ p ∈ L,(G.R p).isSome = true) → L.length < 1099511627776
def placesPost (m : Mem) (G : GG) (y : Vars) : Prop:=∃ ps : List Pl,RowP y.m (hdV y.v) ps ∧ ps.Nodup ∧ (∀ p,p ∈ ps ↔ (G.R p).isSome = true) ∧ ps.Pairwise (fun a b => plt b a = false) ∧ (∀ a,m a ≠ none → y.m a = m a) ∧ ∀ a : Nat,slB (hdV y.v) = (a : Int) + 1 → m a = none
def placesP (m : Mem) (t : Int) : Prop:=∃ G,placesPre G m t
def placesQ (m : Mem) (t : Int) (y : Vars) : Prop:=∀ G,placesPre G m t → placesPost m G y
def s_places : Sum:=memSum 40 fun m a => match a with | [a0] => (match ptrOf a0 with | some t => some ⟨placesP m t,placesQ m t,fun y => .u (.c (.sv (hdV y.v)))⟩ | _ => none) | _ => none
theorem nodup_map_kp {kp : MapEntry → Pl} {l : List MapEntry} (hp : l.Pairwise fun a b => a.key ≠ b.key) (hk : ∀ e ∈ l,e.key = pKey (kp e)) : (l.map kp).Nodup:=by
  induction l with
  | nil => simp
  | cons e l ih =>
    rw [List.pairwise_cons] at hp
    rw [List.map_cons,List.nodup_cons]
    refine ⟨fun hm => ?_,ih hp.2 fun x hx => hk x (by simp [hx])⟩
    obtain ⟨x,hx,ex⟩:=List.mem_map.1 hm
    exact hp.1 x hx (by rw [hk e (by simp),hk x (by simp [hx]),ex])
theorem s_places_ok : SumOK Try.prog s_places:=by
  refine memSum_ok ⟨_,Try.func40,by kernel_rfl⟩ fun m args ms h hp hwf ρ w hm => ?_
  split at h
  · split at h
    · rename_i a0 _ t h0
      cases h
      obtain ⟨G,rfl,hG,hN⟩:=hp
      obtain ⟨es,c,k1,k2,k3,k4⟩:=id hG.kr
      have hkp : ∃ kp : MapEntry → Pl,∀ e ∈ es.toList,e.key = pKey (kp e):=by
        classical
        refine ⟨fun e => if h : ∃ p,e.key = pKey p then Classical.choose h else (0,0,0),fun e he => ?_⟩
        obtain ⟨l,hl⟩:=k2 e he
        obtain ⟨q,hq,_⟩:=key59_inv hl
        have hex : ∃ p,e.key = pKey p:=⟨q,hq⟩
        simp only [dif_pos hex]
        exact Classical.choose_spec hex
      obtain ⟨kp,hkp⟩:=hkp
      have hv : (List.map (V.den ρ) [a0]).toArray = #[.pointer (some ⟨G.g,0,none⟩)]:=by
        rw [List.map_cons,List.map_nil,ptrOf_den h0]
        show #[pv ((G.g : Int) + 1) 0] = _
        rw [pv_succ]
      rw [hv]
      have hnd:=nodup_map_kp k3 hkp
      have hmem : ∀ p,p ∈ es.toList.map kp ↔ ∃ e ∈ es.toList,e.key = pKey p:=fun p => by
        rw [List.mem_map]
        constructor
        · rintro ⟨e,he,rfl⟩;exact ⟨e,he,hkp e he⟩
        · rintro ⟨e,he,ek⟩;exact ⟨e,he,pKey_inj ((hkp e he).symm.trans ek)⟩
      have hlen : es.size < 1099511627776:=by
        have:=hN _ hnd fun p hp => (dom_iff hG k1 p).1 ((hmem p).1 hp)
        simpa using this
      have ha : w.cell? ⟨G.g,0,none⟩ = some (.map (some G.mr)):=by
        have:=hm _ _ hG.hd
        unfold World.cell?;rw [this];rfl
      refine (places_calls G.g G.mr c es kp w ha k4 hkp (hm _ _ k1) hlen).mono ?_
      rintro e w' ⟨v,ps,rfl,hperm,hsort,hrow,hb⟩
      have ltm : ∀ a o,m a = some o → a < w.heap.size:=fun a o h => (Array.getElem?_eq_some_iff.1 (hm a o h)).1
      have post : ∀ m',RowP m' v ps → (∀ a,m a ≠ none → m' a = m a) → (∀ a : Nat,slB v = (a : Int) + 1 → m a = none) → placesQ m ((G.g : Int) + 1) ⟨[],[],[v],m'⟩:=by
        intro m' r1 r2 r3 G' hG'
        obtain ⟨g1,g2,_⟩:=hG'
        have eg : G'.g = G.g:=by omega
        have er : G'.mr = G.mr:=by
          have:=g2.hd
          rw [eg,hG.hd] at this
          simp only [gO,Option.some.injEq,Obj.cells.injEq,Array.mk.injEq,List.cons.injEq,Value.map.injEq] at this
          exact this.1.1.symm
        refine ⟨ps,r1,hperm.nodup_iff.2 hnd,fun p => ?_,hsort,r2,r3⟩
        rw [hperm.mem_iff,hmem]
        exact dom_iff g2 (er ▸ k1) p
      rcases hrow with ⟨rfl,rfl⟩ | ⟨g,cap,cur,rfl,hg0,hg,h1,h2⟩
      · exact ⟨⟨[],[],[.slice none 0 0],m⟩,post m (.inl ⟨rfl,rfl⟩) (fun _ _ => rfl) (fun a ha => by simp only [slB] at ha;omega),rfl,⟨hb.os,hb.tape,hb.output,hb.size,fun a o h => (hb.block a (ltm a o h)).trans (hm a o h),fun k hk _ => hb.block k hk,fun a o h => .inl (by have h : m a = some o:=h;rw [h];simp)⟩⟩
      · have hgn : m g = none:=by
          cases h : m g with
          | none => rfl
          | some o => have:=ltm g o h;omega
        refine ⟨⟨[],[],[.slice (some ⟨g,0,none⟩) ps.length cap],alO m g (.cells cur 59 (0,0))⟩,post _ (.inr ⟨g,cap,cur,rfl,alO_self _ _ _,h1,h2⟩) (fun a ha => alO_ne _ (by rintro rfl;exact ha hgn)) (fun a ha => ?_),rfl,⟨hb.os,hb.tape,hb.output,hb.size,fun a o h => ?_,fun k hk _ => hb.block k hk,fun a o h => ?_⟩⟩
        · simp only [slB] at ha
          have : g = a:=by omega
          rw [← this];exact hgn
        · show w'.heap[a]? = _
          simp only [alO] at h
          by_cases e : a = g
          · rw [if_pos e] at h;cases h;subst e;exact hg
          · rw [if_neg e] at h;exact (hb.block a (ltm a o h)).trans (hm a o h)
        · simp only [alO] at h
          by_cases e : a = g
          · subst e;exact .inr hg0
          · rw [if_neg e] at h;exact .inl (by rw [h];simp)
    · cases h
  · cases h
end Go.Proofs.Ytnlohongffpkpaa.T16
end

section
namespace Go.Proofs.Ytnlohongffpkpaa.T16
open Go Go.RowKit Go.Proofs.Ytnlohongffpkpaa.Sx Go.Proofs
set_option linter.unusedVariables false
set_option linter.unusedSimpArgs false
def s_gworks : Sum:={ f:=28,s:=fun args => match args with | [] => some ([],.u (.c (.lb true))) | _ => none }
theorem s_gworks_ok : SumOK Try.prog s_gworks:=by
  refine ⟨⟨(fun _ h => by cases h),(fun _ h => by cases h),(fun _ h => by cases h)⟩,.inr ⟨rfl,.inr ⟨rfl,.inr ⟨rfl,⟨_,Try.func28,by kernel_rfl⟩,fun args bs r ρ w hs hb => ?_⟩⟩⟩⟩
  simp only [s_gworks] at hs
  split at hs
  · cases hs
    exact pure_to nameOK okn (dOK okn) 600 [] (T:=.leaf (.val (.u (.c (.lb true))))) (by kernel_rfl) ρ rfl (by simp only [Tr.all]) w
  · cases hs
theorem GG.is.no {G : GG} {m : Mem} (h : G.is m) {p : Pl} {k : Hn} (hk : k ∉ hsO (G.R p)) : G.N p k = none:=by
  cases e : G.N p k with
  | none => rfl
  | some n =>
    obtain ⟨X,hX,hx⟩:=(h.nh p k).1 (by rw [e];rfl)
    rw [hX] at hk;exact absurd hx hk
structure DrS (G : GG) (p q : Pl) (tr : Bool) (W H : List Hn) : Prop where
  pW : hsO (G.R p) = W
  pk : ∀ X,G.R p = some X → X.tree = tr
  qH : hsO (G.R q) = H
  qk : ∀ X,G.R q = some X → X.tree = false
  oth : ∀ r,r ≠ p → r ≠ q → G.R r = none
  np : ∀ k n,G.N p k = some n → n = 8
  nq : ∀ k n,G.N q k = some n → n = 16
section
variable {G : GG} {m : Mem} {p q : Pl} {tr : Bool} {W H : List Hn}
theorem DrS.gone (s : DrS G p q tr W H) (hpq : p ≠ q) {G' : GG} (hR : ∀ r,G'.R r = if r = p then none else G.R r) (hN : ∀ r k,G'.N r k = if r = p then none else G.N r k) (tr' : Bool) : DrS G' p q tr' [] H:=by
  refine ⟨by rw [hR];simp [hsO],fun X hX => ?_,by rw [hR,if_neg (Ne.symm hpq)];exact s.qH,fun X hX => ?_,fun r h1 h2 => by rw [hR,if_neg h1];exact s.oth r h1 h2,fun j n hj => ?_,fun j n hj => ?_⟩
  · rw [hR,if_pos rfl] at hX;cases hX
  · rw [hR,if_neg (Ne.symm hpq)] at hX;exact s.qk X hX
  · rw [hN,if_pos rfl] at hj;cases hj
  · rw [hN,if_neg (Ne.symm hpq)] at hj;exact s.nq j n hj
end
theorem SlH.one {m : Mem} {s g : Int} {a : Nat} : SlH (alM m ((a : Int) + 1) (.mk [.int .i64 s,.int .u64 g]) 29) (slOf ((a : Int) + 1) 1) [(s,g)]:=by
  rw [alM_alO]
  have : slOf ((a : Int) + 1) 1 = .slice (some ⟨a,0,none⟩) ([(s,g)] : List Hn).length 1:=by
    unfold slOf;rw [show ((a : Int) + 1).toNat = a + 1 by omega];rfl
  rw [this]
  exact SlH.of (by simp) (alO_self _ _ _) (by simp) (by simp [isPlain]) (by simp [hCells])
theorem DrS.hW {G : GG} {p q : Pl} {tr : Bool} {W H : List Hn} (s : DrS G p q tr W H) : hsO (G.R p) = W:=s.pW
theorem GG.to.beside {G G' : GG} {m m' : Mem} (h : G.to G' m m') {v : Value} {hs : List Hn} (hv : SlH m v hs) (ho : ∀ a : Nat,slB v = (a : Int) + 1 → ¬ G.dom a) : SlH m' v hs ∧ ∀ a : Nat,slB v = (a : Int) + 1 → ¬ G'.dom a:=by
  refine ⟨hv.more fun a ha hn => h.keep a hn (ho a ha),fun a ha hd => ?_⟩
  rcases h.dom a hd with h1 | h1
  · exact ho a ha h1
  · rcases hv.inv with ⟨rfl,_⟩ | ⟨b,o,c,cs,ty,rfl,_,h2,_⟩
    · simp only [slB] at ha;omega
    · simp only [slB] at ha
      have : b = a:=by omega
      subst this
      rw [h2] at h1;cases h1
end Go.Proofs.Ytnlohongffpkpaa.T16
end

section
namespace Go.Proofs.Ytnlohongffpkpaa.T16
open Go Go.RowKit Go.Proofs.Ytnlohongffpkpaa.Sx Go.Proofs Go.WideShapes Go.ChangeShapes
set_option linter.unusedVariables false
set_option linter.unusedSimpArgs false
def both (m1 m2 : Mem) : Mem:=fun a => match m1 a with | some o => some o | none => m2 a
end Go.Proofs.Ytnlohongffpkpaa.T16
end

section
namespace Go.Proofs.Ytnlohongffpkpaa.T16
open Go Go.RowKit Go.Proofs.Ytnlohongffpkpaa.Sx Go.Proofs Go.WideShapes Go.ChangeShapes
set_option linter.unusedVariables false
set_option linter.unusedSimpArgs false
theorem SlH.there {m : Mem} {v : Value} {hs : List Hn} (h : SlH m v hs) {a : Nat} (ha : slB v = (a : Int) + 1) : m a ≠ none:=by
  rcases h.inv with ⟨rfl,_⟩ | ⟨b,o,c,cs,ty,rfl,_,h2,_⟩
  · simp only [slB] at ha;omega
  · simp only [slB] at ha
    have : b = a:=by omega
    subst this
    rw [h2];simp
end Go.Proofs.Ytnlohongffpkpaa.T16
end

section
namespace Go.Proofs.Ytnlohongffpkpaa.T16
open Go Go.RowKit Go.Proofs.Ytnlohongffpkpaa.Sx Go.Proofs
set_option linter.unusedVariables false
set_option linter.unusedSimpArgs false
theorem listB_iff (r : Option Str) : listB r = true ↔ kindO r = 1:=by
  cases r with
  | none => simp [listB,kindO]
  | some X => simp only [kindO,listB];cases X.tree <;> simp
theorem treeB_iff (r : Option Str) : treeB r = true ↔ kindO r = 2:=by
  cases r with
  | none => simp [treeB,kindO]
  | some X => simp only [kindO,treeB];cases X.tree <;> simp
section
variable {G : GG} {m : Mem} {p : Pl} {k : Hn}
end
structure Out (G G' : GG) (m m' : Mem) (p : Pl) (k : Hn) : Prop where
  to : G.to G' m m'
  oth : ∀ q,q ≠ p → G'.R q = G.R q
  sub : ∀ r j n,G'.N r j = some n → G.N r j = some n ∨ (r = p ∧ j = k ∧ n = 8)
  len : (hsO (G'.R p)).length ≤ (hsO (G.R p)).length + 1
section
variable {G : GG} {m : Mem} {p : Pl} {k : Hn}
theorem Out.same (h : G.is m) {m' : Mem} (hm : ∀ a,m a ≠ none → m' a = m a) : Out G G m m' p k :=
  ⟨⟨h.congr fun a ha => hm a (h.there ha),rfl,fun _ ha => .inl ha,fun a ha _ => hm a ha⟩,fun _ _ => rfl,fun _ _ _ hn => .inl hn,by omega⟩
theorem Out.come {m' : Mem} {X' : Str} (ht : G.to (G.come p k 8 X') m m') (hl : X'.hs.length ≤ (hsO (G.R p)).length + 1) : Out G (G.come p k 8 X') m m' p k:=by
  refine ⟨ht,fun q hq => if_neg hq,fun r j n hn => ?_,?_⟩
  · have hn : updN G.N p k (some 8) r j = some n:=hn
    simp only [updN] at hn
    split at hn
    · rename_i h;cases hn;exact .inr ⟨h.1,h.2,rfl⟩
    · exact .inl hn
  · show (hsO (upd1 G.R p (some X') p)).length ≤ _
    rw [show upd1 G.R p (some X') p = some X' from if_pos rfl];exact hl
theorem Out.go {m' : Mem} {X' : Str} {j : Hn} {n : Int} (ht : G.to (G.go p j n X') m m') (hl : X'.hs.length ≤ (hsO (G.R p)).length) : Out G (G.go p j n X') m m' p k:=by
  refine ⟨ht,fun q hq => if_neg hq,fun r i n' hn => ?_,?_⟩
  · have hn : updN G.N p j none r i = some n':=hn
    simp only [updN] at hn
    split at hn
    · cases hn
    · exact .inl hn
  · show (hsO (upd1 G.R p (goneR X') p)).length ≤ _
    rw [show upd1 G.R p (goneR X') p = goneR X' from if_pos rfl]
    unfold goneR
    cases he : X'.hs with
    | nil => simp [hsO]
    | cons x r => simp only [hsO,he] at hl ⊢;omega
end
abbrev P1 : Pl:=(1,0,0)
abbrev P2 : Pl:=(2,0,0)
structure ApB (m0 : Mem) (Gg Ga : GG) (m : Mem) : Prop where
  ig : Gg.is m
  ia : Ga.is m
  dj : ∀ a,Gg.dom a → ¬ Ga.dom a
  fg : ∀ a,Gg.dom a → m0 a = none
  fa : ∀ a,Ga.dom a → m0 a = none
  kp : ∀ a,m0 a ≠ none → m a = m0 a
  ng : ∀ r k n,Gg.N r k = some n → n = 8 ∧ ((r = P1 ∧ k.2 = 1) ∨ (r = P2 ∧ k.2 = 2))
  na : ∀ r k n,Ga.N r k = some n → n = 8 ∧ r = P1 ∧ k.2 = 1
section
variable {m0 m m' : Mem} {Gg Ga G' : GG}
theorem ApB.g (b : ApB m0 Gg Ga m) {p : Pl} {k : Hn} (o : Out Gg G' m m' p k) (hp : (p = P1 ∧ k.2 = 1) ∨ (p = P2 ∧ k.2 = 2)) : ApB m0 G' Ga m':=by
  have old : ∀ a,m0 a ≠ none → ¬ Gg.dom a:=fun a ha hd => ha (b.fg a hd)
  refine ⟨o.to.is',b.ia.congr fun a ha => o.to.keep a (b.ia.there ha) fun hd => b.dj a hd ha,fun a ha hd => ?_,fun a ha => ?_,b.fa,fun a ha => ?_,fun r j n hn => ?_,b.na⟩
  · rcases o.to.dom a ha with h | h
    · exact b.dj a h hd
    · exact b.ia.there hd h
  · rcases o.to.dom a ha with h | h
    · exact b.fg a h
    · cases e : m0 a with
      | none => rfl
      | some x => have:=b.kp a (by rw [e];simp);rw [h,e] at this;cases this
  · exact (o.to.keep a (by rw [b.kp a ha];exact ha) (old a ha)).trans (b.kp a ha)
  · rcases o.sub r j n hn with h | ⟨rfl,rfl,rfl⟩
    · exact b.ng r j n h
    · exact ⟨rfl,hp⟩
theorem ApB.a (b : ApB m0 Gg Ga m) {k : Hn} (o : Out Ga G' m m' P1 k) (hk : k.2 = 1) : ApB m0 Gg G' m':=by
  have old : ∀ a,m0 a ≠ none → ¬ Ga.dom a:=fun a ha hd => ha (b.fa a hd)
  refine ⟨b.ig.congr fun a ha => o.to.keep a (b.ig.there ha) fun hd => b.dj a ha hd,o.to.is',fun a ha hd => ?_,b.fg,fun a ha => ?_,fun a ha => ?_,b.ng,fun r j n hn => ?_⟩
  · rcases o.to.dom a hd with h | h
    · exact b.dj a ha h
    · exact b.ig.there ha h
  · rcases o.to.dom a ha with h | h
    · exact b.fa a h
    · cases e : m0 a with
      | none => rfl
      | some x => have:=b.kp a (by rw [e];simp);rw [h,e] at this;cases this
  · exact (o.to.keep a (by rw [b.kp a ha];exact ha) (old a ha)).trans (b.kp a ha)
  · rcases o.sub r j n hn with h | ⟨rfl,rfl,rfl⟩
    · exact b.na r j n h
    · exact ⟨rfl,rfl,hk⟩
theorem ApB.more (b : ApB m0 Gg Ga m) (hm : ∀ a,m a ≠ none → m' a = m a) : ApB m0 Gg Ga m' :=
  ⟨b.ig.congr fun a ha => hm a (b.ig.there ha),b.ia.congr fun a ha => hm a (b.ia.there ha),b.dj,b.fg,b.fa,fun a ha => (hm a (by rw [b.kp a ha];exact ha)).trans (b.kp a ha),b.ng,b.na⟩
end
structure ApS (m0 : Mem) (tg ta : Int) (c : Nat) (m : Mem) (Gg Ga : GG) : Prop where
  b : ApB m0 Gg Ga m
  g : tg = (Gg.g : Int) + 1
  a : ta = (Ga.g : Int) + 1
  eq : (kindO (Gg.R P1),hsO (Gg.R P1)) = (kindO (Ga.R P1),hsO (Ga.R P1))
  l1 : (hsO (Gg.R P1)).length ≤ c
  l2 : (hsO (Gg.R P2)).length ≤ c
end Go.Proofs.Ytnlohongffpkpaa.T16
end

section
namespace Go.Proofs.Ytnlohongffpkpaa.T16
open Go Go.RowKit Go.Proofs.Ytnlohongffpkpaa.Sx Go.Proofs Go.WideShapes Go.ChangeShapes
set_option linter.unusedVariables false
set_option linter.unusedSimpArgs false
structure S9 where
  d : Int
  a : Int
  n : Int
  p : Pl
  h : Hn
  f : Bool
def S9.cells (x : S9) : List Value:=[.int .i64 x.d,.int .i64 x.a,.int .i64 x.n,.int .i64 x.p.1,.int .i64 x.p.2.1,.int .i64 x.p.2.2,.int .i64 x.h.1,.int .u64 x.h.2,.bool x.f]
def S9.ok (x : S9) : Prop:=inI x.a ∧ inI x.n ∧ okP' x.p ∧ okH x.h
structure Arg9 (l : Value) (xs : List S9) (m : Mem) : Prop where
  sl : isSlV (pl l) = true
  n : slN (pl l) = xs.length
  at' : ∀ i : Nat,∀ x,xs[i]? = some x → inSl (pl l) i = true ∧ okL m (slB (pl l)) (aOff (slO (pl l)) i 9) [.li .i64 0,.li .i64 0,.li .i64 0,.li .i64 0,.li .i64 0,.li .i64 0,.li .i64 0,.li .u64 0,.lb false] = true ∧
    gI m (slB (pl l)) (aOff (slO (pl l)) i 9) = x.d ∧ gI m (slB (pl l)) (.succ (aOff (slO (pl l)) i 9)) = x.a ∧ gI m (slB (pl l)) (.succ (.succ (aOff (slO (pl l)) i 9))) = x.n ∧
    gI m (slB (pl l)) (.succ (.succ (.succ (aOff (slO (pl l)) i 9)))) = x.p.1 ∧ gI m (slB (pl l)) (.succ (.succ (.succ (.succ (aOff (slO (pl l)) i 9))))) = x.p.2.1 ∧ gI m (slB (pl l)) (.succ (.succ (.succ (.succ (.succ (aOff (slO (pl l)) i 9)))))) = x.p.2.2 ∧
    gI m (slB (pl l)) (.succ (.succ (.succ (.succ (.succ (.succ (aOff (slO (pl l)) i 9))))))) = x.h.1 ∧ gI m (slB (pl l)) (.succ (.succ (.succ (.succ (.succ (.succ (.succ (aOff (slO (pl l)) i 9)))))))) = x.h.2 ∧
    gB m (slB (pl l)) (.succ (.succ (.succ (.succ (.succ (.succ (.succ (.succ (aOff (slO (pl l)) i 9))))))))) = x.f
  rng : ∀ x ∈ xs,x.ok
theorem Arg9.more {l : Value} {xs : List S9} {m m' : Mem} (h : Arg9 l xs m) (hm : ∀ a,m a ≠ none → m' a = m a) : Arg9 l xs m':=by
  refine ⟨h.sl,h.n,fun i x hx => ?_,h.rng⟩
  obtain ⟨a1,a2,c0,c1,c2,c3,c4,c5,c6,c7,c8⟩:=h.at' i x hx
  obtain ⟨b1,b2⟩:=okL_more hm a2
  unfold gI at c0 c1 c2 c3 c4 c5 c6 c7 ⊢
  unfold gB at c8 ⊢
  simp only [b2]
  exact ⟨a1,b1,c0,c1,c2,c3,c4,c5,c6,c7,c8⟩
def plTy (P : Program) (t : Nat) : Bool:=match P.underlying t with
  | some (.struct fs) => (match fs.toList with
    | [f,g,h] => Nat.beq f.offset 0 && Nat.beq g.offset 1 && Nat.beq h.offset 2 && Nat.beq (P.cellsOf f.type) 1 && Nat.beq (P.cellsOf g.type) 1 && Nat.beq (P.cellsOf h.type) 1 && Nat.beq (P.cellsOf t) 3 && (match P.underlying f.type with | some (.int .i64) => true | _ => false) && (match P.underlying g.type with | some (.int .i64) => true | _ => false) && (match P.underlying h.type with | some (.int .i64) => true | _ => false)
    | _ => false)
  | _ => false
def s9Ty (P : Program) (t : Nat) : Bool:=match P.underlying t with
  | some (.struct fs) => (match fs.toList with
    | [f0,f1,f2,f3,f4,f5] => Nat.beq f0.offset 0 && Nat.beq f1.offset 1 && Nat.beq f2.offset 2 && Nat.beq f3.offset 3 && Nat.beq f4.offset 6 && Nat.beq f5.offset 8 && Nat.beq (P.cellsOf f0.type) 1 && Nat.beq (P.cellsOf f1.type) 1 && Nat.beq (P.cellsOf f2.type) 1 && Nat.beq (P.cellsOf f3.type) 3 && Nat.beq (P.cellsOf f4.type) 2 && Nat.beq (P.cellsOf f5.type) 1 && Nat.beq (P.cellsOf t) 9 &&
      (match P.underlying f0.type with | some (.int .i64) => true | _ => false) && (match P.underlying f1.type with | some (.int .i64) => true | _ => false) && (match P.underlying f2.type with | some (.int .i64) => true | _ => false) && plTy P f3.type && hTy P f4.type && (match P.underlying f5.type with | some .bool => true | _ => false)
    | _ => false)
  | _ => false
section
variable {H : Type} {enc : TypeId × Value → H} {P : Program} {W : World} {base : Nat} {sp : Nat → Bool} {held : Bool}
theorem pl_cells {t n : Nat} {cs : List Value} {x : DataW H × List MemPlace} (ht : plTy P t = true) (h : DataW.trod enc P W base sp held n t cs = some x) : ∃ p : Pl,cs = [.int .i64 p.1,.int .i64 p.2.1,.int .i64 p.2.2] ∧ okP' p:=by
  unfold plTy at ht
  split at ht
  · rename_i fs hu
    split at ht
    · rename_i f0 f1 f2 hfs
      simp only [Bool.and_eq_true] at ht
      obtain ⟨⟨⟨⟨⟨⟨⟨⟨⟨a1,a2⟩,a3⟩,a4⟩,a5⟩,a6⟩,a7⟩,a8⟩,a9⟩,a10⟩:=ht
      replace a1:=Nat.eq_of_beq_eq_true a1
      replace a2:=Nat.eq_of_beq_eq_true a2
      replace a3:=Nat.eq_of_beq_eq_true a3
      replace a4:=Nat.eq_of_beq_eq_true a4
      replace a5:=Nat.eq_of_beq_eq_true a5
      replace a6:=Nat.eq_of_beq_eq_true a6
      replace a7:=Nat.eq_of_beq_eq_true a7
      have hf : fs = #[f0,f1,f2]:=by rw [← Array.toArray_toList (xs:=fs),hfs]
      subst hf
      have u0 : P.underlying f0.type = some (.int .i64):=by revert a8;split <;> simp_all
      have u1 : P.underlying f1.type = some (.int .i64):=by revert a9;split <;> simp_all
      have u2 : P.underlying f2.type = some (.int .i64):=by revert a10;split <;> simp_all
      obtain ⟨xs,k,_,_,hl,hxl,hall⟩:=DataW.trod_struct hu h
      rw [a7] at hl
      match cs,hl with
      | [v0,v1,v2],_ =>
        match xs,hxl with
        | [y0,y1,y2],_ =>
          have g0:=hall 0 f0 rfl
          have g1:=hall 1 f1 rfl
          have g2:=hall 2 f2 rfl
          simp [a1,a2,a3,a4,a5,a6] at g0 g1 g2
          obtain ⟨b0,e0,_,w0⟩:=DataW.trod_int u0 g0
          obtain ⟨b1,e1,_,w1⟩:=DataW.trod_int u1 g1
          obtain ⟨b2,e2,_,w2⟩:=DataW.trod_int u2 g2
          simp only [List.cons.injEq,and_true] at e0 e1 e2
          subst e0 e1 e2
          exact ⟨(b0,b1,b2),rfl,wf_inI w0,wf_inI w1,wf_inI w2⟩
    · cases ht
  · cases ht
theorem s9_cells {t n : Nat} {cs : List Value} {x : DataW H × List MemPlace} (ht : s9Ty P t = true) (h : DataW.trod enc P W base sp held n t cs = some x) : ∃ s : S9,cs = s.cells ∧ s.ok:=by
  unfold s9Ty at ht
  split at ht
  · rename_i fs hu
    split at ht
    · rename_i f0 f1 f2 f3 f4 f5 hfs
      simp only [Bool.and_eq_true] at ht
      obtain ⟨⟨⟨⟨⟨⟨⟨⟨⟨⟨⟨⟨⟨⟨⟨⟨⟨⟨o0,o1⟩,o2⟩,o3⟩,o4⟩,o5⟩,c0⟩,c1⟩,c2⟩,c3⟩,c4⟩,c5⟩,ct⟩,t0⟩,t1⟩,t2⟩,t3⟩,t4⟩,t5⟩:=ht
      replace o0:=Nat.eq_of_beq_eq_true o0
      replace o1:=Nat.eq_of_beq_eq_true o1
      replace o2:=Nat.eq_of_beq_eq_true o2
      replace o3:=Nat.eq_of_beq_eq_true o3
      replace o4:=Nat.eq_of_beq_eq_true o4
      replace o5:=Nat.eq_of_beq_eq_true o5
      replace c0:=Nat.eq_of_beq_eq_true c0
      replace c1:=Nat.eq_of_beq_eq_true c1
      replace c2:=Nat.eq_of_beq_eq_true c2
      replace c3:=Nat.eq_of_beq_eq_true c3
      replace c4:=Nat.eq_of_beq_eq_true c4
      replace c5:=Nat.eq_of_beq_eq_true c5
      replace ct:=Nat.eq_of_beq_eq_true ct
      have hf : fs = #[f0,f1,f2,f3,f4,f5]:=by rw [← Array.toArray_toList (xs:=fs),hfs]
      subst hf
      have u0 : P.underlying f0.type = some (.int .i64):=by revert t0;split <;> simp_all
      have u1 : P.underlying f1.type = some (.int .i64):=by revert t1;split <;> simp_all
      have u2 : P.underlying f2.type = some (.int .i64):=by revert t2;split <;> simp_all
      have u5 : P.underlying f5.type = some .bool:=by revert t5;split <;> simp_all
      obtain ⟨xs,k,_,_,hl,hxl,hall⟩:=DataW.trod_struct hu h
      rw [ct] at hl
      match cs,hl with
      | [v0,v1,v2,v3,v4,v5,v6,v7,v8],_ =>
        match xs,hxl with
        | [y0,y1,y2,y3,y4,y5],_ =>
          have g0:=hall 0 f0 rfl
          have g1:=hall 1 f1 rfl
          have g2:=hall 2 f2 rfl
          have g3:=hall 3 f3 rfl
          have g4:=hall 4 f4 rfl
          have g5:=hall 5 f5 rfl
          simp [o0,o1,o2,o3,o4,o5,c0,c1,c2,c3,c4,c5] at g0 g1 g2 g3 g4 g5
          obtain ⟨b0,e0,_,w0⟩:=DataW.trod_int u0 g0
          obtain ⟨b1,e1,_,w1⟩:=DataW.trod_int u1 g1
          obtain ⟨b2,e2,_,w2⟩:=DataW.trod_int u2 g2
          obtain ⟨p,e3,w3⟩:=pl_cells t3 g3
          obtain ⟨s,g,e4,i1,i2⟩:=han_cells t4 g4
          obtain ⟨r,e5,_⟩:=DataW.trod_bool u5 g5
          simp only [List.cons.injEq,and_true] at e0 e1 e2 e3 e4 e5
          obtain ⟨e3a,e3b,e3c⟩:=e3
          obtain ⟨e4a,e4b⟩:=e4
          subst e0 e1 e2 e3a e3b e3c e4a e4b e5
          exact ⟨⟨b0,b1,b2,p,(s,g),r⟩,rfl,wf_inI w1,wf_inI w2,w3,i1,i2⟩
    · cases ht
  · cases ht
instance : Inhabited S9:=⟨⟨0,0,0,(0,0,0),(0,0),false⟩⟩
theorem arg_s9 {b0 : Nat} {r : Reach} {t e : TypeId} {v : Value} {d : DataW H} {ps : List MemPlace} (hst : s9Ty P e = true) (ht : P.underlying t = some (.slice e)) {q : Prop} (hq : q) (hc : P.cellsOf e = 9)
    (hval : Value.okWide P W r b0 t v) (h : DataW.Trod enc P W base sp held t v d ps) : ∃ xs m,(∀ a o,m a = some o → W.heap[a]? = some o) ∧ Arg9 v xs m ∧ pl v = v:=by
  obtain ⟨a,len,cap,rfl⟩:=okWide_slice ht hval
  obtain ⟨fuel,hf⟩:=h
  rcases Go.Deep.open_slice ht hf with ⟨hcs,hx⟩ | ⟨a',len',cap',m',n,D,Pl,hcs,_,hl,_,hm,_,hel⟩
  · simp [Value.cells] at hcs
    obtain ⟨rfl,rfl,rfl⟩:=hcs
    exact ⟨[],fun _ => none,(fun _ _ h => by cases h),⟨rfl,rfl,fun i x h => (by simp at h),by simp⟩,rfl⟩
  · simp [Value.cells] at hcs
    obtain ⟨rfl,rfl,rfl⟩:=hcs
    have hlm : len ≤ m':=by rw [hm];split <;> omega
    obtain ⟨X,hX⟩:=Go.Deep.choose_lt (n:=len) (p:=fun i (x : S9) => W.cells? base (a'.add (i * 9)) 9 = some x.cells ∧ x.ok) (fun i hi => by
      obtain ⟨cs',h1,h2⟩:=hel i (by omega)
      rw [hc] at h1
      obtain ⟨s,rfl,i1⟩:=s9_cells hst h2
      exact ⟨s,h1,i1⟩)
    refine ⟨(List.range len).map X,fun c => if c = a'.block then W.heap[c]? else none,fun c o h => ?_,⟨rfl,?_,fun i x hx => ?_,fun x hx => ?_⟩,rfl⟩
    · simp only at h
      split at h
      · exact h
      · cases h
    · simp [slN,pl]
    · have hi : i < len:=by
        have:=(List.getElem?_eq_some_iff.1 hx).1
        simpa using this
      have hxe : x = X i:=by
        rw [List.getElem?_map,List.getElem?_range hi] at hx
        simpa using hx.symm
      subst hxe
      obtain ⟨h1,_⟩:=hX i hi
      obtain ⟨_,_,hci⟩:=World.cells?_some h1
      obtain ⟨b,o,spt⟩:=a'
      have hsp : spt = none:=by
        obtain ⟨h1',_⟩:=hX 0 (by omega)
        obtain ⟨_,_,hci'⟩:=World.cells?_some h1'
        have h0:=hci' 0 (by omega)
        rw [show ((⟨b,o,spt⟩ : Addr).add (0 * 9)).add 0 = (⟨b,o,spt⟩ : Addr) by simp [Addr.add]] at h0
        exact World.cell?_spot (h0.trans (by rfl : _ = some (Value.int .i64 (X 0).d)))
      subst hsp
      have key : ∀ k,k < 9 → W.cell? ⟨b,o + i * 9 + k,none⟩ = (X i).cells[k]?:=fun k hk => by
        have:=hci k hk
        rw [add_at,add_at] at this
        exact this
      obtain ⟨cs,ty,fz,hb,hcell⟩ : ∃ cs ty fz,W.heap[b]? = some (.cells cs ty fz) ∧ ∀ k,W.cell? ⟨b,k,none⟩ = cs[k]?:=by
        have h0:=key 0 (by omega)
        unfold World.cell? at h0
        split at h0
        · rename_i cs ty fz hcs
          simp only at hcs
          exact ⟨cs,ty,fz,hcs,fun k => by simp [World.cell?,hcs]⟩
        · cases h0
      have hg : mget (fun c => if c = b then W.heap[c]? else none) ((b : Int) + 1) = some cs:=mget_of (ty:=ty) (q:=fz) (by simp [hb])
      have c0:=(hcell _).symm.trans (key 0 (by omega))
      have c1:=(hcell _).symm.trans (key 1 (by omega))
      have c2:=(hcell _).symm.trans (key 2 (by omega))
      have c3:=(hcell _).symm.trans (key 3 (by omega))
      have c4:=(hcell _).symm.trans (key 4 (by omega))
      have c5:=(hcell _).symm.trans (key 5 (by omega))
      have c6:=(hcell _).symm.trans (key 6 (by omega))
      have c7:=(hcell _).symm.trans (key 7 (by omega))
      have c8:=(hcell _).symm.trans (key 8 (by omega))
      simp only [S9.cells,List.getElem?_cons_zero,List.getElem?_cons_succ,Nat.add_zero] at c0 c1 c2 c3 c4 c5 c6 c7 c8
      have e0 : aOff o (i : Int) 9 = o + i * 9:=by simp [aOff]
      simp only [pl,slB,slO,e0,Nat.succ_eq_add_one,Nat.add_assoc] at c0 c1 c2 c3 c4 c5 c6 c7 c8 ⊢
      refine ⟨?_,?_,?_,?_,?_,?_,?_,?_,?_,?_,?_⟩
      · have : Nat.ble len cap = true:=Nat.ble_eq_true_of_le hl
        simp [inSl,isSl,slN,this,hi]
      · unfold okL;rw [hg];simp [okR,c0,c1,c2,c3,c4,c5,c6,c7,c8,okC,isK,isB,Nat.add_assoc]
      · unfold gI mcell;rw [hg];simp [c0,vI]
      · unfold gI mcell;rw [hg];simp [c1,vI]
      · unfold gI mcell;rw [hg];simp [c2,vI]
      · unfold gI mcell;rw [hg];simp [c3,vI]
      · unfold gI mcell;rw [hg];simp [c4,vI]
      · unfold gI mcell;rw [hg];simp [c5,vI]
      · unfold gI mcell;rw [hg];simp [c6,vI]
      · unfold gI mcell;rw [hg];simp [c7,vI]
      · unfold gB mcell;rw [hg];simp [c8,vB]
    · obtain ⟨i,hi,rfl⟩:=List.mem_map.1 hx
      exact (hX i (List.mem_range.1 hi)).2
end
end Go.Proofs.Ytnlohongffpkpaa.T16
end

section
namespace Go.Proofs.Ytnlohongffpkpaa.T16
open Go Go.RowKit Go.Proofs.Ytnlohongffpkpaa.Sx Go.Proofs
set_option linter.unusedVariables false
set_option linter.unusedSimpArgs false
theorem okKey77 {h : Hn} {n : Int} (h1 : okH h) (h2 : inI n) : okKey Try.prog 77 (kKey h n) :=
  okKey_ks (P:=Try.prog) (t:=77) (ks:=[.i64,.u64,.i64]) (d:=4) (by kernel_rfl) (of_decide_eq_true (by kernel_rfl)) (by kernel_rfl) (by kernel_rfl) (ls:=[(.i64,h.1),(.u64,h.2),(.i64,n)]) rfl (by
    intro x hx
    simp only [List.mem_cons,List.not_mem_nil,or_false] at hx
    rcases hx with rfl | rfl | rfl
    · exact wf_i64 h1.1
    · exact wf_u64 h1.2
    · exact wf_i64 h2)
theorem kSmp_k (h : Hn) (n : Int) : kSmp (kKey h n) = true:=by simp [kSmp,smp]
abbrev Itm:=Hn × Int
structure OnB (m0 : Mem) (q ci li : Nat) (E : Hn → Int → Prop) (G : GG) (m : Mem) : Prop where
  is : G.is m
  fg : ∀ a,G.dom a → m0 a = none
  nq : ¬ G.dom q
  q0 : m0 q = none
  kp : ∀ a,m0 a ≠ none → m a = m0 a
  mp : isMap 77 m q
  vals : ∀ h n v,mlook m (.map (some q)) (kKey h n) = some v → v = .int .i64 1
  clk : ∃ es c,m q = some (.map es c) ∧ c ≤ ci
  sn : ∀ h n,(G.I h n).isSome = true → (mlook m (.map (some q)) (kKey h n)).isSome = true ∨ E h n
  len : ∀ p,(hsO (G.R p)).length ≤ li
section
variable {m0 m m' : Mem} {q ci li : Nat} {E : Hn → Int → Prop} {G G' : GG}
theorem OnB.more (b : OnB m0 q ci li E G m) (hm : ∀ a,m a ≠ none → m' a = m a) : OnB m0 q ci li E G m':=by
  have hq : m' q = m q:=hm q b.mp.there
  obtain ⟨es,c,c1,c2⟩:=b.clk
  exact ⟨b.is.congr fun a ha => hm a (b.is.there ha),b.fg,b.nq,b.q0,fun a ha => (hm a (by rw [b.kp a ha];exact ha)).trans (b.kp a ha),b.mp.congr hq,fun h n v hv => b.vals h n v (by rw [← mlook_congr hq];exact hv),⟨es,c,hq.trans c1,c2⟩,
    fun h n hI => by rw [mlook_congr hq];exact b.sn h n hI,b.len⟩
theorem OnB.step (b : OnB m0 q ci li (fun _ _ => False) G m) (t : G.to G' m m') (hI : ∀ h n,(G'.I h n).isSome = true → (G.I h n).isSome = true ∨ E h n) (hl : ∀ p,(hsO (G'.R p)).length ≤ li + 1) : OnB m0 q ci (li + 1) E G' m':=by
  have hq : m' q = m q:=t.keep q b.mp.there b.nq
  obtain ⟨es,c,c1,c2⟩:=b.clk
  have old : ∀ a,m0 a ≠ none → ¬ G.dom a:=fun a ha hd => ha (b.fg a hd)
  refine ⟨t.is',fun a ha => ?_,fun hd => ?_,b.q0,fun a ha => ?_,b.mp.congr hq,fun h n v hv => b.vals h n v (by rw [← mlook_congr hq];exact hv),⟨es,c,hq.trans c1,c2⟩,fun h n hn => ?_,hl⟩
  · rcases t.dom a ha with h | h
    · exact b.fg a h
    · cases e : m0 a with
      | none => rfl
      | some x => have:=b.kp a (by rw [e];simp);rw [h,e] at this;cases this
  · rcases t.dom q hd with h | h
    · exact b.nq h
    · exact b.mp.there h
  · exact (t.keep a (by rw [b.kp a ha];exact ha) (old a ha)).trans (b.kp a ha)
  · rw [mlook_congr hq]
    rcases hI h n hn with h1 | h1
    · rcases b.sn h n h1 with h2 | h2
      · exact .inl h2
      · exact h2.elim
    · exact .inr h1
theorem OnB.same (E : Hn → Int → Prop) (b : OnB m0 q ci li (fun _ _ => False) G m) : OnB m0 q ci (li + 1) E G m :=
  ⟨b.is,b.fg,b.nq,b.q0,b.kp,b.mp,b.vals,b.clk,fun h n hI => .inl ((b.sn h n hI).elim id (fun h => h.elim)),fun p => Nat.le_succ_of_le (b.len p)⟩
theorem OnB.put {k : Hn} {nn : Int} (b : OnB m0 q ci li (fun h n => h = k ∧ n = nn) G m) (hk : okH k) (hn : inI nn) : OnB m0 q (ci + 1) li (fun _ _ => False) G (mput m (.map (some q)) (kKey k nn) (.int .i64 1)):=by
  obtain ⟨p1,p2,p3⟩:=b.mp.put (okKey77 hk hn) (.int .i64 1)
  have hoth : ∀ a,a ≠ q → mput m (.map (some q)) (kKey k nn) (.int .i64 1) a = m a:=fun a ha => mput_oth _ ha
  obtain ⟨es,c,c1,c2⟩:=b.clk
  have look : ∀ h n,(h = k ∧ n = nn) ∨ mlook (mput m (.map (some q)) (kKey k nn) (.int .i64 1)) (.map (some q)) (kKey h n) = mlook m (.map (some q)) (kKey h n):=fun h n => by
    by_cases e : kKey h n = kKey k nn
    · exact .inl (kKey_inj e)
    · exact .inr (p3 _ (kSmp_k h n) e)
  refine ⟨b.is.congr fun a ha => hoth a fun e => b.nq (e ▸ ha),b.fg,b.nq,b.q0,fun a ha => (hoth a fun e => ha (e ▸ b.q0)).trans (b.kp a ha),p1,fun h n v hv => ?_,?_,fun h n hI => .inl ?_,b.len⟩
  · rcases look h n with ⟨rfl,rfl⟩ | e
    · rw [p2] at hv;exact (Option.some.inj hv).symm
    · rw [e] at hv;exact b.vals h n v hv
  · have hat : mput m (.map (some q)) (kKey k nn) (.int .i64 1) q = some (esPut (kKey k nn) (.int .i64 1) c es):=by simp only [mput,mchg,if_true,c1]
    unfold esPut at hat
    split at hat
    · exact ⟨_,_,hat,by omega⟩
    · exact ⟨_,_,hat,by omega⟩
  · rcases look h n with ⟨rfl,rfl⟩ | e
    · rw [p2];rfl
    · rw [e]
      rcases b.sn h n hI with h1 | ⟨rfl,rfl⟩
      · exact h1
      · rw [← e,p2];rfl
theorem hs_put {p r : Pl} {X' : Str} {v : Option Str} (hv : v = some X' ∨ v = goneR X') {n : Nat} (hl : X'.hs.length ≤ n) (ho : (hsO (G.R r)).length ≤ n) : (hsO (upd1 G.R p v r)).length ≤ n:=by
  unfold upd1
  split
  · rcases hv with rfl | rfl
    · exact hl
    · unfold goneR
      cases he : X'.hs with
      | nil => simp [hsO]
      | cons x s => simp only [hsO];rw [he];rw [he] at hl;exact hl
  · exact ho
theorem OnB.come {p : Pl} {k : Hn} {nn : Int} {X' : Str} (b : OnB m0 q ci li (fun _ _ => False) G m) (hto : G.to (G.come p k nn X') m m') (hl : X'.hs.length ≤ (hsO (G.R p)).length + 1) : OnB m0 q ci (li + 1) (fun h n => h = k ∧ n = nn) (G.come p k nn X') m':=by
  refine b.step hto (fun h n hI => ?_) fun r => hs_put (.inl rfl) (by have:=b.len p;omega) (by have:=b.len r;omega)
  have hI : (updI G.I k nn (some p) h n).isSome = true:=hI
  unfold updI at hI
  split at hI
  · rename_i e;exact .inr e
  · exact .inl hI
theorem OnB.go {p : Pl} {j : Hn} {n : Int} {X' : Str} (E : Hn → Int → Prop) (b : OnB m0 q ci li (fun _ _ => False) G m) (hto : G.to (G.go p j n X') m m') (hl : X'.hs.length ≤ (hsO (G.R p)).length) : OnB m0 q ci (li + 1) E (G.go p j n X') m':=by
  refine b.step hto (fun h n' hI => ?_) fun r => hs_put (.inr rfl) (by have:=b.len p;omega) (by have:=b.len r;omega)
  have hI : (updI G.I j n none h n').isSome = true:=hI
  unfold updI at hI
  split at hI
  · cases hI
  · exact .inl hI
theorem OnB.drain {p : Pl} {y : Vars} (E : Hn → Int → Prop) (b : OnB m0 q ci li (fun _ _ => False) G m) (h : gdrainPost m G p y) : ∃ G',G'.g = G.g ∧ OnB m0 q ci (li + 1) E G' y.m:=by
  obtain ⟨G',d1,d2,d3,d4,_⟩:=h
  refine ⟨G',d1.g,b.step d1 (fun h n hI => .inl ?_) fun r => ?_⟩
  · rw [d4] at hI
    split at hI
    · cases hI
    · exact hI
  · rw [d2]
    split
    · simp [hsO]
    · have:=b.len r;omega
end
end Go.Proofs.Ytnlohongffpkpaa.T16
end

section
namespace Go.Proofs.Ytnlohongffpkpaa.T16
open Go Go.RowKit Go.Proofs.Ytnlohongffpkpaa.Sx Go.Proofs
set_option linter.unusedVariables false
set_option linter.unusedSimpArgs false
section
variable {m0 m2 m6 : Mem} {q ci li : Nat} {G : GG} {tg : Int} {l v1 : Value}
end
end Go.Proofs.Ytnlohongffpkpaa.T16
end

section
namespace Go.Proofs.Ytnlohongffpkpaa.T16
open Go Go.RowKit Go.Proofs.Ytnlohongffpkpaa.Sx Go.Proofs
set_option linter.unusedVariables false
set_option linter.unusedSimpArgs false
section
variable {m0 m1 : Mem} {q ci li : Nat} {G : GG} {tg : Int} {l v1 : Value}
end
end Go.Proofs.Ytnlohongffpkpaa.T16
end

section
namespace Go.Proofs.Ytnlohongffpkpaa.T16
open Go Go.RowKit Go.Proofs.Ytnlohongffpkpaa.Sx Go.Proofs
set_option linter.unusedVariables false
set_option linter.unusedSimpArgs false
end Go.Proofs.Ytnlohongffpkpaa.T16
end

section
namespace Go.Proofs.Ytnlohongffpkpaa.Sx
open Go
set_option linter.unusedVariables false
set_option linter.unusedSimpArgs false
structure EncOK {α : Type} (enc : α → List Value) (k : Nat) : Prop where
  pos : 0 < k
  len : ∀ x,(enc x).length = k
  plain : ∀ x,(enc x).all isPlain = true
def eCells {α : Type} (enc : α → List Value) (l : List α) : List Value:=l.flatMap enc
structure SlE {α : Type} (enc : α → List Value) (k : Nat) (m : Mem) (v : Value) (xs : List α) : Prop where
  ok : okSl m v k = true
  n : slN v = xs.length
  row : rowL m v k = eCells enc xs
theorem mgetW_of' {m : Mem} {a : Nat} {cs : Array Value} {ty : Nat} (h : m a = some (.cells cs ty (0,0))) : mgetW m ((a : Int) + 1) = some cs:=by
  unfold mgetW;rw [show ((a : Int) + 1).toNat = a + 1 by omega];simp [h]
theorem mget_of' {m : Mem} {a : Nat} {cs : Array Value} {ty : Nat} {q : Nat × Nat} (h : m a = some (.cells cs ty q)) : mget m ((a : Int) + 1) = some cs:=by
  unfold mget;rw [show ((a : Int) + 1).toNat = a + 1 by omega];simp [h]
theorem putV_size' : ∀ (vs : List Value) (cs : Array Value) (k : Nat),(putV cs k vs).size = cs.size
  | [],cs,k => rfl
  | v :: r,cs,k => by rw [putV,putV_size' r];simp
theorem putV_list' : ∀ (vs : List Value) (cs : Array Value) (k : Nat),k + vs.length ≤ cs.size → (putV cs k vs).toList = cs.toList.take k ++ vs ++ cs.toList.drop (k + vs.length)
  | [],cs,k,h => by simp [putV]
  | v :: r,cs,k,h => by
    simp only [List.length_cons] at h
    rw [putV,putV_list' r _ _ (by simp;omega)]
    have e : (cs.setIfInBounds k v).toList = cs.toList.take k ++ v :: cs.toList.drop (k + 1):=by
      rw [Array.toList_setIfInBounds,List.set_eq_take_append_cons_drop,if_pos (by simp;omega)]
    have hk : (cs.toList.take k).length = k:=by rw [List.length_take,show cs.toList.length = cs.size from Array.length_toList];omega
    rw [e,List.take_append,hk,List.drop_append,hk]
    have e2 : List.take (k + 1) (cs.toList.take k) = cs.toList.take k:=List.take_of_length_le (by rw [hk];omega)
    have e3 : List.drop (k + 1 + r.length) (cs.toList.take k) = []:=List.drop_of_length_le (by rw [hk];omega)
    rw [e2,e3,show k + 1 - k = 1 by omega,show k + 1 + r.length - k = r.length + 1 by omega]
    simp only [List.take_succ_cons,List.take_zero,List.drop_succ_cons,List.drop_drop,List.length_cons,List.append_assoc,List.cons_append,List.nil_append]
    rw [show k + 1 + r.length = k + (r.length + 1) by omega]
theorem wrL_at' {m : Mem} {a : Nat} {cs : Array Value} {ty : Nat} {q : Nat × Nat} (h : m a = some (.cells cs ty q)) (k : Nat) (vs : List Value) : wrL m ((a : Int) + 1) k vs = fun x => if x = a then some (.cells (putV cs k vs) ty q) else m x:=by
  funext x
  unfold wrL
  rw [show ((a : Int) + 1).toNat = a + 1 by omega]
  by_cases e : x = a
  · subst e;simp [h]
  · simp [e]
theorem zero_plain' {z : Array Value} (hz : z.toList.all isPlain = true) (n : Nat) : (Builtin.zeroCells z n).toList.all isPlain = true:=by
  unfold Builtin.zeroCells
  rw [List.all_eq_true]
  intro x hx
  simp only [Array.toList_map,List.mem_map,Array.toList_range,List.mem_range] at hx
  obtain ⟨i,hi,rfl⟩:=hx
  have hp : 0 < z.size:=by
    rcases Nat.eq_zero_or_pos z.size with h | h
    · rw [h] at hi;simp at hi
    · exact h
  have:=Nat.mod_lt i hp
  rw [getElem!_pos z (i % z.size) this]
  exact List.all_eq_true.1 hz _ (by simp)
section
variable {α : Type} {enc : α → List Value} {k : Nat} {m m' : Mem} {v : Value} {xs ys : List α}
theorem eCells_cons (x : α) (l : List α) : eCells enc (x :: l) = enc x ++ eCells enc l:=rfl
theorem eCells_app (l r : List α) : eCells enc (l ++ r) = eCells enc l ++ eCells enc r:=by simp [eCells]
theorem eCells_len (he : EncOK enc k) : ∀ l : List α,(eCells enc l).length = l.length * k
  | [] => by simp [eCells]
  | x :: l => by rw [eCells_cons,List.length_append,he.len,eCells_len he l,List.length_cons,Nat.succ_mul];omega
theorem eCells_plain (he : EncOK enc k) : ∀ l : List α,(eCells enc l).all isPlain = true
  | [] => rfl
  | x :: l => by rw [eCells_cons,List.all_append,he.plain,eCells_plain he l];rfl
theorem eCells_take (he : EncOK enc k) : ∀ (l : List α) (n : Nat),(eCells enc l).take (n * k) = eCells enc (l.take n)
  | [],n => by simp [eCells]
  | x :: l,0 => by simp [eCells]
  | x :: l,n + 1 => by
    rw [eCells_cons,List.take_succ_cons,eCells_cons,← eCells_take he l n,List.take_append,he.len,Nat.succ_mul,show n * k + k - k = n * k by omega,List.take_of_length_le (by rw [he.len];omega)]
theorem eCells_drop (he : EncOK enc k) : ∀ (l : List α) (n : Nat),(eCells enc l).drop (n * k) = eCells enc (l.drop n)
  | [],n => by simp [eCells]
  | x :: l,0 => by simp [eCells]
  | x :: l,n + 1 => by
    rw [eCells_cons,List.drop_succ_cons,← eCells_drop he l n,List.drop_append,he.len,Nat.succ_mul,show n * k + k - k = n * k by omega,List.drop_of_length_le (by rw [he.len];omega),List.nil_append]
theorem eCells_get (he : EncOK enc k) {i : Nat} {x : α} (hx : xs[i]? = some x) {j : Nat} (hj : j < k) : (eCells enc xs)[i * k + j]? = (enc x)[j]?:=by
  have h1:=eCells_drop he xs i
  have hlt:=(List.getElem?_eq_some_iff.1 hx).1
  have h2 : xs.drop i = x :: xs.drop (i + 1):=by
    rw [List.drop_eq_getElem_cons hlt]
    rw [List.getElem?_eq_getElem hlt] at hx
    rw [Option.some.inj hx]
  rw [h2,eCells_cons] at h1
  have h3:=congrArg (fun l => l[j]?) h1
  simp only [List.getElem?_drop] at h3
  rw [h3,List.getElem?_append_left (by rw [he.len];exact hj)]
theorem SlE.inv (h : SlE enc k m v xs) : (v = .slice none 0 0 ∧ xs = []) ∨
    ∃ (a o c : Nat) (cs : Array Value) (ty : Nat),v = .slice (some ⟨a,o,none⟩) xs.length c ∧ xs.length ≤ c ∧ m a = some (.cells cs ty (0,0)) ∧ o + c * k ≤ cs.size ∧ cs.toList.all isPlain = true ∧ (cs.toList.drop o).take (xs.length * k) = eCells enc xs:=by
  obtain ⟨h1,h2,h3⟩:=h
  unfold okSl at h1
  split at h1
  · simp only [Bool.and_eq_true] at h1
    have e1:=Nat.eq_of_beq_eq_true h1.1
    have e2:=Nat.eq_of_beq_eq_true h1.2
    subst e1 e2
    left
    refine ⟨rfl,?_⟩
    simp only [slN] at h2
    exact List.length_eq_zero_iff.1 h2.symm
  · rename_i a o n c
    right
    simp only [Bool.and_eq_true] at h1
    obtain ⟨h1,h4⟩:=h1
    simp only [slN] at h2
    subst h2
    split at h4
    · rename_i cs hcs
      simp only [Bool.and_eq_true] at h4
      obtain ⟨b,ty,e1,e2⟩:=mgetW_at hcs
      have : b = a:=by omega
      subst this
      refine ⟨b,o,c,cs,ty,rfl,Nat.le_of_ble_eq_true h1,e2,Nat.le_of_ble_eq_true h4.1,h4.2,?_⟩
      simp only [rowL,slB,slO,slN,mgetW_get hcs] at h3
      exact h3
    · cases h4
  · cases h1
theorem SlE.of {a o c : Nat} {cs : Array Value} {ty : Nat} (h1 : xs.length ≤ c) (h2 : m a = some (.cells cs ty (0,0))) (h3 : o + c * k ≤ cs.size) (h4 : cs.toList.all isPlain = true) (h5 : (cs.toList.drop o).take (xs.length * k) = eCells enc xs) :
    SlE enc k m (.slice (some ⟨a,o,none⟩) xs.length c) xs:=by
  refine ⟨?_,rfl,?_⟩
  · simp only [okSl,mgetW_of' h2,Bool.and_eq_true]
    exact ⟨Nat.ble_eq_true_of_le h1,Nat.ble_eq_true_of_le h3,h4⟩
  · simp only [rowL,slB,slO,slN,mget_of' h2];exact h5
theorem SlE.nil0 (m : Mem) : SlE enc k m (.slice none 0 0) []:=⟨rfl,rfl,rfl⟩
theorem SlE.pl (h : SlE enc k m v xs) : Sx.pl v = v:=by
  rcases h.inv with ⟨rfl,_⟩ | ⟨_,_,_,_,_,rfl,_⟩ <;> rfl
theorem SlE.isv (h : SlE enc k m v xs) : isSlV v = true:=by
  rcases h.inv with ⟨rfl,_⟩ | ⟨_,_,_,_,_,rfl,_⟩ <;> rfl
theorem SlE.plain (h : SlE enc k m v xs) : isPlain v = true:=by
  rcases h.inv with ⟨rfl,_⟩ | ⟨_,_,_,_,_,rfl,_⟩ <;> rfl
theorem SlE.more (h : SlE enc k m v xs) (hm : ∀ a : Nat,slB v = (a : Int) + 1 → m a ≠ none → m' a = m a) : SlE enc k m' v xs:=by
  rcases h.inv with ⟨rfl,rfl⟩ | ⟨a,o,c,cs,ty,rfl,h1,h2,h3,h4,h5⟩
  · exact SlE.nil0 m'
  · exact SlE.of h1 (by rw [hm a rfl (by rw [h2];simp)];exact h2) h3 h4 h5
theorem SlE.there (h : SlE enc k m v xs) {a : Nat} (ha : slB v = (a : Int) + 1) : m a ≠ none:=by
  rcases h.inv with ⟨rfl,rfl⟩ | ⟨b,o,c,cs,ty,rfl,h1,h2,h3,h4,h5⟩
  · simp only [slB] at ha;omega
  · simp only [slB] at ha
    have : b = a:=by omega
    rw [← this,h2];simp
theorem okR_of {cs ws : Array Value} : ∀ {zs : List C} {o p : Nat},okR ws p zs = true → (∀ j,j < zs.length → cs[o + j]? = ws[p + j]?) → okR cs o zs = true
  | [],_,_,_,_ => rfl
  | z :: r,o,p,h,hc => by
    simp only [okR,Bool.and_eq_true] at h ⊢
    have h0:=hc 0 (by simp)
    simp only [Nat.add_zero] at h0
    rw [h0]
    refine ⟨h.1,okR_of h.2 fun j hj => ?_⟩
    have:=hc (j + 1) (by simp;omega)
    rw [show o + 1 + j = o + (j + 1) by omega,show p + 1 + j = p + (j + 1) by omega]
    exact this
theorem SlE.get (he : EncOK enc k) (h : SlE enc k m v xs) {i : Nat} {x : α} (hx : xs[i]? = some x) :
    inSl v (i : Int) = true ∧ (∀ j,j < k → some (mcell m (slB v) (aOff (slO v) i k + j)) = (enc x)[j]?) ∧ ∀ zs,okR (enc x).toArray 0 zs = true → zs.length ≤ k → okL m (slB v) (aOff (slO v) i k) zs = true:=by
  have hlt : i < xs.length:=(List.getElem?_eq_some_iff.1 hx).1
  rcases h.inv with ⟨rfl,rfl⟩ | ⟨a,o,c,cs,ty,rfl,h1,h2,h3,h4,h5⟩
  · simp at hlt
  have key : ∀ j,j < k → cs[o + i * k + j]? = (enc x)[j]?:=fun j hj => by
    have hb : i * k + j < xs.length * k:=by
      have : (i + 1) * k ≤ xs.length * k:=Nat.mul_le_mul_right k hlt
      rw [Nat.succ_mul] at this;omega
    have e1:=eCells_get he hx hj
    rw [← h5,List.getElem?_take_of_lt hb,List.getElem?_drop,Nat.add_assoc] at *
    rw [← e1];simp
  have ea : aOff o (i : Int) k = o + i * k:=by simp [aOff]
  simp only [slB,slO,ea]
  refine ⟨?_,fun j hj => ?_,fun zs hz hl => ?_⟩
  · have : Nat.ble xs.length c = true:=Nat.ble_eq_true_of_le h1
    simp [inSl,isSl,slN,this,hlt]
  · unfold mcell;rw [mget_of' h2]
    have hk:=key j hj
    have : j < (enc x).length:=by rw [he.len];exact hj
    rw [List.getElem?_eq_getElem this] at hk ⊢
    simp [hk]
  · unfold okL;rw [mget_of' h2]
    refine okR_of hz fun j hj => ?_
    rw [key j (by omega)];simp
theorem SlE.cut (he : EncOK enc k) (h : SlE enc k m v xs) {l r : Nat} (hl : l ≤ r) (hr : r ≤ xs.length) :
    cutSl v (l : Int) (r : Int) = true ∧ SlE enc k m (cutV v k l r) ((xs.drop l).take (r - l)):=by
  rcases h.inv with ⟨rfl,rfl⟩ | ⟨a,o,c,cs,ty,rfl,h1,h2,h3,h4,h5⟩
  · have : r = 0:=by simpa using hr
    subst this
    have : l = 0:=by omega
    subst this
    exact ⟨by decide,SlE.nil0 m⟩
  · have hlen : ((xs.drop l).take (r - l)).length = r - l:=by rw [List.length_take,List.length_drop];omega
    have hck : c = l ∨ l < c:=by omega
    refine ⟨?_,?_⟩
    · have : Nat.ble xs.length c = true:=Nat.ble_eq_true_of_le h1
      simp [cutSl,isSl,this,slK]
      omega
    · have ev : cutV (.slice (some ⟨a,o,none⟩) xs.length c) k (l : Int) (r : Int) = .slice (some ⟨a,if c = l then o else o + l * k,none⟩) ((xs.drop l).take (r - l)).length (c - l):=by
        rw [hlen];simp only [cutV,Int.toNat_natCast]
      rw [ev]
      have hmul : l * k + (c - l) * k = c * k:=by rw [← Nat.add_mul];congr 1;omega
      refine SlE.of (by rw [hlen];omega) h2 ?_ h4 ?_
      · split <;> omega
      · rw [hlen]
        by_cases e : c = l
        · rw [if_pos e]
          have : r - l = 0:=by omega
          rw [this];simp [eCells]
        · rw [if_neg e]
          have hrl : l * k + (r - l) * k = r * k:=by rw [← Nat.add_mul];congr 1;omega
          have hrk : r * k ≤ xs.length * k:=Nat.mul_le_mul_right k hr
          have e1 : (cs.toList.drop (o + l * k)).take ((r - l) * k) = (((cs.toList.drop o).take (xs.length * k)).drop (l * k)).take ((r - l) * k):=by
            rw [List.drop_take,List.drop_drop,List.take_take]
            congr 1
            omega
          rw [e1,h5,eCells_drop he,eCells_take he]
theorem SlE.app (he : EncOK enc k) {m0 : Mem} {y : Vars} {e : TypeId} {zs : List Value} (hz : zs.all isPlain = true) (hzl : zs.length = k) (h : SlE enc k m v xs) (hk : ∀ a,m0 a ≠ none → m a = m0 a) (ho : ∀ a : Nat,slB v = (a : Int) + 1 → m0 a = none)
    (hq : appQ m v k zs e ys.length (eCells enc ys) y) : SlE enc k y.m (hdV y.v) (xs ++ ys) ∧ (∀ a,m0 a ≠ none → y.m a = m0 a) ∧ (∀ a : Nat,slB (hdV y.v) = (a : Int) + 1 → m0 a = none) ∧ (∀ a : Nat,m a ≠ none → slB v ≠ (a : Int) + 1 → y.m a = m a) ∧ ∀ a : Nat,slB (hdV y.v) = (a : Int) + 1 → slB v = (a : Int) + 1 ∨ m a = none:=by
  obtain ⟨yi,yb,yv,ym⟩:=y
  simp only [appQ] at hq
  have hl : (xs ++ ys).length = xs.length + ys.length:=List.length_append
  have hmul : (xs.length + ys.length) * k = xs.length * k + ys.length * k:=Nat.add_mul _ _ _
  rcases hq with ⟨q1,rfl,rfl⟩ | ⟨q1,a,c,q2,q3,rfl,rfl⟩
  · have q1:=Nat.le_of_ble_eq_true q1
    rw [h.n] at q1
    rcases h.inv with ⟨rfl,rfl⟩ | ⟨a,o,c,cs,ty,rfl,h1,h2,h3,h4,h5⟩
    · have : ys = []:=List.length_eq_zero_iff.1 (by simpa [slK] using q1)
      subst this
      have ew : wrL m 0 (slO (Value.slice Option.none 0 0) + slN (Value.slice Option.none 0 0) * k) (eCells enc []) = m:=by
        funext b;simp [wrL]
      refine ⟨?_,fun a ha => ?_,fun a ha => ho a ha,fun a _ _ => congrFun ew a,fun a ha => .inl ha⟩
      · exact SlE.nil0 _
      · exact (congrFun ew a).trans (hk a ha)
    · simp only [slK] at q1
      have hcap : (xs.length + ys.length) * k ≤ c * k:=Nat.mul_le_mul_right k q1
      have hp : o + xs.length * k + (eCells enc ys).length ≤ cs.size:=by rw [eCells_len he];omega
      have ew:=wrL_at' h2 (o + xs.length * k) (eCells enc ys)
      refine ⟨?_,fun b hb => ?_,fun b hb => ho b hb,fun b hb hne => ?_,fun b hb => .inl hb⟩
      · show SlE enc k (wrL m ((a : Int) + 1) (o + xs.length * k) (eCells enc ys)) (.slice (some ⟨a,o,Option.none⟩) (xs.length + ys.length) c) (xs ++ ys)
        rw [ew,← hl]
        refine SlE.of (by omega) (if_pos rfl) (by rw [putV_size'];exact h3) ?_ ?_
        · rw [putV_list' _ _ _ hp,List.all_append,List.all_append,eCells_plain he]
          rw [List.all_eq_true] at h4
          simp only [Bool.and_eq_true,Bool.and_true,List.all_eq_true]
          exact ⟨fun x hx => h4 x (List.mem_of_mem_take hx),fun x hx => h4 x (List.mem_of_mem_drop hx)⟩
        · have hk1 : (cs.toList.take (o + xs.length * k)).length = o + xs.length * k:=by
            rw [List.length_take,show cs.toList.length = cs.size from Array.length_toList];omega
          rw [putV_list' _ _ _ hp,List.append_assoc,List.drop_append_of_le_length (by rw [hk1];exact Nat.le_add_right _ _),hl,eCells_app]
          have e1 : (cs.toList.take (o + xs.length * k)).drop o = eCells enc xs:=by rw [List.drop_take,← h5];congr 1;omega
          rw [e1,← List.append_assoc,List.take_append_of_le_length (by rw [List.length_append,eCells_len he,eCells_len he];omega),List.take_of_length_le (by rw [List.length_append,eCells_len he,eCells_len he];omega)]
      · have hne : b ≠ a:=by rintro rfl;exact hb (ho b rfl)
        exact (congrFun ew b).trans ((if_neg hne).trans (hk b hb))
      · have : b ≠ a:=by rintro rfl;exact hne rfl
        exact (congrFun ew b).trans (if_neg this)
  · rw [h.n] at q3
    have hne : ∀ b,m0 b ≠ Option.none → b ≠ a:=by rintro b hb rfl;rw [hk b hb] at q2;exact hb q2
    have hg : alM m ((a : Int) + 1) ((rowL m v k ++ eCells enc ys).toArray ++ Builtin.zeroCells zs.toArray (c - (slN v + ys.length))) e a =
        some (.cells ((rowL m v k ++ eCells enc ys).toArray ++ Builtin.zeroCells zs.toArray (c - (slN v + ys.length))) e (0,0)):=by
      unfold alM;rw [if_pos (by omega)]
    refine ⟨?_,fun b hb => ?_,fun b hb => ?_,fun b hb _ => ?_,fun b hb => .inr ?_⟩
    · show SlE enc k _ (.slice (some ⟨a,0,Option.none⟩) (slN v + ys.length) c) _
      rw [h.n,← hl]
      rw [h.n,h.row,← hl] at hg
      rw [h.row]
      refine SlE.of (by omega) hg ?_ ?_ ?_
      · rw [Array.size_append,size_zeroCells]
        have hc2 : (xs.length + ys.length) * k + (c - (xs ++ ys).length) * k = c * k:=by rw [← Nat.add_mul,hl];congr 1;omega
        simp only [List.size_toArray,List.length_append,eCells_len he,hzl]
        rw [hl] at hc2
        omega
      · rw [Array.toList_append,List.all_append,zero_plain' (by simpa using hz),List.all_append,eCells_plain he,eCells_plain he];rfl
      · rw [Array.toList_append,List.drop_zero,List.take_append_of_le_length (by rw [hl];simp [eCells_len he];omega),← eCells_app,hl,List.take_of_length_le (by rw [eCells_len he];simp)]
    · have:=hne b hb
      show alM m ((a : Int) + 1) _ e b = m0 b
      unfold alM;rw [if_neg (by omega)];exact hk b hb
    · have : b = a:=by simp only [hdV,slB] at hb;omega
      subst this
      cases hm : m0 b with
      | none => rfl
      | some o => rw [hk b (by rw [hm];simp),hm] at q2;cases q2
    · have : b ≠ a:=by rintro rfl;exact hb q2
      show alM m ((a : Int) + 1) _ e b = m b
      unfold alM;rw [if_neg (by omega)]
    · have : b = a:=by simp only [hdV,slB] at hb;omega
      rw [this];exact q2
theorem SlE.app_ok (he : EncOK enc k) (h : SlE enc k m v xs) {bytes : Nat} (hb : (xs.length + ys.length) * bytes ≤ 140737488355328) (hb2 : xs.length + ys.length ≤ 9223372036854775807) : appOK m v k bytes ys.length (eCells enc ys) = true:=by
  have e:=h.n
  simp only [appOK,h.ok,eCells_len he,eCells_plain he,e,Bool.true_and,Bool.and_eq_true,decide_eq_true_eq]
  exact ⟨⟨⟨trivial,trivial⟩,hb⟩,hb2⟩
theorem SlE.set (he : EncOK enc k) (h : SlE enc k m v xs) {i : Nat} {x : α} (hi : i < xs.length) :
    okS m (slB v) (aOff (slO v) i k) k = true ∧ SlE enc k (wrL m (slB v) (aOff (slO v) i k) (enc x)) v (xs.set i x) ∧ ∀ a : Nat,slB v ≠ (a : Int) + 1 → wrL m (slB v) (aOff (slO v) i k) (enc x) a = m a:=by
  rcases h.inv with ⟨rfl,rfl⟩ | ⟨a,o,c,cs,ty,rfl,h1,h2,h3,h4,h5⟩
  · simp at hi
  have ea : aOff o (i : Int) k = o + i * k:=by simp [aOff]
  have hik : (i + 1) * k ≤ xs.length * k:=Nat.mul_le_mul_right k hi
  have hck : xs.length * k ≤ c * k:=Nat.mul_le_mul_right k h1
  rw [Nat.succ_mul] at hik
  have ew:=wrL_at' h2 (o + i * k) (enc x)
  simp only [slB,slO,ea]
  have hp : o + i * k + (enc x).length ≤ cs.size:=by rw [he.len];omega
  refine ⟨?_,?_,fun b hb => ?_⟩
  · simp only [okS,mgetW_of' h2]
    exact Nat.ble_eq_true_of_le (by omega)
  · rw [ew,show xs.length = (xs.set i x).length by simp]
    refine SlE.of (by simpa using h1) (if_pos rfl) (by rw [putV_size'];exact h3) ?_ ?_
    · rw [putV_list' _ _ _ hp,List.all_append,List.all_append,he.plain]
      rw [List.all_eq_true] at h4
      simp only [Bool.and_eq_true,Bool.and_true,List.all_eq_true]
      exact ⟨fun x hx => h4 x (List.mem_of_mem_take hx),fun x hx => h4 x (List.mem_of_mem_drop hx)⟩
    · have hk1 : (cs.toList.take (o + i * k)).length = o + i * k:=by rw [List.length_take,show cs.toList.length = cs.size from Array.length_toList];omega
      have hs : xs.set i x = xs.take i ++ x :: xs.drop (i + 1):=by rw [List.set_eq_take_append_cons_drop,if_pos hi]
      have e0 : (cs.toList.take (o + i * k)).drop o = eCells enc (xs.take i):=by
        rw [← eCells_take he,← h5,List.take_take,List.drop_take]
        congr 1
        omega
      have e2 : (cs.toList.drop (o + i * k + k)).take ((xs.length - (i + 1)) * k) = eCells enc (xs.drop (i + 1)):=by
        rw [← eCells_drop he,← h5,List.drop_take,List.drop_drop,Nat.succ_mul]
        have h6 : (i + 1) * k + (xs.length - (i + 1)) * k = xs.length * k:=by rw [← Nat.add_mul];congr 1;omega
        rw [Nat.succ_mul] at h6
        rw [show o + (i * k + k) = o + i * k + k by omega]
        congr 1
        omega
      rw [putV_list' _ _ _ hp,List.append_assoc,List.drop_append_of_le_length (by rw [hk1];exact Nat.le_add_right _ _),e0,he.len,hs,eCells_app,eCells_cons,← e2]
      have hl1 : (eCells enc (xs.take i)).length = i * k:=by rw [eCells_len he,List.length_take,Nat.min_eq_left (by omega)]
      have h6 : i * k + (k + (xs.length - (i + 1)) * k) = xs.length * k:=by
        have : (i + 1) * k + (xs.length - (i + 1)) * k = xs.length * k:=by rw [← Nat.add_mul];congr 1;omega
        rw [Nat.succ_mul] at this;omega
      have hlen : (xs.take i ++ x :: xs.drop (i + 1)).length = xs.length:=by rw [← hs];simp
      rw [hlen,← h6,List.take_append,hl1,List.take_of_length_le (by rw [hl1];omega),show i * k + (k + (xs.length - (i + 1)) * k) - i * k = k + (xs.length - (i + 1)) * k by omega,List.take_append,he.len,List.take_of_length_le (l:=enc x) (by rw [he.len];omega),show k + (xs.length - (i + 1)) * k - k = (xs.length - (i + 1)) * k by omega]
  · have : b ≠ a:=by rintro rfl;exact hb rfl
    exact (congrFun ew b).trans (if_neg this)
end
end Go.Proofs.Ytnlohongffpkpaa.Sx
end

section
namespace Go.Proofs.Ytnlohongffpkpaa.T16
open Go Go.RowKit Go.Proofs.Ytnlohongffpkpaa.Sx Go.Proofs
set_option linter.unusedVariables false
set_option linter.unusedSimpArgs false
def u8Of : V → Option Int
  | .u (.c (.li .u8 n)) => some n
  | .u (.c (.si .u8 n)) => some n
  | _ => none
theorem u8Of_den {v : V} {n : Int} (h : u8Of v = some n) (ρ : Nat → Nat) : v.den ρ = V.den ρ (.u (.c (.si .u8 n))):=by
  unfold u8Of at h
  split at h
  · cases h;rfl
  · cases h;rfl
  · cases h
def u8C : C → Option Int
  | .li .u8 n => some n
  | .si .u8 n => some n
  | _ => none
theorem u8C_den {c : C} {n : Int} (h : u8C c = some n) (ρ : Nat → Nat) : c.den ρ = .int .u8 n:=by
  unfold u8C at h
  split at h
  · cases h;rfl
  · cases h;rfl
  · cases h
def u64C : C → Option Int
  | .li .u64 n => some n
  | .si .u64 n => some n
  | _ => none
theorem u64C_den {c : C} {n : Int} (h : u64C c = some n) (ρ : Nat → Nat) : c.den ρ = .int .u64 n:=by
  unfold u64C at h
  split at h
  · cases h;rfl
  · cases h;rfl
  · cases h
def boC : C → Option Bool
  | .lb n => some n
  | .sb n => some n
  | _ => none
theorem boC_den {c : C} {n : Bool} (h : boC c = some n) (ρ : Nat → Nat) : c.den ρ = .bool n:=by
  unfold boC at h
  split at h
  · cases h;rfl
  · cases h;rfl
  · cases h
def rowOf5 : V → Option (Int × Int × Int × Int × Value)
  | .u (.agg [a,b,c,d,.sv l]) => (match iOf a,iOf b,iOf c,u8C d with | some x,some y,some z,some k => some (x,y,z,k,l) | _,_,_,_ => none)
  | _ => none
theorem rowOf5_den {v : V} {x y z k : Int} {l : Value} (h : rowOf5 v = some (x,y,z,k,l)) (ρ : Nat → Nat) : v.den ρ = V.den ρ (.u (.agg [.si .i64 x,.si .i64 y,.si .i64 z,.si .u8 k,.sv l])):=by
  unfold rowOf5 at h
  split at h
  · rename_i a b c d l
    split at h
    · rename_i h1 h2 h3 h4
      cases h
      simp only [V.den,U.den,dens,List.map_cons,List.map_nil,iOf_den h1,iOf_den h2,iOf_den h3,u8C_den h4]
      rfl
    · cases h
  · cases h
def itmOf : V → Option (Int × Int × Int)
  | .u (.agg [a,b,c]) => (match iOf a,u64C b,iOf c with | some x,some y,some z => some (x,y,z) | _,_,_ => none)
  | _ => none
theorem itmOf_den {v : V} {x y z : Int} (h : itmOf v = some (x,y,z)) (ρ : Nat → Nat) : v.den ρ = V.den ρ (.u (.agg [.si .i64 x,.si .u64 y,.si .i64 z])):=by
  unfold itmOf at h
  split at h
  · rename_i a b c
    split at h
    · rename_i h1 h2 h3
      cases h
      simp only [V.den,U.den,dens,List.map_cons,List.map_nil,iOf_den h1,u64C_den h2,iOf_den h3]
      rfl
    · cases h
  · cases h
def stpOf : V → Option (Int × Int × Int × Int × Int × Int × Int × Int × Bool)
  | .u (.agg [a,b,c,d,e,f,g,h,i]) => (match iOf a,iOf b,iOf c,iOf d,iOf e,iOf f,iOf g,u64C h,boC i with | some a,some b,some c,some d,some e,some f,some g,some h,some i => some (a,b,c,d,e,f,g,h,i) | _,_,_,_,_,_,_,_,_ => none)
  | _ => none
theorem stpOf_den {v : V} {a b c d e f g h : Int} {i : Bool} (hh : stpOf v = some (a,b,c,d,e,f,g,h,i)) (ρ : Nat → Nat) : v.den ρ = V.den ρ (.u (.agg [.si .i64 a,.si .i64 b,.si .i64 c,.si .i64 d,.si .i64 e,.si .i64 f,.si .i64 g,.si .u64 h,.sb i])):=by
  unfold stpOf at hh
  split at hh
  · split at hh
    · rename_i h1 h2 h3 h4 h5 h6 h7 h8 h9
      cases hh
      simp only [V.den,U.den,dens,List.map_cons,List.map_nil,iOf_den h1,iOf_den h2,iOf_den h3,iOf_den h4,iOf_den h5,iOf_den h6,iOf_den h7,u64C_den h8,boC_den h9]
      rfl
    · cases hh
  · cases hh
theorem SlE.getj {α : Type} {enc : α → List Value} {k : Nat} {m : Mem} {v : Value} {xs : List α} (he : EncOK enc k) (h : SlE enc k m v xs) {i : Nat} {x : α} (hx : xs[i]? = some x) :
    nzp (slB v) = true ∧ ∀ j zs,okR (enc x).toArray j zs = true → j + zs.length ≤ k → okL m (slB v) (aOff (slO v) i k + j) zs = true:=by
  have hlt : i < xs.length:=(List.getElem?_eq_some_iff.1 hx).1
  rcases h.inv with ⟨rfl,rfl⟩ | ⟨a,o,c,cs,ty,rfl,h1,h2,h3,h4,h5⟩
  · simp at hlt
  have key : ∀ j,j < k → cs[o + i * k + j]? = (enc x)[j]?:=fun j hj => by
    have hb : i * k + j < xs.length * k:=by
      have : (i + 1) * k ≤ xs.length * k:=Nat.mul_le_mul_right k hlt
      rw [Nat.succ_mul] at this;omega
    have e1:=eCells_get he hx hj
    rw [← h5,List.getElem?_take_of_lt hb,List.getElem?_drop,Nat.add_assoc] at *
    rw [← e1];simp
  have ea : aOff o (i : Int) k = o + i * k:=by simp [aOff]
  simp only [slB,slO,ea]
  refine ⟨by simp [nzp],fun j zs hz hl => ?_⟩
  unfold okL;rw [mget_of' h2]
  refine okR_of hz fun q hq => ?_
  rw [Nat.add_assoc,key (j + q) (by omega)];simp
structure RV where
  p : Pl
  k : Int
  v : Value
  l : List Itm
def itEnc (x : Itm) : List Value:=[.int .i64 x.1.1,.int .u64 x.1.2,.int .i64 x.2]
def rwEnc (x : RV) : List Value:=[.int .i64 x.p.1,.int .i64 x.p.2.1,.int .i64 x.p.2.2,.int .u8 x.k,pl x.v]
theorem itEncOK : EncOK itEnc 3:=⟨by omega,fun _ => rfl,fun _ => rfl⟩
theorem pl_plain (v : Value) : isPlain (pl v) = true:=by cases v <;> rfl
theorem rwEncOK : EncOK rwEnc 5:=⟨by omega,fun _ => rfl,fun x => by
  show (true && (true && (true && (true && (isPlain (pl x.v) && true))))) = true
  rw [pl_plain];rfl⟩
structure GR where
  r : Nat
  V : Value
  rs : List RV
structure GR.is (Z : GR) (m : Mem) : Prop where
  hd : m Z.r = some (.cells #[Z.V] 85 (0,0))
  sl : SlE rwEnc 5 m Z.V Z.rs
  its : ∀ x ∈ Z.rs,SlE itEnc 3 m x.v x.l
  vr : ∀ a : Nat,slB Z.V = (a : Int) + 1 → a ≠ Z.r
  ir : ∀ x ∈ Z.rs,∀ a : Nat,slB x.v = (a : Int) + 1 → a ≠ Z.r ∧ slB Z.V ≠ (a : Int) + 1
  srt : Z.rs.Pairwise fun a b => plt a.p b.p = true
  nd : ∀ x ∈ Z.rs,(x.l.map (·.1)).Nodup
  b1 : Z.rs.length < 1099511627776
  b2 : ∀ x ∈ Z.rs,x.l.length < 1099511627776
section
variable {Z : GR} {m : Mem} {i j : Nat} {x : RV} {it : Itm} {v : Value} {its : List Itm}
structure BasF (m : Mem) (Z : GR) : Prop where
  nr : nzp ((Z.r : Int) + 1) = true
  ld : okL m ((Z.r : Int) + 1) 0 [.raw (.slice none 0 0)] = true
  v : mcell m ((Z.r : Int) + 1) 0 = Z.V
  pv : pl Z.V = Z.V
  sl : isSlV Z.V = true
  n : slN Z.V = Z.rs.length
theorem GR.is.bas (h : Z.is m) : BasF m Z:=by
  have e:=mget_of' h.hd
  refine ⟨by simp [nzp],?_,?_,h.sl.pl,h.sl.isv,h.sl.n⟩
  · unfold okL;rw [e]
    have:=h.sl.plain
    simp [okR,okC,this]
  · unfold mcell;rw [e];rfl
structure RowF (m : Mem) (Z : GR) (i : Nat) (x : RV) : Prop where
  inn : inSl Z.V (i : Int) = true
  nz : nzp (slB Z.V) = true
  o3 : okL m (slB Z.V) (aOff (slO Z.V) (i : Int) 5) [.li .i64 0,.li .i64 0,.li .i64 0] = true
  o5 : okL m (slB Z.V) (aOff (slO Z.V) (i : Int) 5) [.li .i64 0,.li .i64 0,.li .i64 0,.li .u8 0,.raw (.slice none 0 0)] = true
  ok : okL m (slB Z.V) (.succ (.succ (.succ (aOff (slO Z.V) (i : Int) 5)))) [.li .u8 0] = true
  ol : okL m (slB Z.V) (.succ (.succ (.succ (.succ (aOff (slO Z.V) (i : Int) 5))))) [.raw (.slice none 0 0)] = true
  g0 : gI m (slB Z.V) (aOff (slO Z.V) (i : Int) 5) = x.p.1
  g1 : gI m (slB Z.V) (.succ (aOff (slO Z.V) (i : Int) 5)) = x.p.2.1
  g2 : gI m (slB Z.V) (.succ (.succ (aOff (slO Z.V) (i : Int) 5))) = x.p.2.2
  g3 : gI m (slB Z.V) (.succ (.succ (.succ (aOff (slO Z.V) (i : Int) 5)))) = x.k
  g4 : mcell m (slB Z.V) (.succ (.succ (.succ (.succ (aOff (slO Z.V) (i : Int) 5))))) = x.v
theorem GR.is.row (h : Z.is m) (hx : Z.rs[i]? = some x) : RowF m Z i x:=by
  obtain ⟨g1,g2,g3⟩:=h.sl.get rwEncOK hx
  obtain ⟨g4,g5⟩:=SlE.getj rwEncOK h.sl hx
  have hxv : pl x.v = x.v:=(h.its x (List.mem_of_getElem? hx)).pl
  have hc : ∀ j (w : Value),(rwEnc x)[j]? = some w → j < 5 → mcell m (slB Z.V) (aOff (slO Z.V) (i : Int) 5 + j) = w:=fun j w hw hj => by
    have:=g2 j hj
    rw [hw] at this
    exact Option.some.inj this
  have c0 : mcell m (slB Z.V) (aOff (slO Z.V) (i : Int) 5) = .int .i64 x.p.1:=hc 0 _ rfl (by omega)
  have c1 : mcell m (slB Z.V) (aOff (slO Z.V) (i : Int) 5).succ = .int .i64 x.p.2.1:=hc 1 _ rfl (by omega)
  have c2 : mcell m (slB Z.V) (aOff (slO Z.V) (i : Int) 5).succ.succ = .int .i64 x.p.2.2:=hc 2 _ rfl (by omega)
  have c3 : mcell m (slB Z.V) (aOff (slO Z.V) (i : Int) 5).succ.succ.succ = .int .u8 x.k:=hc 3 _ rfl (by omega)
  have c4 : mcell m (slB Z.V) (aOff (slO Z.V) (i : Int) 5).succ.succ.succ.succ = pl x.v:=hc 4 _ rfl (by omega)
  refine ⟨g1,g4,g5 0 _ ?_ (by simp),g5 0 _ ?_ (by simp),g5 3 _ ?_ (by simp),g5 4 _ ?_ (by simp),?_,?_,?_,?_,c4.trans hxv⟩
  · rfl
  · simp [okR,rwEnc,okC,isK,pl_plain]
  · rfl
  · simp [okR,rwEnc,okC,isK,pl_plain]
  · unfold gI;rw [c0];rfl
  · unfold gI;rw [c1];rfl
  · unfold gI;rw [c2];rfl
  · unfold gI;rw [c3];rfl
structure ItF (m : Mem) (v : Value) (j : Nat) (it : Itm) : Prop where
  inn : inSl v (j : Int) = true
  nz : nzp (slB v) = true
  o2 : okL m (slB v) (aOff (slO v) (j : Int) 3) [.li .i64 0,.li .u64 0] = true
  o1 : okL m (slB v) (.succ (.succ (aOff (slO v) (j : Int) 3))) [.li .i64 0] = true
  g0 : gI m (slB v) (aOff (slO v) (j : Int) 3) = it.1.1
  g1 : gI m (slB v) (.succ (aOff (slO v) (j : Int) 3)) = it.1.2
  g2 : gI m (slB v) (.succ (.succ (aOff (slO v) (j : Int) 3))) = it.2
theorem itf (h : SlE itEnc 3 m v its) (hx : its[j]? = some it) : ItF m v j it:=by
  obtain ⟨g1,g2,g3⟩:=h.get itEncOK hx
  obtain ⟨g4,g5⟩:=SlE.getj itEncOK h hx
  have hc : ∀ q (w : Value),(itEnc it)[q]? = some w → q < 3 → mcell m (slB v) (aOff (slO v) (j : Int) 3 + q) = w:=fun q w hw hj => by
    have:=g2 q hj
    rw [hw] at this
    exact Option.some.inj this
  have c0 : mcell m (slB v) (aOff (slO v) (j : Int) 3) = .int .i64 it.1.1:=hc 0 _ rfl (by omega)
  have c1 : mcell m (slB v) (aOff (slO v) (j : Int) 3).succ = .int .u64 it.1.2:=hc 1 _ rfl (by omega)
  have c2 : mcell m (slB v) (aOff (slO v) (j : Int) 3).succ.succ = .int .i64 it.2:=hc 2 _ rfl (by omega)
  refine ⟨g1,g4,g5 0 _ ?_ (by simp),g5 2 _ ?_ (by simp),?_,?_,?_⟩
  · rfl
  · rfl
  · unfold gI;rw [c0];rfl
  · unfold gI;rw [c1];rfl
  · unfold gI;rw [c2];rfl
end
def T_qbef (m : Mem) (pm ps pa : Int) (qm qs qa : Int) : Tr:=(.br (iNe pm qm) (.leaf (.memo (.u (.c (.sb (iLt pm qm)))) m)) (.br (iNe ps qs) (.leaf (.memo (.u (.c (.sb (iLt ps qs)))) m)) (.leaf (.memo (.u (.c (.sb (iLt pa qa)))) m))))
theorem t_qbef (m : Mem) (pm ps pa : Int) (qm qs qa : Int) : runm Try.prog [] (drawx Try.prog []) 300 92 [.u (.agg [.si .i64 pm,.si .i64 ps,.si .i64 pa]),.u (.agg [.si .i64 qm,.si .i64 qs,.si .i64 qa])] m [98,92,95,142,140,137,111,107,108,109,85] = T_qbef m pm ps pa qm qs qa:=by kernel_rfl
def qbefOK (m : Mem) (pm ps pa : Int) (qm qs qa : Int) : Prop:=okP (T_qbef m pm ps pa qm qs qa)
def qbefV (m : Mem) (pm ps pa : Int) (qm qs qa : Int) : Bool:=vBool (outV (T_qbef m pm ps pa qm qs qa))
theorem qbef_all (m : Mem) (pm ps pa : Int) (qm qs qa : Int) : allL (fun v m' => m' = m ∧ ∀ ρ,V.den ρ v = V.den ρ (.u (.c (.sb (vBool v))))) (T_qbef m pm ps pa qm qs qa):=by
  simp only [T_qbef,allL]
  repeat' (first | exact fun _ => rfl | exact fun _ => trivial | exact trivial | rfl | constructor)
def s_qbef : Sum:=rdSum 92 fun m a => match a with | [a0,a1] => (match plaOf a0,plaOf a1 with | some (pm,ps,pa),some (qm,qs,qa) => some (qbefOK m pm ps pa qm qs qa,.u (.c (.sb (qbefV m pm ps pa qm qs qa)))) | _,_ => none) | _ => none
theorem s_qbef_ok : SumOK Try.prog s_qbef:=by
  refine rdSum_ok ⟨_,Try.func92,by kernel_rfl⟩ fun m args pre v h hp hw ρ w hm => ?_
  split at h
  · split at h
    · rename_i a0 a1 _ _  pm ps pa qm qs qa h0 h1
      cases h
      exact dm_calls nameOK okn (dOK okn) 300 _ m _ (t_qbef m pm ps pa qm qs qa) hp (allL_out (qbef_all m pm ps pa qm qs qa) hp).1 ρ ((allL_out (qbef_all m pm ps pa qm qs qa) hp).2 ρ) w hm (by simp only [List.map_cons,List.map_nil,plaOf_den h0,plaOf_den h1])
    · cases h
  · cases h
def T_qend (m : Mem) (n : Int) (f : Bool) : Tr:=(.br f (.leaf (.memo (.u (.c (.li .i64 0))) m)) (.leaf (.memo (.u (.c (.si .i64 (iSub .i64 n 1)))) m)))
theorem t_qend (m : Mem) (n : Int) (f : Bool) : runm Try.prog [] (drawx Try.prog []) 300 47 [.u (.c (.si .i64 n)),.u (.c (.sb f))] m [98,92,95,142,140,137,111,107,108,109,85] = T_qend m n f:=by kernel_rfl
def qendOK (m : Mem) (n : Int) (f : Bool) : Prop:=okP (T_qend m n f)
def qendV (m : Mem) (n : Int) (f : Bool) : Int:=vInt (outV (T_qend m n f))
theorem qend_all (m : Mem) (n : Int) (f : Bool) : allL (fun v m' => m' = m ∧ ∀ ρ,V.den ρ v = V.den ρ (.u (.c (.si .i64 (vInt v))))) (T_qend m n f):=by
  simp only [T_qend,allL]
  repeat' (first | exact fun _ => rfl | exact fun _ => trivial | exact trivial | rfl | constructor)
def s_qend : Sum:=rdSum 47 fun m a => match a with | [a0,a1] => (match intOf a0,booOf a1 with | some n,some f => some (qendOK m n f,.u (.c (.si .i64 (qendV m n f)))) | _,_ => none) | _ => none
theorem s_qend_ok : SumOK Try.prog s_qend:=by
  refine rdSum_ok ⟨_,Try.func47,by kernel_rfl⟩ fun m args pre v h hp hw ρ w hm => ?_
  split at h
  · split at h
    · rename_i a0 a1 _ _  n f h0 h1
      cases h
      exact dm_calls nameOK okn (dOK okn) 300 _ m _ (t_qend m n f) hp (allL_out (qend_all m n f) hp).1 ρ ((allL_out (qend_all m n f) hp).2 ρ) w hm (by simp only [List.map_cons,List.map_nil,intOf_den h0,booOf_den h1])
    · cases h
  · cases h
def RowAt (rs : List RV) (p : Pl) (i : Int) : Prop:=(i = -1 ∧ ∀ x ∈ rs,x.p ≠ p) ∨ ∃ (k : Nat) (x : RV),i = k ∧ rs[k]? = some x ∧ x.p = p
def HasAt (its : List Itm) (h : Hn) (i : Int) : Prop:=(i = -1 ∧ ∀ it ∈ its,it.1 ≠ h) ∨ ∃ (k : Nat) (it : Itm),i = k ∧ its[k]? = some it ∧ it.1 = h
def T_qrow (m : Mem) (r : Int) (pm ps pa : Int) : Tr:=(.lp (.mk [0] [] [] m) (fun y0 j0 => (.br (nzp r) (.br (nzp r) (.br (okL y0.4 r 0 [(.raw (.slice (.none) 0 0))]) (.br (isSlV (pl (mcell y0.4 r 0))) (.br (iLt (hdI y0.1) (slN (pl (mcell y0.4 r 0)))) (.br (nzp r) (.br (nzp r) (.br (okL y0.4 r 0 [(.raw (.slice (.none) 0 0))]) (.br (inSl (pl (mcell y0.4 r 0)) (hdI y0.1)) (.br (nzp (slB (pl (mcell y0.4 r 0)))) (.br (okL y0.4 (slB (pl (mcell y0.4 r 0))) (aOff (slO (pl (mcell y0.4 r 0))) (hdI y0.1) 5) [(.li .i64 0),(.li .i64 0),(.li .i64 0)]) (.br (bAnd (iEq (gI y0.4 (slB (pl (mcell y0.4 r 0))) (aOff (slO (pl (mcell y0.4 r 0))) (hdI y0.1) 5)) pm) (bAnd (iEq (gI y0.4 (slB (pl (mcell y0.4 r 0))) (.succ (aOff (slO (pl (mcell y0.4 r 0))) (hdI y0.1) 5))) ps) (iEq (gI y0.4 (slB (pl (mcell y0.4 r 0))) (.succ (.succ (aOff (slO (pl (mcell y0.4 r 0))) (hdI y0.1) 5)))) pa))) (.leaf (.up (.memo (.u (.c (.si .i64 (hdI y0.1)))) y0.4))) (.req ((([(0,(.u (.c (.np r 0)))),(3,(.u (.c (.ptr 0 0))))] : List (Nat × V)) = [(0,(.u (.c (.np r 0)))),(3,(.u (.c (.ptr 0 0))))]) ∧ (([(0,([(.si .i64 pm),(.si .i64 ps),(.si .i64 pa)],59))] : List (Nat × Blk)) = [(0,([(.si .i64 pm),(.si .i64 ps),(.si .i64 pa)],59))])) (.leaf (.again (.mk [(iAdd .i64 (hdI y0.1) 1)] [] [] y0.4))))) (.no 70)) (.no 76)) (.no 104)) (.no 70)) (.no 76)) (.no 75)) (.leaf (.up (.memo (.u (.c (.li .i64 (-1)))) y0.4)))) (.no 123)) (.no 70)) (.no 76)) (.no 75))))
def qrowPre (Z : GR) (m : Mem) (r : Int) : Prop:=r = (Z.r : Int) + 1 ∧ Z.is m
def qrowP (m : Mem) (r pm ps pa : Int) : Prop:=∃ Z,qrowPre Z m r
def qrowPost (m : Mem) (Z : GR) (p : Pl) (y : Vars) : Prop:=(∃ i,y.i = [i] ∧ RowAt Z.rs p i) ∧ y.m = m
def qrowQ (m : Mem) (r pm ps pa : Int) (y : Vars) : Prop:=∀ Z,qrowPre Z m r → qrowPost m Z (pm,ps,pa) y
def s_qrow : Sum:=memSum 46 fun m a => match a with | [a0,a1] => (match ptrOf a0,plaOf a1 with | some r,some (pm,ps,pa) => some ⟨qrowP m r pm ps pa,qrowQ m r pm ps pa,fun y => .u (.c (.si .i64 (hdI y.i)))⟩ | _,_ => none) | _ => none
theorem qrow_walk {m : Mem} {r a b c : Int} (Z : GR) (hZ : qrowPre Z m r) : (T_qrow m r a b c).sat (isMemo fun v x => qrowPost m Z (a,b,c) (yOf v x) ∧ (yOf v x).m = x ∧ ∀ ρ,v.den ρ = V.den ρ (.u (.c (.si .i64 (hdI (yOf v x).i))))):=by
  obtain ⟨rfl,h⟩:=hZ
  have B:=h.bas
  have hb:=h.b1
  unfold T_qrow
  let J : Nat → Vars → Prop:=fun N y => ∃ k : Nat,k + N = Z.rs.length ∧ y.i = [(k : Int)] ∧ y.m = m ∧ ∀ j x,j < k → Z.rs[j]? = some x → x.p ≠ (a,b,c)
  refine lp_idx J (n0:=Z.rs.length) ⟨0,by omega,rfl,rfl,fun j x hj => by omega⟩ ?_
  rintro N ⟨ui,ub,uv,um⟩ _ ⟨k,hk,rfl,hm,hf⟩
  simp only at hm
  subst hm
  simp only [hdI,B.v,B.pv,B.n]
  rw [brT B.nr,brT B.nr,brT B.ld,brT B.sl]
  by_cases hlt : k < Z.rs.length
  · obtain ⟨x,hx⟩ : ∃ x,Z.rs[k]? = some x:=⟨_,List.getElem?_eq_getElem hlt⟩
    have F:=h.row hx
    rw [brT (by simp [iLt];omega),brT B.nr,brT B.nr,brT B.ld,brT F.inn,brT F.nz,brT F.o3,F.g0,F.g1,F.g2]
    by_cases e : x.p = (a,b,c)
    · rw [brT (by simp [bAnd,iEq,e])]
      exact ⟨⟨⟨(k : Int),rfl,.inr ⟨k,x,rfl,hx,e⟩⟩,rfl⟩,rfl,fun ρ => rfl⟩
    · rw [brF (by
        obtain ⟨⟨p1,p2,p3⟩,_,_,_⟩:=x
        simp only [bAnd,iEq,Bool.and_eq_false_iff,beq_eq_false_iff_ne]
        by_cases e1 : p1 = a
        · by_cases e2 : p2 = b
          · exact .inr (.inr fun e3 => e (by simp [e1,e2,e3]))
          · exact .inr (.inl e2)
        · exact .inl e1),sat_req]
      refine ⟨⟨trivial,trivial⟩,N - 1,by omega,k + 1,by omega,?_,rfl,fun j y hj hy => ?_⟩
      · rw [iadd_i (by omega)];simp
      · by_cases ej : j = k
        · subst ej;rw [hx] at hy;cases hy;exact e
        · exact hf j y (by omega) hy
  · rw [brF (by simp [iLt];omega)]
    refine ⟨⟨⟨-1,rfl,.inl ⟨rfl,fun x hx => ?_⟩⟩,rfl⟩,rfl,fun ρ => rfl⟩
    obtain ⟨j,hj⟩:=List.getElem?_of_mem hx
    have:=(List.getElem?_eq_some_iff.1 hj).1
    exact hf j x (by omega) hj
theorem t_qrow (m : Mem) (r : Int) (pm ps pa : Int) : runm Try.prog [] (drawh Try.prog [] (fun _ _ => some ⟨[5],[],[0,3],[0]⟩) (fun _ _ _ => none)) 300 46 [.u (.c (.np r 0)),.u (.agg [.si .i64 pm,.si .i64 ps,.si .i64 pa])] m [98,92,95,142,140,137,111,107,108,109,85] = T_qrow m r pm ps pa:=by kernel_rfl
theorem s_qrow_ok : SumOK Try.prog s_qrow:=by
  refine memSum_ok ⟨_,Try.func46,by kernel_rfl⟩ fun m args ms h hp hw ρ w hm => ?_
  split at h
  · split at h
    · rename_i a0 a1 _ _ r pm ps pa h0 h1
      cases h
      have hS : ∀ q ∈ [],SumOK Try.prog q:=okn
      exact mm_ghostY nameOK hS (drawh_sound nameOK hS (by kernel_rfl) _ _) 300 _ m _ (t_qrow m r pm ps pa) yOf hp (fun G hG => qrow_walk G hG) ρ w hm (by simp only [List.map_cons,List.map_nil,ptrOf_den h0,plaOf_den h1])
    · cases h
  · cases h
def T_qhas (m : Mem) (xm xs xa xk : Int) (xl : Value) (hs hg : Int) : Tr:=(.lp (.mk [0] [] [] m) (fun y0 j0 => (.br (isSlV (pl xl)) (.br (iLt (hdI y0.1) (slN (pl xl))) (.br (inSl (pl xl) (hdI y0.1)) (.br (nzp (slB (pl xl))) (.br (okL y0.4 (slB (pl xl)) (aOff (slO (pl xl)) (hdI y0.1) 3) [(.li .i64 0),(.li .u64 0)]) (.br (bAnd (iEq (gI y0.4 (slB (pl xl)) (aOff (slO (pl xl)) (hdI y0.1) 3)) hs) (iEq (gI y0.4 (slB (pl xl)) (.succ (aOff (slO (pl xl)) (hdI y0.1) 3))) hg)) (.leaf (.up (.memo (.u (.c (.si .i64 (hdI y0.1)))) y0.4))) (.req ((([(2,(.u (.c (.ptr 0 0)))),(3,(.u (.c (.ptr 1 0))))] : List (Nat × V)) = [(2,(.u (.c (.ptr 0 0)))),(3,(.u (.c (.ptr 1 0))))]) ∧ (([(0,([(.si .i64 xm),(.si .i64 xs),(.si .i64 xa),(.si .u8 xk),(.sv xl)],90)),(1,([(.si .i64 hs),(.si .u64 hg)],29))] : List (Nat × Blk)) = [(0,([(.si .i64 xm),(.si .i64 xs),(.si .i64 xa),(.si .u8 xk),(.sv xl)],90)),(1,([(.si .i64 hs),(.si .u64 hg)],29))])) (.leaf (.again (.mk [(iAdd .i64 (hdI y0.1) 1)] [] [] y0.4))))) (.no 70)) (.no 76)) (.no 104)) (.leaf (.up (.memo (.u (.c (.li .i64 (-1)))) y0.4)))) (.no 123))))
def qhasPre (its : List Itm) (m : Mem) (l : Value) : Prop:=SlE itEnc 3 m l its ∧ its.length < 1099511627776
def qhasP (m : Mem) (xm xs xa xk : Int) (xl : Value) (hs hg : Int) : Prop:=∃ its,qhasPre its m xl
def qhasPost (m : Mem) (its : List Itm) (h : Hn) (y : Vars) : Prop:=(∃ i,y.i = [i] ∧ HasAt its h i) ∧ y.m = m
def qhasQ (m : Mem) (xm xs xa xk : Int) (xl : Value) (hs hg : Int) (y : Vars) : Prop:=∀ its,qhasPre its m xl → qhasPost m its (hs,hg) y
def s_qhas : Sum:=memSum 74 fun m a => match a with | [a0,a1] => (match rowOf5 a0,hanOf a1 with | some (xm,xs,xa,xk,xl),some (hs,hg) => some ⟨qhasP m xm xs xa xk xl hs hg,qhasQ m xm xs xa xk xl hs hg,fun y => .u (.c (.si .i64 (hdI y.i)))⟩ | _,_ => none) | _ => none
theorem qhas_walk {m : Mem} {xm xs xa xk hs hg : Int} {xl : Value} (its : List Itm) (hZ : qhasPre its m xl) : (T_qhas m xm xs xa xk xl hs hg).sat (isMemo fun v x => qhasPost m its (hs,hg) (yOf v x) ∧ (yOf v x).m = x ∧ ∀ ρ,v.den ρ = V.den ρ (.u (.c (.si .i64 (hdI (yOf v x).i))))):=by
  obtain ⟨h,hb⟩:=hZ
  unfold T_qhas
  let J : Nat → Vars → Prop:=fun N y => ∃ k : Nat,k + N = its.length ∧ y.i = [(k : Int)] ∧ y.m = m ∧ ∀ j x,j < k → its[j]? = some x → x.1 ≠ (hs,hg)
  refine lp_idx J (n0:=its.length) ⟨0,by omega,rfl,rfl,fun j x hj => by omega⟩ ?_
  rintro N ⟨ui,ub,uv,um⟩ _ ⟨k,hk,rfl,hm,hf⟩
  simp only at hm
  subst hm
  simp only [hdI,h.pl,h.n]
  rw [brT h.isv]
  by_cases hlt : k < its.length
  · obtain ⟨x,hx⟩ : ∃ x,its[k]? = some x:=⟨_,List.getElem?_eq_getElem hlt⟩
    have F:=itf h hx
    rw [brT (by simp [iLt];omega),brT F.inn,brT F.nz,brT F.o2,F.g0,F.g1]
    by_cases e : x.1 = (hs,hg)
    · rw [brT (by simp [bAnd,iEq,e])]
      exact ⟨⟨⟨(k : Int),rfl,.inr ⟨k,x,rfl,hx,e⟩⟩,rfl⟩,rfl,fun ρ => rfl⟩
    · rw [brF (by
        obtain ⟨⟨p1,p2⟩,_⟩:=x
        simp only [bAnd,iEq,Bool.and_eq_false_iff,beq_eq_false_iff_ne]
        by_cases e1 : p1 = hs
        · exact .inr fun e3 => e (by simp [e1,e3])
        · exact .inl e1),sat_req]
      refine ⟨⟨trivial,trivial⟩,N - 1,by omega,k + 1,by omega,?_,rfl,fun j y hj hy => ?_⟩
      · rw [iadd_i (by omega)];simp
      · by_cases ej : j = k
        · subst ej;rw [hx] at hy;cases hy;exact e
        · exact hf j y (by omega) hy
  · rw [brF (by simp [iLt];omega)]
    refine ⟨⟨⟨-1,rfl,.inl ⟨rfl,fun x hx => ?_⟩⟩,rfl⟩,rfl,fun ρ => rfl⟩
    obtain ⟨j,hj⟩:=List.getElem?_of_mem hx
    have:=(List.getElem?_eq_some_iff.1 hj).1
    exact hf j x (by omega) hj
theorem t_qhas (m : Mem) (xm xs xa xk : Int) (xl : Value) (hs hg : Int) : runm Try.prog [] (drawh Try.prog [] (fun _ _ => some ⟨[5],[],[2,3],[0,1]⟩) (fun _ _ _ => none)) 300 74 [.u (.agg [.si .i64 xm,.si .i64 xs,.si .i64 xa,.si .u8 xk,.sv xl]),.u (.agg [.si .i64 hs,.si .u64 hg])] m [98,92,95,142,140,137,111,107,108,109,85] = T_qhas m xm xs xa xk xl hs hg:=by kernel_rfl
theorem s_qhas_ok : SumOK Try.prog s_qhas:=by
  refine memSum_ok ⟨_,Try.func74,by kernel_rfl⟩ fun m args ms h hp hw ρ w hm => ?_
  split at h
  · split at h
    · rename_i a0 a1 _ _ xm xs xa xk xl hs hg h0 h1
      cases h
      have hS : ∀ q ∈ [],SumOK Try.prog q:=okn
      exact mm_ghostY nameOK hS (drawh_sound nameOK hS (by kernel_rfl) _ _) 300 _ m _ (t_qhas m xm xs xa xk xl hs hg) yOf hp (fun G hG => qhas_walk G hG) ρ w hm (by simp only [List.map_cons,List.map_nil,rowOf5_den h0,hanOf_den h1])
    · cases h
  · cases h
end Go.Proofs.Ytnlohongffpkpaa.T16
end

section
namespace Go.Proofs.Ytnlohongffpkpaa.T16
open Go Go.RowKit Go.Proofs.Ytnlohongffpkpaa.Sx Go.Proofs
set_option linter.unusedVariables false
set_option linter.unusedSimpArgs false
def yPB (v : V) (m : Mem) : Vars :=
  match v with
  | .tup [.agg [a,b,c],.c d] => ⟨[cI a,cI b,cI c],[cB d],[],m⟩
  | _ => ⟨[],[],[],m⟩
theorem nodup_fst {l : List Itm} (h : (l.map (·.1)).Nodup) {x y : Itm} (hx : x ∈ l) (hy : y ∈ l) (e : x.1 = y.1) : x = y:=by
  induction l with
  | nil => cases hx
  | cons z l ih =>
    rw [List.map_cons,List.nodup_cons] at h
    rcases List.mem_cons.1 hx with rfl | hx1
    · rcases List.mem_cons.1 hy with rfl | hy1
      · rfl
      · exact absurd (List.mem_map.2 ⟨y,hy1,e.symm⟩) h.1
    · rcases List.mem_cons.1 hy with rfl | hy1
      · exact absurd (List.mem_map.2 ⟨x,hx1,e⟩) h.1
      · exact ih h.2 hx1 hy1
def InAt (rs : List RV) (h : Hn) (n : Int) (y : Vars) : Prop :=
  (∃ x ∈ rs,(h,n) ∈ x.l ∧ y.i = [x.p.1,x.p.2.1,x.p.2.2] ∧ y.b = [true]) ∨ ((∀ x ∈ rs,(h,n) ∉ x.l) ∧ y.i = [0,0,0] ∧ y.b = [false])
def T_qin (m : Mem) (r : Int) (hs hg : Int) (n : Int) : Tr:=(.lp (.mk [0] [] [] m) (fun y0 j0 => (.br (nzp r) (.br (nzp r) (.br (okL y0.4 r 0 [(.raw (.slice (.none) 0 0))]) (.br (isSlV (pl (mcell y0.4 r 0))) (.br (iLt (hdI y0.1) (slN (pl (mcell y0.4 r 0)))) (.br (nzp r) (.br (nzp r) (.br (okL y0.4 r 0 [(.raw (.slice (.none) 0 0))]) (.br (inSl (pl (mcell y0.4 r 0)) (hdI y0.1)) (.br (okL y0.4 (slB (pl (mcell y0.4 r 0))) (aOff (slO (pl (mcell y0.4 r 0))) (hdI y0.1) 5) [(.li .i64 0),(.li .i64 0),(.li .i64 0),(.li .u8 0),(.raw (.slice (.none) 0 0))]) (.req (qhasP y0.4 (gI y0.4 (slB (pl (mcell y0.4 r 0))) (aOff (slO (pl (mcell y0.4 r 0))) (hdI y0.1) 5)) (gI y0.4 (slB (pl (mcell y0.4 r 0))) (.succ (aOff (slO (pl (mcell y0.4 r 0))) (hdI y0.1) 5))) (gI y0.4 (slB (pl (mcell y0.4 r 0))) (.succ (.succ (aOff (slO (pl (mcell y0.4 r 0))) (hdI y0.1) 5)))) (gI y0.4 (slB (pl (mcell y0.4 r 0))) (.succ (.succ (.succ (aOff (slO (pl (mcell y0.4 r 0))) (hdI y0.1) 5))))) (mcell y0.4 (slB (pl (mcell y0.4 r 0))) (.succ (.succ (.succ (.succ (aOff (slO (pl (mcell y0.4 r 0))) (hdI y0.1) 5)))))) hs hg) (.any (qhasQ y0.4 (gI y0.4 (slB (pl (mcell y0.4 r 0))) (aOff (slO (pl (mcell y0.4 r 0))) (hdI y0.1) 5)) (gI y0.4 (slB (pl (mcell y0.4 r 0))) (.succ (aOff (slO (pl (mcell y0.4 r 0))) (hdI y0.1) 5))) (gI y0.4 (slB (pl (mcell y0.4 r 0))) (.succ (.succ (aOff (slO (pl (mcell y0.4 r 0))) (hdI y0.1) 5)))) (gI y0.4 (slB (pl (mcell y0.4 r 0))) (.succ (.succ (.succ (aOff (slO (pl (mcell y0.4 r 0))) (hdI y0.1) 5))))) (mcell y0.4 (slB (pl (mcell y0.4 r 0))) (.succ (.succ (.succ (.succ (aOff (slO (pl (mcell y0.4 r 0))) (hdI y0.1) 5)))))) hs hg) (fun y1 => (.br (iGe (hdI y1.1) 0) (.br (nzp r) (.br (nzp r) (.br (okL y1.4 r 0 [(.raw (.slice (.none) 0 0))]) (.br (inSl (pl (mcell y1.4 r 0)) (hdI y0.1)) (.br (nzp (slB (pl (mcell y1.4 r 0)))) (.br (okL y1.4 (slB (pl (mcell y1.4 r 0))) (.succ (.succ (.succ (.succ (aOff (slO (pl (mcell y1.4 r 0))) (hdI y0.1) 5))))) [(.raw (.slice (.none) 0 0))]) (.br (inSl (pl (mcell y1.4 (slB (pl (mcell y1.4 r 0))) (.succ (.succ (.succ (.succ (aOff (slO (pl (mcell y1.4 r 0))) (hdI y0.1) 5))))))) (hdI y1.1)) (.br (nzp (slB (pl (mcell y1.4 (slB (pl (mcell y1.4 r 0))) (.succ (.succ (.succ (.succ (aOff (slO (pl (mcell y1.4 r 0))) (hdI y0.1) 5))))))))) (.br (okL y1.4 (slB (pl (mcell y1.4 (slB (pl (mcell y1.4 r 0))) (.succ (.succ (.succ (.succ (aOff (slO (pl (mcell y1.4 r 0))) (hdI y0.1) 5)))))))) (.succ (.succ (aOff (slO (pl (mcell y1.4 (slB (pl (mcell y1.4 r 0))) (.succ (.succ (.succ (.succ (aOff (slO (pl (mcell y1.4 r 0))) (hdI y0.1) 5)))))))) (hdI y1.1) 3))) [(.li .i64 0)]) (.br (iEq (gI y1.4 (slB (pl (mcell y1.4 (slB (pl (mcell y1.4 r 0))) (.succ (.succ (.succ (.succ (aOff (slO (pl (mcell y1.4 r 0))) (hdI y0.1) 5)))))))) (.succ (.succ (aOff (slO (pl (mcell y1.4 (slB (pl (mcell y1.4 r 0))) (.succ (.succ (.succ (.succ (aOff (slO (pl (mcell y1.4 r 0))) (hdI y0.1) 5)))))))) (hdI y1.1) 3)))) n) (.br (nzp r) (.br (nzp r) (.br (okL y1.4 r 0 [(.raw (.slice (.none) 0 0))]) (.br (inSl (pl (mcell y1.4 r 0)) (hdI y0.1)) (.br (nzp (slB (pl (mcell y1.4 r 0)))) (.br (okL y1.4 (slB (pl (mcell y1.4 r 0))) (aOff (slO (pl (mcell y1.4 r 0))) (hdI y0.1) 5) [(.li .i64 0),(.li .i64 0),(.li .i64 0)]) (.leaf (.up (.memo (.tup [(.agg [(.si .i64 (gI y1.4 (slB (pl (mcell y1.4 r 0))) (aOff (slO (pl (mcell y1.4 r 0))) (hdI y0.1) 5))),(.si .i64 (gI y1.4 (slB (pl (mcell y1.4 r 0))) (.succ (aOff (slO (pl (mcell y1.4 r 0))) (hdI y0.1) 5)))),(.si .i64 (gI y1.4 (slB (pl (mcell y1.4 r 0))) (.succ (.succ (aOff (slO (pl (mcell y1.4 r 0))) (hdI y0.1) 5)))))]),(.c (.lb true))]) y1.4))) (.no 70)) (.no 76)) (.no 104)) (.no 70)) (.no 76)) (.no 75)) (.req ((([(0,(.u (.c (.np r 0)))),(2,(.u (.c (.si .i64 n)))),(4,(.u (.c (.ptr 0 0)))),(6,(.u (.c (.ptr 1 0))))] : List (Nat × V)) = [(0,(.u (.c (.np r 0)))),(2,(.u (.c (.si .i64 n)))),(4,(.u (.c (.ptr 0 0)))),(6,(.u (.c (.ptr 1 0))))]) ∧ (([(0,([(.si .i64 hs),(.si .u64 hg)],29)),(1,([(.li .i64 0),(.li .i64 0),(.li .i64 0)],59))] : List (Nat × Blk)) = [(0,([(.si .i64 hs),(.si .u64 hg)],29)),(1,([(.li .i64 0),(.li .i64 0),(.li .i64 0)],59))])) (.leaf (.again (.mk [(iAdd .i64 (hdI y0.1) 1)] [] [] y1.4))))) (.no 70)) (.no 76)) (.no 104)) (.no 70)) (.no 76)) (.no 104)) (.no 70)) (.no 76)) (.no 75)) (.req ((([(0,(.u (.c (.np r 0)))),(2,(.u (.c (.si .i64 n)))),(4,(.u (.c (.ptr 0 0)))),(6,(.u (.c (.ptr 1 0))))] : List (Nat × V)) = [(0,(.u (.c (.np r 0)))),(2,(.u (.c (.si .i64 n)))),(4,(.u (.c (.ptr 0 0)))),(6,(.u (.c (.ptr 1 0))))]) ∧ (([(0,([(.si .i64 hs),(.si .u64 hg)],29)),(1,([(.li .i64 0),(.li .i64 0),(.li .i64 0)],59))] : List (Nat × Blk)) = [(0,([(.si .i64 hs),(.si .u64 hg)],29)),(1,([(.li .i64 0),(.li .i64 0),(.li .i64 0)],59))])) (.leaf (.again (.mk [(iAdd .i64 (hdI y0.1) 1)] [] [] y1.4)))))))) (.no 70)) (.no 104)) (.no 70)) (.no 76)) (.no 75)) (.leaf (.up (.memo (.tup [(.agg [(.li .i64 0),(.li .i64 0),(.li .i64 0)]),(.c (.lb false))]) y0.4)))) (.no 123)) (.no 70)) (.no 76)) (.no 75))))
def qinP (m : Mem) (r hs hg n : Int) : Prop:=∃ Z,qrowPre Z m r
def qinPost (m : Mem) (Z : GR) (h : Hn) (n : Int) (y : Vars) : Prop:=InAt Z.rs h n y ∧ y.m = m
def qinQ (m : Mem) (r hs hg n : Int) (y : Vars) : Prop:=∀ Z,qrowPre Z m r → qinPost m Z (hs,hg) n y
def s_qin : Sum:=memSum 43 fun m a => match a with | [a0,a1,a2] => (match ptrOf a0,hanOf a1,intOf a2 with | some r,some (hs,hg),some n => some ⟨qinP m r hs hg n,qinQ m r hs hg n,fun y => .tup [.agg [.si .i64 (hdI y.i),.si .i64 (hdI (tlI y.i)),.si .i64 (hdI (tlI (tlI y.i)))],.c (.sb (hdB y.b))]⟩ | _,_,_ => none) | _ => none
theorem qin_walk {m : Mem} {r hs hg n : Int} (Z : GR) (hZ : qrowPre Z m r) : (T_qin m r hs hg n).sat (isMemo fun v x => qinPost m Z (hs,hg) n (yPB v x) ∧ (yPB v x).m = x ∧ ∀ ρ,v.den ρ = V.den ρ (.tup [.agg [.si .i64 (hdI (yPB v x).i),.si .i64 (hdI (tlI (yPB v x).i)),.si .i64 (hdI (tlI (tlI (yPB v x).i)))],.c (.sb (hdB (yPB v x).b))])):=by
  obtain ⟨rfl,h⟩:=hZ
  have B:=h.bas
  have hb:=h.b1
  unfold T_qin
  let J : Nat → Vars → Prop:=fun N y => ∃ k : Nat,k + N = Z.rs.length ∧ y.i = [(k : Int)] ∧ y.m = m ∧ ∀ j x,j < k → Z.rs[j]? = some x → ((hs,hg),n) ∉ x.l
  refine lp_idx J (n0:=Z.rs.length) ⟨0,by omega,rfl,rfl,fun j x hj => by omega⟩ ?_
  rintro N ⟨ui,ub,uv,um⟩ _ ⟨k,hk,rfl,hm,hf⟩
  simp only at hm
  subst hm
  simp only [hdI,B.v,B.pv,B.n]
  rw [brT B.nr,brT B.nr,brT B.ld,brT B.sl]
  by_cases hlt : k < Z.rs.length
  · obtain ⟨x,hx⟩ : ∃ x,Z.rs[k]? = some x:=⟨_,List.getElem?_eq_getElem hlt⟩
    have hxm:=List.mem_of_getElem? hx
    have F:=h.row hx
    have hs':=h.its x hxm
    have hpre : qhasPre x.l um x.v:=⟨hs',h.b2 x hxm⟩
    have next : ((hs,hg),n) ∉ x.l → ∀ j y,j < k + 1 → Z.rs[j]? = some y → ((hs,hg),n) ∉ y.l:=fun hn j y hj hy => by
      by_cases ej : j = k
      · subst ej;rw [hx] at hy;cases hy;exact hn
      · exact hf j y (by omega) hy
    have hinc : iAdd .i64 (k : Int) 1 = ((k + 1 : Nat) : Int):=by rw [iadd_i (by omega)];omega
    rw [brT (by simp [iLt];omega),brT B.nr,brT B.nr,brT B.ld,brT F.inn,brT F.o5]
    simp only [F.g0,F.g1,F.g2,F.g3,F.g4]
    rw [sat_req]
    refine ⟨⟨x.l,hpre⟩,?_⟩
    rw [sat_any]
    rintro ⟨yi,yb,yv,ym⟩ hy
    obtain ⟨⟨q,e1,hq⟩,e2⟩:=hy x.l hpre
    simp only at e1 e2
    subst e1 e2
    simp only [hdI,B.v,B.pv,F.g4]
    rcases hq with ⟨rfl,hq⟩ | ⟨j,it,rfl,hj,hit⟩
    · rw [brF (by rfl),sat_req]
      exact ⟨⟨trivial,trivial⟩,N - 1,by omega,k + 1,by omega,by rw [hinc],rfl,next fun hm => hq _ hm rfl⟩
    · have I:=itf hs' hj
      rw [brT (by simp [iGe]),brT B.nr,brT B.nr,brT B.ld,brT F.inn,brT F.nz,brT F.ol,hs'.pl,brT I.inn,brT I.nz,brT I.o1,I.g2]
      by_cases e : it.2 = n
      · rw [brT (by simp [iEq,e]),brT B.nr,brT B.nr,brT B.ld,brT F.inn,brT F.nz,brT F.o3,F.g0,F.g1,F.g2]
        exact ⟨⟨.inl ⟨x,hxm,by rw [← hit,← e];exact List.mem_of_getElem? hj,rfl,rfl⟩,rfl⟩,rfl,fun ρ => rfl⟩
      · rw [brF (by simp [iEq,e]),sat_req]
        refine ⟨⟨trivial,trivial⟩,N - 1,by omega,k + 1,by omega,by rw [hinc],rfl,next fun hm => e ?_⟩
        rw [nodup_fst (h.nd x hxm) (List.mem_of_getElem? hj) hm hit]
  · rw [brF (by simp [iLt];omega)]
    refine ⟨⟨.inr ⟨fun x hx => ?_,rfl,rfl⟩,rfl⟩,rfl,fun ρ => rfl⟩
    obtain ⟨j,hj⟩:=List.getElem?_of_mem hx
    have:=(List.getElem?_eq_some_iff.1 hj).1
    exact hf j x (by omega) hj
theorem t_qin (m : Mem) (r : Int) (hs hg : Int) (n : Int) : runm Try.prog [s_qhas] (drawh Try.prog [s_qhas] (fun _ _ => some ⟨[8],[],[0,2,4,6],[0,1]⟩) (fun _ _ _ => none)) 300 43 [.u (.c (.np r 0)),.u (.agg [.si .i64 hs,.si .u64 hg]),.u (.c (.si .i64 n))] m [98,92,95,142,140,137,111,107,108,109,85] = T_qin m r hs hg n:=by kernel_rfl
theorem s_qin_ok : SumOK Try.prog s_qin:=by
  refine memSum_ok ⟨_,Try.func43,by kernel_rfl⟩ fun m args ms h hp hw ρ w hm => ?_
  split at h
  · split at h
    · rename_i a0 a1 a2 _ _ _ r hs hg n h0 h1 h2
      cases h
      have hS : ∀ q ∈ [s_qhas],SumOK Try.prog q:=(okc s_qhas_ok okn)
      exact mm_ghostY nameOK hS (drawh_sound nameOK hS (by kernel_rfl) _ _) 300 _ m _ (t_qin m r hs hg n) yPB hp (fun G hG => qin_walk G hG) ρ w hm (by simp only [List.map_cons,List.map_nil,ptrOf_den h0,hanOf_den h1,intOf_den h2])
    · cases h
  · cases h
def LenAt (rs : List RV) (p : Pl) (n : Int) : Prop:=(n = 0 ∧ ∀ x ∈ rs,x.p ≠ p) ∨ ∃ x ∈ rs,x.p = p ∧ n = x.l.length
def T_qlen (m : Mem) (r : Int) (pm ps pa : Int) : Tr:=(.req (qrowP m r pm ps pa) (.any (qrowQ m r pm ps pa) (fun y0 => (.br (iLt (hdI y0.1) 0) (.leaf (.memo (.u (.c (.li .i64 0))) y0.4)) (.br (nzp r) (.br (nzp r) (.br (okL y0.4 r 0 [(.raw (.slice (.none) 0 0))]) (.br (inSl (pl (mcell y0.4 r 0)) (hdI y0.1)) (.br (nzp (slB (pl (mcell y0.4 r 0)))) (.br (okL y0.4 (slB (pl (mcell y0.4 r 0))) (.succ (.succ (.succ (.succ (aOff (slO (pl (mcell y0.4 r 0))) (hdI y0.1) 5))))) [(.raw (.slice (.none) 0 0))]) (.br (isSlV (pl (mcell y0.4 (slB (pl (mcell y0.4 r 0))) (.succ (.succ (.succ (.succ (aOff (slO (pl (mcell y0.4 r 0))) (hdI y0.1) 5)))))))) (.leaf (.memo (.u (.c (.si .i64 (slN (pl (mcell y0.4 (slB (pl (mcell y0.4 r 0))) (.succ (.succ (.succ (.succ (aOff (slO (pl (mcell y0.4 r 0))) (hdI y0.1) 5))))))))))) y0.4)) (.no 123)) (.no 70)) (.no 76)) (.no 104)) (.no 70)) (.no 76)) (.no 75))))))
def qlenP (m : Mem) (r pm ps pa : Int) : Prop:=∃ Z,qrowPre Z m r
def qlenPost (m : Mem) (Z : GR) (p : Pl) (y : Vars) : Prop:=(∃ n,y.i = [n] ∧ LenAt Z.rs p n) ∧ y.m = m
def qlenQ (m : Mem) (r pm ps pa : Int) (y : Vars) : Prop:=∀ Z,qrowPre Z m r → qlenPost m Z (pm,ps,pa) y
def s_qlen : Sum:=memSum 44 fun m a => match a with | [a0,a1] => (match ptrOf a0,plaOf a1 with | some r,some (pm,ps,pa) => some ⟨qlenP m r pm ps pa,qlenQ m r pm ps pa,fun y => .u (.c (.si .i64 (hdI y.i)))⟩ | _,_ => none) | _ => none
theorem qlen_walk {m : Mem} {r a b c : Int} (Z : GR) (hZ : qrowPre Z m r) : (T_qlen m r a b c).sat (isMemo fun v x => qlenPost m Z (a,b,c) (yOf v x) ∧ (yOf v x).m = x ∧ ∀ ρ,v.den ρ = V.den ρ (.u (.c (.si .i64 (hdI (yOf v x).i))))):=by
  have hpre:=hZ
  obtain ⟨rfl,h⟩:=hZ
  have B:=h.bas
  unfold T_qlen
  rw [sat_req]
  refine ⟨⟨Z,hpre⟩,?_⟩
  rw [sat_any]
  rintro ⟨yi,yb,yv,ym⟩ hy
  obtain ⟨⟨q,e1,hq⟩,e2⟩:=hy Z hpre
  simp only at e1 e2
  subst e1 e2
  simp only [hdI,B.v,B.pv]
  rcases hq with ⟨rfl,hq⟩ | ⟨k,x,rfl,hx,hp⟩
  · rw [brT (by rfl)]
    exact ⟨⟨⟨0,rfl,.inl ⟨rfl,hq⟩⟩,rfl⟩,rfl,fun ρ => rfl⟩
  · have hxm:=List.mem_of_getElem? hx
    have F:=h.row hx
    have hs':=h.its x hxm
    rw [brF (by simp [iLt]),brT B.nr,brT B.nr,brT B.ld,brT F.inn,brT F.nz,brT F.ol,F.g4,hs'.pl,brT hs'.isv,hs'.n]
    exact ⟨⟨⟨(x.l.length : Int),rfl,.inr ⟨x,hxm,hp,rfl⟩⟩,rfl⟩,rfl,fun ρ => rfl⟩
theorem t_qlen (m : Mem) (r : Int) (pm ps pa : Int) : runm Try.prog [s_qrow] (drawh Try.prog [s_qrow] (fun _ _ => none) (fun _ _ _ => none)) 300 44 [.u (.c (.np r 0)),.u (.agg [.si .i64 pm,.si .i64 ps,.si .i64 pa])] m [98,92,95,142,140,137,111,107,108,109,85] = T_qlen m r pm ps pa:=by kernel_rfl
theorem s_qlen_ok : SumOK Try.prog s_qlen:=by
  refine memSum_ok ⟨_,Try.func44,by kernel_rfl⟩ fun m args ms h hp hw ρ w hm => ?_
  split at h
  · split at h
    · rename_i a0 a1 _ _ r pm ps pa h0 h1
      cases h
      have hS : ∀ q ∈ [s_qrow],SumOK Try.prog q:=(okc s_qrow_ok okn)
      exact mm_ghostY nameOK hS (drawh_sound nameOK hS (by kernel_rfl) _ _) 300 _ m _ (t_qlen m r pm ps pa) yOf hp (fun G hG => qlen_walk G hG) ρ w hm (by simp only [List.map_cons,List.map_nil,ptrOf_den h0,plaOf_den h1])
    · cases h
  · cases h
def MayAt (rs : List RV) (p : Pl) (k : Int) (h : Hn) (n e : Int) : Prop :=
  (e = 7 ∧ ∃ x ∈ rs,(h,n) ∈ x.l) ∨ ((∀ x ∈ rs,(h,n) ∉ x.l) ∧ ((e = 3 ∧ ∃ x ∈ rs,x.p = p ∧ (x.k ≠ k ∨ ∃ it ∈ x.l,it.1 = h)) ∨ (e = 0 ∧ ∀ x ∈ rs,x.p = p → x.k = k ∧ ∀ it ∈ x.l,it.1 ≠ h)))
theorem plt_irr (p : Pl) : plt p p = false:=by
  unfold plt
  rw [decide_eq_false_iff_not]
  omega
theorem srt_inj {rs : List RV} (h : rs.Pairwise fun a b => plt a.p b.p = true) {x y : RV} (hx : x ∈ rs) (hy : y ∈ rs) (e : x.p = y.p) : x = y:=by
  induction rs with
  | nil => cases hx
  | cons z l ih =>
    rw [List.pairwise_cons] at h
    rcases List.mem_cons.1 hx with rfl | hx1
    · rcases List.mem_cons.1 hy with rfl | hy1
      · rfl
      · have:=h.1 y hy1
        rw [e,plt_irr] at this;cases this
    · rcases List.mem_cons.1 hy with rfl | hy1
      · have:=h.1 x hx1
        rw [e,plt_irr] at this;cases this
      · exact ih h.2 hx1 hy1
theorem qbef_spec (m : Mem) (a b c x y z : Int) : qbefOK m a b c x y z ∧ qbefV m a b c x y z = plt (a,b,c) (x,y,z):=by
  refine flat_spec (p:=fun v w => vBool v = _) (by simp [T_qbef,flatP]) ?_
  unfold T_qbef
  by_cases e1 : a = x
  · subst e1
    rw [brF (by simp [iNe])]
    by_cases e2 : b = y
    · subst e2
      rw [brF (by simp [iNe])]
      show decide (c < z) = plt (a,b,c) (a,b,z)
      unfold plt;rw [decide_eq_decide];simp
    · rw [brT (by simp [iNe,e2])]
      show decide (b < y) = plt (a,b,c) (a,y,z)
      unfold plt;rw [decide_eq_decide];simp [e2]
  · rw [brT (by simp [iNe,e1])]
    show decide (a < x) = plt (a,b,c) (x,y,z)
    unfold plt;rw [decide_eq_decide];simp [e1]
def T_qmay (m : Mem) (r : Int) (pm ps pa : Int) (k : Int) (hs hg : Int) (n : Int) : Tr:=(.req (qinP m r hs hg n) (.any (qinQ m r hs hg n) (fun y0 => (.br (hdB y0.2) (.leaf (.memo (.u (.c (.li .i64 7))) y0.4)) (.req (qrowP y0.4 r pm ps pa) (.any (qrowQ y0.4 r pm ps pa) (fun y1 => (.br (iGe (hdI y1.1) 0) (.br (nzp r) (.br (nzp r) (.br (okL y1.4 r 0 [(.raw (.slice (.none) 0 0))]) (.br (inSl (pl (mcell y1.4 r 0)) (hdI y1.1)) (.br (nzp (slB (pl (mcell y1.4 r 0)))) (.br (okL y1.4 (slB (pl (mcell y1.4 r 0))) (.succ (.succ (.succ (aOff (slO (pl (mcell y1.4 r 0))) (hdI y1.1) 5)))) [(.li .u8 0)]) (.br (iNe (gI y1.4 (slB (pl (mcell y1.4 r 0))) (.succ (.succ (.succ (aOff (slO (pl (mcell y1.4 r 0))) (hdI y1.1) 5))))) k) (.req ((([(2,([(.si .i64 (hdI y0.1)),(.si .i64 (hdI (tlI y0.1))),(.si .i64 (hdI (tlI (tlI y0.1))))],59)),(2,([(.li .i64 0),(.li .i64 0),(.li .i64 0)],59)),(1,([(.si .i64 hs),(.si .u64 hg)],29)),(0,([(.si .i64 pm),(.si .i64 ps),(.si .i64 pa)],59))] : List (Nat × Blk)) = [(2,([(.si .i64 (hdI y0.1)),(.si .i64 (hdI (tlI y0.1))),(.si .i64 (hdI (tlI (tlI y0.1))))],59)),(2,([(.li .i64 0),(.li .i64 0),(.li .i64 0)],59)),(1,([(.si .i64 hs),(.si .u64 hg)],29)),(0,([(.si .i64 pm),(.si .i64 ps),(.si .i64 pa)],59))]) ∧ (([] : List (Nat × MBlk)) = [])) (.leaf (.memo (.u (.c (.li .i64 3))) y1.4))) (.br (nzp r) (.br (nzp r) (.br (okL y1.4 r 0 [(.raw (.slice (.none) 0 0))]) (.br (inSl (pl (mcell y1.4 r 0)) (hdI y1.1)) (.br (okL y1.4 (slB (pl (mcell y1.4 r 0))) (aOff (slO (pl (mcell y1.4 r 0))) (hdI y1.1) 5) [(.li .i64 0),(.li .i64 0),(.li .i64 0),(.li .u8 0),(.raw (.slice (.none) 0 0))]) (.req (qhasP y1.4 (gI y1.4 (slB (pl (mcell y1.4 r 0))) (aOff (slO (pl (mcell y1.4 r 0))) (hdI y1.1) 5)) (gI y1.4 (slB (pl (mcell y1.4 r 0))) (.succ (aOff (slO (pl (mcell y1.4 r 0))) (hdI y1.1) 5))) (gI y1.4 (slB (pl (mcell y1.4 r 0))) (.succ (.succ (aOff (slO (pl (mcell y1.4 r 0))) (hdI y1.1) 5)))) (gI y1.4 (slB (pl (mcell y1.4 r 0))) (.succ (.succ (.succ (aOff (slO (pl (mcell y1.4 r 0))) (hdI y1.1) 5))))) (mcell y1.4 (slB (pl (mcell y1.4 r 0))) (.succ (.succ (.succ (.succ (aOff (slO (pl (mcell y1.4 r 0))) (hdI y1.1) 5)))))) hs hg) (.any (qhasQ y1.4 (gI y1.4 (slB (pl (mcell y1.4 r 0))) (aOff (slO (pl (mcell y1.4 r 0))) (hdI y1.1) 5)) (gI y1.4 (slB (pl (mcell y1.4 r 0))) (.succ (aOff (slO (pl (mcell y1.4 r 0))) (hdI y1.1) 5))) (gI y1.4 (slB (pl (mcell y1.4 r 0))) (.succ (.succ (aOff (slO (pl (mcell y1.4 r 0))) (hdI y1.1) 5)))) (gI y1.4 (slB (pl (mcell y1.4 r 0))) (.succ (.succ (.succ (aOff (slO (pl (mcell y1.4 r 0))) (hdI y1.1) 5))))) (mcell y1.4 (slB (pl (mcell y1.4 r 0))) (.succ (.succ (.succ (.succ (aOff (slO (pl (mcell y1.4 r 0))) (hdI y1.1) 5)))))) hs hg) (fun y2 => (.req ((([(2,([(.si .i64 (hdI y0.1)),(.si .i64 (hdI (tlI y0.1))),(.si .i64 (hdI (tlI (tlI y0.1))))],59)),(2,([(.li .i64 0),(.li .i64 0),(.li .i64 0)],59)),(1,([(.si .i64 hs),(.si .u64 hg)],29)),(0,([(.si .i64 pm),(.si .i64 ps),(.si .i64 pa)],59))] : List (Nat × Blk)) = [(2,([(.si .i64 (hdI y0.1)),(.si .i64 (hdI (tlI y0.1))),(.si .i64 (hdI (tlI (tlI y0.1))))],59)),(2,([(.li .i64 0),(.li .i64 0),(.li .i64 0)],59)),(1,([(.si .i64 hs),(.si .u64 hg)],29)),(0,([(.si .i64 pm),(.si .i64 ps),(.si .i64 pa)],59))]) ∧ (([] : List (Nat × MBlk)) = [])) (.br (iGe (hdI y2.1) 0) (.leaf (.memo (.u (.c (.li .i64 3))) y2.4)) (.leaf (.memo (.u (.c (.li .i64 0))) y2.4))))))) (.no 70)) (.no 104)) (.no 70)) (.no 76)) (.no 75))) (.no 70)) (.no 76)) (.no 104)) (.no 70)) (.no 76)) (.no 75)) (.req ((([(2,([(.si .i64 (hdI y0.1)),(.si .i64 (hdI (tlI y0.1))),(.si .i64 (hdI (tlI (tlI y0.1))))],59)),(2,([(.li .i64 0),(.li .i64 0),(.li .i64 0)],59)),(1,([(.si .i64 hs),(.si .u64 hg)],29)),(0,([(.si .i64 pm),(.si .i64 ps),(.si .i64 pa)],59))] : List (Nat × Blk)) = [(2,([(.si .i64 (hdI y0.1)),(.si .i64 (hdI (tlI y0.1))),(.si .i64 (hdI (tlI (tlI y0.1))))],59)),(2,([(.li .i64 0),(.li .i64 0),(.li .i64 0)],59)),(1,([(.si .i64 hs),(.si .u64 hg)],29)),(0,([(.si .i64 pm),(.si .i64 ps),(.si .i64 pa)],59))]) ∧ (([] : List (Nat × MBlk)) = [])) (.leaf (.memo (.u (.c (.li .i64 0))) y1.4)))))))))))
def qmayP (m : Mem) (r pm ps pa k hs hg n : Int) : Prop:=∃ Z,qrowPre Z m r
def qmayPost (m : Mem) (Z : GR) (p : Pl) (k : Int) (h : Hn) (n : Int) (y : Vars) : Prop:=(∃ e,y.i = [e] ∧ MayAt Z.rs p k h n e) ∧ y.m = m
def qmayQ (m : Mem) (r pm ps pa k hs hg n : Int) (y : Vars) : Prop:=∀ Z,qrowPre Z m r → qmayPost m Z (pm,ps,pa) k (hs,hg) n y
def s_qmay : Sum:=memSum 85 fun m a => match a with | [a0,a1,a2,a3,a4] => (match ptrOf a0,plaOf a1,u8Of a2,hanOf a3,intOf a4 with | some r,some (pm,ps,pa),some k,some (hs,hg),some n => some ⟨qmayP m r pm ps pa k hs hg n,qmayQ m r pm ps pa k hs hg n,fun y => .u (.c (.si .i64 (hdI y.i)))⟩ | _,_,_,_,_ => none) | _ => none
theorem qmay_walk {m : Mem} {r a b c k hs hg n : Int} (Z : GR) (hZ : qrowPre Z m r) : (T_qmay m r a b c k hs hg n).sat (isMemo fun v x => qmayPost m Z (a,b,c) k (hs,hg) n (yOf v x) ∧ (yOf v x).m = x ∧ ∀ ρ,v.den ρ = V.den ρ (.u (.c (.si .i64 (hdI (yOf v x).i))))):=by
  have hpre:=hZ
  obtain ⟨rfl,h⟩:=hZ
  have B:=h.bas
  unfold T_qmay
  rw [sat_req]
  refine ⟨⟨Z,hpre⟩,?_⟩
  rw [sat_any]
  rintro ⟨yi,yb,yv,ym⟩ hy
  obtain ⟨hin,e2⟩:=hy Z hpre
  simp only at e2
  subst e2
  rcases hin with ⟨x,hx,hm,e1,e3⟩ | ⟨hno,e1,e3⟩
  · simp only at e1 e3
    subst e1 e3
    rw [brT (by rfl)]
    exact ⟨⟨⟨7,rfl,.inl ⟨rfl,x,hx,hm⟩⟩,rfl⟩,rfl,fun ρ => rfl⟩
  simp only at e1 e3
  subst e1 e3
  rw [brF (by rfl),sat_req]
  refine ⟨⟨Z,hpre⟩,?_⟩
  rw [sat_any]
  rintro ⟨zi,zb,zv,zm⟩ hy
  obtain ⟨⟨q,e1,hq⟩,e2⟩:=hy Z hpre
  simp only at e1 e2
  subst e1 e2
  simp only [hdI,tlI,B.v,B.pv]
  rcases hq with ⟨rfl,hq⟩ | ⟨i,x,rfl,hx,hp⟩
  · rw [brF (by rfl),sat_req]
    exact ⟨⟨trivial,trivial⟩,⟨⟨0,rfl,.inr ⟨hno,.inr ⟨rfl,fun x hx hp => absurd hp (hq x hx)⟩⟩⟩,rfl⟩,rfl,fun ρ => rfl⟩
  have hxm:=List.mem_of_getElem? hx
  have F:=h.row hx
  have hs':=h.its x hxm
  rw [brT (by simp [iGe]),brT B.nr,brT B.nr,brT B.ld,brT F.inn,brT F.nz,brT F.ok,F.g3]
  by_cases hk : x.k = k
  · have hpre2 : qhasPre x.l zm x.v:=⟨hs',h.b2 x hxm⟩
    rw [brF (by simp [iNe,hk]),brT B.nr,brT B.nr,brT B.ld,brT F.inn,brT F.o5]
    simp only [F.g0,F.g1,F.g2,F.g3,F.g4]
    rw [sat_req]
    refine ⟨⟨x.l,hpre2⟩,?_⟩
    rw [sat_any]
    rintro ⟨wi,wb,wv,wm⟩ hy
    obtain ⟨⟨q,e1,hq⟩,e2⟩:=hy x.l hpre2
    simp only at e1 e2
    subst e1 e2
    simp only [hdI]
    rw [sat_req]
    refine ⟨⟨trivial,trivial⟩,?_⟩
    rcases hq with ⟨rfl,hq⟩ | ⟨j,it,rfl,hj,hit⟩
    · rw [brF (by rfl)]
      exact ⟨⟨⟨0,rfl,.inr ⟨hno,.inr ⟨rfl,fun y hy hyp => by
        rw [srt_inj h.srt hy hxm (hyp.trans hp.symm)]
        exact ⟨hk,hq⟩⟩⟩⟩,rfl⟩,rfl,fun ρ => rfl⟩
    · rw [brT (by simp [iGe])]
      exact ⟨⟨⟨3,rfl,.inr ⟨hno,.inl ⟨rfl,x,hxm,hp,.inr ⟨it,List.mem_of_getElem? hj,hit⟩⟩⟩⟩,rfl⟩,rfl,fun ρ => rfl⟩
  · rw [brT (by simp [iNe,hk]),sat_req]
    exact ⟨⟨trivial,trivial⟩,⟨⟨3,rfl,.inr ⟨hno,.inl ⟨rfl,x,hxm,hp,.inl hk⟩⟩⟩,rfl⟩,rfl,fun ρ => rfl⟩
theorem t_qmay (m : Mem) (r : Int) (pm ps pa : Int) (k : Int) (hs hg : Int) (n : Int) : runm Try.prog [s_qin,s_qrow,s_qhas] (drawh Try.prog [s_qin,s_qrow,s_qhas] (fun _ _ => none) (fun _ _ _ => none)) 300 85 [.u (.c (.np r 0)),.u (.agg [.si .i64 pm,.si .i64 ps,.si .i64 pa]),.u (.c (.si .u8 k)),.u (.agg [.si .i64 hs,.si .u64 hg]),.u (.c (.si .i64 n))] m [98,92,95,142,140,137,111,107,108,109,85] = T_qmay m r pm ps pa k hs hg n:=by kernel_rfl
theorem s_qmay_ok : SumOK Try.prog s_qmay:=by
  refine memSum_ok ⟨_,Try.func85,by kernel_rfl⟩ fun m args ms h hp hw ρ w hm => ?_
  split at h
  · split at h
    · rename_i a0 a1 a2 a3 a4 _ _ _ _ _ r pm ps pa k hs hg n h0 h1 h2 h3 h4
      cases h
      have hS : ∀ q ∈ [s_qin,s_qrow,s_qhas],SumOK Try.prog q:=(okc s_qin_ok (okc s_qrow_ok (okc s_qhas_ok okn)))
      exact mm_ghostY nameOK hS (drawh_sound nameOK hS (by kernel_rfl) _ _) 300 _ m _ (t_qmay m r pm ps pa k hs hg n) yOf hp (fun G hG => qmay_walk G hG) ρ w hm (by simp only [List.map_cons,List.map_nil,ptrOf_den h0,plaOf_den h1,u8Of_den h2,hanOf_den h3,intOf_den h4])
    · cases h
  · cases h
end Go.Proofs.Ytnlohongffpkpaa.T16
end

section
namespace Go.Proofs.Ytnlohongffpkpaa.T16
open Go Go.RowKit Go.Proofs.Ytnlohongffpkpaa.Sx Go.Proofs
set_option linter.unusedVariables false
set_option linter.unusedSimpArgs false
theorem plt_trans {p q r : Pl} (h1 : plt p q = true) (h2 : plt q r = true) : plt p r = true:=by
  unfold plt at *
  rw [decide_eq_true_eq] at *
  omega
theorem plt_tri {p q : Pl} (h1 : plt p q = false) (h2 : p ≠ q) : plt q p = true:=by
  unfold plt at *
  rw [decide_eq_true_eq]
  rw [decide_eq_false_iff_not] at h1
  obtain ⟨a,b,c⟩:=p
  obtain ⟨x,y,z⟩:=q
  simp only [ne_eq,Prod.mk.injEq] at *
  omega
def GR.dom (Z : GR) (a : Nat) : Prop:=a = Z.r ∨ slB Z.V = (a : Int) + 1 ∨ ∃ x ∈ Z.rs,slB x.v = (a : Int) + 1
structure GR.to (Z Z' : GR) (m m' : Mem) : Prop where
  is' : Z'.is m'
  r : Z'.r = Z.r
  vd : ∀ a : Nat,slB Z'.V = (a : Int) + 1 → slB Z.V = (a : Int) + 1 ∨ m a = none
  dom : ∀ a,Z'.dom a → Z.dom a ∨ m a = none
  keep : ∀ a : Nat,m a ≠ none → a ≠ Z.r → slB Z.V ≠ (a : Int) + 1 → m' a = m a
theorem GR.to.refl {Z : GR} {m : Mem} (h : Z.is m) : Z.to Z m m:=⟨h,rfl,fun _ h => .inl h,fun _ h => .inl h,fun _ _ _ _ => rfl⟩
theorem GR.is.there {Z : GR} {m : Mem} (h : Z.is m) {a : Nat} (ha : Z.dom a) : m a ≠ none:=by
  rcases ha with rfl | ha | ⟨x,hx,ha⟩
  · rw [h.hd];simp
  · exact h.sl.there ha
  · exact (h.its x hx).there ha
theorem GR.is.congr {Z : GR} {m m' : Mem} (h : Z.is m) (hm : ∀ a,Z.dom a → m' a = m a) : Z.is m' :=
  ⟨(hm _ (.inl rfl)).trans h.hd,h.sl.more fun a ha _ => hm a (.inr (.inl ha)),fun x hx => (h.its x hx).more fun a ha _ => hm a (.inr (.inr ⟨x,hx,ha⟩)),h.vr,h.ir,h.srt,h.nd,h.b1,h.b2⟩
theorem GR.to.trans {Z Z1 Z2 : GR} {m m1 m2 : Mem} (h1 : Z.to Z1 m m1) (h2 : Z1.to Z2 m1 m2) (h : Z.is m) : Z.to Z2 m m2:=by
  have hn : ∀ a,m1 a = none → m a = none ∨ Z.dom a:=fun a ha => by
    cases e : m a with
    | none => exact .inl rfl
    | some o =>
      right
      by_cases e1 : a = Z.r
      · exact .inl e1
      · by_cases e2 : slB Z.V = (a : Int) + 1
        · exact .inr (.inl e2)
        · have:=h1.keep a (by rw [e];simp) e1 e2
          rw [ha,e] at this;cases this
  refine ⟨h2.is',h2.r.trans h1.r,fun a ha => ?_,fun a ha => ?_,fun a ha hr hv => ?_⟩
  · rcases h2.vd a ha with h3 | h3
    · exact h1.vd a h3
    · by_cases e : slB Z.V = (a : Int) + 1
      · exact .inl e
      · cases e3 : m a with
        | none => exact .inr rfl
        | some o =>
          by_cases e1 : a = Z.r
          · subst e1
            have:=h1.is'.hd
            rw [h1.r,h3] at this;cases this
          · have:=h1.keep a (by rw [e3];simp) e1 e
            rw [h3,e3] at this;cases this
  · rcases h2.dom a ha with h3 | h3
    · exact h1.dom a h3
    · exact (hn a h3).symm
  · have k1:=h1.keep a ha hr hv
    refine (h2.keep a (by rw [k1];exact ha) (by rw [h1.r];exact hr) fun e => ?_).trans k1
    rcases h1.vd a e with h3 | h3
    · exact hv h3
    · exact ha h3
theorem slB_nil : ∀ a : Nat,slB (Value.slice none 0 0) = (a : Int) + 1 → False:=fun a h => by simp only [slB] at h;omega
section
variable {Z : GR} {m m5 : Mem}
theorem GR.is.setRow (h : Z.is m) {i : Nat} {x : RV} (hx : Z.rs[i]? = some x) (hk : ∀ a,m a ≠ none → m5 a = m a) {v : Value} {l : List Itm} (hv : SlE itEnc 3 m5 v l) (ho : ∀ a : Nat,slB v = (a : Int) + 1 → m a = none)
    (hn : (l.map (·.1)).Nodup) (hb : l.length < 1099511627776) :
    okS m5 (slB Z.V) (aOff (slO Z.V) (i : Int) 5) 5 = true ∧ Z.to ⟨Z.r,Z.V,Z.rs.set i ⟨x.p,x.k,v,l⟩⟩ m (wrL m5 (slB Z.V) (aOff (slO Z.V) (i : Int) 5) [.int .i64 x.p.1,.int .i64 x.p.2.1,.int .i64 x.p.2.2,.int .u8 x.k,pl v]):=by
  have hlt : i < Z.rs.length:=(List.getElem?_eq_some_iff.1 hx).1
  have hsl : SlE rwEnc 5 m5 Z.V Z.rs:=h.sl.more fun a _ ha => hk a ha
  obtain ⟨s1,s2,s3⟩:=hsl.set rwEncOK (x:=⟨x.p,x.k,v,l⟩) hlt
  have s2' : SlE rwEnc 5 (wrL m5 (slB Z.V) (aOff (slO Z.V) (i : Int) 5) [.int .i64 x.p.1,.int .i64 x.p.2.1,.int .i64 x.p.2.2,.int .u8 x.k,pl v]) Z.V (Z.rs.set i ⟨x.p,x.k,v,l⟩):=s2
  have s3' : ∀ a : Nat,slB Z.V ≠ (a : Int) + 1 → wrL m5 (slB Z.V) (aOff (slO Z.V) (i : Int) 5) [.int .i64 x.p.1,.int .i64 x.p.2.1,.int .i64 x.p.2.2,.int .u8 x.k,pl v] a = m5 a:=s3
  clear s2 s3
  generalize wrL m5 (slB Z.V) (aOff (slO Z.V) (i : Int) 5) [.int .i64 x.p.1,.int .i64 x.p.2.1,.int .i64 x.p.2.2,.int .u8 x.k,pl v] = m6 at s2' s3'
  refine ⟨s1,?_⟩
  have hrn : m Z.r ≠ none:=by rw [h.hd];simp
  have hvr : slB Z.V ≠ (Z.r : Int) + 1:=fun e => h.vr _ e rfl
  have hmem : ∀ y ∈ Z.rs.set i ⟨x.p,x.k,v,l⟩,y = ⟨x.p,x.k,v,l⟩ ∨ y ∈ Z.rs:=fun y hy => (List.mem_or_eq_of_mem_set hy).symm
  refine ⟨⟨(s3' _ hvr).trans ((hk _ hrn).trans h.hd),s2',fun y hy => ?_,h.vr,fun y hy a ha => ?_,?_,fun y hy => ?_,by simpa using h.b1,fun y hy => ?_⟩,rfl,fun a ha => .inl ha,fun a ha => ?_,fun a ha _ hav => (s3' a hav).trans (hk a ha)⟩
  · rcases hmem y hy with rfl | hy
    · exact hv.more fun a ha _ => s3' a fun e => h.sl.there e (ho a ha)
    · refine (h.its y hy).more fun a ha hma => (s3' a (h.ir y hy a ha).2).trans (hk a hma)
  · rcases hmem y hy with rfl | hy
    · have:=ho a ha
      exact ⟨fun e => hrn (e ▸ this),fun e => h.sl.there e this⟩
    · exact h.ir y hy a ha
  · have e : (Z.rs.set i ⟨x.p,x.k,v,l⟩).map (·.p) = Z.rs.map (·.p):=by
      apply List.ext_getElem?
      intro j
      rw [List.getElem?_map,List.getElem?_map,List.getElem?_set]
      by_cases ej : i = j
      · subst ej
        rw [if_pos rfl,if_pos hlt,hx];rfl
      · rw [if_neg ej]
    have h1 : (Z.rs.map (·.p)).Pairwise fun a b => plt a b = true:=List.pairwise_map.2 h.srt
    rw [← e] at h1
    exact List.pairwise_map.1 h1
  · rcases hmem y hy with rfl | hy
    · exact hn
    · exact h.nd y hy
  · rcases hmem y hy with rfl | hy
    · exact hb
    · exact h.b2 y hy
  · rcases ha with rfl | ha | ⟨y,hy,ha⟩
    · exact .inl (.inl rfl)
    · exact .inl (.inr (.inl ha))
    · rcases hmem y hy with rfl | hy
      · exact .inr (ho a ha)
      · exact .inl (.inr (.inr ⟨y,hy,ha⟩))
theorem GR.is.newRows (h : Z.is m) {V' : Value} {rs' : List RV} (hk : ∀ a,m a ≠ none → m5 a = m a) (hv : SlE rwEnc 5 m5 V' rs') (ho : ∀ a : Nat,slB V' = (a : Int) + 1 → m a = none)
    (hr : ∀ y ∈ rs',y ∈ Z.rs ∨ (y.v = .slice none 0 0 ∧ y.l = [])) (hs : rs'.Pairwise fun a b => plt a.p b.p = true) (hb : rs'.length < 1099511627776) :
    okS m5 ((Z.r : Int) + 1) 0 1 = true ∧ Z.to ⟨Z.r,V',rs'⟩ m (wrL m5 ((Z.r : Int) + 1) 0 [V']):=by
  have hrn : m Z.r ≠ none:=by rw [h.hd];simp
  have e5 : m5 Z.r = some (.cells #[Z.V] 85 (0,0)):=(hk _ hrn).trans h.hd
  have hw:=wrL_at' e5 0 [V']
  refine ⟨by simp [okS,mgetW_of' e5],?_⟩
  rw [hw]
  have hne : ∀ a,a ≠ Z.r → (fun x => if x = Z.r then some (Obj.cells (putV #[Z.V] 0 [V']) 85 (0,0)) else m5 x) a = m5 a:=fun a ha => if_neg ha
  have heq : (fun x => if x = Z.r then some (Obj.cells (putV #[Z.V] 0 [V']) 85 (0,0)) else m5 x) Z.r = some (Obj.cells (putV #[Z.V] 0 [V']) 85 (0,0)):=if_pos rfl
  generalize (fun x => if x = Z.r then some (Obj.cells (putV #[Z.V] 0 [V']) 85 (0,0)) else m5 x) = m6 at hne heq
  have old : ∀ y ∈ Z.rs,SlE itEnc 3 m6 y.v y.l:=fun y hy => (h.its y hy).more fun a ha hma => (hne a (h.ir y hy a ha).1).trans (hk a hma)
  refine ⟨⟨heq,hv.more fun a ha _ => hne a fun e => hrn (e ▸ ho a ha),fun y hy => ?_,fun a ha e => hrn (e ▸ ho a ha),fun y hy a ha => ?_,hs,fun y hy => ?_,hb,fun y hy => ?_⟩,rfl,fun a ha => .inr (ho a ha),fun a ha => ?_,fun a ha har hav => (hne a har).trans (hk a ha)⟩
  · rcases hr y hy with hy | ⟨e1,e2⟩
    · exact old y hy
    · rw [e1,e2];exact SlE.nil0 m6
  · rcases hr y hy with hy | ⟨e1,e2⟩
    · refine ⟨(h.ir y hy a ha).1,fun e => (h.its y hy).there ha (ho a e)⟩
    · rw [e1] at ha;exact (slB_nil a ha).elim
  · rcases hr y hy with hy | ⟨e1,e2⟩
    · exact h.nd y hy
    · rw [e2];exact List.nodup_nil
  · rcases hr y hy with hy | ⟨e1,e2⟩
    · exact h.b2 y hy
    · rw [e2];simp
  · rcases ha with rfl | ha | ⟨y,hy,ha⟩
    · exact .inl (.inl rfl)
    · exact .inr (ho a ha)
    · rcases hr y hy with hy | ⟨e1,e2⟩
      · exact .inl (.inr (.inr ⟨y,hy,ha⟩))
      · rw [e1] at ha;exact (slB_nil a ha).elim
end
end Go.Proofs.Ytnlohongffpkpaa.T16
end

section
namespace Go.Proofs.Ytnlohongffpkpaa.T16
open Go Go.RowKit Go.Proofs.Ytnlohongffpkpaa.Sx Go.Proofs
set_option linter.unusedVariables false
set_option linter.unusedSimpArgs false
def qputPre (Z : GR) (m : Mem) (r : Int) (p : Pl) (i : Int) (h : Hn) : Prop :=
  r = (Z.r : Int) + 1 ∧ Z.is m ∧ Z.rs.length + 1 < 1099511627776 ∧ (∀ x ∈ Z.rs,x.l.length + 1 < 1099511627776) ∧ 0 ≤ i ∧
    ((∃ x ∈ Z.rs,x.p = p ∧ i ≤ x.l.length ∧ ∀ it ∈ x.l,it.1 ≠ h) ∨ (i = 0 ∧ ∀ x ∈ Z.rs,x.p ≠ p))
def PutAt (Z Z' : GR) (p : Pl) (k : Int) (i : Nat) (it : Itm) : Prop :=
  ∃ x' ∈ Z'.rs,x'.p = p ∧ ((∃ x ∈ Z.rs,x.p = p ∧ x'.k = x.k ∧ x'.l = x.l.take i ++ it :: x.l.drop i) ∨ ((∀ x ∈ Z.rs,x.p ≠ p) ∧ x'.k = k ∧ x'.l = [it])) ∧
    (∀ y,y.p ≠ p → (y ∈ Z'.rs ↔ y ∈ Z.rs)) ∧ Z'.rs.length ≤ Z.rs.length + 1
def qputP (m : Mem) (r pm ps pa k i xs xg xn : Int) : Prop:=∃ Z,qputPre Z m r (pm,ps,pa) i (xs,xg)
def qputPost (m : Mem) (Z : GR) (p : Pl) (k i : Int) (it : Itm) (y : Vars) : Prop:=∃ Z',Z.to Z' m y.m ∧ PutAt Z Z' p k i.toNat it
def qputQ (m : Mem) (r pm ps pa k i xs xg xn : Int) (y : Vars) : Prop:=∀ Z,qputPre Z m r (pm,ps,pa) i (xs,xg) → qputPost m Z (pm,ps,pa) k i ((xs,xg),xn) y
def s_qput : Sum:=memSum 86 fun m a => match a with | [a0,a1,a2,a3,a4] => (match ptrOf a0,plaOf a1,u8Of a2,intOf a3,itmOf a4 with | some r,some (pm,ps,pa),some k,some i,some (xs,xg,xn) => some ⟨qputP m r pm ps pa k i xs xg xn,qputQ m r pm ps pa k i xs xg xn,fun y => .tup []⟩ | _,_,_,_,_ => none) | _ => none
def T_putI (m2 : Mem) (r pm ps pa k i xs xg xn n : Int) : Tr:=(.br (nzp r) (.br (nzp r) (.br (okL m2 r 0 [(.raw (.slice (.none) 0 0))]) (.br (cutSl (pl (mcell m2 r 0)) 0 n) (.br (okSl m2 (pl (cutV (pl (mcell m2 r 0)) 5 0 n)) 5) (.br (appOK m2 (.slice (.none) 0 0) 5 56 (slN (pl (cutV (pl (mcell m2 r 0)) 5 0 n))) (rowL m2 (pl (cutV (pl (mcell m2 r 0)) 5 0 n)) 5)) (.any (appQ m2 (.slice (.none) 0 0) 5 [(.int .i64 0),(.int .i64 0),(.int .i64 0),(.int .u8 0),(.slice (.none) 0 0)] 90 (slN (pl (cutV (pl (mcell m2 r 0)) 5 0 n))) (rowL m2 (pl (cutV (pl (mcell m2 r 0)) 5 0 n)) 5)) (fun y3 => (.br true (.br (appOK y3.4 (pl (hdV y3.3)) 5 56 1 [(.int .i64 pm),(.int .i64 ps),(.int .i64 pa),(.int .u8 k),(.slice (.none) 0 0)]) (.any (appQ y3.4 (pl (hdV y3.3)) 5 [(.int .i64 0),(.int .i64 0),(.int .i64 0),(.int .u8 0),(.slice (.none) 0 0)] 90 1 [(.int .i64 pm),(.int .i64 ps),(.int .i64 pa),(.int .u8 k),(.slice (.none) 0 0)]) (fun y4 => (.br (nzp r) (.br (nzp r) (.br (okL y4.4 r 0 [(.raw (.slice (.none) 0 0))]) (.br (cutSl (pl (mcell y4.4 r 0)) n (slN (pl (mcell y4.4 r 0)))) (.br (okSl y4.4 (pl (cutV (pl (mcell y4.4 r 0)) 5 n (slN (pl (mcell y4.4 r 0))))) 5) (.br (appOK y4.4 (pl (hdV y4.3)) 5 56 (slN (pl (cutV (pl (mcell y4.4 r 0)) 5 n (slN (pl (mcell y4.4 r 0)))))) (rowL y4.4 (pl (cutV (pl (mcell y4.4 r 0)) 5 n (slN (pl (mcell y4.4 r 0))))) 5)) (.any (appQ y4.4 (pl (hdV y4.3)) 5 [(.int .i64 0),(.int .i64 0),(.int .i64 0),(.int .u8 0),(.slice (.none) 0 0)] 90 (slN (pl (cutV (pl (mcell y4.4 r 0)) 5 n (slN (pl (mcell y4.4 r 0)))))) (rowL y4.4 (pl (cutV (pl (mcell y4.4 r 0)) 5 n (slN (pl (mcell y4.4 r 0))))) 5)) (fun y5 => (.br (nzp r) (.br (nzp r) (.br (okS y5.4 r 0 1) (.letm (wrL y5.4 r 0 [(pl (hdV y5.3))]) (fun m1 => (.req ((([(0,(.u (.c (.np r 0)))),(2,(.u (.c (.si .u8 k)))),(3,(.u (.c (.si .i64 i)))),(6,(.u (.c (.ptr 0 0)))),(9,(.u (.c (.ptr 1 0))))] : List (Nat × V)) = [(0,(.u (.c (.np r 0)))),(2,(.u (.c (.si .u8 k)))),(3,(.u (.c (.si .i64 i)))),(6,(.u (.c (.ptr 0 0)))),(9,(.u (.c (.ptr 1 0))))]) ∧ (([(0,([(.si .i64 pm),(.si .i64 ps),(.si .i64 pa)],59)),(1,([(.si .i64 xs),(.si .u64 xg),(.si .i64 xn)],77))] : List (Nat × Blk)) = [(0,([(.si .i64 pm),(.si .i64 ps),(.si .i64 pa)],59)),(1,([(.si .i64 xs),(.si .u64 xg),(.si .i64 xn)],77))])) (.leaf (.up (.again (.mk [1,n] [] [] m1))))))) (.no 72)) (.no 76)) (.no 75)))) (.no 120)) (.no 121)) (.no 107)) (.no 70)) (.no 76)) (.no 75)))) (.no 120)) (.no 121)))) (.no 120)) (.no 121)) (.no 107)) (.no 70)) (.no 76)) (.no 75))
def T_putR (m1 : Mem) (r pm ps pa k i xs xg xn n : Int) : Tr:=(.br (nzp r) (.br (nzp r) (.br (okL m1 r 0 [(.raw (.slice (.none) 0 0))]) (.br (inSl (pl (mcell m1 r 0)) n) (.br (okL m1 (slB (pl (mcell m1 r 0))) (aOff (slO (pl (mcell m1 r 0))) n 5) [(.li .i64 0),(.li .i64 0),(.li .i64 0),(.li .u8 0),(.raw (.slice (.none) 0 0))]) (.br (cutSl (pl (mcell m1 (slB (pl (mcell m1 r 0))) (.succ (.succ (.succ (.succ (aOff (slO (pl (mcell m1 r 0))) n 5))))))) 0 i) (.br (okSl m1 (pl (cutV (pl (mcell m1 (slB (pl (mcell m1 r 0))) (.succ (.succ (.succ (.succ (aOff (slO (pl (mcell m1 r 0))) n 5))))))) 3 0 i)) 3) (.br (appOK m1 (.slice (.none) 0 0) 3 24 (slN (pl (cutV (pl (mcell m1 (slB (pl (mcell m1 r 0))) (.succ (.succ (.succ (.succ (aOff (slO (pl (mcell m1 r 0))) n 5))))))) 3 0 i))) (rowL m1 (pl (cutV (pl (mcell m1 (slB (pl (mcell m1 r 0))) (.succ (.succ (.succ (.succ (aOff (slO (pl (mcell m1 r 0))) n 5))))))) 3 0 i)) 3)) (.any (appQ m1 (.slice (.none) 0 0) 3 [(.int .i64 0),(.int .u64 0),(.int .i64 0)] 77 (slN (pl (cutV (pl (mcell m1 (slB (pl (mcell m1 r 0))) (.succ (.succ (.succ (.succ (aOff (slO (pl (mcell m1 r 0))) n 5))))))) 3 0 i))) (rowL m1 (pl (cutV (pl (mcell m1 (slB (pl (mcell m1 r 0))) (.succ (.succ (.succ (.succ (aOff (slO (pl (mcell m1 r 0))) n 5))))))) 3 0 i)) 3)) (fun y2 => (.br true (.br (appOK y2.4 (pl (hdV y2.3)) 3 24 1 [(.int .i64 xs),(.int .u64 xg),(.int .i64 xn)]) (.any (appQ y2.4 (pl (hdV y2.3)) 3 [(.int .i64 0),(.int .u64 0),(.int .i64 0)] 77 1 [(.int .i64 xs),(.int .u64 xg),(.int .i64 xn)]) (fun y3 => (.br (cutSl (pl (mcell m1 (slB (pl (mcell m1 r 0))) (.succ (.succ (.succ (.succ (aOff (slO (pl (mcell m1 r 0))) n 5))))))) i (slN (pl (mcell m1 (slB (pl (mcell m1 r 0))) (.succ (.succ (.succ (.succ (aOff (slO (pl (mcell m1 r 0))) n 5))))))))) (.br (okSl y3.4 (pl (cutV (pl (mcell m1 (slB (pl (mcell m1 r 0))) (.succ (.succ (.succ (.succ (aOff (slO (pl (mcell m1 r 0))) n 5))))))) 3 i (slN (pl (mcell m1 (slB (pl (mcell m1 r 0))) (.succ (.succ (.succ (.succ (aOff (slO (pl (mcell m1 r 0))) n 5)))))))))) 3) (.br (appOK y3.4 (pl (hdV y3.3)) 3 24 (slN (pl (cutV (pl (mcell m1 (slB (pl (mcell m1 r 0))) (.succ (.succ (.succ (.succ (aOff (slO (pl (mcell m1 r 0))) n 5))))))) 3 i (slN (pl (mcell m1 (slB (pl (mcell m1 r 0))) (.succ (.succ (.succ (.succ (aOff (slO (pl (mcell m1 r 0))) n 5))))))))))) (rowL y3.4 (pl (cutV (pl (mcell m1 (slB (pl (mcell m1 r 0))) (.succ (.succ (.succ (.succ (aOff (slO (pl (mcell m1 r 0))) n 5))))))) 3 i (slN (pl (mcell m1 (slB (pl (mcell m1 r 0))) (.succ (.succ (.succ (.succ (aOff (slO (pl (mcell m1 r 0))) n 5)))))))))) 3)) (.any (appQ y3.4 (pl (hdV y3.3)) 3 [(.int .i64 0),(.int .u64 0),(.int .i64 0)] 77 (slN (pl (cutV (pl (mcell m1 (slB (pl (mcell m1 r 0))) (.succ (.succ (.succ (.succ (aOff (slO (pl (mcell m1 r 0))) n 5))))))) 3 i (slN (pl (mcell m1 (slB (pl (mcell m1 r 0))) (.succ (.succ (.succ (.succ (aOff (slO (pl (mcell m1 r 0))) n 5))))))))))) (rowL y3.4 (pl (cutV (pl (mcell m1 (slB (pl (mcell m1 r 0))) (.succ (.succ (.succ (.succ (aOff (slO (pl (mcell m1 r 0))) n 5))))))) 3 i (slN (pl (mcell m1 (slB (pl (mcell m1 r 0))) (.succ (.succ (.succ (.succ (aOff (slO (pl (mcell m1 r 0))) n 5)))))))))) 3)) (fun y4 => (.br (nzp r) (.br (nzp r) (.br (okL y4.4 r 0 [(.raw (.slice (.none) 0 0))]) (.br (inSl (pl (mcell y4.4 r 0)) n) (.br (okS y4.4 (slB (pl (mcell y4.4 r 0))) (aOff (slO (pl (mcell y4.4 r 0))) n 5) 5) (.letm (wrL y4.4 (slB (pl (mcell y4.4 r 0))) (aOff (slO (pl (mcell y4.4 r 0))) n 5) [(.int .i64 (gI m1 (slB (pl (mcell m1 r 0))) (aOff (slO (pl (mcell m1 r 0))) n 5))),(.int .i64 (gI m1 (slB (pl (mcell m1 r 0))) (.succ (aOff (slO (pl (mcell m1 r 0))) n 5)))),(.int .i64 (gI m1 (slB (pl (mcell m1 r 0))) (.succ (.succ (aOff (slO (pl (mcell m1 r 0))) n 5))))),(.int .u8 (gI m1 (slB (pl (mcell m1 r 0))) (.succ (.succ (.succ (aOff (slO (pl (mcell m1 r 0))) n 5)))))),(pl (hdV y4.3))]) (fun m9 => (.leaf (.up (.memo (.tup []) m9))))) (.no 72)) (.no 104)) (.no 70)) (.no 76)) (.no 75)))) (.no 120)) (.no 121)) (.no 107)))) (.no 120)) (.no 121)))) (.no 120)) (.no 121)) (.no 107)) (.no 70)) (.no 104)) (.no 70)) (.no 76)) (.no 75))
def T_qput (m : Mem) (r : Int) (pm ps pa : Int) (k : Int) (i : Int) (xs xg xn : Int) : Tr:=(.req (qrowP m r pm ps pa) (.any (qrowQ m r pm ps pa) (fun y0 => (.lp (.mk [0] [] [] y0.4) (fun y1 j1 => (.br (iZero? (hdI y1.1)) (.br (iLt (hdI y0.1) 0) (.lp (.mk [0] [] [] y0.4) (fun y2 j2 => (.br (nzp r) (.br (nzp r) (.br (okL y2.4 r 0 [(.raw (.slice (.none) 0 0))]) (.br (isSlV (pl (mcell y2.4 r 0))) (.req ((([(0,([(.si .i64 pm),(.si .i64 ps),(.si .i64 pa)],59)),(1,([(.si .i64 xs),(.si .u64 xg),(.si .i64 xn)],77))] : List (Nat × Blk)) = [(0,([(.si .i64 pm),(.si .i64 ps),(.si .i64 pa)],59)),(1,([(.si .i64 xs),(.si .u64 xg),(.si .i64 xn)],77))]) ∧ (([] : List (Nat × MBlk)) = [])) (.br (iLt (hdI y2.1) (slN (pl (mcell y2.4 r 0)))) (.br (nzp r) (.br (nzp r) (.br (okL y2.4 r 0 [(.raw (.slice (.none) 0 0))]) (.br (inSl (pl (mcell y2.4 r 0)) (hdI y2.1)) (.br (nzp (slB (pl (mcell y2.4 r 0)))) (.br (okL y2.4 (slB (pl (mcell y2.4 r 0))) (aOff (slO (pl (mcell y2.4 r 0))) (hdI y2.1) 5) [(.li .i64 0),(.li .i64 0),(.li .i64 0)]) (.req (qbefOK y2.4 (gI y2.4 (slB (pl (mcell y2.4 r 0))) (aOff (slO (pl (mcell y2.4 r 0))) (hdI y2.1) 5)) (gI y2.4 (slB (pl (mcell y2.4 r 0))) (.succ (aOff (slO (pl (mcell y2.4 r 0))) (hdI y2.1) 5))) (gI y2.4 (slB (pl (mcell y2.4 r 0))) (.succ (.succ (aOff (slO (pl (mcell y2.4 r 0))) (hdI y2.1) 5)))) pm ps pa) (.req ((([(0,([(.si .i64 pm),(.si .i64 ps),(.si .i64 pa)],59)),(1,([(.si .i64 xs),(.si .u64 xg),(.si .i64 xn)],77))] : List (Nat × Blk)) = [(0,([(.si .i64 pm),(.si .i64 ps),(.si .i64 pa)],59)),(1,([(.si .i64 xs),(.si .u64 xg),(.si .i64 xn)],77))]) ∧ (([] : List (Nat × MBlk)) = [])) (.br (qbefV y2.4 (gI y2.4 (slB (pl (mcell y2.4 r 0))) (aOff (slO (pl (mcell y2.4 r 0))) (hdI y2.1) 5)) (gI y2.4 (slB (pl (mcell y2.4 r 0))) (.succ (aOff (slO (pl (mcell y2.4 r 0))) (hdI y2.1) 5))) (gI y2.4 (slB (pl (mcell y2.4 r 0))) (.succ (.succ (aOff (slO (pl (mcell y2.4 r 0))) (hdI y2.1) 5)))) pm ps pa) (.req ((([(0,(.u (.c (.np r 0)))),(2,(.u (.c (.si .u8 k)))),(3,(.u (.c (.si .i64 i)))),(6,(.u (.c (.ptr 0 0)))),(9,(.u (.c (.ptr 1 0))))] : List (Nat × V)) = [(0,(.u (.c (.np r 0)))),(2,(.u (.c (.si .u8 k)))),(3,(.u (.c (.si .i64 i)))),(6,(.u (.c (.ptr 0 0)))),(9,(.u (.c (.ptr 1 0))))]) ∧ (([(0,([(.si .i64 pm),(.si .i64 ps),(.si .i64 pa)],59)),(1,([(.si .i64 xs),(.si .u64 xg),(.si .i64 xn)],77))] : List (Nat × Blk)) = [(0,([(.si .i64 pm),(.si .i64 ps),(.si .i64 pa)],59)),(1,([(.si .i64 xs),(.si .u64 xg),(.si .i64 xn)],77))])) (.leaf (.again (.mk [(iAdd .i64 (hdI y2.1) 1)] [] [] y2.4)))) (T_putI y2.4 r pm ps pa k i xs xg xn (hdI y2.1))))) (.no 70)) (.no 76)) (.no 104)) (.no 70)) (.no 76)) (.no 75)) (.req ((([(0,([(.si .i64 pm),(.si .i64 ps),(.si .i64 pa)],59)),(1,([(.si .i64 xs),(.si .u64 xg),(.si .i64 xn)],77))] : List (Nat × Blk)) = [(0,([(.si .i64 pm),(.si .i64 ps),(.si .i64 pa)],59)),(1,([(.si .i64 xs),(.si .u64 xg),(.si .i64 xn)],77))]) ∧ (([] : List (Nat × MBlk)) = [])) (T_putI y2.4 r pm ps pa k i xs xg xn (hdI y2.1))))) (.no 123)) (.no 70)) (.no 76)) (.no 75)))) (.req ((([(0,(.u (.c (.np r 0)))),(2,(.u (.c (.si .u8 k)))),(3,(.u (.c (.si .i64 i)))),(6,(.u (.c (.ptr 0 0)))),(9,(.u (.c (.ptr 1 0))))] : List (Nat × V)) = [(0,(.u (.c (.np r 0)))),(2,(.u (.c (.si .u8 k)))),(3,(.u (.c (.si .i64 i)))),(6,(.u (.c (.ptr 0 0)))),(9,(.u (.c (.ptr 1 0))))]) ∧ (([(0,([(.si .i64 pm),(.si .i64 ps),(.si .i64 pa)],59)),(1,([(.si .i64 xs),(.si .u64 xg),(.si .i64 xn)],77))] : List (Nat × Blk)) = [(0,([(.si .i64 pm),(.si .i64 ps),(.si .i64 pa)],59)),(1,([(.si .i64 xs),(.si .u64 xg),(.si .i64 xn)],77))])) (.leaf (.again (.mk [1,(hdI y0.1)] [] [] y0.4))))) (T_putR y1.4 r pm ps pa k i xs xg xn (hdI (tlI y1.1)))))))))
def PutMid (Z : GR) (m : Mem) (p : Pl) (k : Int) (v : Vars) : Prop :=
  ∃ (i : Nat) (Z1 : GR) (x1 : RV),v.i = [(i : Int)] ∧ Z.to Z1 m v.m ∧ Z1.rs[i]? = some x1 ∧ x1.p = p ∧ (x1 ∈ Z.rs ∨ ((∀ x ∈ Z.rs,x.p ≠ p) ∧ x1.k = k ∧ x1.l = [])) ∧ (∀ y,y.p ≠ p → (y ∈ Z1.rs ↔ y ∈ Z.rs)) ∧ Z1.rs.length ≤ Z.rs.length + 1
section
variable {m m1 : Mem} {Z : GR} {a b c k i xs xg xn : Int}
theorem putI_walk (h : Z.is m) (hb : Z.rs.length + 1 < 1099511627776) {n : Nat} (hn : n ≤ Z.rs.length) (h1 : ∀ j x,j < n → Z.rs[j]? = some x → plt x.p (a,b,c) = true) (h2 : ∀ x,Z.rs[n]? = some x → plt x.p (a,b,c) = false)
    (hno : ∀ x ∈ Z.rs,x.p ≠ (a,b,c)) {R : Leaf → Prop} (hR : ∀ m',PutMid Z m (a,b,c) k ⟨[(n : Int)],[],[],m'⟩ → R (.up (.again ⟨[1,(n : Int)],[],[],m'⟩))) : (T_putI m ((Z.r : Int) + 1) a b c k i xs xg xn n).sat R:=by
  have B:=h.bas
  unfold T_putI
  have hc1 : cutSl Z.V 0 (n : Int) = true ∧ SlE rwEnc 5 m (cutV Z.V 5 0 (n : Int)) (Z.rs.take n):=by
    have:=h.sl.cut rwEncOK (l:=0) (r:=n) (by omega) hn
    simpa using this
  simp only [B.v,B.pv,hc1.2.pl,hc1.2.n,hc1.2.row]
  rw [brT B.nr,brT B.nr,brT B.ld,brT hc1.1,brT hc1.2.ok]
  have hl1 : (Z.rs.take n).length = n:=by rw [List.length_take];omega
  rw [brT ((SlE.nil0 m).app_ok rwEncOK (by rw [hl1];simp;omega) (by rw [hl1];simp;omega))]
  rw [sat_any]
  rintro ⟨ui,ub,uv,um⟩ hq
  obtain ⟨a1,a2,a3,_,_⟩:=(SlE.nil0 m).app rwEncOK (m0:=m) (e:=90) (zs:=[.int .i64 0,.int .i64 0,.int .i64 0,.int .u8 0,.slice none 0 0]) rfl rfl (fun _ _ => rfl) (fun a h => (slB_nil a h).elim) hq
  simp only [List.nil_append] at a1 a2 a3
  clear hq
  rw [brT (by rfl)]
  simp only [a1.pl]
  obtain ⟨nr,hnr⟩ : ∃ nr : RV,nr = ⟨(a,b,c),k,.slice none 0 0,[]⟩:=⟨_,rfl⟩
  have ez : [Value.int .i64 a,.int .i64 b,.int .i64 c,.int .u8 k,.slice none 0 0] = eCells rwEnc [nr]:=by rw [hnr];rfl
  have np : nr.p = (a,b,c):=by rw [hnr]
  have nk : nr.k = k:=by rw [hnr]
  have nv : nr.v = .slice none 0 0:=by rw [hnr]
  have nl : nr.l = []:=by rw [hnr]
  clear hnr
  rw [ez]
  have happ : appOK um (hdV uv) 5 56 1 (eCells rwEnc [nr]) = true:=a1.app_ok rwEncOK (ys:=[nr]) (by rw [hl1];simp;omega) (by rw [hl1];simp;omega)
  rw [brT happ]
  rw [sat_any]
  rintro ⟨wi,wb,wv,wm⟩ hq
  obtain ⟨b1,b2,b3,_,_⟩:=a1.app rwEncOK (m0:=m) (e:=90) (zs:=[.int .i64 0,.int .i64 0,.int .i64 0,.int .u8 0,.slice none 0 0]) (ys:=[nr]) rfl rfl a2 a3 hq
  simp only at b1 b2 b3
  clear hq
  have hZ : Z.is wm:=h.congr fun a ha => b2 a (h.there ha)
  have B2:=hZ.bas
  have hc2 : cutSl Z.V (n : Int) (Z.rs.length : Int) = true ∧ SlE rwEnc 5 wm (cutV Z.V 5 (n : Int) (Z.rs.length : Int)) (Z.rs.drop n):=by
    have:=hZ.sl.cut rwEncOK (l:=n) (r:=Z.rs.length) hn (Nat.le_refl _)
    rw [List.take_of_length_le (by rw [List.length_drop];exact Nat.le_refl _)] at this
    exact this
  simp only [B2.v,B2.pv,B2.n,b1.pl,hc2.2.pl,hc2.2.n,hc2.2.row]
  have hl2 : (Z.rs.drop n).length = Z.rs.length - n:=List.length_drop
  have hl3 : (Z.rs.take n ++ [nr]).length = n + 1:=by rw [List.length_append,hl1];rfl
  rw [brT B2.nr,brT B2.nr,brT B2.ld,brT hc2.1,brT hc2.2.ok,brT (b1.app_ok rwEncOK (by rw [hl3,hl2];omega) (by rw [hl3,hl2];omega))]
  rw [sat_any]
  rintro ⟨zi,zb,zv,zm⟩ hq
  obtain ⟨d1,d2,d3,_,_⟩:=b1.app rwEncOK (m0:=m) (e:=90) (zs:=[.int .i64 0,.int .i64 0,.int .i64 0,.int .u8 0,.slice none 0 0]) (ys:=Z.rs.drop n) rfl rfl b2 b3 hq
  simp only at d1 d2 d3
  clear hq
  simp only [d1.pl]
  have erow : Z.rs.take n ++ [nr] ++ Z.rs.drop n = Z.rs.take n ++ nr :: Z.rs.drop n:=by simp
  rw [erow] at d1
  have hmem : ∀ y,y ∈ Z.rs.take n ++ nr :: Z.rs.drop n ↔ y = nr ∨ y ∈ Z.rs:=fun y => by
    rw [List.mem_append,List.mem_cons]
    conv => rhs;rw [← List.take_append_drop n Z.rs,List.mem_append]
    constructor
    · rintro (h | h | h)
      · exact .inr (.inl h)
      · exact .inl h
      · exact .inr (.inr h)
    · rintro (h | h | h)
      · exact .inr (.inl h)
      · exact .inl h
      · exact .inr (.inr h)
  have hlen : (Z.rs.take n ++ nr :: Z.rs.drop n).length = Z.rs.length + 1:=by
    rw [List.length_append,List.length_cons,hl1,hl2];omega
  have hd : ∀ y ∈ Z.rs.drop n,plt (a,b,c) y.p = true:=fun y hy => by
    obtain ⟨j,hj⟩:=List.getElem?_of_mem hy
    rw [List.getElem?_drop] at hj
    have hlt : n + j < Z.rs.length:=(List.getElem?_eq_some_iff.1 hj).1
    obtain ⟨x,hx⟩ : ∃ x,Z.rs[n]? = some x:=⟨_,List.getElem?_eq_getElem (by omega)⟩
    have hx2:=plt_tri (h2 x hx) (hno x (List.mem_of_getElem? hx))
    by_cases e : j = 0
    · subst e
      rw [Nat.add_zero,hx] at hj;cases hj;exact hx2
    · refine plt_trans hx2 ?_
      have:=List.pairwise_iff_getElem.1 h.srt n (n + j) (by omega) hlt (by omega)
      rw [List.getElem?_eq_getElem (by omega)] at hx hj
      cases hx;cases hj
      exact this
  have hsrt : (Z.rs.take n ++ nr :: Z.rs.drop n).Pairwise fun a b => plt a.p b.p = true:=by
    have ht : ∀ x ∈ Z.rs.take n,plt x.p (a,b,c) = true:=fun x hx => by
      obtain ⟨j,hj⟩:=List.getElem?_of_mem hx
      rw [List.getElem?_take] at hj
      split at hj
      · exact h1 j x (by assumption) hj
      · cases hj
    rw [List.pairwise_append]
    refine ⟨h.srt.sublist (List.take_sublist _ _),List.pairwise_cons.2 ⟨fun y hy => by rw [np];exact hd y hy,h.srt.sublist (List.drop_sublist _ _)⟩,fun x hx y hy => ?_⟩
    rcases List.mem_cons.1 hy with rfl | hy
    · rw [np];exact ht x hx
    · exact plt_trans (ht x hx) (hd y hy)
  obtain ⟨f1,f2⟩:=h.newRows d2 d1 d3 (fun y hy => by
    rcases (hmem y).1 hy with rfl | hy
    · exact .inr ⟨nv,nl⟩
    · exact .inl hy) hsrt (by rw [hlen];exact hb)
  rw [brT B2.nr,brT B2.nr,brT f1,sat_letm,sat_req]
  refine ⟨⟨trivial,trivial⟩,hR _ ⟨n,_,nr,rfl,f2,?_,np,.inr ⟨hno,nk,nl⟩,fun y hy => ?_,by rw [hlen];exact Nat.le_refl _⟩⟩
  · show (Z.rs.take n ++ _ :: Z.rs.drop n)[n]? = _
    rw [List.getElem?_append_right (by rw [hl1];exact Nat.le_refl _),hl1];simp
  · rw [hmem]
    constructor
    · rintro (rfl | hy2)
      · exact absurd np hy
      · exact hy2
    · exact .inr
theorem putR_walk (h : Z.is m) {n : Nat} {x : RV} (hx : Z.rs[n]? = some x) (hi : 0 ≤ i) (hi2 : i ≤ x.l.length) (hb : x.l.length + 1 < 1099511627776) (hh : ∀ it ∈ x.l,it.1 ≠ (xs,xg)) {R : Leaf → Prop}
    (hR : ∀ m' v,Z.to ⟨Z.r,Z.V,Z.rs.set n ⟨x.p,x.k,v,x.l.take i.toNat ++ ((xs,xg),xn) :: x.l.drop i.toNat⟩⟩ m m' → R (.up (.memo (.tup []) m'))) : (T_putR m ((Z.r : Int) + 1) a b c k i xs xg xn n).sat R:=by
  obtain ⟨q,rfl⟩ : ∃ q : Nat,i = (q : Int):=⟨i.toNat,by omega⟩
  have hq' : q ≤ x.l.length:=by omega
  have hxm:=List.mem_of_getElem? hx
  have B:=h.bas
  have F:=h.row hx
  have hs:=h.its x hxm
  unfold T_putR
  have hc1 : cutSl x.v 0 (q : Int) = true ∧ SlE itEnc 3 m (cutV x.v 3 0 (q : Int)) (x.l.take q):=by
    have:=hs.cut itEncOK (l:=0) (r:=q) (by omega) hq'
    simpa using this
  simp only [B.v,B.pv,F.g0,F.g1,F.g2,F.g3,F.g4,hs.pl,hs.n,hc1.2.pl,hc1.2.n,hc1.2.row,Int.toNat_natCast]
  rw [brT B.nr,brT B.nr,brT B.ld,brT F.inn,brT F.o5,brT hc1.1,brT hc1.2.ok]
  have hl1 : (x.l.take q).length = q:=by rw [List.length_take];omega
  rw [brT ((SlE.nil0 m).app_ok itEncOK (by rw [hl1];simp;omega) (by rw [hl1];simp;omega))]
  rw [sat_any]
  rintro ⟨ui,ub,uv,um⟩ hq
  obtain ⟨a1,a2,a3,_,_⟩:=(SlE.nil0 m).app itEncOK (m0:=m) (e:=77) (zs:=[.int .i64 0,.int .u64 0,.int .i64 0]) rfl rfl (fun _ _ => rfl) (fun a h => (slB_nil a h).elim) hq
  simp only [List.nil_append] at a1 a2 a3
  clear hq
  rw [brT (by rfl)]
  simp only [a1.pl]
  have ez : [Value.int .i64 xs,.int .u64 xg,.int .i64 xn] = eCells itEnc [((xs,xg),xn)]:=rfl
  rw [ez]
  have happ : appOK um (hdV uv) 3 24 1 (eCells itEnc [((xs,xg),xn)]) = true:=a1.app_ok itEncOK (ys:=[((xs,xg),xn)]) (by rw [hl1];simp;omega) (by rw [hl1];simp;omega)
  rw [brT happ]
  rw [sat_any]
  rintro ⟨wi,wb,wv,wm⟩ hq
  obtain ⟨b1,b2,b3,_,_⟩:=a1.app itEncOK (m0:=m) (e:=77) (zs:=[.int .i64 0,.int .u64 0,.int .i64 0]) (ys:=[((xs,xg),xn)]) rfl rfl a2 a3 hq
  simp only at b1 b2 b3
  clear hq
  have hZ : Z.is wm:=h.congr fun a ha => b2 a (h.there ha)
  have hs2:=hZ.its x hxm
  have hc2 : cutSl x.v (q : Int) (x.l.length : Int) = true ∧ SlE itEnc 3 wm (cutV x.v 3 (q : Int) (x.l.length : Int)) (x.l.drop q):=by
    have:=hs2.cut itEncOK (l:=q) (r:=x.l.length) hq' (Nat.le_refl _)
    rw [List.take_of_length_le (by rw [List.length_drop];exact Nat.le_refl _)] at this
    exact this
  simp only [b1.pl,hc2.2.pl,hc2.2.n,hc2.2.row]
  have hl2 : (x.l.drop q).length = x.l.length - q:=List.length_drop
  have hl3 : (x.l.take q ++ [((xs,xg),xn)]).length = q + 1:=by rw [List.length_append,hl1];rfl
  rw [brT hc2.1,brT hc2.2.ok,brT (b1.app_ok itEncOK (by rw [hl3,hl2];omega) (by rw [hl3,hl2];omega))]
  rw [sat_any]
  rintro ⟨zi,zb,zv,zm⟩ hq
  obtain ⟨d1,d2,d3,_,_⟩:=b1.app itEncOK (m0:=m) (e:=77) (zs:=[.int .i64 0,.int .u64 0,.int .i64 0]) (ys:=x.l.drop q) rfl rfl b2 b3 hq
  simp only at d1 d2 d3
  clear hq
  simp only [d1.pl]
  have el : x.l.take q ++ [((xs,xg),xn)] ++ x.l.drop q = x.l.take q ++ ((xs,xg),xn) :: x.l.drop q:=by simp
  rw [el] at d1
  have hperm : (x.l.take q ++ ((xs,xg),xn) :: x.l.drop q).Perm (((xs,xg),xn) :: x.l):=by
    have:=List.perm_middle (a:=((xs,xg),xn)) (l₁:=x.l.take q) (l₂:=x.l.drop q)
    rw [List.take_append_drop] at this
    exact this
  obtain ⟨f1,f2⟩:=h.setRow hx d2 d1 d3 (by
    refine (hperm.map (·.1)).nodup_iff.2 ?_
    rw [List.map_cons,List.nodup_cons]
    refine ⟨fun hm => ?_,h.nd x hxm⟩
    obtain ⟨it,h1,h2⟩:=List.mem_map.1 hm
    exact hh it h1 h2) (by rw [hperm.length_eq,List.length_cons];exact hb)
  have hZ2 : Z.is zm:=h.congr fun a ha => d2 a (h.there ha)
  have B2:=hZ2.bas
  have F2:=hZ2.row hx
  simp only [B2.v,B2.pv]
  rw [d1.pl] at f2
  rw [brT B2.nr,brT B2.nr,brT B2.ld,brT F2.inn,brT f1,sat_letm]
  exact hR _ _ f2
end
theorem qput_walk {m : Mem} {r a b c k i xs xg xn : Int} (Z : GR) (hZ : qputPre Z m r (a,b,c) i (xs,xg)) : (T_qput m r a b c k i xs xg xn).sat (isMemo fun v x => qputPost m Z (a,b,c) k i ((xs,xg),xn) (yOf v x) ∧ (yOf v x).m = x ∧ ∀ ρ,v.den ρ = V.den ρ (.tup [])):=by
  obtain ⟨rfl,h,hb1,hb2,hi0,hi⟩:=hZ
  have hpre : qrowPre Z m ((Z.r : Int) + 1):=⟨rfl,h⟩
  have B:=h.bas
  unfold T_qput
  rw [sat_req]
  refine ⟨⟨Z,hpre⟩,?_⟩
  rw [sat_any]
  rintro ⟨yi,yb,yv,ym⟩ hy
  obtain ⟨⟨q,e1,hq⟩,e2⟩:=hy Z hpre
  simp only at e1 e2
  subst e1 e2
  simp only [hdI]
  refine sat_jn (PutMid Z ym (a,b,c) k) ?_ ?_
  · rcases hq with ⟨rfl,hq⟩ | ⟨n,x,rfl,hx,hp⟩
    · rw [brT (by rfl)]
      let J : Nat → Vars → Prop:=fun N y => ∃ n : Nat,n + N = Z.rs.length ∧ y.i = [(n : Int)] ∧ y.m = ym ∧ ∀ j x,j < n → Z.rs[j]? = some x → plt x.p (a,b,c) = true
      refine lp_idx J (n0:=Z.rs.length) ⟨0,by omega,rfl,rfl,fun j x hj => by omega⟩ ?_
      rintro N ⟨ui,ub,uv,um⟩ _ ⟨n,hn,rfl,hm,hf⟩
      simp only at hm
      subst hm
      simp only [hdI,B.v,B.pv,B.n]
      rw [brT B.nr,brT B.nr,brT B.ld,brT B.sl,sat_req]
      refine ⟨⟨trivial,trivial⟩,?_⟩
      by_cases hlt : n < Z.rs.length
      · obtain ⟨x,hx⟩ : ∃ x,Z.rs[n]? = some x:=⟨_,List.getElem?_eq_getElem hlt⟩
        have F:=h.row hx
        rw [brT (by simp [iLt];omega),brT B.nr,brT B.nr,brT B.ld,brT F.inn,brT F.nz,brT F.o3]
        simp only [F.g0,F.g1,F.g2]
        obtain ⟨o1,o2⟩:=qbef_spec um x.p.1 x.p.2.1 x.p.2.2 a b c
        rw [sat_req,o2]
        refine ⟨o1,?_⟩
        rw [sat_req]
        refine ⟨⟨trivial,trivial⟩,?_⟩
        cases hpl : plt x.p (a,b,c) with
        | true =>
          rw [brT rfl,sat_req]
          refine ⟨⟨trivial,trivial⟩,N - 1,by omega,n + 1,by omega,by rw [iadd_i (by omega)];simp,rfl,fun j y hj hy => ?_⟩
          by_cases ej : j = n
          · subst ej;rw [hx] at hy;cases hy;exact hpl
          · exact hf j y (by omega) hy
        | false =>
          rw [brF rfl]
          exact putI_walk h hb1 (by omega) hf (fun y hy => by rw [hx] at hy;cases hy;exact hpl) hq fun m' hm' => ⟨rfl,hm'⟩
      · rw [brF (by simp [iLt];omega),sat_req]
        refine ⟨⟨trivial,trivial⟩,?_⟩
        exact putI_walk h hb1 (by omega) hf (fun y hy => by rw [List.getElem?_eq_none (by omega)] at hy;cases hy) hq fun m' hm' => ⟨rfl,hm'⟩
    · rw [brF (by simp [iLt]),sat_req]
      exact ⟨⟨trivial,trivial⟩,rfl,n,Z,x,rfl,GR.to.refl h,hx,hp,.inl (List.mem_of_getElem? hx),fun _ _ => Iff.rfl,by omega⟩
  · rintro v j _ ⟨n,Z1,x1,e1,hto,hx1,hp1,hold,hset,hlen⟩
    simp only at e1 hto
    rw [e1]
    simp only [hdI]
    have hcase : (x1 ∈ Z.rs ∧ i ≤ x1.l.length ∧ (∀ it ∈ x1.l,it.1 ≠ (xs,xg))) ∨ (i = 0 ∧ (∀ x ∈ Z.rs,x.p ≠ (a,b,c)) ∧ x1.k = k ∧ x1.l = []):=by
      rcases hold with ho | ⟨o1,o2,o3⟩
      · rcases hi with ⟨x,g1,g2,g3,g4⟩ | ⟨_,g2⟩
        · have : x1 = x:=srt_inj h.srt ho g1 (hp1.trans g2.symm)
          subst this
          exact .inl ⟨ho,g3,g4⟩
        · exact absurd hp1 (g2 x1 ho)
      · rcases hi with ⟨x,g1,g2,g3,g4⟩ | ⟨g1,g2⟩
        · exact absurd g2 (o1 x g1)
        · exact .inr ⟨g1,o1,o2,o3⟩
    have hr1 : (Z.r : Int) + 1 = (Z1.r : Int) + 1:=by rw [hto.r]
    rw [hr1]
    refine putR_walk hto.is' hx1 hi0 ?_ ?_ ?_ fun m' w ht => ?_
    · rcases hcase with ⟨g1,g2,g3⟩ | ⟨g1,_,_,g4⟩
      · exact g2
      · rw [g4,g1];simp
    · rcases hcase with ⟨g1,g2,g3⟩ | ⟨g1,_,_,g4⟩
      · exact hb2 x1 g1
      · rw [g4];simp
    · rcases hcase with ⟨g1,g2,g3⟩ | ⟨g1,_,_,g4⟩
      · exact g3
      · rw [g4];intro it hit;cases hit
    · have hlt : n < Z1.rs.length:=(List.getElem?_eq_some_iff.1 hx1).1
      refine ⟨⟨_,hto.trans ht h,⟨x1.p,x1.k,w,x1.l.take i.toNat ++ ((xs,xg),xn) :: x1.l.drop i.toNat⟩,?_,hp1,?_,fun y hy => ?_,by simpa using hlen⟩,rfl,fun ρ => rfl⟩
      · exact List.mem_of_getElem? (i:=n) (by rw [List.getElem?_set_self hlt])
      · rcases hcase with ⟨g1,g2,g3⟩ | ⟨g1,g2,g3,g4⟩
        · exact .inl ⟨x1,g1,hp1,rfl,rfl⟩
        · refine .inr ⟨g2,g3,?_⟩
          rw [g4];simp
      · rw [← hset y hy]
        constructor
        · intro hm
          rcases List.mem_or_eq_of_mem_set hm with hm | rfl
          · exact hm
          · exact absurd hp1 hy
        · intro hm
          obtain ⟨j,hj⟩:=List.getElem?_of_mem hm
          have hne : n ≠ j:=by
            rintro rfl
            rw [hx1] at hj;cases hj;exact hy hp1
          exact List.mem_of_getElem? (i:=j) (by rw [List.getElem?_set_ne hne];exact hj)
theorem t_qput (m : Mem) (r : Int) (pm ps pa : Int) (k : Int) (i : Int) (xs xg xn : Int) : runm Try.prog [s_qrow,s_qbef] (drawh Try.prog [s_qrow,s_qbef] (fun _ _ => some ⟨[10],[],[0,2,3,6,9],[0,1]⟩) (fun _ k _ => match Nat.beq k 10 with | true => some ⟨0,[.t 10 false],[[.si .i64 0]],[0,2,3,6,9],[0,1]⟩ | false => none)) 300 86 [.u (.c (.np r 0)),.u (.agg [.si .i64 pm,.si .i64 ps,.si .i64 pa]),.u (.c (.si .u8 k)),.u (.c (.si .i64 i)),.u (.agg [.si .i64 xs,.si .u64 xg,.si .i64 xn])] m [98,92,95,142,140,137,111,107,108,109,85] = T_qput m r pm ps pa k i xs xg xn:=by kernel_rfl
theorem s_qput_ok : SumOK Try.prog s_qput:=by
  refine memSum_ok ⟨_,Try.func86,by kernel_rfl⟩ fun m args ms h hp hw ρ w hm => ?_
  split at h
  · split at h
    · rename_i a0 a1 a2 a3 a4 _ _ _ _ _ r pm ps pa k i xs xg xn h0 h1 h2 h3 h4
      cases h
      have hS : ∀ q ∈ [s_qrow,s_qbef],SumOK Try.prog q:=(okc s_qrow_ok (okc s_qbef_ok okn))
      exact mm_ghostY nameOK hS (drawh_sound nameOK hS (by kernel_rfl) _ _) 300 _ m _ (t_qput m r pm ps pa k i xs xg xn) yOf hp (fun G hG => qput_walk G hG) ρ w hm (by simp only [List.map_cons,List.map_nil,ptrOf_den h0,plaOf_den h1,u8Of_den h2,intOf_den h3,itmOf_den h4])
    · cases h
  · cases h
end Go.Proofs.Ytnlohongffpkpaa.T16
end

section
namespace Go.Proofs.Ytnlohongffpkpaa.T16
open Go Go.RowKit Go.Proofs.Ytnlohongffpkpaa.Sx Go.Proofs
set_option linter.unusedVariables false
set_option linter.unusedSimpArgs false
def yAg (v : V) (m : Mem) : Vars :=
  match v with
  | .u (.agg [a,b]) => ⟨[cI a,cI b],[],[],m⟩
  | _ => ⟨[],[],[],m⟩
def qcutPre (Z : GR) (m : Mem) (r i k : Int) : Prop:=r = (Z.r : Int) + 1 ∧ Z.is m ∧ ∃ (j q : Nat) (x : RV) (it : Itm),i = j ∧ k = q ∧ Z.rs[j]? = some x ∧ x.l[q]? = some it
def CutAt (Z Z' : GR) (j q : Nat) (x : RV) : Prop :=
  (x.l.eraseIdx q ≠ [] ∧ ∃ x',Z'.rs = Z.rs.set j x' ∧ x'.p = x.p ∧ x'.k = x.k ∧ x'.l = x.l.eraseIdx q) ∨ (x.l.eraseIdx q = [] ∧ Z'.rs = Z.rs.eraseIdx j)
def qcutP (m : Mem) (r i k : Int) : Prop:=∃ Z,qcutPre Z m r i k
def qcutPost (m : Mem) (Z : GR) (i k : Int) (y : Vars) : Prop:=∃ (j q : Nat) (x : RV) (it : Itm),i = j ∧ k = q ∧ Z.rs[j]? = some x ∧ x.l[q]? = some it ∧ y.i = [it.1.1,it.1.2] ∧ ∃ Z',Z.to Z' m y.m ∧ CutAt Z Z' j q x
def qcutQ (m : Mem) (r i k : Int) (y : Vars) : Prop:=∀ Z,qcutPre Z m r i k → qcutPost m Z i k y
def s_qcut : Sum:=memSum 73 fun m a => match a with | [a0,a1,a2] => (match ptrOf a0,intOf a1,intOf a2 with | some r,some i,some k => some ⟨qcutP m r i k,qcutQ m r i k,fun y => .u (.agg [.si .i64 (hdI y.i),.si .u64 (hdI (tlI y.i))])⟩ | _,_,_ => none) | _ => none
def T_cutE (m1 : Mem) (r i : Int) (w : V) : Tr:=(.br (nzp r) (.br (nzp r) (.br (okL m1 r 0 [(.raw (.slice (.none) 0 0))]) (.br (cutSl (pl (mcell m1 r 0)) 0 i) (.br (okSl m1 (pl (cutV (pl (mcell m1 r 0)) 5 0 i)) 5) (.br (appOK m1 (.slice (.none) 0 0) 5 56 (slN (pl (cutV (pl (mcell m1 r 0)) 5 0 i))) (rowL m1 (pl (cutV (pl (mcell m1 r 0)) 5 0 i)) 5)) (.any (appQ m1 (.slice (.none) 0 0) 5 [(.int .i64 0),(.int .i64 0),(.int .i64 0),(.int .u8 0),(.slice (.none) 0 0)] 90 (slN (pl (cutV (pl (mcell m1 r 0)) 5 0 i))) (rowL m1 (pl (cutV (pl (mcell m1 r 0)) 5 0 i)) 5)) (fun y2 => (.br (nzp r) (.br (nzp r) (.br (okL y2.4 r 0 [(.raw (.slice (.none) 0 0))]) (.br (cutSl (pl (mcell y2.4 r 0)) (iAdd .i64 i 1) (slN (pl (mcell y2.4 r 0)))) (.br (okSl y2.4 (pl (cutV (pl (mcell y2.4 r 0)) 5 (iAdd .i64 i 1) (slN (pl (mcell y2.4 r 0))))) 5) (.br (appOK y2.4 (pl (hdV y2.3)) 5 56 (slN (pl (cutV (pl (mcell y2.4 r 0)) 5 (iAdd .i64 i 1) (slN (pl (mcell y2.4 r 0)))))) (rowL y2.4 (pl (cutV (pl (mcell y2.4 r 0)) 5 (iAdd .i64 i 1) (slN (pl (mcell y2.4 r 0))))) 5)) (.any (appQ y2.4 (pl (hdV y2.3)) 5 [(.int .i64 0),(.int .i64 0),(.int .i64 0),(.int .u8 0),(.slice (.none) 0 0)] 90 (slN (pl (cutV (pl (mcell y2.4 r 0)) 5 (iAdd .i64 i 1) (slN (pl (mcell y2.4 r 0)))))) (rowL y2.4 (pl (cutV (pl (mcell y2.4 r 0)) 5 (iAdd .i64 i 1) (slN (pl (mcell y2.4 r 0))))) 5)) (fun y3 => (.br (nzp r) (.br (nzp r) (.br (okS y3.4 r 0 1) (.letm (wrL y3.4 r 0 [(pl (hdV y3.3))]) (fun m2 => (.leaf (.memo w m2)))) (.no 72)) (.no 76)) (.no 75)))) (.no 120)) (.no 121)) (.no 107)) (.no 70)) (.no 76)) (.no 75)))) (.no 120)) (.no 121)) (.no 107)) (.no 70)) (.no 76)) (.no 75))
def T_qcut (m : Mem) (r : Int) (i : Int) (k : Int) : Tr:=(.br (nzp r) (.br (nzp r) (.br (okL m r 0 [(.raw (.slice (.none) 0 0))]) (.br (inSl (pl (mcell m r 0)) i) (.br (okL m (slB (pl (mcell m r 0))) (aOff (slO (pl (mcell m r 0))) i 5) [(.li .i64 0),(.li .i64 0),(.li .i64 0),(.li .u8 0),(.raw (.slice (.none) 0 0))]) (.br (inSl (pl (mcell m (slB (pl (mcell m r 0))) (.succ (.succ (.succ (.succ (aOff (slO (pl (mcell m r 0))) i 5))))))) k) (.br (nzp (slB (pl (mcell m (slB (pl (mcell m r 0))) (.succ (.succ (.succ (.succ (aOff (slO (pl (mcell m r 0))) i 5))))))))) (.br (okL m (slB (pl (mcell m (slB (pl (mcell m r 0))) (.succ (.succ (.succ (.succ (aOff (slO (pl (mcell m r 0))) i 5)))))))) (aOff (slO (pl (mcell m (slB (pl (mcell m r 0))) (.succ (.succ (.succ (.succ (aOff (slO (pl (mcell m r 0))) i 5)))))))) k 3) [(.li .i64 0),(.li .u64 0)]) (.br (cutSl (pl (mcell m (slB (pl (mcell m r 0))) (.succ (.succ (.succ (.succ (aOff (slO (pl (mcell m r 0))) i 5))))))) 0 k) (.br (okSl m (pl (cutV (pl (mcell m (slB (pl (mcell m r 0))) (.succ (.succ (.succ (.succ (aOff (slO (pl (mcell m r 0))) i 5))))))) 3 0 k)) 3) (.br (appOK m (.slice (.none) 0 0) 3 24 (slN (pl (cutV (pl (mcell m (slB (pl (mcell m r 0))) (.succ (.succ (.succ (.succ (aOff (slO (pl (mcell m r 0))) i 5))))))) 3 0 k))) (rowL m (pl (cutV (pl (mcell m (slB (pl (mcell m r 0))) (.succ (.succ (.succ (.succ (aOff (slO (pl (mcell m r 0))) i 5))))))) 3 0 k)) 3)) (.any (appQ m (.slice (.none) 0 0) 3 [(.int .i64 0),(.int .u64 0),(.int .i64 0)] 77 (slN (pl (cutV (pl (mcell m (slB (pl (mcell m r 0))) (.succ (.succ (.succ (.succ (aOff (slO (pl (mcell m r 0))) i 5))))))) 3 0 k))) (rowL m (pl (cutV (pl (mcell m (slB (pl (mcell m r 0))) (.succ (.succ (.succ (.succ (aOff (slO (pl (mcell m r 0))) i 5))))))) 3 0 k)) 3)) (fun y0 => (.br (cutSl (pl (mcell m (slB (pl (mcell m r 0))) (.succ (.succ (.succ (.succ (aOff (slO (pl (mcell m r 0))) i 5))))))) (iAdd .i64 k 1) (slN (pl (mcell m (slB (pl (mcell m r 0))) (.succ (.succ (.succ (.succ (aOff (slO (pl (mcell m r 0))) i 5))))))))) (.br (okSl y0.4 (pl (cutV (pl (mcell m (slB (pl (mcell m r 0))) (.succ (.succ (.succ (.succ (aOff (slO (pl (mcell m r 0))) i 5))))))) 3 (iAdd .i64 k 1) (slN (pl (mcell m (slB (pl (mcell m r 0))) (.succ (.succ (.succ (.succ (aOff (slO (pl (mcell m r 0))) i 5)))))))))) 3) (.br (appOK y0.4 (pl (hdV y0.3)) 3 24 (slN (pl (cutV (pl (mcell m (slB (pl (mcell m r 0))) (.succ (.succ (.succ (.succ (aOff (slO (pl (mcell m r 0))) i 5))))))) 3 (iAdd .i64 k 1) (slN (pl (mcell m (slB (pl (mcell m r 0))) (.succ (.succ (.succ (.succ (aOff (slO (pl (mcell m r 0))) i 5))))))))))) (rowL y0.4 (pl (cutV (pl (mcell m (slB (pl (mcell m r 0))) (.succ (.succ (.succ (.succ (aOff (slO (pl (mcell m r 0))) i 5))))))) 3 (iAdd .i64 k 1) (slN (pl (mcell m (slB (pl (mcell m r 0))) (.succ (.succ (.succ (.succ (aOff (slO (pl (mcell m r 0))) i 5)))))))))) 3)) (.any (appQ y0.4 (pl (hdV y0.3)) 3 [(.int .i64 0),(.int .u64 0),(.int .i64 0)] 77 (slN (pl (cutV (pl (mcell m (slB (pl (mcell m r 0))) (.succ (.succ (.succ (.succ (aOff (slO (pl (mcell m r 0))) i 5))))))) 3 (iAdd .i64 k 1) (slN (pl (mcell m (slB (pl (mcell m r 0))) (.succ (.succ (.succ (.succ (aOff (slO (pl (mcell m r 0))) i 5))))))))))) (rowL y0.4 (pl (cutV (pl (mcell m (slB (pl (mcell m r 0))) (.succ (.succ (.succ (.succ (aOff (slO (pl (mcell m r 0))) i 5))))))) 3 (iAdd .i64 k 1) (slN (pl (mcell m (slB (pl (mcell m r 0))) (.succ (.succ (.succ (.succ (aOff (slO (pl (mcell m r 0))) i 5)))))))))) 3)) (fun y1 => (.br (nzp r) (.br (nzp r) (.br (okL y1.4 r 0 [(.raw (.slice (.none) 0 0))]) (.br (inSl (pl (mcell y1.4 r 0)) i) (.br (okS y1.4 (slB (pl (mcell y1.4 r 0))) (aOff (slO (pl (mcell y1.4 r 0))) i 5) 5) (.letm (wrL y1.4 (slB (pl (mcell y1.4 r 0))) (aOff (slO (pl (mcell y1.4 r 0))) i 5) [(.int .i64 (gI m (slB (pl (mcell m r 0))) (aOff (slO (pl (mcell m r 0))) i 5))),(.int .i64 (gI m (slB (pl (mcell m r 0))) (.succ (aOff (slO (pl (mcell m r 0))) i 5)))),(.int .i64 (gI m (slB (pl (mcell m r 0))) (.succ (.succ (aOff (slO (pl (mcell m r 0))) i 5))))),(.int .u8 (gI m (slB (pl (mcell m r 0))) (.succ (.succ (.succ (aOff (slO (pl (mcell m r 0))) i 5)))))),(pl (hdV y1.3))]) (fun m1 => (.br (isSlV (pl (hdV y1.3))) (.br (iEq (slN (pl (hdV y1.3))) 0) (T_cutE m1 r i (.u (.agg [(.si .i64 (gI m (slB (pl (mcell m (slB (pl (mcell m r 0))) (.succ (.succ (.succ (.succ (aOff (slO (pl (mcell m r 0))) i 5)))))))) (aOff (slO (pl (mcell m (slB (pl (mcell m r 0))) (.succ (.succ (.succ (.succ (aOff (slO (pl (mcell m r 0))) i 5)))))))) k 3))),(.si .u64 (gI m (slB (pl (mcell m (slB (pl (mcell m r 0))) (.succ (.succ (.succ (.succ (aOff (slO (pl (mcell m r 0))) i 5)))))))) (.succ (aOff (slO (pl (mcell m (slB (pl (mcell m r 0))) (.succ (.succ (.succ (.succ (aOff (slO (pl (mcell m r 0))) i 5)))))))) k 3))))]))) (.leaf (.memo (.u (.agg [(.si .i64 (gI m (slB (pl (mcell m (slB (pl (mcell m r 0))) (.succ (.succ (.succ (.succ (aOff (slO (pl (mcell m r 0))) i 5)))))))) (aOff (slO (pl (mcell m (slB (pl (mcell m r 0))) (.succ (.succ (.succ (.succ (aOff (slO (pl (mcell m r 0))) i 5)))))))) k 3))),(.si .u64 (gI m (slB (pl (mcell m (slB (pl (mcell m r 0))) (.succ (.succ (.succ (.succ (aOff (slO (pl (mcell m r 0))) i 5)))))))) (.succ (aOff (slO (pl (mcell m (slB (pl (mcell m r 0))) (.succ (.succ (.succ (.succ (aOff (slO (pl (mcell m r 0))) i 5)))))))) k 3))))])) m1))) (.no 123)))) (.no 72)) (.no 104)) (.no 70)) (.no 76)) (.no 75)))) (.no 120)) (.no 121)) (.no 107)))) (.no 120)) (.no 121)) (.no 107)) (.no 70)) (.no 76)) (.no 104)) (.no 70)) (.no 104)) (.no 70)) (.no 76)) (.no 75))
section
variable {m : Mem} {Z : GR}
theorem cutE_walk (h : Z.is m) {j : Nat} {x : RV} (hx : Z.rs[j]? = some x) {w : V} {R : Leaf → Prop} (hR : ∀ V' m',Z.to ⟨Z.r,V',Z.rs.eraseIdx j⟩ m m' → R (.memo w m')) : (T_cutE m ((Z.r : Int) + 1) j w).sat R:=by
  have hlt : j < Z.rs.length:=(List.getElem?_eq_some_iff.1 hx).1
  have hb:=h.b1
  have B:=h.bas
  unfold T_cutE
  have hc1 : cutSl Z.V 0 (j : Int) = true ∧ SlE rwEnc 5 m (cutV Z.V 5 0 (j : Int)) (Z.rs.take j):=by
    have:=h.sl.cut rwEncOK (l:=0) (r:=j) (by omega) (by omega)
    simpa using this
  simp only [B.v,B.pv,hc1.2.pl,hc1.2.n,hc1.2.row]
  have hl1 : (Z.rs.take j).length = j:=by rw [List.length_take];omega
  rw [brT B.nr,brT B.nr,brT B.ld,brT hc1.1,brT hc1.2.ok,brT ((SlE.nil0 m).app_ok rwEncOK (by rw [hl1];simp;omega) (by rw [hl1];simp;omega)),sat_any]
  rintro ⟨ui,ub,uv,um⟩ hq
  obtain ⟨a1,a2,a3,_,_⟩:=(SlE.nil0 m).app rwEncOK (m0:=m) (e:=90) (zs:=[.int .i64 0,.int .i64 0,.int .i64 0,.int .u8 0,.slice none 0 0]) rfl rfl (fun _ _ => rfl) (fun a h => (slB_nil a h).elim) hq
  simp only [List.nil_append] at a1 a2 a3
  clear hq
  have hZ : Z.is um:=h.congr fun a ha => a2 a (h.there ha)
  have B2:=hZ.bas
  have hin : iAdd .i64 (j : Int) 1 = ((j + 1 : Nat) : Int):=by rw [iadd_i (by omega)];omega
  have hc2 : cutSl Z.V ((j + 1 : Nat) : Int) (Z.rs.length : Int) = true ∧ SlE rwEnc 5 um (cutV Z.V 5 ((j + 1 : Nat) : Int) (Z.rs.length : Int)) (Z.rs.drop (j + 1)):=by
    have:=hZ.sl.cut rwEncOK (l:=j + 1) (r:=Z.rs.length) hlt (Nat.le_refl _)
    rw [List.take_of_length_le (by rw [List.length_drop];exact Nat.le_refl _)] at this
    exact this
  simp only [B2.v,B2.pv,B2.n,hin,a1.pl,hc2.2.pl,hc2.2.n,hc2.2.row]
  have hl2 : (Z.rs.drop (j + 1)).length = Z.rs.length - (j + 1):=List.length_drop
  rw [brT B2.nr,brT B2.nr,brT B2.ld,brT hc2.1,brT hc2.2.ok,brT (a1.app_ok rwEncOK (by rw [hl1,hl2];omega) (by rw [hl1,hl2];omega)),sat_any]
  rintro ⟨zi,zb,zv,zm⟩ hq
  obtain ⟨d1,d2,d3,_,_⟩:=a1.app rwEncOK (m0:=m) (e:=90) (zs:=[.int .i64 0,.int .i64 0,.int .i64 0,.int .u8 0,.slice none 0 0]) (ys:=Z.rs.drop (j + 1)) rfl rfl a2 a3 hq
  simp only at d1 d2 d3
  clear hq
  simp only [d1.pl]
  rw [← List.eraseIdx_eq_take_drop_succ] at d1
  have hsub : (Z.rs.eraseIdx j).Sublist Z.rs:=List.eraseIdx_sublist _ _
  obtain ⟨f1,f2⟩:=h.newRows d2 d1 d3 (fun y hy => .inl (hsub.subset hy)) (h.srt.sublist hsub) (Nat.lt_of_le_of_lt hsub.length_le hb)
  rw [brT B2.nr,brT B2.nr,brT f1,sat_letm]
  exact hR _ _ f2
end
theorem qcut_walk {m : Mem} {r i k : Int} (Z : GR) (hZ : qcutPre Z m r i k) : (T_qcut m r i k).sat (isMemo fun v x => qcutPost m Z i k (yAg v x) ∧ (yAg v x).m = x ∧ ∀ ρ,v.den ρ = V.den ρ (.u (.agg [.si .i64 (hdI (yAg v x).i),.si .u64 (hdI (tlI (yAg v x).i))]))):=by
  obtain ⟨rfl,h,j,q,x,it,rfl,rfl,hx,hit⟩:=hZ
  have hxm:=List.mem_of_getElem? hx
  have hq' : q < x.l.length:=(List.getElem?_eq_some_iff.1 hit).1
  have hb:=h.b2 x hxm
  have B:=h.bas
  have F:=h.row hx
  have hs:=h.its x hxm
  have I:=itf hs hit
  unfold T_qcut
  have hc1 : cutSl x.v 0 (q : Int) = true ∧ SlE itEnc 3 m (cutV x.v 3 0 (q : Int)) (x.l.take q):=by
    have:=hs.cut itEncOK (l:=0) (r:=q) (by omega) (by omega)
    simpa using this
  have hin : iAdd .i64 (q : Int) 1 = ((q + 1 : Nat) : Int):=by rw [iadd_i (by omega)];omega
  simp only [B.v,B.pv,F.g0,F.g1,F.g2,F.g3,F.g4,hs.pl,hs.n,hc1.2.pl,hc1.2.n,hc1.2.row,I.g0,I.g1,hin]
  have hl1 : (x.l.take q).length = q:=by rw [List.length_take];omega
  rw [brT B.nr,brT B.nr,brT B.ld,brT F.inn,brT F.o5,brT I.inn,brT I.nz,brT I.o2,brT hc1.1,brT hc1.2.ok,brT ((SlE.nil0 m).app_ok itEncOK (by rw [hl1];simp;omega) (by rw [hl1];simp;omega)),sat_any]
  rintro ⟨ui,ub,uv,um⟩ hq
  obtain ⟨a1,a2,a3,_,_⟩:=(SlE.nil0 m).app itEncOK (m0:=m) (e:=77) (zs:=[.int .i64 0,.int .u64 0,.int .i64 0]) rfl rfl (fun _ _ => rfl) (fun a h => (slB_nil a h).elim) hq
  simp only [List.nil_append] at a1 a2 a3
  clear hq
  have hZ : Z.is um:=h.congr fun a ha => a2 a (h.there ha)
  have hs2:=hZ.its x hxm
  have hc2 : cutSl x.v ((q + 1 : Nat) : Int) (x.l.length : Int) = true ∧ SlE itEnc 3 um (cutV x.v 3 ((q + 1 : Nat) : Int) (x.l.length : Int)) (x.l.drop (q + 1)):=by
    have:=hs2.cut itEncOK (l:=q + 1) (r:=x.l.length) hq' (Nat.le_refl _)
    rw [List.take_of_length_le (by rw [List.length_drop];exact Nat.le_refl _)] at this
    exact this
  have hl2 : (x.l.drop (q + 1)).length = x.l.length - (q + 1):=List.length_drop
  simp only [a1.pl,hc2.2.pl,hc2.2.n,hc2.2.row]
  rw [brT hc2.1,brT hc2.2.ok,brT (a1.app_ok itEncOK (by rw [hl1,hl2];omega) (by rw [hl1,hl2];omega)),sat_any]
  rintro ⟨zi,zb,zv,zm⟩ hq
  obtain ⟨d1,d2,d3,_,_⟩:=a1.app itEncOK (m0:=m) (e:=77) (zs:=[.int .i64 0,.int .u64 0,.int .i64 0]) (ys:=x.l.drop (q + 1)) rfl rfl a2 a3 hq
  simp only at d1 d2 d3
  clear hq
  rw [← List.eraseIdx_eq_take_drop_succ] at d1
  have hsub : (x.l.eraseIdx q).Sublist x.l:=List.eraseIdx_sublist _ _
  obtain ⟨f1,f2⟩:=h.setRow hx d2 d1 d3 ((hsub.map _).nodup (h.nd x hxm)) (Nat.lt_of_le_of_lt hsub.length_le hb)
  have hZ2 : Z.is zm:=h.congr fun a ha => d2 a (h.there ha)
  have B2:=hZ2.bas
  have F2:=hZ2.row hx
  rw [d1.pl] at f2
  simp only [B2.v,B2.pv,d1.pl,d1.n]
  rw [brT B2.nr,brT B2.nr,brT B2.ld,brT F2.inn,brT f1,sat_letm,brT d1.isv]
  generalize wrL zm (slB Z.V) (aOff (slO Z.V) (j : Int) 5) [.int .i64 x.p.1,.int .i64 x.p.2.1,.int .i64 x.p.2.2,.int .u8 x.k,hdV zv] = m6 at f2 ⊢
  have hlt : j < Z.rs.length:=(List.getElem?_eq_some_iff.1 hx).1
  by_cases e : x.l.eraseIdx q = []
  · rw [brT (by rw [e];rfl)]
    refine cutE_walk f2.is' (x:=⟨x.p,x.k,hdV zv,x.l.eraseIdx q⟩) (by show (Z.rs.set j _)[j]? = _;rw [List.getElem?_set_self hlt]) fun V' m' ht => ?_
    refine ⟨⟨j,q,x,it,rfl,rfl,hx,hit,rfl,_,f2.trans ht h,.inr ⟨e,?_⟩⟩,rfl,fun ρ => rfl⟩
    show (Z.rs.set j _).eraseIdx j = _
    rw [List.eraseIdx_set_eq]
  · rw [brF (by
      have : (x.l.eraseIdx q).length ≠ 0:=fun h0 => e (List.length_eq_zero_iff.1 h0)
      simp only [iEq,beq_eq_false_iff_ne];omega)]
    exact ⟨⟨j,q,x,it,rfl,rfl,hx,hit,rfl,_,f2,.inl ⟨e,_,rfl,rfl,rfl,rfl⟩⟩,rfl,fun ρ => rfl⟩
theorem t_qcut (m : Mem) (r : Int) (i : Int) (k : Int) : runm Try.prog [] (drawh Try.prog [] (fun _ _ => none) (fun _ _ _ => none)) 300 73 [.u (.c (.np r 0)),.u (.c (.si .i64 i)),.u (.c (.si .i64 k))] m [98,92,95,142,140,137,111,107,108,109,85] = T_qcut m r i k:=by kernel_rfl
theorem s_qcut_ok : SumOK Try.prog s_qcut:=by
  refine memSum_ok ⟨_,Try.func73,by kernel_rfl⟩ fun m args ms h hp hw ρ w hm => ?_
  split at h
  · split at h
    · rename_i a0 a1 a2 _ _ _ r i k h0 h1 h2
      cases h
      have hS : ∀ q ∈ [],SumOK Try.prog q:=okn
      exact mm_ghostY nameOK hS (drawh_sound nameOK hS (by kernel_rfl) _ _) 300 _ m _ (t_qcut m r i k) yAg hp (fun G hG => qcut_walk G hG) ρ w hm (by simp only [List.map_cons,List.map_nil,ptrOf_den h0,intOf_den h1,intOf_den h2])
    · cases h
  · cases h
def qpushPre (Z : GR) (m : Mem) (r : Int) : Prop:=r = (Z.r : Int) + 1 ∧ Z.is m ∧ Z.rs.length + 1 < 1099511627776 ∧ ∀ x ∈ Z.rs,x.l.length + 1 < 1099511627776
def qpushPost (m : Mem) (Z : GR) (p : Pl) (h : Hn) (n : Int) (f : Bool) (y : Vars) : Prop :=
  ∃ e,MayAt Z.rs p 1 h n e ∧ y.i = [e] ∧ ((e ≠ 0 ∧ y.m = m) ∨ (e = 0 ∧ ∃ (Z' : GR) (q : Nat),Z.to Z' m y.m ∧ LenAt Z.rs p q ∧ PutAt Z Z' p 1 (match f with | true => 0 | false => q) (h,n)))
def qpushP (m : Mem) (r pm ps pa hs hg n : Int) (f : Bool) : Prop:=∃ Z,qpushPre Z m r
def qpushQ (m : Mem) (r pm ps pa hs hg n : Int) (f : Bool) (y : Vars) : Prop:=∀ Z,qpushPre Z m r → qpushPost m Z (pm,ps,pa) (hs,hg) n f y
def s_qpush : Sum:=memSum 71 fun m a => match a with | [a0,a1,a2,a3,a4] => (match ptrOf a0,plaOf a1,hanOf a2,intOf a3,booOf a4 with | some r,some (pm,ps,pa),some (hs,hg),some n,some f => some ⟨qpushP m r pm ps pa hs hg n f,qpushQ m r pm ps pa hs hg n f,fun y => .u (.c (.si .i64 (hdI y.i)))⟩ | _,_,_,_,_ => none) | _ => none
def T_qpush (m : Mem) (r : Int) (pm ps pa : Int) (hs hg : Int) (n : Int) (f : Bool) : Tr:=(.req (qmayP m r pm ps pa 1 hs hg n) (.any (qmayQ m r pm ps pa 1 hs hg n) (fun y0 => (.br (iNe (hdI y0.1) 0) (.leaf (.memo (.u (.c (.si .i64 (hdI y0.1)))) y0.4)) (.req (qlenP y0.4 r pm ps pa) (.any (qlenQ y0.4 r pm ps pa) (fun y1 => (.br f (.req (qputP y1.4 r pm ps pa 1 0 hs hg n) (.any (qputQ y1.4 r pm ps pa 1 0 hs hg n) (fun y2 => (.leaf (.memo (.u (.c (.li .i64 0))) y2.4))))) (.req (qputP y1.4 r pm ps pa 1 (hdI y1.1) hs hg n) (.any (qputQ y1.4 r pm ps pa 1 (hdI y1.1) hs hg n) (fun y2 => (.leaf (.memo (.u (.c (.li .i64 0))) y2.4)))))))))))))
theorem may_put {Z : GR} {m : Mem} {p : Pl} {k : Int} {h : Hn} {n : Int} (hZ : qpushPre Z m ((Z.r : Int) + 1)) (hm : MayAt Z.rs p k h n 0) {q : Nat} (hq : ∀ x ∈ Z.rs,x.p = p → q ≤ x.l.length) (hq0 : (∀ x ∈ Z.rs,x.p ≠ p) → q = 0) : qputPre Z m ((Z.r : Int) + 1) p q h:=by
  obtain ⟨_,h1,h2,h3⟩:=hZ
  refine ⟨rfl,h1,h2,h3,by omega,?_⟩
  rcases hm with ⟨e,_⟩ | ⟨_,⟨e,_⟩ | ⟨_,hm⟩⟩
  · cases e
  · cases e
  · by_cases hex : ∃ x ∈ Z.rs,x.p = p
    · obtain ⟨x,hx,hp⟩:=hex
      exact .inl ⟨x,hx,hp,by have:=hq x hx hp;omega,(hm x hx hp).2⟩
    · have hno : ∀ x ∈ Z.rs,x.p ≠ p:=fun x hx hp => hex ⟨x,hx,hp⟩
      exact .inr ⟨by rw [hq0 hno];rfl,hno⟩
theorem LenAt.uniq {Z : GR} {m : Mem} (h : Z.is m) {p : Pl} {n : Int} (hl : LenAt Z.rs p n) : (∀ x ∈ Z.rs,x.p = p → n = x.l.length) ∧ ((∀ x ∈ Z.rs,x.p ≠ p) → n = 0):=by
  rcases hl with ⟨rfl,hn⟩ | ⟨x,hx,hp,rfl⟩
  · exact ⟨fun x hx hp => absurd hp (hn x hx),fun _ => rfl⟩
  · exact ⟨fun y hy hyp => by rw [srt_inj h.srt hx hy (hp.trans hyp.symm)],fun hno => absurd hp (hno x hx)⟩
theorem LenAt.nat {rs : List RV} {p : Pl} {n : Int} (hl : LenAt rs p n) : ∃ q : Nat,n = q:=by
  rcases hl with ⟨rfl,hn⟩ | ⟨x,hx,hp,rfl⟩
  · exact ⟨0,rfl⟩
  · exact ⟨_,rfl⟩
theorem qpush_walk {m : Mem} {r a b c hs hg n : Int} {f : Bool} (Z : GR) (hZ : qpushPre Z m r) : (T_qpush m r a b c hs hg n f).sat (isMemo fun v x => qpushPost m Z (a,b,c) (hs,hg) n f (yOf v x) ∧ (yOf v x).m = x ∧ ∀ ρ,v.den ρ = V.den ρ (.u (.c (.si .i64 (hdI (yOf v x).i))))):=by
  have hZ0:=hZ
  obtain ⟨rfl,h,hb1,hb2⟩:=hZ
  have hpre : qrowPre Z m ((Z.r : Int) + 1):=⟨rfl,h⟩
  unfold T_qpush
  rw [sat_req]
  refine ⟨⟨Z,hpre⟩,?_⟩
  rw [sat_any]
  rintro ⟨yi,yb,yv,ym⟩ hy
  obtain ⟨⟨e,e1,hm⟩,e2⟩:=hy Z hpre
  simp only at e1 e2
  subst e1 e2
  simp only [hdI]
  by_cases he : e = 0
  · subst he
    rw [brF (by rfl),sat_req]
    refine ⟨⟨Z,hpre⟩,?_⟩
    rw [sat_any]
    rintro ⟨zi,zb,zv,zm⟩ hy
    obtain ⟨⟨q,e1,hq⟩,e2⟩:=hy Z hpre
    simp only at e1 e2
    subst e1 e2
    simp only [hdI]
    obtain ⟨q,rfl⟩:=hq.nat
    obtain ⟨u1,u2⟩:=hq.uniq h
    cases f with
    | true =>
      have hpp : qputPre Z zm ((Z.r : Int) + 1) (a,b,c) 0 (hs,hg):=may_put (q:=0) hZ0 hm (fun _ _ _ => Nat.zero_le _) fun _ => rfl
      rw [brT rfl,sat_req]
      refine ⟨⟨Z,hpp⟩,?_⟩
      rw [sat_any]
      intro y hy
      obtain ⟨Z',t1,t2⟩:=hy Z hpp
      exact ⟨⟨0,hm,rfl,.inr ⟨rfl,Z',q,t1,hq,t2⟩⟩,rfl,fun ρ => rfl⟩
    | false =>
      have hpp : qputPre Z zm ((Z.r : Int) + 1) (a,b,c) q (hs,hg):=may_put hZ0 hm (fun x hx hp => by have:=u1 x hx hp;omega) fun hn => by have:=u2 hn;omega
      rw [brF rfl,sat_req]
      refine ⟨⟨Z,hpp⟩,?_⟩
      rw [sat_any]
      intro y hy
      obtain ⟨Z',t1,t2⟩:=hy Z hpp
      exact ⟨⟨0,hm,rfl,.inr ⟨rfl,Z',q,t1,hq,t2⟩⟩,rfl,fun ρ => rfl⟩
  · rw [brT (by simp [iNe,he])]
    exact ⟨⟨e,hm,rfl,.inl ⟨he,rfl⟩⟩,rfl,fun ρ => rfl⟩
theorem t_qpush (m : Mem) (r : Int) (pm ps pa : Int) (hs hg : Int) (n : Int) (f : Bool) : runm Try.prog [s_qmay,s_qlen,s_qput] (drawh Try.prog [s_qmay,s_qlen,s_qput] (fun _ _ => none) (fun _ _ _ => none)) 300 71 [.u (.c (.np r 0)),.u (.agg [.si .i64 pm,.si .i64 ps,.si .i64 pa]),.u (.agg [.si .i64 hs,.si .u64 hg]),.u (.c (.si .i64 n)),.u (.c (.sb f))] m [98,92,95,142,140,137,111,107,108,109,85] = T_qpush m r pm ps pa hs hg n f:=by kernel_rfl
theorem s_qpush_ok : SumOK Try.prog s_qpush:=by
  refine memSum_ok ⟨_,Try.func71,by kernel_rfl⟩ fun m args ms h hp hw ρ w hm => ?_
  split at h
  · split at h
    · rename_i a0 a1 a2 a3 a4 _ _ _ _ _ r pm ps pa hs hg n f h0 h1 h2 h3 h4
      cases h
      have hS : ∀ q ∈ [s_qmay,s_qlen,s_qput],SumOK Try.prog q:=(okc s_qmay_ok (okc s_qlen_ok (okc s_qput_ok okn)))
      exact mm_ghostY nameOK hS (drawh_sound nameOK hS (by kernel_rfl) _ _) 300 _ m _ (t_qpush m r pm ps pa hs hg n f) yOf hp (fun G hG => qpush_walk G hG) ρ w hm (by simp only [List.map_cons,List.map_nil,ptrOf_den h0,plaOf_den h1,hanOf_den h2,intOf_den h3,booOf_den h4])
    · cases h
  · cases h
def qinsPost (m : Mem) (Z : GR) (p : Pl) (i : Int) (h : Hn) (n : Int) (y : Vars) : Prop :=
  ∃ (e : Int) (q : Nat),MayAt Z.rs p 2 h n e ∧ LenAt Z.rs p q ∧ ((e ≠ 0 ∧ y.i = [e] ∧ y.m = m) ∨ (e = 0 ∧ (i < 0 ∨ (q : Int) < i) ∧ y.i = [2] ∧ y.m = m) ∨ (e = 0 ∧ 0 ≤ i ∧ i ≤ q ∧ y.i = [0] ∧ ∃ Z' : GR,Z.to Z' m y.m ∧ PutAt Z Z' p 2 i.toNat (h,n)))
def qinsP (m : Mem) (r pm ps pa i hs hg n : Int) : Prop:=∃ Z,qpushPre Z m r
def qinsQ (m : Mem) (r pm ps pa i hs hg n : Int) (y : Vars) : Prop:=∀ Z,qpushPre Z m r → qinsPost m Z (pm,ps,pa) i (hs,hg) n y
def s_qins : Sum:=memSum 72 fun m a => match a with | [a0,a1,a2,a3,a4] => (match ptrOf a0,plaOf a1,intOf a2,hanOf a3,intOf a4 with | some r,some (pm,ps,pa),some i,some (hs,hg),some n => some ⟨qinsP m r pm ps pa i hs hg n,qinsQ m r pm ps pa i hs hg n,fun y => .u (.c (.si .i64 (hdI y.i)))⟩ | _,_,_,_,_ => none) | _ => none
def T_qins (m : Mem) (r : Int) (pm ps pa : Int) (i : Int) (hs hg : Int) (n : Int) : Tr:=(.req (qmayP m r pm ps pa 2 hs hg n) (.any (qmayQ m r pm ps pa 2 hs hg n) (fun y0 => (.br (iNe (hdI y0.1) 0) (.leaf (.memo (.u (.c (.si .i64 (hdI y0.1)))) y0.4)) (.br (iLt i 0) (.leaf (.memo (.u (.c (.li .i64 2))) y0.4)) (.req (qlenP y0.4 r pm ps pa) (.any (qlenQ y0.4 r pm ps pa) (fun y1 => (.br (iGt i (hdI y1.1)) (.leaf (.memo (.u (.c (.li .i64 2))) y1.4)) (.req (qputP y1.4 r pm ps pa 2 i hs hg n) (.any (qputQ y1.4 r pm ps pa 2 i hs hg n) (fun y2 => (.leaf (.memo (.u (.c (.li .i64 0))) y2.4))))))))))))))
theorem lenAt_ex (rs : List RV) (p : Pl) : ∃ q : Nat,LenAt rs p q:=by
  by_cases hex : ∃ x ∈ rs,x.p = p
  · obtain ⟨x,hx,hp⟩:=hex
    exact ⟨_,.inr ⟨x,hx,hp,rfl⟩⟩
  · exact ⟨0,.inl ⟨rfl,fun x hx hp => hex ⟨x,hx,hp⟩⟩⟩
theorem qins_walk {m : Mem} {r a b c i hs hg n : Int} (Z : GR) (hZ : qpushPre Z m r) : (T_qins m r a b c i hs hg n).sat (isMemo fun v x => qinsPost m Z (a,b,c) i (hs,hg) n (yOf v x) ∧ (yOf v x).m = x ∧ ∀ ρ,v.den ρ = V.den ρ (.u (.c (.si .i64 (hdI (yOf v x).i))))):=by
  have hZ0:=hZ
  obtain ⟨rfl,h,hb1,hb2⟩:=hZ
  have hpre : qrowPre Z m ((Z.r : Int) + 1):=⟨rfl,h⟩
  unfold T_qins
  rw [sat_req]
  refine ⟨⟨Z,hpre⟩,?_⟩
  rw [sat_any]
  rintro ⟨yi,yb,yv,ym⟩ hy
  obtain ⟨⟨e,e1,hm⟩,e2⟩:=hy Z hpre
  simp only at e1 e2
  subst e1 e2
  simp only [hdI]
  by_cases he : e = 0
  · subst he
    rw [brF (by rfl)]
    by_cases hi : i < 0
    · obtain ⟨q,hq⟩:=lenAt_ex Z.rs (a,b,c)
      rw [brT (by simpa [iLt] using hi)]
      exact ⟨⟨0,q,hm,hq,.inr (.inl ⟨rfl,.inl hi,rfl,rfl⟩)⟩,rfl,fun ρ => rfl⟩
    rw [brF (by simpa [iLt] using hi),sat_req]
    refine ⟨⟨Z,hpre⟩,?_⟩
    rw [sat_any]
    rintro ⟨zi,zb,zv,zm⟩ hy
    obtain ⟨⟨q,e1,hq⟩,e2⟩:=hy Z hpre
    simp only at e1 e2
    subst e1 e2
    simp only [hdI]
    obtain ⟨q,rfl⟩:=hq.nat
    obtain ⟨u1,u2⟩:=hq.uniq h
    by_cases hi2 : (q : Int) < i
    · rw [brT (by simpa [iGt] using hi2)]
      exact ⟨⟨0,q,hm,hq,.inr (.inl ⟨rfl,.inr hi2,rfl,rfl⟩)⟩,rfl,fun ρ => rfl⟩
    rw [brF (by simpa [iGt] using hi2)]
    obtain ⟨i',rfl⟩ : ∃ i' : Nat,i = i':=⟨i.toNat,by omega⟩
    have hpp : qputPre Z zm ((Z.r : Int) + 1) (a,b,c) i' (hs,hg):=may_put hZ0 hm (fun x hx hp => by have:=u1 x hx hp;omega) fun hn => by have:=u2 hn;omega
    rw [sat_req]
    refine ⟨⟨Z,hpp⟩,?_⟩
    rw [sat_any]
    intro y hy
    obtain ⟨Z',t1,t2⟩:=hy Z hpp
    exact ⟨⟨0,q,hm,hq,.inr (.inr ⟨rfl,by omega,by omega,rfl,Z',t1,t2⟩)⟩,rfl,fun ρ => rfl⟩
  · obtain ⟨q,hq⟩:=lenAt_ex Z.rs (a,b,c)
    rw [brT (by simp [iNe,he])]
    exact ⟨⟨e,q,hm,hq,.inl ⟨he,rfl,rfl⟩⟩,rfl,fun ρ => rfl⟩
theorem t_qins (m : Mem) (r : Int) (pm ps pa : Int) (i : Int) (hs hg : Int) (n : Int) : runm Try.prog [s_qmay,s_qlen,s_qput] (drawh Try.prog [s_qmay,s_qlen,s_qput] (fun _ _ => none) (fun _ _ _ => none)) 300 72 [.u (.c (.np r 0)),.u (.agg [.si .i64 pm,.si .i64 ps,.si .i64 pa]),.u (.c (.si .i64 i)),.u (.agg [.si .i64 hs,.si .u64 hg]),.u (.c (.si .i64 n))] m [98,92,95,142,140,137,111,107,108,109,85] = T_qins m r pm ps pa i hs hg n:=by kernel_rfl
theorem s_qins_ok : SumOK Try.prog s_qins:=by
  refine memSum_ok ⟨_,Try.func72,by kernel_rfl⟩ fun m args ms h hp hw ρ w hm => ?_
  split at h
  · split at h
    · rename_i a0 a1 a2 a3 a4 _ _ _ _ _ r pm ps pa i hs hg n h0 h1 h2 h3 h4
      cases h
      have hS : ∀ q ∈ [s_qmay,s_qlen,s_qput],SumOK Try.prog q:=(okc s_qmay_ok (okc s_qlen_ok (okc s_qput_ok okn)))
      exact mm_ghostY nameOK hS (drawh_sound nameOK hS (by kernel_rfl) _ _) 300 _ m _ (t_qins m r pm ps pa i hs hg n) yOf hp (fun G hG => qins_walk G hG) ρ w hm (by simp only [List.map_cons,List.map_nil,ptrOf_den h0,plaOf_den h1,intOf_den h2,hanOf_den h3,intOf_den h4])
    · cases h
  · cases h
end Go.Proofs.Ytnlohongffpkpaa.T16
end

section
namespace Go.Proofs.Ytnlohongffpkpaa.T16
open Go Go.RowKit Go.Proofs.Ytnlohongffpkpaa.Sx Go.Proofs
set_option linter.unusedVariables false
set_option linter.unusedSimpArgs false
structure Two (m0 : Mem) (G : GG) (Z : GR) (m : Mem) : Prop where
  is : G.is m
  zs : Z.is m
  fg : ∀ a,G.dom a → m0 a = none
  fz : ∀ a,Z.dom a → m0 a = none
  ap : ∀ a,G.dom a → ¬ Z.dom a
  kp : ∀ a,m0 a ≠ none → m a = m0 a
section
variable {m0 m m' : Mem} {G G' : GG} {Z Z' : GR}
theorem Two.more (b : Two m0 G Z m) (hm : ∀ a,m a ≠ none → m' a = m a) : Two m0 G Z m' :=
  ⟨b.is.congr fun a ha => hm a (b.is.there ha),b.zs.congr fun a ha => hm a (b.zs.there ha),b.fg,b.fz,b.ap,fun a ha => (hm a (by rw [b.kp a ha];exact ha)).trans (b.kp a ha)⟩
theorem Two.m0n (b : Two m0 G Z m) {a : Nat} (h : m a = none) : m0 a = none:=by
  cases e : m0 a with
  | none => rfl
  | some o => have:=b.kp a (by rw [e];simp);rw [h,e] at this;cases this
theorem Two.gto (b : Two m0 G Z m) (t : G.to G' m m') : Two m0 G' Z m':=by
  refine ⟨t.is',b.zs.congr fun a ha => t.keep a (b.zs.there ha) fun hg => b.ap a hg ha,fun a ha => ?_,b.fz,fun a ha hz => ?_,fun a ha => ?_⟩
  · rcases t.dom a ha with h | h
    · exact b.fg a h
    · exact b.m0n h
  · rcases t.dom a ha with h | h
    · exact b.ap a h hz
    · exact b.zs.there hz h
  · have h1:=b.kp a ha
    exact (t.keep a (by rw [h1];exact ha) fun hg => ha (b.fg a hg)).trans h1
theorem Two.zto (b : Two m0 G Z m) (t : Z.to Z' m m') : Two m0 G Z' m':=by
  refine ⟨b.is.congr fun a ha => t.keep a (b.is.there ha) (fun e => b.ap a ha (.inl e)) fun e => b.ap a ha (.inr (.inl e)),t.is',b.fg,fun a ha => ?_,fun a hg ha => ?_,fun a ha => ?_⟩
  · rcases t.dom a ha with h | h
    · exact b.fz a h
    · exact b.m0n h
  · rcases t.dom a ha with h | h
    · exact b.ap a hg h
    · exact b.is.there hg h
  · have h1:=b.kp a ha
    exact (t.keep a (by rw [h1];exact ha) (fun e => ha (b.fz a (.inl e))) fun e => ha (b.fz a (.inr (.inl e)))).trans h1
structure Agree (G : GG) (rs : List RV) : Prop where
  a1 : ∀ x ∈ rs,∃ X,G.R x.p = some X ∧ X.hs = x.l.map (·.1) ∧ kindO (some X) = x.k
  a2 : ∀ p X,G.R p = some X → ∃ x ∈ rs,x.p = p
  a3 : ∀ x ∈ rs,∀ it ∈ x.l,G.N x.p it.1 = some it.2
theorem Agree.row {rs : List RV} (h : Agree G rs) (p : Pl) : (∃ X,∃ x ∈ rs,G.R p = some X ∧ x.p = p ∧ X.hs = x.l.map (·.1) ∧ kindO (some X) = x.k) ∨ (G.R p = none ∧ ∀ x ∈ rs,x.p ≠ p):=by
  cases hR : G.R p with
  | none =>
    refine .inr ⟨rfl,fun x hx hp => ?_⟩
    obtain ⟨X,h1,_⟩:=h.a1 x hx
    rw [hp,hR] at h1;cases h1
  | some X =>
    obtain ⟨x,hx,hp⟩:=h.a2 p X hR
    obtain ⟨X',h1,h2,h3⟩:=h.a1 x hx
    rw [hp,hR] at h1;cases h1
    exact .inl ⟨X,x,hx,rfl,hp,h2,h3⟩
theorem Agree.inI {rs : List RV} (h : Agree G rs) (hg : G.is m) {k : Hn} {n : Int} {p : Pl} : G.I k n = some p ↔ ∃ x ∈ rs,x.p = p ∧ (k,n) ∈ x.l:=by
  rw [hg.nu]
  constructor
  · intro hN
    obtain ⟨X,hX,hk⟩:=(hg.nh p k).1 (by rw [hN];rfl)
    obtain ⟨x,hx,hp⟩:=h.a2 p X hX
    obtain ⟨X',h1,h2,_⟩:=h.a1 x hx
    rw [hp,hX] at h1;cases h1
    rw [h2] at hk
    obtain ⟨it,hit,e⟩:=List.mem_map.1 hk
    have:=h.a3 x hx it hit
    rw [hp,e,hN] at this
    refine ⟨x,hx,hp,?_⟩
    have e2 : it.2 = n:=(Option.some.inj this).symm
    rw [← e,← e2];exact hit
  · rintro ⟨x,hx,hp,hit⟩
    rw [← hp]
    exact h.a3 x hx _ hit
theorem Agree.inN {rs : List RV} (h : Agree G rs) (hg : G.is m) {k : Hn} {p : Pl} : (G.N p k).isSome = true ↔ ∃ x ∈ rs,x.p = p ∧ ∃ it ∈ x.l,it.1 = k:=by
  constructor
  · intro hN
    obtain ⟨n,hn⟩:=Option.isSome_iff_exists.1 hN
    obtain ⟨x,hx,hp,hit⟩:=(h.inI hg).1 ((hg.nu k n p).2 hn)
    exact ⟨x,hx,hp,_,hit,rfl⟩
  · rintro ⟨x,hx,hp,it,hit,e⟩
    rw [← hp,← e,h.a3 x hx it hit];rfl
theorem Agree.may {rs : List RV} (h : Agree G rs) (hg : G.is m) {k : Hn} {n e kk : Int} {p : Pl} {f : Bool} (hm : MayAt rs p kk k n e) (hf : ∀ X,G.R p = some X → (f = true ↔ kindO (some X) = kk)) : mayE G p k n f = e:=by
  unfold mayE
  rcases hm with ⟨rfl,x,hx,hit⟩ | ⟨hno,hm⟩
  · rw [(h.inI hg).2 ⟨x,hx,rfl,hit⟩];rfl
  · have hI : (G.I k n).isSome = false:=by
      cases hI : G.I k n with
      | none => rfl
      | some q =>
        obtain ⟨x,hx,_,hit⟩:=(h.inI hg).1 hI
        exact absurd hit (hno x hx)
    rw [hI]
    simp only
    rcases hm with ⟨rfl,x,hx,hp,hk⟩ | ⟨rfl,hm⟩
    · have : (((G.R p).isSome && !f) || (G.N p k).isSome) = true:=by
        obtain ⟨X,h1,h2,h3⟩:=h.a1 x hx
        rw [hp] at h1
        rcases hk with hk | ⟨it,hit,e⟩
        · have hff : f = false:=by
            cases f with
            | false => rfl
            | true => exact absurd (h3.symm.trans ((hf X h1).1 rfl)) hk
          rw [h1,hff];rfl
        · rw [(h.inN hg).2 ⟨x,hx,hp,it,hit,e⟩];simp
      rw [this]
    · have hN : (G.N p k).isSome = false:=by
        cases hN : (G.N p k).isSome with
        | false => rfl
        | true =>
          obtain ⟨x,hx,hp,it,hit,e⟩:=(h.inN hg).1 hN
          exact absurd e ((hm x hx hp).2 it hit)
      have : ((G.R p).isSome && !f) = false:=by
        rcases h.row p with ⟨X,x,hx,h1,hp,h2,h3⟩ | ⟨h1,_⟩
        · have:=(hm x hx hp).1
          rw [(hf X h1).2 (h3.trans this)];simp
        · rw [h1];rfl
      rw [this,hN];rfl
theorem Agree.len {rs : List RV} (h : Agree G rs) {p : Pl} {n : Int} (hl : LenAt rs p n) (hs : rs.Pairwise fun a b => plt a.p b.p = true) : n = (hsO (G.R p)).length:=by
  rcases hl with ⟨rfl,hn⟩ | ⟨x,hx,hp,rfl⟩
  · rcases h.row p with ⟨X,x,hx,h1,hp,_⟩ | ⟨h1,_⟩
    · exact absurd hp (hn x hx)
    · rw [h1];rfl
  · obtain ⟨X,h1,h2,h3⟩:=h.a1 x hx
    rw [hp] at h1
    rw [h1]
    show _ = ((X.hs.length : Nat) : Int)
    rw [h2,List.length_map]
theorem Agree.come (h : Agree G Z.rs) (hg : G.is m) (hz : Z.is m) (hz' : Z'.is m') {p : Pl} {kk : Int} {i : Nat} {k : Hn} {n : Int} {X' : Str} (hp : PutAt Z Z' p kk i (k,n)) (hN : (G.N p k).isSome = false) (hk : ∀ x ∈ Z.rs,x.p = p → x.k = kk)
    (hX : kindO (some X') = kk) (hh : X'.hs = (hsO (G.R p)).take i ++ k :: (hsO (G.R p)).drop i) : Agree (G.come p k n X') Z'.rs:=by
  obtain ⟨x',m1,m2,m3,m4,_⟩:=hp
  have x'k : x'.k = kk:=by
    rcases m3 with ⟨x,hx,hpx,e1,_⟩ | ⟨_,e1,_⟩
    · exact e1.trans (hk x hx hpx)
    · exact e1
  have x'l : X'.hs = x'.l.map (·.1):=by
    rw [hh]
    rcases m3 with ⟨x,hx,hpx,_,e2⟩ | ⟨hno,_,e2⟩
    · obtain ⟨X,h1,h2,_⟩:=h.a1 x hx
      rw [hpx] at h1
      rw [h1,e2]
      show List.take i X.hs ++ k :: List.drop i X.hs = _
      rw [h2,List.map_append,List.map_cons,List.map_take,List.map_drop]
    · rcases h.row p with ⟨X,x,hx,_,hp,_⟩ | ⟨h1,_⟩
      · exact absurd hp (hno x hx)
      · rw [h1,e2];simp [hsO]
  have hit' : ∀ it ∈ x'.l,it = (k,n) ∨ ∃ x ∈ Z.rs,x.p = p ∧ it ∈ x.l:=fun it hit => by
    rcases m3 with ⟨x,hx,hpx,_,e2⟩ | ⟨hno,_,e2⟩
    · rw [e2,List.mem_append,List.mem_cons] at hit
      rcases hit with hit | hit | hit
      · exact .inr ⟨x,hx,hpx,List.mem_of_mem_take hit⟩
      · exact .inl hit
      · exact .inr ⟨x,hx,hpx,List.mem_of_mem_drop hit⟩
    · rw [e2] at hit
      exact .inl (by simpa using hit)
  have cases' : ∀ y ∈ Z'.rs,y = x' ∨ (y.p ≠ p ∧ y ∈ Z.rs):=fun y hy => by
    by_cases e : y.p = p
    · exact .inl (srt_inj hz'.srt hy m1 (e.trans m2.symm))
    · exact .inr ⟨e,(m4 y e).1 hy⟩
  refine ⟨fun y hy => ?_,fun q X hq => ?_,fun y hy it hit => ?_⟩
  · rcases cases' y hy with rfl | ⟨e,hy⟩
    · refine ⟨X',?_,x'l,hX.trans x'k.symm⟩
      show upd1 G.R p (some X') y.p = some X'
      unfold upd1;rw [if_pos m2]
    · obtain ⟨X,h1,h2⟩:=h.a1 y hy
      refine ⟨X,?_,h2⟩
      show upd1 G.R p (some X') y.p = some X
      unfold upd1;rw [if_neg e];exact h1
  · have hq : upd1 G.R p (some X') q = some X:=hq
    unfold upd1 at hq
    by_cases e : q = p
    · exact ⟨x',m1,m2.trans e.symm⟩
    · rw [if_neg e] at hq
      obtain ⟨x,hx,hp⟩:=h.a2 q X hq
      exact ⟨x,(m4 x (by rw [hp];exact e)).2 hx,hp⟩
  · show updN G.N p k (some n) y.p it.1 = some it.2
    unfold updN
    rcases cases' y hy with rfl | ⟨e,hy⟩
    · rcases hit' it hit with rfl | ⟨x,hx,hp,hit⟩
      · rw [if_pos ⟨m2,rfl⟩]
      · have h1:=h.a3 x hx it hit
        rw [hp] at h1
        rw [if_neg (fun e => by rw [← e.2,h1] at hN;cases hN),m2]
        exact h1
    · rw [if_neg fun e2 => e e2.1]
      exact h.a3 y hy it hit
theorem map_erase_idx : ∀ {l : List Itm} {q : Nat} {it : Itm},(l.map (·.1)).Nodup → l[q]? = some it → (l.map (·.1)).erase it.1 = (l.eraseIdx q).map (·.1)
  | [],q,it,_,h => by simp at h
  | x :: l,0,it,hn,h => by
    simp only [List.getElem?_cons_zero,Option.some.injEq] at h
    subst h
    simp
  | x :: l,q + 1,it,hn,h => by
    simp only [List.getElem?_cons_succ] at h
    rw [List.map_cons,List.nodup_cons] at hn
    have hne : ¬ x.1 = it.1:=fun e => hn.1 (e ▸ List.mem_map.2 ⟨it,List.mem_of_getElem? h,rfl⟩)
    have:=map_erase_idx hn.2 h
    rw [List.map_cons,List.erase_cons_tail (by simpa using hne),List.eraseIdx_cons_succ,List.map_cons,this]
theorem mem_eraseIdx_ne {l : List Itm} {q : Nat} {it j : Itm} (hn : (l.map (·.1)).Nodup) (h : l[q]? = some it) (hj : j ∈ l.eraseIdx q) : j ∈ l ∧ j.1 ≠ it.1:=by
  refine ⟨(List.eraseIdx_sublist l q).subset hj,fun e => ?_⟩
  have h1:=map_erase_idx hn h
  have h2 : it.1 ∉ (l.map (·.1)).erase it.1:=fun hm => (List.Nodup.mem_erase_iff hn).1 hm |>.1 rfl
  rw [h1] at h2
  exact h2 (List.mem_map.2 ⟨j,hj,e⟩)
theorem CutAt.rows (hz : Z.is m) {j q : Nat} {x : RV} (hx : Z.rs[j]? = some x) (hc : CutAt Z Z' j q x) :
    (∀ y,y.p ≠ x.p → (y ∈ Z'.rs ↔ y ∈ Z.rs)) ∧ ((x.l.eraseIdx q = [] ∧ ∀ y ∈ Z'.rs,y.p ≠ x.p) ∨ (x.l.eraseIdx q ≠ [] ∧ ∃ x' ∈ Z'.rs,Z'.rs[j]? = some x' ∧ x'.p = x.p ∧ x'.k = x.k ∧ x'.l = x.l.eraseIdx q)):=by
  have hlt : j < Z.rs.length:=(List.getElem?_eq_some_iff.1 hx).1
  have hxm:=List.mem_of_getElem? hx
  have uniq : ∀ i y,Z.rs[i]? = some y → y.p = x.p → i = j:=fun i y hi e => by
    have hli : i < Z.rs.length:=(List.getElem?_eq_some_iff.1 hi).1
    have hp:=List.pairwise_iff_getElem.1 hz.srt
    rw [List.getElem?_eq_getElem hli] at hi;cases hi
    rw [List.getElem?_eq_getElem hlt] at hx;cases hx
    rcases Nat.lt_trichotomy i j with h | h | h
    · have:=hp i j hli hlt h
      rw [e,plt_irr] at this;cases this
    · exact h
    · have:=hp j i hlt hli h
      rw [e,plt_irr] at this;cases this
  rcases hc with ⟨e,x',e1,e2,e3,e4⟩ | ⟨e,e1⟩
  · have hj : Z'.rs[j]? = some x':=by rw [e1,List.getElem?_set_self hlt]
    refine ⟨fun y hy => ?_,.inr ⟨e,x',List.mem_of_getElem? hj,hj,e2,e3,e4⟩⟩
    rw [e1]
    constructor
    · intro hm
      rcases List.mem_or_eq_of_mem_set hm with hm | rfl
      · exact hm
      · exact absurd e2 hy
    · intro hm
      obtain ⟨i,hi⟩:=List.getElem?_of_mem hm
      have hne : j ≠ i:=by
        rintro rfl
        rw [hx] at hi;cases hi;exact hy rfl
      exact List.mem_of_getElem? (i:=i) (by rw [List.getElem?_set_ne hne];exact hi)
  · have hmem : ∀ y,y ∈ Z'.rs ↔ ∃ i,i ≠ j ∧ Z.rs[i]? = some y:=fun y => by rw [e1,List.mem_eraseIdx_iff_getElem?]
    refine ⟨fun y hy => ?_,.inl ⟨e,fun y hy hp => ?_⟩⟩
    · rw [hmem]
      constructor
      · rintro ⟨i,_,hi⟩;exact List.mem_of_getElem? hi
      · intro hm
        obtain ⟨i,hi⟩:=List.getElem?_of_mem hm
        exact ⟨i,fun e => by subst e;rw [hx] at hi;cases hi;exact hy rfl,hi⟩
    · obtain ⟨i,h1,h2⟩:=(hmem y).1 hy
      exact h1 (uniq i y h2 hp)
theorem Agree.go (h : Agree G Z.rs) (hz : Z.is m) (hz' : Z'.is m') {j q : Nat} {x : RV} {it : Itm} {X' : Str} (hx : Z.rs[j]? = some x) (hit : x.l[q]? = some it) (hc : CutAt Z Z' j q x)
    (hX : ∀ X,G.R x.p = some X → X'.tree = X.tree ∧ X'.hs = X.hs.erase it.1) : Agree (G.go x.p it.1 it.2 X') Z'.rs:=by
  have hxm:=List.mem_of_getElem? hx
  obtain ⟨X,h1,h2,h3⟩:=h.a1 x hxm
  obtain ⟨t1,t2⟩:=hX X h1
  have t2' : X'.hs = (x.l.eraseIdx q).map (·.1):=by rw [t2,h2,map_erase_idx (hz.nd x hxm) hit]
  obtain ⟨r1,r2⟩:=hc.rows hz hx
  have oth : ∀ y ∈ Z'.rs,y.p ≠ x.p → y ∈ Z.rs:=fun y hy e => (r1 y e).1 hy
  have same : ∀ y ∈ Z'.rs,y.p = x.p → x.l.eraseIdx q ≠ [] ∧ y.k = x.k ∧ y.l = x.l.eraseIdx q:=fun y hy e => by
    rcases r2 with ⟨_,g⟩ | ⟨g0,x',g1,_,g2,g3,g4⟩
    · exact absurd e (g y hy)
    · have : y = x':=srt_inj hz'.srt hy g1 (e.trans g2.symm)
      subst this
      exact ⟨g0,g3,g4⟩
  refine ⟨fun y hy => ?_,fun p Y hp => ?_,fun y hy i hi => ?_⟩
  · show ∃ X,upd1 G.R x.p (goneR X') y.p = some X ∧ _
    unfold upd1
    by_cases e : y.p = x.p
    · obtain ⟨g0,g1,g2⟩:=same y hy e
      refine ⟨X',?_,by rw [t2',g2],?_⟩
      · rw [if_pos e]
        unfold goneR
        have : X'.hs ≠ []:=by rw [t2'];simpa using g0
        split
        · rename_i e;exact absurd e this
        · rfl
      · rw [g1,← h3]
        simp only [kindO,t1]
    · rw [if_neg e]
      exact h.a1 y (oth y hy e)
  · have hp : upd1 G.R x.p (goneR X') p = some Y:=hp
    unfold upd1 at hp
    by_cases e : p = x.p
    · rw [if_pos e] at hp
      rcases r2 with ⟨g,_⟩ | ⟨g0,x',g1,_,g2,g3,g4⟩
      · unfold goneR at hp
        rw [t2',g] at hp
        cases hp
      · exact ⟨x',g1,g2.trans e.symm⟩
    · rw [if_neg e] at hp
      obtain ⟨y,hy,hyp⟩:=h.a2 p Y hp
      exact ⟨y,(r1 y (by rw [hyp];exact e)).2 hy,hyp⟩
  · show updN G.N x.p it.1 none y.p i.1 = some i.2
    unfold updN
    by_cases e : y.p = x.p
    · obtain ⟨g0,g1,g2⟩:=same y hy e
      rw [g2] at hi
      obtain ⟨k1,k2⟩:=mem_eraseIdx_ne (hz.nd x hxm) hit hi
      rw [if_neg fun e2 => k2 e2.2,e]
      exact h.a3 x hxm i k1
    · rw [if_neg fun e2 => e e2.1]
      exact h.a3 y (oth y hy e) i hi
theorem Agree.drain {rs rs' : List RV} (h : Agree G rs) {p : Pl} (hR : ∀ q,G'.R q = if q = p then none else G.R q) (hN : ∀ q k,G'.N q k = if q = p then none else G.N q k) (h1 : ∀ y ∈ rs',y.p ≠ p) (h2 : ∀ y,y.p ≠ p → (y ∈ rs' ↔ y ∈ rs)) : Agree G' rs':=by
  refine ⟨fun y hy => ?_,fun q X hq => ?_,fun y hy it hit => ?_⟩
  · have e:=h1 y hy
    rw [hR,if_neg e]
    exact h.a1 y ((h2 y e).1 hy)
  · rw [hR] at hq
    by_cases e : q = p
    · rw [if_pos e] at hq;cases hq
    · rw [if_neg e] at hq
      obtain ⟨x,hx,hp⟩:=h.a2 q X hq
      exact ⟨x,(h2 x (by rw [hp];exact e)).2 hx,hp⟩
  · have e:=h1 y hy
    rw [hN,if_neg e]
    exact h.a3 y ((h2 y e).1 hy) it hit
end
structure Both (m0 : Mem) (li : Nat) (G : GG) (Z : GR) (m : Mem) : Prop where
  tw : Two m0 G Z m
  ag : Agree G Z.rs
  lr : Z.rs.length ≤ li
  ll : ∀ x ∈ Z.rs,x.l.length ≤ li
theorem Both.more {m0 m m' : Mem} {li : Nat} {G : GG} {Z : GR} (b : Both m0 li G Z m) (hm : ∀ a,m a ≠ none → m' a = m a) : Both m0 li G Z m':=⟨b.tw.more hm,b.ag,b.lr,b.ll⟩
theorem Both.len {m0 m : Mem} {li : Nat} {G : GG} {Z : GR} (b : Both m0 li G Z m) (p : Pl) : (hsO (G.R p)).length ≤ li:=by
  rcases b.ag.row p with ⟨X,x,hx,h1,hp,h2,_⟩ | ⟨h1,_⟩
  · rw [h1]
    show X.hs.length ≤ li
    rw [h2,List.length_map];exact b.ll x hx
  · rw [h1];exact Nat.zero_le _
end Go.Proofs.Ytnlohongffpkpaa.T16
end
