import Derived.Test.YtnlohongffpkpaaLawPlaysW2
import Derived.Laws.Externs
import Derived.ProofKit
import Derived.Below
import Derived.Lib.SmallJoins
import Derived.Test.YtnlohongffpkpaaProg
import Derived.DeepKeys4
set_option linter.unusedVariables false
set_option linter.unusedSimpArgs false
section
namespace Go.Proofs.Ytnlohongffpkpaa.Sx
open Go Go.RowKit
set_option linter.unusedVariables false
section
variable {P : Program} {S : List Sum} {W : World} {n0 : NL} {ρ0 : Nat → Nat} {N : Nat} {ops : Array Oper} {w : World}
theorem HInv.adopt {ρ : Nat → Nat} {hp : Hp} {n : Nat} (h : HInv W n0 ρ0 ρ hp n w) {b : Nat} {cs : List C} {ty : Nat} (hc : cs.all (C.wf 0) = true) (hb : w.heap[b]? = some (.cells (dens ρ cs) ty (0,0))) (hW : W.heap.size ≤ b) (hlt : b < w.heap.size)
    (hne : Sep ρ n hp b) : HInv W n0 ρ0 (fun i => if i = n then b else ρ i) (hcons (n,(cs,ty)) hp) (n + 1) w:=by
  have hE : Ext n ρ (fun i => if i = n then b else ρ i):=fun i hi => by simp [Nat.ne_of_lt hi]
  have hcn : cs.all (C.wf n) = true:=by
    simp only [List.all_eq_true] at hc ⊢
    exact fun x hx => C.wf_mono (Nat.zero_le _) x (hc x hx)
  refine ⟨?_,?_,?_,by have:=h.le;omega,?_,?_,h.os,h.tape,h.output,h.size,h.far,?_,h.lim,h.mem.adopt hne.2⟩
  · intro i hi
    show (if i = n then b else ρ i) < _
    split
    · exact hlt
    · exact h.lt i (by omega)
  · intro i j hi hj he
    replace he : (if i = n then b else ρ i) = (if j = n then b else ρ j):=he
    split at he <;> split at he
    · omega
    · exact absurd he.symm (hne.1 j (by omega))
    · exact absurd he (hne.1 i (by omega))
    · exact h.inj i j (by omega) (by omega) he
  · intro i b' hb'
    simp only [lookH_hcons,lookH_hnil] at hb'
    by_cases e : n = i
    · subst e
      simp only [Nat.beq_refl] at hb'
      cases hb'
      refine ⟨by omega,?_,?_⟩
      · simp only [List.all_eq_true] at hc ⊢
        exact fun x hx => C.wf_mono (Nat.zero_le _) x (hc x hx)
      · simp only [if_true]
        rw [dens_ext hE cs hcn]
        exact hb
    · rw [Nat.beq_eq_false_iff.2 e] at hb'
      obtain ⟨h1,h2,h3⟩:=h.blk i b' hb'
      refine ⟨by omega,?_,?_⟩
      · simp only [List.all_eq_true] at h2 ⊢
        exact fun x hx => C.wf_mono (by omega) x (h2 x hx)
      · show w.heap[if i = n then b else ρ i]? = _
        rw [dens_ext hE b'.1 h2,if_neg (fun x => e x.symm)]
        exact h3
  · intro i hi
    have:=h.le
    exact (hE i (by omega)).trans (h.old i hi)
  · intro i h1 h2
    show W.heap.size ≤ (if i = n then b else ρ i)
    split
    · exact hW
    · exact h.new i h1 (by omega)
  · intro i m hm
    rw [lookM_hcons] at hm
    obtain ⟨h1,h2,h3⟩:=h.mblk i m hm
    refine ⟨by omega,mwf_mono (by omega) _ h2,?_⟩
    show w.heap[if i = n then b else ρ i]? = _
    rw [mden_ext hE m.1 h2,if_neg (by omega)]
    exact h3
theorem adopt_inv : ∀ (r : Al) (σ : St) (ρ : Nat → Nat) (a : Act) (bs : List Nat) (val : Tmp → Value),bs.length = r.length → HInv W n0 ρ0 ρ σ.hp σ.n w → (∀ q ∈ σ.tm,q.2.wf σ.n = true) →
    (∀ (k : Nat) (d : Tmp) (cs : List C) (ty b : Nat),r[k]? = some (d,(cs,ty)) → bs[k]? = some b → cs.all (C.wf 0) = true ∧ w.heap[b]? = some (.cells (dens ρ cs) ty (0,0)) ∧ W.heap.size ≤ b ∧ b < w.heap.size ∧ Sep ρ σ.n σ.hp b) → bs.Nodup →
    a.defers = [] → a.tmps.size = N → (∀ (k : Nat) (d : Tmp) (cs : List C) (ty b : Nat),r[k]? = some (d,(cs,ty)) → bs[k]? = some b → (∀ (j : Nat) (d' : Tmp) (x : Blk),k < j → r[j]? = some (d',x) → d' ≠ d) → a.tmps.getD d undef = .pointer (some ⟨b,0,none⟩)) →
    (∀ t,(∀ (k : Nat) (d : Tmp) (x : Blk),r[k]? = some (d,x) → d ≠ t) → a.tmps.getD t undef = (look σ.tm t).den ρ) →
    ∃ ρ',Inv W n0 ρ0 N ρ' (adopt σ r) a w ∧ Ext σ.n ρ ρ' ∧ σ.n ≤ (adopt σ r).n:=by
  intro r
  induction r with
  | nil =>
    intro σ ρ a bs val _ hH hwf _ _ h1 h2 _ h4
    exact ⟨ρ,⟨h1,h2,fun t => h4 t (fun k d x h => by cases h),hwf,hH⟩,Ext.refl _ _,Nat.le_refl _⟩
  | cons p r ih =>
    obtain ⟨d,cs,ty⟩:=p
    intro σ ρ a bs val hlen hH hwf hb hnd h1 h2 h3 h4
    match bs,hlen,hnd with
    | b :: bs,hlen,hnd =>
      rw [List.nodup_cons] at hnd
      obtain ⟨g1,g2,g3,g4,g5⟩:=hb 0 d cs ty b rfl rfl
      have hH':=hH.adopt g1 g2 g3 g4 g5
      have hE : Ext σ.n ρ (fun i => if i = σ.n then b else ρ i):=fun i hi => by simp [Nat.ne_of_lt hi]
      have A1 : ∀ q ∈ (d,V.u (U.c (C.ptr σ.n 0))) :: σ.tm,q.2.wf (σ.n + 1) = true:=by
        intro q hq
        simp only [List.mem_cons] at hq
        rcases hq with rfl | hq
        · simp [V.wf,U.wf,C.wf]
        · exact V.wf_mono (Nat.le_succ _) _ (hwf q hq)
      have A2 : ∀ (k : Nat) (d' : Tmp) (cs' : List C) (ty' b' : Nat),r[k]? = some (d',(cs',ty')) → bs[k]? = some b' → cs'.all (C.wf 0) = true ∧
          w.heap[b']? = some (.cells (dens (fun i => if i = σ.n then b else ρ i) cs') ty' (0,0)) ∧ W.heap.size ≤ b' ∧ b' < w.heap.size ∧ Sep (fun i => if i = σ.n then b else ρ i) (σ.n + 1) (hcons (σ.n,(cs,ty)) σ.hp) b':=by
        intro k d' cs' ty' b' hk hbk
        obtain ⟨e1,e2,e3,e4,e5⟩:=hb (k + 1) d' cs' ty' b' (by simpa using hk) (by simpa using hbk)
        have hcn : cs'.all (C.wf σ.n) = true:=by
          simp only [List.all_eq_true] at e1 ⊢
          exact fun x hx => C.wf_mono (Nat.zero_le _) x (e1 x hx)
        refine ⟨e1,?_,e3,e4,?_⟩
        · rw [dens_ext hE cs' hcn];exact e2
        · refine ⟨fun i hi => ?_,e5.2⟩
          show (if i = σ.n then b else ρ i) ≠ b'
          split
          · intro e
            subst e
            exact hnd.1 (List.mem_of_getElem? hbk)
          · exact e5.1 i (by omega)
      have A3 : ∀ (k : Nat) (d' : Tmp) (cs' : List C) (ty' b' : Nat),r[k]? = some (d',(cs',ty')) → bs[k]? = some b' → (∀ (j : Nat) (d2 : Tmp) (x : Blk),k < j → r[j]? = some (d2,x) → d2 ≠ d') → a.tmps.getD d' undef = .pointer (some ⟨b',0,none⟩):=by
        intro k d' cs' ty' b' hk hbk hl
        exact h3 (k + 1) d' cs' ty' b' (by simpa using hk) (by simpa using hbk) (fun j d2 x hj hjd => by
          cases j with
          | zero => omega
          | succ j => exact hl j d2 x (by omega) (by simpa using hjd))
      have A4 : ∀ t,(∀ (k : Nat) (d' : Tmp) (x : Blk),r[k]? = some (d',x) → d' ≠ t) → a.tmps.getD t undef = (look ((d,V.u (U.c (C.ptr σ.n 0))) :: σ.tm) t).den (fun i => if i = σ.n then b else ρ i):=by
        intro t ht
        simp only [look]
        by_cases e : d = t
        · subst e
          simp only [Nat.beq_refl]
          rw [h3 0 d cs ty b rfl rfl (fun j d' x hj hjd => by
            cases j with
            | zero => omega
            | succ j => exact ht j d' x (by simpa using hjd))]
          simp [V.den,U.den,C.den]
        · rw [Nat.beq_eq_false_iff.2 e]
          simp only
          rw [V.den_ext hE _ (look_wf hwf t)]
          refine h4 t fun k d' x hk => ?_
          cases k with
          | zero => simp only [List.getElem?_cons_zero,Option.some.injEq,Prod.mk.injEq] at hk;exact hk.1 ▸ e
          | succ k => exact ht k d' x (by simpa using hk)
      obtain ⟨ρ',k1,k2,k3⟩:=ih { tm:=(d,.u (.c (.ptr σ.n 0))) :: σ.tm,hp:=hcons (σ.n,(cs,ty)) σ.hp,n:=σ.n + 1 } (fun i => if i = σ.n then b else ρ i) a bs val (by simpa using hlen) hH' A1 A2 hnd.2 h1 h2 A3 A4
      exact ⟨ρ',k1,hE.trans (Nat.le_succ _) k2,Nat.le_trans (Nat.le_succ _) k3⟩
theorem clusx_any (hN : NameOK P) (hS : ∀ q ∈ S,SumOK P q) {ih : Nat → Code → St → K → Tr} (hih : Snd P ih) {R : Leaf → Prop} {s m : Nat} {bf : List Nat} (hbf : befs ops.toList [] = bf) (hE : edgesOK ops.toList 0 = true) (hsel : Region.noSelect ops = true)
    {σ : St} {ρ : Nat → Nat} {k : St → Tr} {a : Act} {Q : Exit → Act → World → Prop} (hI : Inv W n0 ρ0 N ρ σ a w) (h : (clusx P S ih N ops s m (segL ops s m) bf σ k).sat R)
    {fuel : Nat} {listed : Array Bool} (hls : listed.size = ops.size) (hlisted : ∀ i,i < ops.size → (listed.getD i false = true ↔ i < s)) (hfu : ops.size - s ≤ fuel)
    (hk : s < m → m ≤ ops.size → ∀ (σ' : St) (ρ' : Nat → Nat) (a' : Act) (w' : World),Inv W n0 ρ0 N ρ' σ' a' w' → Ext σ.n ρ ρ' → σ.n ≤ σ'.n → (k σ').sat R → ∀ (fuel : Nat) (listed : Array Bool),listed.size = ops.size → (∀ i,i < ops.size → (listed.getD i false = true ↔ i < m)) → ops.size - m ≤ fuel → wpAny P .any ops Q fuel listed a' w') :
    wpAny P .any ops Q fuel listed a w:=by
  unfold clusx at h
  generalize hlL : segL ops s m = l at h
  split at h
  case h_2 => exact h.elim
  rename_i hok
  split at h
  case h_2 => exact h.elim
  rename_i ids hids
  simp only [drawOK,Bool.and_eq_true] at hok
  obtain ⟨⟨⟨⟨⟨⟨⟨⟨hsm,hm⟩,hcut⟩,hdist⟩,hdeps⟩,honce⟩,hsome⟩,hdst⟩,hlates⟩:=hok
  simp only [latesOK,Bool.and_eq_true] at hlates
  obtain ⟨hchain,hlall⟩:=hlates
  have hm':=Nat.le_of_ble_eq_true hm
  have hsm' : s < m:=by simpa using hsm
  have hlenl : l.length = m:=by rw [← hlL];exact segL_length (by omega) hm'
  have hl : ∀ i,s ≤ i → i < m → l[i]? = ops[i]?:=fun i h1 h2 => by rw [← hlL];exact segL_get h1 h2
  have hlp : ∀ i,i < s → l[i]? = some nopO:=fun i h1 => by rw [← hlL];exact segL_pad h1
  have hlenb : bf.length = ops.size:=by rw [← hbf,befs_length];simp
  have hedge : ∀ (i : Nat) (o : Oper),ops[i]? = some o → ∀ e ∈ o.after,Region.binds .any e = true → e.on < i:=by
    intro i o ho e he hb
    have:=edgesOK_spec _ 0 hE i o (by simpa using ho) e he hb
    omega
  have hcov : ∀ t j,m ≤ t → t < ops.size → s ≤ j → j < m → ∀ L,Closed ops L → (∀ o,ops[t]? = some o → ∀ e ∈ o.after,Region.binds .any e = true → L e.on) → L j:=by
    intro t j h1 h2 h4 h3 L hL hr
    have hb:=cutOK_spec hcut h1 (by omega) h4 h3
    rw [← hbf] at hb
    refine befs_spec ops ops.toList [] (fun i o hi => by simpa using hi) (fun i j hj => by simp at hj) t j hb L hL hr
  have hT0 : TM N ρ ({ σ with hp:=eraseAll ids σ.hp } : St):=hI.TM
  obtain ⟨fs,al',σ1,hs,e1,e2,hT1,hpath⟩:=frontx_path (ops:=ops) (L:=l) hN hS hih (hI.H.sub (eraseAll_sub ids σ.hp)) l [] { σ with hp:=eraseAll ids σ.hp } rfl rfl hT0 h
  obtain ⟨σ',hlp',hs⟩:=laterx_path (S:=S) _ _ hs
  obtain ⟨htm1,hn1⟩:=hlp'.keeps
  replace htm1 : σ'.tm = σ1.tm:=htm1
  replace hn1 : σ'.n = σ1.n:=hn1
  have hT' : TM N ρ σ':=by
    refine ⟨fun q hq => ?_,fun t ht => ?_⟩
    · rw [hn1];rw [htm1] at hq;exact hT1.1 q hq
    · rw [htm1];exact hT1.2 t ht
  have e2' : σ'.n = σ.n:=hn1.trans e2
  obtain ⟨_,hal2,hal3,hal4,hlenf,_,hal7⟩:=path_al _ _ _ _ _ _ hpath
  have hdsto : ∀ o ∈ l,okDst N o.dst = true:=by simpa only [List.all_eq_true] using hdst
  have hsomeo : ∀ o ∈ l,(o.dst.isSome || storeOp o.op && o.guard.isNone) = true:=by simpa only [List.all_eq_true] using hsome
  have hpad : ∀ i,i < s → fs[i]? = some .late:=by
    intro i hi
    have hlt : i < fs.length:=by omega
    have hf : fs[i]? = some fs[i]:=List.getElem?_eq_getElem hlt
    have:=(path_isL _ _ _ _ _ _ hpath i nopO fs[i] (hlp i hi) hf).1
    rw [hf]
    cases hfi : fs[i] with
    | late => rfl
    | run x => rw [hfi] at this;cases this
    | skip => rw [hfi] at this;cases this
    | al q => rw [hfi] at this;cases this
    | st q u => rw [hfi] at this;cases this
  have hun : ∀ i,s ≤ i → i < ops.size → listed.getD i false = false:=by
    intro i h1 h2
    cases h3 : listed.getD i false with
    | false => rfl
    | true => have:=(hlisted i h2).1 h3;omega
  have hpre : ∀ i,i < s → listed.getD i false = true:=fun i hi => (hlisted i (by omega)).2 hi
  -- whoever made something stands at s or behind
  have hge : ∀ (i : Nat) (f : Ent),fs[i]? = some f → f.isL = false → s ≤ i:=by
    intro i f hf hL
    rcases Nat.lt_or_ge i s with hi | hi
    · rw [hpad i hi] at hf;cases hf;cases hL
    · exact hi
  have hal0 : ∀ (i q : Nat),listed.getD i false = true → fs[i]? = some (.al q) → False:=by
    intro i q h1 h2
    have h3:=hge i _ h2 rfl
    have h4 : i < fs.length:=(List.getElem?_eq_some_iff.1 h2).1
    rw [hun i h3 (by omega)] at h1
    cases h1
  refine front_any (s:=s) (σ:={ σ with hp:=eraseAll ids σ.hp }) (σ':=σ1) (fs:=fs) (al':=al') (base:=fun t => (look σ.tm t).den ρ) hm' hlenl hl hcov hedge hsel hpath hpad hdist honce hsomeo e2 (fun _ => rfl) hI.TM.2 hdsto (fun k o hk => by
      have:=depsOK_spec _ _ 0 hdeps k o hk
      rwa [Nat.zero_add] at this) hT1 (fun i o hi hL => by
      rcases Nat.lt_or_ge i s with his | his
      · rw [hlp i his] at hi
        cases hi
        rfl
      · simp only [List.all_eq_true] at hlall
        have:=hlall i (lateIdx_mem.2 ⟨his,o,hi,hL⟩)
        rw [hi] at this
        exact this) (σ2:=σ') ?_ fuel listed (fun _ => 0) a _ (lateIdx l s) { σ1 with hp:=σ.hp } hls hpre ?_ (fun t h1 h2 => hun t (by omega) h2) ⟨hchain,lateIdx_nodup _ _⟩ ?_ (fun i o hi hL => by
      rcases Nat.lt_or_ge i s with his | his
      · exact .inl (hpre i his)
      · exact .inr (lateIdx_mem.2 ⟨his,o,hi,hL⟩)) hlp' rfl e2 (eraseAll_sub ids σ.hp) ⟨List.range' s (ops.size - s),List.nodup_range',fun i hi hif => ?_,by simpa using hfu⟩ ?_ ?_
  · intro β a' w' fuel2 listed2 hls2 hl2 hf2 hA hW'
    have hqs : ∀ q,q < al'.length → ∃ (i : Nat) (o : Oper),l[i]? = some o ∧ fs[i]? = some (Ent.al q):=by
      intro q hq
      obtain ⟨i,hi⟩:=hal4 q (by simp) hq
      have hlt : i < l.length:=by rw [← hlenf];exact (List.getElem?_eq_some_iff.1 hi).1
      exact ⟨i,l[i],List.getElem?_eq_getElem hlt,hi⟩
    have H:=adopt_inv (W:=W) (n0:=n0) (ρ0:=ρ0) (N:=N) (w:=w') al' σ' ρ a' ((List.range al'.length).map β) (fun _ => undef) (by simp) (by rw [e2'];exact hW'.H) hT'.1
      (by
        intro q d cs ty b hq hb
        have hqlt : q < al'.length:=(List.getElem?_eq_some_iff.1 hq).1
        have hb' : b = β q:=by
          simp [hqlt] at hb
          exact hb.symm
        subst hb'
        obtain ⟨i,o,hi,hf⟩:=hqs q hqlt
        obtain ⟨d2,cs2,ty2,cs2',k1,k2,k3,k4,k5,k6,k7,k8⟩:=hW'.blk i q rfl hf
        rw [hq] at k1
        cases k1
        have e:=k8 fun _ _ _ => rfl
        subst e
        exact ⟨k6,k2,k3,k4,fun j hj => k5.1 j (by rw [← e2'];exact hj),k5.2⟩)
      (by
        rw [List.nodup_iff_pairwise_ne,List.pairwise_map]
        refine List.Pairwise.imp_of_mem ?_ List.nodup_range
        intro q r hq hr hne
        rw [List.mem_range] at hq hr
        obtain ⟨i,o,hi,hf⟩:=hqs q hq
        obtain ⟨j,o2,hj,hg⟩:=hqs r hr
        exact hW'.inj i j q r rfl rfl hf hg hne)
      hA.defers hA.sz
      (by
        intro q d cs ty b hq hb _
        have hqlt : q < al'.length:=(List.getElem?_eq_some_iff.1 hq).1
        have hb' : b = β q:=by
          simp [hqlt] at hb
          exact hb.symm
        subst hb'
        obtain ⟨i,o,hi,hf⟩:=hqs q hqlt
        obtain ⟨_,d1,cs1,ty1,cs1',g1,g2,_,_⟩:=hal2 i o q hi hf
        rw [hq] at g1
        cases g1
        rw [hA.tm d,srcIdx_of hdist hi g2]
        simp only [hf]
        rfl)
      (by
        intro t ht
        rw [hA.tm t,htm1,path_look _ _ _ _ _ _ hpath hdist t]
        cases hj : srcIdx l t with
        | none => rfl
        | some j =>
          simp only
          cases hf : fs[j]? with
          | none =>
            exfalso
            obtain ⟨o2,g3,_⟩:=srcIdx_get hj
            have : j < l.length:=(List.getElem?_eq_some_iff.1 g3).1
            have:=List.getElem?_eq_none_iff.1 hf
            omega
          | some f =>
            cases f with
            | run x => rfl
            | skip => rfl
            | late =>
              exfalso
              obtain ⟨o2,g3,g4⟩:=srcIdx_get hj
              have:=(path_isL _ _ _ _ _ _ hpath j o2 _ g3 hf).2 rfl
              rw [this] at g4
              cases g4
            | st q u =>
              exfalso
              obtain ⟨o2,g3,g4⟩:=srcIdx_get hj
              obtain ⟨_,_,_,_,_,_,_,_,g5,_⟩:=hal7 j o2 q u g3 hf
              rw [g5] at g4
              cases g4
            | al q =>
              exfalso
              obtain ⟨o2,g3,g4⟩:=srcIdx_get hj
              obtain ⟨_,d1,cs1,ty1,cs1',g1,g2,_,_⟩:=hal2 j o2 q g3 hf
              rw [g4] at g2
              cases g2
              exact ht q _ _ g1 rfl)
    obtain ⟨ρ',hI2,hE2,hle2⟩:=H
    refine hk hsm' hm' _ ρ' a' w' hI2 ?_ ?_ hs fuel2 listed2 hls2 hl2 hf2
    · rw [e2'] at hE2;exact hE2
    · rw [e2'] at hle2;exact hle2
  · intro i o hi ho e he hb
    have hlt:=(Array.getElem?_eq_some_iff.1 ho).1
    have h1:=(hlisted i hlt).1 hi
    have h2:=hedge i o ho e he hb
    exact hpre e.on (by omega)
  · intro i hi
    obtain ⟨h0,o,h1,h2⟩:=lateIdx_mem.1 hi
    have:=(List.getElem?_eq_some_iff.1 h1).1
    exact ⟨o,h1,h2,hun i h0 (by omega)⟩
  · rw [List.mem_range'_1]
    have : ¬ i < s:=fun hlt => by rw [hpre i hlt] at hif;cases hif
    omega
  · refine ⟨hI.defers,hI.sz,fun t => ?_⟩
    rw [hI.tm t]
    cases hj : srcIdx l t with
    | none => rfl
    | some j =>
      simp only
      obtain ⟨o,h1,h2⟩:=srcIdx_get hj
      have hjs : s ≤ j:=by
        rcases Nat.lt_or_ge j s with hi | hi
        · rw [hlp j hi] at h1;cases h1;cases h2
        · exact hi
      have:=(List.getElem?_eq_some_iff.1 h1).1
      rw [hun j hjs (by omega)]
  · exact ⟨hI.H,fun i q hi hf => (hal0 i q hi hf).elim,fun i j q r hi _ hf _ _ => (hal0 i q hi hf).elim⟩
theorem segx_any (hN : NameOK P) (hS : ∀ q ∈ S,SumOK P q) {ih : Nat → Code → St → K → Tr} (hih : Snd P ih) {R : Leaf → Prop} {bf : List Nat} (hbf : befs ops.toList [] = bf) (hE : edgesOK ops.toList 0 = true) (hsel : Region.noSelect ops = true) {k : St → Tr} {Q : Exit → Act → World → Prop} (hQ : ∀ c a w,¬ Q (.panic c) a w) :
    ∀ (f s : Nat) (σ : St) (ρ : Nat → Nat) (a : Act) (w : World),Inv W n0 ρ0 N ρ σ a w → (segx P S ih N ops bf f s σ k).sat R →
      (∀ σ' ρ' a' w',Inv W n0 ρ0 N ρ' σ' a' w' → Ext σ.n ρ ρ' → σ.n ≤ σ'.n → (k σ').sat R → Q .normal a' w') →
      ∀ (fuel : Nat) (listed : Array Bool),listed.size = ops.size → (∀ i,i < ops.size → (listed.getD i false = true ↔ i < s)) → ops.size - s ≤ fuel → wpAny P .any ops Q fuel listed a w:=by
  intro f
  induction f with
  | zero => intro s σ ρ a w hI h;exact h.elim
  | succ f ihf =>
    intro s σ ρ a w hI h hk fuel listed hls hl hf
    simp only [segx] at h
    split at h
    · rename_i hsz
      have hsz:=Nat.le_of_ble_eq_true hsz
      exact done_any hls (fun i hi => (hl i hi).2 (by omega)) (hk σ ρ a w hI (Ext.refl _ _) (Nat.le_refl _) h)
    · rename_i hsz
      have hlt : s < ops.size:=by
        rcases Nat.lt_or_ge s ops.size with h1 | h1
        · exact h1
        · rw [Nat.ble_eq_true_of_le h1] at hsz;cases hsz
      have hedge : ∀ (i : Nat) (o : Oper),ops[i]? = some o → ∀ e ∈ o.after,Region.binds .any e = true → e.on < i:=by
        intro i o ho e he hb
        have:=edgesOK_spec _ 0 hE i o (by simpa using ho) e he hb
        omega
      split at h
      · exact h.elim
      · rename_i o ho
        split at h
        · rename_i hcut
          have hlenb : bf.length = ops.size:=by rw [← hbf,befs_length];simp
          refine one_any (Kc:=fun a' w' => ∀ (fuel : Nat) (listed : Array Bool),listed.size = ops.size → (∀ i,i < ops.size → (listed.getD i false = true ↔ i < s + 1)) → ops.size - (s + 1) ≤ fuel → wpAny P .any ops Q fuel listed a' w') ?_ hedge ho hls hl hf ?_ (fun fuel listed a w h1 h2 h3 h4 => h4 fuel listed h1 h2 h3)
          · intro t j h1 h2 h4 h3 L hL hr
            have hb:=cutOK_spec hcut h1 (by omega) h4 h3
            rw [← hbf] at hb
            exact befs_spec ops ops.toList [] (fun i o hi => by simpa using hi) (fun i j hj => by simp at hj) t j hb L hL hr
          · refine opsx_seq hN hS hih ops [o] σ ρ a w hI h fun σ' ρ' a' w' h1 h2 h3 h4 => ?_
            exact ihf (s + 1) σ' ρ' a' w' h1 h4 fun σ2 ρ2 a2 w2 g1 g2 g3 g4 => hk σ2 ρ2 a2 w2 g1 (h2.trans h3 g2) (Nat.le_trans h3 g3) g4
        · split at h
          · rename_i x htk
            obtain ⟨fuel,rfl⟩ : ∃ f,fuel = f + 1:=⟨fuel - 1,by omega⟩
            unfold takeOK at htk
            split at htk
            · rename_i y hop hg
              split at htk
              · rename_i hok
                cases htk
                simp only [Bool.and_eq_true,List.all_eq_true] at hok
                obtain ⟨hd,hfr⟩:=hok
                have hI' : Inv W n0 ρ0 N ρ (σ.put o.dst (ev σ x)) (a.put o.dst ((ev σ x).den ρ)) w:=hI.put o.dst (ev σ x) (okDst_lt hd) (ev_wf hI x)
                refine wpAny_first (v:=(ev σ x).den ρ) ho (Region.noSelect_spec hsel) (fun c a w hq => (hQ c _ w hq).elim) fuel listed a w ?_ ?_ (.inl ⟨by simp [Region.wanted,hg],fun w => ?_⟩) ?_
                · intro j oj hj hne hun hno
                  have hjlt:=(Array.getElem?_eq_some_iff.1 hj).1
                  have hjs : s < j:=by
                    rcases Nat.lt_or_ge j s with h1 | h1
                    · have:=(hl j hjlt).2 h1
                      simp only [Array.getD_eq_getD_getElem?,Array.getElem?_eq_getElem (show j < listed.size by omega),Option.getD_some] at hun this
                      rw [hun] at this;cases this
                    · omega
                  have hm:=hfr oj (List.mem_iff_getElem?.2 ⟨j - (s + 1),by rw [List.getElem?_drop,show s + 1 + (j - (s + 1)) = j by omega,Array.getElem?_toList];exact hj⟩)
                  rw [Bool.or_eq_true] at hm
                  rcases hm with hm | hm
                  · exfalso
                    simp only [edgeTo,List.any_eq_true,Bool.and_eq_true] at hm
                    obtain ⟨e,he,hb,hon⟩:=hm
                    exact hno e (by simpa using he) hb (Nat.eq_of_beq_eq_true hon)
                  · exact hm
                · rw [mem_ready]
                  refine ⟨?_,o,ho,fun e he hb => (hl e.on (by have:=hedge s o ho e he hb;omega)).2 (hedge s o ho e he hb)⟩
                  have : ¬ listed.getD s false = true:=fun h => Nat.lt_irrefl s ((hl s hlt).1 h)
                  simp only [Array.getD_eq_getD_getElem?,Array.getElem?_eq_getElem (show s < listed.size by omega),Option.getD_some] at this ⊢
                  simpa using this
                · obtain ⟨dst,op,type,pos,after,guard⟩:=o
                  simp only at hop
                  subst hop
                  simp [execOp,ev_den hI x]
                · refine ihf (s + 1) _ ρ _ w hI' h (fun σ2 ρ2 a2 w2 g1 g2 g3 g4 => hk σ2 ρ2 a2 w2 g1 (by rw [(put_hp _ _ _).2] at g2;exact g2) (by rw [(put_hp _ _ _).2] at g3;exact g3) g4) fuel _ (by simp [hls]) ?_ (by omega)
                  intro j hj
                  by_cases e : s = j
                  · subst e
                    simp [show s < listed.size by omega]
                  · rw [getD_set_ne false e,hl j hj]
                    omega
              · cases htk
            · cases htk
          · refine clusx_any hN hS hih hbf hE hsel hI h hls hl hf fun _ _ σ' ρ' a' w' h1 h2 h3 h4 => ?_
            exact ihf _ σ' ρ' a' w' h1 h4 fun σ2 ρ2 a2 w2 g1 g2 g3 g4 => hk σ2 ρ2 a2 w2 g1 (h2.trans h3 g2) (Nat.le_trans h3 g3) g4
theorem drawl_sound (hN : NameOK P) (hS : ∀ q ∈ S,SumOK P q) (hmix : P.follows .mixedOrders = true) (lv : Nat → Nat → Option LT) : DSnd P (drawl P S lv):=by
  intro ih hih W n0 ρ0 N R id ops σ k ρ a w Q hI h hk
  simp only [drawl,drawf] at h
  split at h
  case h_2 => exact h.elim
  rename_i hok
  rw [Bool.and_eq_true] at hok
  refine Code.wp_mono (Q:=fun e a w => (∀ c,e ≠ .panic c) ∧ Q e a w) (fun e a w h => h.2) (wp_region_any hmix ?_)
  have hI' : Inv W n0 ρ0 N ρ σ a { w with drawn:=w.drawn + 1 }:=⟨hI.defers,hI.sz,hI.tm,hI.tmwf,hI.H.drew _⟩
  refine segx_any hN hS hih rfl hok.1 hok.2 (fun c a w h => h.1 c rfl) _ 0 σ ρ a _ hI' h (fun σ' ρ' a' w' h1 h2 h3 h4 => ⟨(fun c e => by cases e),hk σ' ρ' a' w' h1 h2 h3 h4⟩) ops.size _ (by simp) (fun i hi => ⟨fun h => ?_,fun h => absurd h (Nat.not_lt_zero _)⟩) (by omega)
  have : (Array.replicate ops.size false).getD i false = false:=by
    rw [Array.getD_eq_getD_getElem?,Array.getElem?_replicate]
    split <;> rfl
  rw [this] at h
  cases h
theorem drawx_sound (hN : NameOK P) (hS : ∀ q ∈ S,SumOK P q) (hmix : P.follows .mixedOrders = true) : DSnd P (drawx P S):=drawl_sound hN hS hmix fun _ _ => none
end
end Go.Proofs.Ytnlohongffpkpaa.Sx
end

section
namespace Go.Proofs.Ytnlohongffpkpaa.Sx
open Go Go.RowKit
inductive Sh where
  | i (k : IntKind)
  | a (ks : List IntKind)
def encL : List IntKind → List Int → List Value
  | k :: ks,n :: ns => .int k n :: encL ks ns
  | _,_ => []
def enc : List Sh → List Int → List Value
  | .i k :: r,n :: ns => .int k n :: enc r ns
  | .a ks :: r,ns => .agg (encL ks (ns.take ks.length)).toArray :: enc r (ns.drop ks.length)
  | _,_ => []
theorem pure_to {P : Program} {S : List Sum} {D : DrawX} (hN : NameOK P) (hS : ∀ q ∈ S,SumOK P q) (hD : DSnd P D) (fuel : Nat) {f : Nat} (args : List V) {T : Tr} (hT : runp P S D fuel f args = T) {vs : Array Value} {r : Value}
    (ρ : Nat → Nat) (he : vs = (args.map (V.den ρ)).toArray) (h : T.all fun v => v.den ρ = r) (w : World) :
    Calls P f vs w fun e w' => e = .returned r ∧ Below w.heap.size w w':=by
  subst he
  refine (pure_sound hN hS hD fuel args hT h ρ w).mono ?_
  rintro e w' ⟨v,hv,he,hb⟩
  exact ⟨by rw [he,hv],hb⟩
theorem V.two {ρ : Nat → Nat} {a b c d : C} (h1 : a.den ρ = c.den ρ) (h2 : b.den ρ = d.den ρ) : V.den ρ (.tup [.c a,.c b]) = V.den ρ (.tup [.c c,.c d]):=by
  simp only [V.den,U.den,List.map_cons,List.map_nil,h1,h2]
end Go.Proofs.Ytnlohongffpkpaa.Sx
end

section
namespace Go.Proofs.Ytnlohongffpkpaa.Sx
open Go Go.RowKit
theorem add_i (x y : Int) : iAdd .i64 x y = (x + y + 9223372036854775808) % 18446744073709551616 - 9223372036854775808:=by rw [iAdd,IntKind.wrap_i64]
theorem sub_i (x y : Int) : iSub .i64 x y = (x - y + 9223372036854775808) % 18446744073709551616 - 9223372036854775808:=by rw [iSub,IntKind.wrap_i64]
theorem okn {P : Program} : ∀ q ∈ ([] : List Sum),SumOK P q:=fun _ h => nomatch h
theorem okc {P : Program} {q : Sum} {l : List Sum} (h : SumOK P q) (hl : ∀ q ∈ l,SumOK P q) : ∀ q' ∈ q :: l,SumOK P q':=by
  intro q' h'
  rcases List.mem_cons.1 h' with rfl | h'
  · exact h
  · exact hl q' h'
end Go.Proofs.Ytnlohongffpkpaa.Sx
end

section
namespace Go.Proofs.Ytnlohongffpkpaa.Sx
open Go Go.RowKit
inductive Fm where
  | s (k : Option IntKind)
  | a (ks : List (Option IntKind))
end Go.Proofs.Ytnlohongffpkpaa.Sx
end

section
namespace Go.Proofs.Ytnlohongffpkpaa.Sx
open Go Go.RowKit Go.ChangeShapes Go.WideShapes Go.ChangeAt Go.Deep
end Go.Proofs.Ytnlohongffpkpaa.Sx
end

section
namespace Go.Proofs.Ytnlohongffpkpaa.Sx
open Go Go.RowKit
def runm (P : Program) (S : List Sum) (D : DrawX) (fuel : Nat) (f : FuncId) (args : List V) (m : Mem) (mt : List Nat) : Tr :=
  kO (P.funcs[f]?) fun fn => kO fn.body fun c =>
    match Nat.ble args.length fn.ntmps,args.all (V.wf 0) with
    | true,true => ex P S D fuel fn.ntmps c { tm:=number 0 args,hp:=⟨[],[],0,m,true,mt⟩,n:=0 } fun e σ' =>
      match e with
      | .exit _ => .no 31
      | _ => kO (resV P σ' fn.results.toList) fun r => match r.wf 0,σ'.hp.wr with | true,true => .leaf (.memo r σ'.hp.x) | _,_ => .no 32
    | _,_ => .no 33
def isMemo (p : V → Mem → Prop) : Leaf → Prop
  | .memo v x => p v x
  | _ => False
variable {P : Program} {S : List Sum}
theorem memo_sound (hN : NameOK P) (hS : ∀ q ∈ S,SumOK P q) {D : DrawX} (hD : DSnd P D) (fuel : Nat) {f : Nat} (args : List V) (m : Mem) (mt : List Nat) {T : Tr} (hT : runm P S D fuel f args m mt = T) {p : V → Mem → Prop}
    (h : T.sat (isMemo p)) (ρ : Nat → Nat) (w : World) (hm : ∀ a o,m a = some o → w.heap[a]? = some o) :
    Calls P f (args.map (V.den ρ)).toArray w fun e w' => ∃ v x,p v x ∧ e = .returned (v.den ρ) ∧ MemTo m x w w':=by
  subst hT
  unfold runm at h
  obtain ⟨fn,hfn,hs⟩:=kO_sat h
  obtain ⟨c,hc,hs⟩:=kO_sat hs
  split at hs
  · rename_i hl hw
    have hl':=Nat.le_of_ble_eq_true hl
    have hH0 : HInv w ⟨0,0,m⟩ (fun _ => 0) (fun _ => 0) ⟨[],[],0,m,true,mt⟩ 0 w :=
      ⟨fun i hi => by omega,fun i j hi => by omega,(fun i b h => by cases h),Nat.le_refl _,Ext.refl _ _,fun i _ hi => by omega,rfl,rfl,rfl,Nat.le_refl _,fun _ _ _ _ => rfl,(fun i m hm => by cases hm),rfl,
        ⟨hm,fun _ _ _ i hi => by omega,fun _ a o (e : m a = some o) => .inl (by show m a ≠ none;rw [e];simp)⟩⟩
    have hI':=Inv.enter (σ:={ tm:=[],hp:=⟨[],[],0,m,true,mt⟩,n:=0 }) (ρ:=fun _ => 0) hH0 args fn.ntmps hl' hw
    have e0 : ∀ ρ',args.map (V.den ρ') = args.map (V.den ρ):=fun ρ' => by
      simp only [List.all_eq_true] at hw
      exact List.map_congr_left fun v hv => V.den_ext (n:=0) (fun i hi => by omega) v (hw v hv)
    rw [← e0 (fun _ => 0)]
    refine calls_of_wp hfn hc ?_
    refine ex_sound hN hS hD fuel w ⟨0,0,m⟩ (fun _ => 0) fn.ntmps _ c _ _ _ _ w _ hI' hs ?_
    intro e σ' ρ' a' w' hI2 hE hle hk
    have fin : (kO (resV P σ' fn.results.toList) fun r => match r.wf 0,σ'.hp.wr with | true,true => Tr.leaf (.memo r σ'.hp.x) | _,_ => .no 32).sat (isMemo p) →
        a'.defers = [] ∧ ∃ v,(results fn a'.tmps).run P w' = .ok v w' ∧ ∃ v' x,p v' x ∧ Ending.returned v = .returned (v'.den ρ) ∧ MemTo m x w w':=by
      intro hk
      obtain ⟨r,hr,hk⟩:=kO_sat hk
      split at hk
      · rename_i hwr hwm
        refine ⟨hI2.defers,_,resV_den hI2 hr,r,_,hk,?_,⟨hI2.H.os,hI2.H.tape,hI2.H.output,hI2.H.size,hI2.H.mem.sub,fun k hk hx => hI2.H.far k hk hx fun i _ hi => absurd hi (Nat.not_lt_zero _),hI2.H.mem.dom hwm⟩⟩
        rw [V.den_ext (n:=0) (ρ:=ρ') (ρ':=ρ) (fun i hi => by omega) r hwr]
      · exact hk.elim
    cases e with
    | normal => exact fin hk
    | ret => exact fin hk
    | exit id => exact hk.elim
  · exact hs.elim
def memSum (f : FuncId) (mm : Mem → List V → Option MSum) : Sum:={ f:=f,s:=fun _ => none,mm:=some mm }
theorem memSum_ok {f : FuncId} {mm : Mem → List V → Option MSum} (hf : ∃ fn,P.funcs[f]? = some fn ∧ fn.body.isSome = true)
    (h : ∀ (m : Mem) (args : List V) (ms : MSum),mm m args = some ms → ms.pre → args.all (V.wf 0) = true → ∀ (ρ : Nat → Nat) (w : World),(∀ a o,m a = some o → w.heap[a]? = some o) →
      Calls P f (args.map (V.den ρ)).toArray w fun e w' => ∃ y,ms.post y ∧ e = .returned ((ms.ret y).den ρ) ∧ MemTo m y.m w w') : SumOK P (memSum f mm):=by
  refine ⟨⟨fun mm' e => ?_,(fun _ h => by cases h),(fun _ h => by cases h)⟩,.inr ⟨rfl,.inr ⟨rfl,.inr ⟨rfl,hf,fun args bs r ρ w hs hb => by cases hs⟩⟩⟩⟩
  cases e
  exact ⟨hf,fun m args ms ρ w h1 h2 h3 h4 => h m args ms h1 h2 h3 ρ w h4⟩
def rdSum (f : FuncId) (rd : Mem → List V → Option (Prop × V)) : Sum:={ f:=f,s:=fun _ => none,rd:=some rd }
theorem rdSum_ok {f : FuncId} {rd : Mem → List V → Option (Prop × V)} (hf : ∃ fn,P.funcs[f]? = some fn ∧ fn.body.isSome = true)
    (h : ∀ (m : Mem) (args : List V) (pre : Prop) (v : V),rd m args = some (pre,v) → pre → args.all (V.wf 0) = true → ∀ (ρ : Nat → Nat) (w : World),(∀ a o,m a = some o → w.heap[a]? = some o) →
      Calls P f (args.map (V.den ρ)).toArray w fun e w' => e = .returned (v.den ρ) ∧ MemTo m m w w') : SumOK P (rdSum f rd):=by
  refine ⟨⟨(fun _ h => by cases h),fun rd' e => ?_,(fun _ h => by cases h)⟩,.inr ⟨rfl,.inr ⟨rfl,.inr ⟨rfl,hf,fun args bs r ρ w hs hb => by cases hs⟩⟩⟩⟩
  cases e
  refine ⟨hf,fun m args pre v ρ w h1 h2 h3 h4 => (h m args pre v h1 h2 h3 ρ w h4).mono ?_⟩
  rintro e w' ⟨rfl,g⟩
  refine ⟨rfl,⟨g.os,g.tape,g.output,g.size,fun k hk => ?_⟩⟩
  cases hm : m k with
  | none => exact g.far k hk hm
  | some o => rw [g.sub k o hm,h4 k o hm]
def dmSum (f : FuncId) (dm : Mem → List V → Option (Prop × Mem × V)) : Sum:={ f:=f,s:=fun _ => none,dm:=some dm }
theorem dmSum_ok {f : FuncId} {dm : Mem → List V → Option (Prop × Mem × V)} (hf : ∃ fn,P.funcs[f]? = some fn ∧ fn.body.isSome = true)
    (h : ∀ (m : Mem) (args : List V) (pre : Prop) (M : Mem) (v : V),dm m args = some (pre,M,v) → pre → args.all (V.wf 0) = true → ∀ (ρ : Nat → Nat) (w : World),(∀ a o,m a = some o → w.heap[a]? = some o) →
      Calls P f (args.map (V.den ρ)).toArray w fun e w' => e = .returned (v.den ρ) ∧ MemTo m M w w') : SumOK P (dmSum f dm):=by
  refine ⟨⟨(fun _ h => by cases h),(fun _ h => by cases h),fun dm' e => ?_⟩,.inr ⟨rfl,.inr ⟨rfl,.inr ⟨rfl,hf,fun args bs r ρ w hs hb => by cases hs⟩⟩⟩⟩
  cases e
  exact ⟨hf,fun m args pre M v ρ w h1 h2 h3 h4 => h m args pre M v h1 h2 h3 ρ w h4⟩
end Go.Proofs.Ytnlohongffpkpaa.Sx
end

section
namespace Go.Proofs.Ytnlohongffpkpaa.T16
open Go Go.RowKit Go.Proofs.Ytnlohongffpkpaa.Sx
set_option linter.unusedVariables false
set_option linter.unusedSimpArgs false
def okP : Tr → Prop
  | .leaf (.memo _ _) => True
  | .br b t e => (b = true → okP t) ∧ (b = false → okP e)
  | .req p t => p ∧ okP t
  | .letm m f => okP (f m)
  | _ => False
def outM : Tr → Mem
  | .leaf (.memo _ m) => m
  | .br b t e => match b with | true => outM t | false => outM e
  | .req _ t => outM t
  | .letm m f => outM (f m)
  | _ => noM
def outV : Tr → V
  | .leaf (.memo v _) => v
  | .br b t e => match b with | true => outV t | false => outV e
  | .req _ t => outV t
  | .letm m f => outV (f m)
  | _ => .tup []
theorem okP_sat : ∀ {T : Tr},okP T → T.sat (isMemo fun v m => v = outV T ∧ m = outM T)
  | .leaf (.memo _ _),_ => ⟨rfl,rfl⟩
  | .leaf (.ret _ _ _),h => h.elim
  | .leaf (.out _ _),h => h.elim
  | .leaf (.val _),h => h.elim
  | .leaf (.again _),h => h.elim
  | .leaf (.up _),h => h.elim
  | .br b t e,h => by
    refine ⟨fun hb => ?_,fun hb => ?_⟩
    · subst hb;exact okP_sat (h.1 rfl)
    · subst hb;exact okP_sat (h.2 rfl)
  | .req p t,h => ⟨h.1,okP_sat h.2⟩
  | .letm m f,h => okP_sat (T:=f m) h
  | .any _ _,h => h.elim
  | .lp _ _,h => h.elim
  | .no _,h => h.elim
theorem sat_brT {R : Leaf → Prop} {t e : Tr} : (Tr.br true t e).sat R ↔ t.sat R:=by simp [Tr.sat]
theorem sat_brF {R : Leaf → Prop} {t e : Tr} : (Tr.br false t e).sat R ↔ e.sat R:=by simp [Tr.sat]
theorem sat_req {R : Leaf → Prop} {p : Prop} {t : Tr} : (Tr.req p t).sat R ↔ p ∧ t.sat R:=Iff.rfl
theorem sat_letm {R : Leaf → Prop} {m : Mem} {f : Mem → Tr} : (Tr.letm m f).sat R ↔ (f m).sat R:=Iff.rfl
theorem sat_any {R : Leaf → Prop} {q : Vars → Prop} {f : Vars → Tr} : (Tr.any q f).sat R ↔ ∀ y,q y → (f y).sat R:=Iff.rfl
theorem sat_leaf {R : Leaf → Prop} {l : Leaf} : (Tr.leaf l).sat R ↔ R l:=Iff.rfl
def ptrOf : V → Option Int
  | .u (.c (.np p 0)) => some p
  | .u (.c .nilp) => some 0
  | _ => none
def intOf : V → Option Int
  | .u (.c (.li .i64 n)) => some n
  | .u (.c (.si .i64 n)) => some n
  | _ => none
def booOf : V → Option Bool
  | .u (.c (.lb n)) => some n
  | .u (.c (.sb n)) => some n
  | _ => none
def hanOf : V → Option (Int × Int)
  | .u (.agg [.si .i64 s,.si .u64 g]) => some (s,g)
  | .u (.agg [.li .i64 s,.li .u64 g]) => some (s,g)
  | .u (.agg [.si .i64 s,.li .u64 g]) => some (s,g)
  | .u (.agg [.li .i64 s,.si .u64 g]) => some (s,g)
  | _ => none
def vInt (v : V) : Int:=(intOf v).getD 0
def vBool : V → Bool
  | .u (.c (.lb b)) => b
  | .u (.c (.sb b)) => b
  | _ => false
theorem ptrOf_den {v : V} {p : Int} (h : ptrOf v = some p) (ρ : Nat → Nat) : v.den ρ = V.den ρ (.u (.c (.np p 0))):=by
  unfold ptrOf at h
  split at h
  · cases h;rfl
  · cases h;rfl
  · cases h
theorem intOf_den {v : V} {n : Int} (h : intOf v = some n) (ρ : Nat → Nat) : v.den ρ = V.den ρ (.u (.c (.si .i64 n))):=by
  unfold intOf at h
  split at h
  · cases h;rfl
  · cases h;rfl
  · cases h
theorem booOf_den {v : V} {n : Bool} (h : booOf v = some n) (ρ : Nat → Nat) : v.den ρ = V.den ρ (.u (.c (.sb n))):=by
  unfold booOf at h
  split at h
  · cases h;rfl
  · cases h;rfl
  · cases h
theorem hanOf_den {v : V} {s g : Int} (h : hanOf v = some (s,g)) (ρ : Nat → Nat) : v.den ρ = V.den ρ (.u (.agg [.si .i64 s,.si .u64 g])):=by
  unfold hanOf at h
  split at h
  · cases h;rfl
  · cases h;rfl
  · cases h;rfl
  · cases h;rfl
  · cases h
def allL (p : V → Mem → Prop) : Tr → Prop
  | .leaf (.memo v m) => p v m
  | .br _ t e => allL p t ∧ allL p e
  | .req _ t => allL p t
  | .letm m f => allL p (f m)
  | _ => True
theorem allL_out {p : V → Mem → Prop} : ∀ {T : Tr},allL p T → okP T → p (outV T) (outM T)
  | .leaf (.memo _ _),h,_ => h
  | .leaf (.ret _ _ _),_,h => h.elim
  | .leaf (.out _ _),_,h => h.elim
  | .leaf (.val _),_,h => h.elim
  | .leaf (.again _),_,h => h.elim
  | .leaf (.up _),_,h => h.elim
  | .br b t e,h,ho => by
    cases b
    · exact allL_out (T:=e) h.2 (ho.2 rfl)
    · exact allL_out (T:=t) h.1 (ho.1 rfl)
  | .req p t,h,ho => allL_out (T:=t) h ho.2
  | .letm m f,h,ho => allL_out (T:=f m) h ho
  | .any _ _,_,h => h.elim
  | .lp _ _,_,h => h.elim
  | .no _,_,h => h.elim
theorem dm_calls {P : Program} {S : List Sum} (hN : NameOK P) (hS : ∀ q ∈ S,SumOK P q) {D : DrawX} (hD : DSnd P D) (fuel : Nat) {f : Nat} (args : List V) (m : Mem) (mt : List Nat) {T : Tr} (hT : runm P S D fuel f args m mt = T)
    (ho : okP T) {v : V} {M : Mem} (hm : outM T = M) (ρ : Nat → Nat) (hv : (outV T).den ρ = v.den ρ) (w : World) (hw : ∀ a o,m a = some o → w.heap[a]? = some o) {vs : Array Value} (he : vs = (args.map (V.den ρ)).toArray) :
    Calls P f vs w fun e w' => e = .returned (v.den ρ) ∧ MemTo m M w w':=by
  subst he
  refine (memo_sound hN hS hD fuel args m mt hT (okP_sat ho) ρ w hw).mono ?_
  rintro e w' ⟨v',x,⟨rfl,rfl⟩,rfl,g⟩
  exact ⟨by rw [hv],hm ▸ g⟩
theorem mm_calls {P : Program} {S : List Sum} (hN : NameOK P) (hS : ∀ q ∈ S,SumOK P q) {D : DrawX} (hD : DSnd P D) (fuel : Nat) {f : Nat} (args : List V) (m : Mem) (mt : List Nat) {T : Tr} (hT : runm P S D fuel f args m mt = T)
    {Q : Vars → Prop} {ret : Vars → V} (ρ : Nat → Nat) (h : T.sat (isMemo fun v x => ∃ y,Q y ∧ v.den ρ = (ret y).den ρ ∧ y.m = x)) (w : World) (hw : ∀ a o,m a = some o → w.heap[a]? = some o) {vs : Array Value} (he : vs = (args.map (V.den ρ)).toArray) :
    Calls P f vs w fun e w' => ∃ y,Q y ∧ e = .returned ((ret y).den ρ) ∧ MemTo m y.m w w':=by
  subst he
  refine (memo_sound hN hS hD fuel args m mt hT h ρ w hw).mono ?_
  rintro e w' ⟨v',x,⟨y,h1,h2,rfl⟩,rfl,g⟩
  exact ⟨y,h1,by rw [h2],g⟩
theorem vP_pv {p : Int} (h : 0 ≤ p) : vP (pv p 0) = p:=by
  obtain ⟨n,rfl⟩:=Int.eq_ofNat_of_zero_le h
  cases n with
  | zero => rfl
  | succ k => show ((k : Int) + 1) = _;rfl
theorem isP_pv (p : Int) : isP (pv p 0) = true:=by
  unfold pv;split <;> rfl
theorem nzp_of {p : Int} (h : 0 < p) : nzp p = true:=by
  simp [nzp,Nat.blt_eq];omega
theorem peq_iff {p q : Int} (hp : 0 ≤ p) (hq : 0 ≤ q) : peq p q = true ↔ p = q:=by
  unfold peq
  rw [Nat.beq_eq]
  omega
theorem peq_f {p q : Int} (hp : 0 ≤ p) (hq : 0 ≤ q) : peq p q = false ↔ ¬ p = q:=by
  rw [← peq_iff hp hq];simp
theorem peq_zero {p : Int} (hp : 0 ≤ p) : peq p 0 = decide (p = 0):=by
  by_cases h : p = 0
  · subst h;rfl
  · have:=(peq_f hp (Int.le_refl 0)).2 h
    rw [this];simp [h]
theorem peq_dec {p q : Int} (hp : 0 ≤ p) (hq : 0 ≤ q) : peq p q = decide (p = q):=by
  by_cases h : p = q
  · rw [(peq_iff hp hq).2 h];simp [h]
  · rw [(peq_f hp hq).2 h];simp [h]
theorem cmp_zero (m : Mem) (p : Int) : cmpOK m p 0 = true:=by
  simp [cmpOK]
structure Nd where
  s : Int
  g : Int
  l : Int
  r : Int
  u : Int
  n : Int
  c : Bool
def Nd.cells (d : Nd) : Array Value:=#[.int .i64 d.s,.int .u64 d.g,pv d.l 0,pv d.r 0,pv d.u 0,.int .i64 d.n,.bool d.c]
structure TS where
  t : Nat
  q : Nat
  root : Int
  es : Array MapEntry
  k : Nat
  H : Int → Option Nd
def TS.mem (S : TS) (b : Mem) : Mem:=fun a =>
  if a = S.t then some (.cells #[pv S.root 0,.map (some S.q)] 95 (0,0))
  else if a = S.q then some (.map S.es S.k)
  else match S.H ((a : Int) + 1) with
    | some d => some (.cells d.cells 98 (0,0))
    | none => b a
structure TS.ok (S : TS) : Prop where
  ne : S.t ≠ S.q
  ht : S.H ((S.t : Int) + 1) = none
  hq : S.H ((S.q : Int) + 1) = none
  root : 0 ≤ S.root
  nd : ∀ p d,S.H p = some d → 0 < p ∧ 0 ≤ d.l ∧ 0 ≤ d.r ∧ 0 ≤ d.u
def upd (H : Int → Option Nd) (p : Int) (d : Nd) : Int → Option Nd:=fun q => if q = p then some d else H q
def TS.set (S : TS) (p : Int) (d : Nd) : TS:={ S with H:=upd S.H p d }
def TS.top (S : TS) (p : Int) : TS:={ S with root:=p }
def TS.p (S : TS) : Int:=(S.t : Int) + 1
theorem upd_self (H : Int → Option Nd) (p : Int) (d : Nd) : upd H p d p = some d:=by simp [upd]
theorem upd_ne {H : Int → Option Nd} {p q : Int} (d : Nd) (h : q ≠ p) : upd H p d q = H q:=by simp [upd,h]
section
variable {S : TS} {b : Mem} {p : Int} {d : Nd}
@[simp] theorem set_t : (S.set p d).t = S.t:=rfl
@[simp] theorem set_q : (S.set p d).q = S.q:=rfl
@[simp] theorem set_root : (S.set p d).root = S.root:=rfl
@[simp] theorem set_es : (S.set p d).es = S.es:=rfl
@[simp] theorem set_k : (S.set p d).k = S.k:=rfl
@[simp] theorem set_p : (S.set p d).p = S.p:=rfl
@[simp] theorem set_H : (S.set p d).H = upd S.H p d:=rfl
@[simp] theorem top_t : (S.top p).t = S.t:=rfl
@[simp] theorem top_q : (S.top p).q = S.q:=rfl
@[simp] theorem top_root : (S.top p).root = p:=rfl
@[simp] theorem top_es : (S.top p).es = S.es:=rfl
@[simp] theorem top_k : (S.top p).k = S.k:=rfl
@[simp] theorem top_p : (S.top p).p = S.p:=rfl
@[simp] theorem top_H : (S.top p).H = S.H:=rfl
theorem TS.p_pos : 0 < S.p:=by unfold TS.p;omega
theorem TS.ok.set (h : S.ok) {d0 : Nd} (hp : S.H p = some d0) (hl : 0 ≤ d.l) (hr : 0 ≤ d.r) (hu : 0 ≤ d.u) : (S.set p d).ok:=by
  have h0:=(h.nd p d0 hp).1
  have ne : ∀ q : Int,S.H q = none → q ≠ p:=fun q hq e => by rw [e,hp] at hq;cases hq
  refine ⟨h.ne,?_,?_,h.root,fun q e hq => ?_⟩
  · show upd S.H p d ((S.t : Int) + 1) = none
    rw [upd_ne d (ne _ h.ht)];exact h.ht
  · show upd S.H p d ((S.q : Int) + 1) = none
    rw [upd_ne d (ne _ h.hq)];exact h.hq
  · by_cases e2 : q = p
    · subst e2;rw [set_H,upd_self] at hq;cases hq;exact ⟨h0,hl,hr,hu⟩
    · rw [set_H,upd_ne d e2] at hq;exact h.nd q e hq
theorem TS.ok.top (h : S.ok) (hp : 0 ≤ p) : (S.top p).ok:=⟨h.ne,h.ht,h.hq,hp,h.nd⟩
theorem mget_t (S : TS) (b : Mem) : mget (S.mem b) S.p = some #[pv S.root 0,.map (some S.q)]:=by
  unfold mget TS.p
  rw [show ((S.t : Int) + 1).toNat = S.t + 1 by omega]
  simp [TS.mem]
theorem addr_ne (h : S.ok) (hp : S.H p = some d) : ∃ a : Nat,p = (a : Int) + 1 ∧ a ≠ S.t ∧ a ≠ S.q:=by
  obtain ⟨h0,_⟩:=h.nd p d hp
  refine ⟨p.toNat - 1,by omega,fun e => ?_,fun e => ?_⟩
  · have : p = (S.t : Int) + 1:=by omega
    rw [this,h.ht] at hp;cases hp
  · have : p = (S.q : Int) + 1:=by omega
    rw [this,h.hq] at hp;cases hp
theorem mget_n (h : S.ok) (hp : S.H p = some d) : mget (S.mem b) p = some d.cells:=by
  obtain ⟨a,rfl,h1,h2⟩:=addr_ne h hp
  unfold mget
  rw [show ((a : Int) + 1).toNat = a + 1 by omega]
  simp [TS.mem,h1,h2,hp]
theorem mgetW_t (S : TS) (b : Mem) : mgetW (S.mem b) S.p = some #[pv S.root 0,.map (some S.q)]:=by
  unfold mgetW TS.p
  rw [show ((S.t : Int) + 1).toNat = S.t + 1 by omega]
  simp [TS.mem]
theorem mgetW_n (h : S.ok) (hp : S.H p = some d) : mgetW (S.mem b) p = some d.cells:=by
  obtain ⟨a,rfl,h1,h2⟩:=addr_ne h hp
  unfold mgetW
  rw [show ((a : Int) + 1).toNat = a + 1 by omega]
  simp [TS.mem,h1,h2,hp]
theorem nz_n (h : S.ok) (hp : S.H p = some d) : nzp p = true:=nzp_of (h.nd p d hp).1
theorem nz_t : nzp S.p = true:=nzp_of TS.p_pos
theorem cell_n (h : S.ok) (hp : S.H p = some d) (k : Nat) : mcell (S.mem b) p k = (d.cells[k]?).getD undef:=by
  unfold mcell;rw [mget_n h hp]
theorem gP_l (h : S.ok) (hp : S.H p = some d) : gP (S.mem b) p 2 = d.l:=by
  unfold gP;rw [cell_n h hp];exact vP_pv (h.nd p d hp).2.1
theorem gP_r (h : S.ok) (hp : S.H p = some d) : gP (S.mem b) p 3 = d.r:=by
  unfold gP;rw [cell_n h hp];exact vP_pv (h.nd p d hp).2.2.1
theorem gP_u (h : S.ok) (hp : S.H p = some d) : gP (S.mem b) p 4 = d.u:=by
  unfold gP;rw [cell_n h hp];exact vP_pv (h.nd p d hp).2.2.2
theorem gI_n (h : S.ok) (hp : S.H p = some d) : gI (S.mem b) p 5 = d.n:=by
  unfold gI;rw [cell_n h hp];rfl
theorem gI_s (h : S.ok) (hp : S.H p = some d) : gI (S.mem b) p 0 = d.s:=by
  unfold gI;rw [cell_n h hp];rfl
theorem gI_g (h : S.ok) (hp : S.H p = some d) : gI (S.mem b) p 1 = d.g:=by
  unfold gI;rw [cell_n h hp];rfl
theorem gB_c (h : S.ok) (hp : S.H p = some d) : gB (S.mem b) p 6 = d.c:=by
  unfold gB;rw [cell_n h hp];rfl
theorem gP_t (h : S.ok) : gP (S.mem b) S.p 0 = S.root:=by
  unfold gP mcell;rw [mget_t];exact vP_pv h.root
theorem cell_m : mcell (S.mem b) S.p 1 = .map (some S.q):=by
  unfold mcell;rw [mget_t];rfl
theorem okL_n (h : S.ok) (hp : S.H p = some d) {k : Nat} {zs : List C} (hk : okR d.cells k zs = true) : okL (S.mem b) p k zs = true:=by
  unfold okL;rw [mget_n h hp];exact hk
theorem okR_p (d : Nd) : okR d.cells 2 [.nilp] = true ∧ okR d.cells 3 [.nilp] = true ∧ okR d.cells 4 [.nilp] = true ∧ okR d.cells 5 [.li .i64 0] = true ∧ okR d.cells 6 [.lb false] = true ∧ okR d.cells 0 [.li .i64 0,.li .u64 0] = true:=by
  refine ⟨?_,?_,?_,?_,?_,?_⟩ <;> simp [okR,Nd.cells,okC,isP_pv,isK,isB]
theorem okL_2 (h : S.ok) (hp : S.H p = some d) : okL (S.mem b) p 2 [.nilp] = true:=okL_n h hp (okR_p d).1
theorem okL_3 (h : S.ok) (hp : S.H p = some d) : okL (S.mem b) p 3 [.nilp] = true:=okL_n h hp (okR_p d).2.1
theorem okL_4 (h : S.ok) (hp : S.H p = some d) : okL (S.mem b) p 4 [.nilp] = true:=okL_n h hp (okR_p d).2.2.1
theorem okL_5 (h : S.ok) (hp : S.H p = some d) : okL (S.mem b) p 5 [.li .i64 0] = true:=okL_n h hp (okR_p d).2.2.2.1
theorem okL_6 (h : S.ok) (hp : S.H p = some d) : okL (S.mem b) p 6 [.lb false] = true:=okL_n h hp (okR_p d).2.2.2.2.1
theorem okL_0 (h : S.ok) (hp : S.H p = some d) : okL (S.mem b) p 0 [.li .i64 0,.li .u64 0] = true:=okL_n h hp (okR_p d).2.2.2.2.2
theorem okL_t : okL (S.mem b) S.p 0 [.nilp] = true:=by
  unfold okL;rw [mget_t];simp [okR,okC,isP_pv]
theorem okL_m : okL (S.mem b) S.p 1 [.raw (.map none)] = true:=by
  unfold okL;rw [mget_t];rfl
theorem okS_n (h : S.ok) (hp : S.H p = some d) {k n : Nat} (hk : Nat.ble (k + n) 7 = true) : okS (S.mem b) p k n = true:=by
  unfold okS;rw [mgetW_n h hp];exact hk
theorem okS_t : okS (S.mem b) S.p 0 1 = true:=by
  unfold okS;rw [mgetW_t];rfl
theorem cmp_n (h : S.ok) {p' : Int} {d' : Nd} (hp : S.H p = some d) (hp' : S.H p' = some d') : cmpOK (S.mem b) p p' = true:=by
  unfold cmpOK;rw [mgetW_n h hp,mgetW_n h hp'];simp
def TS.has (S : TS) (p : Int) : Prop:=p = 0 ∨ ∃ d,S.H p = some d
theorem TS.has.nn (h : S.ok) (hp : S.has p) : 0 ≤ p:=by
  rcases hp with rfl | ⟨d,hd⟩
  · exact Int.le_refl 0
  · exact Int.le_of_lt (h.nd p d hd).1
theorem cmp_has (h : S.ok) {p' : Int} (hp : S.has p) (hp' : S.has p') : cmpOK (S.mem b) p p' = true:=by
  rcases hp with rfl | ⟨d,hd⟩
  · simp [cmpOK]
  · rcases hp' with rfl | ⟨d',hd'⟩
    · exact cmp_zero _ _
    · exact cmp_n h hd hd'
theorem wr_n (h : S.ok) {d' : Nd} (hp : S.H p = some d) {k : Nat} {vs : List Value} (hd : putV d.cells k vs = d'.cells) : wrL (S.mem b) p k vs = (S.set p d').mem b:=by
  obtain ⟨a,rfl,h1,h2⟩:=addr_ne h hp
  funext x
  unfold wrL
  rw [show ((a : Int) + 1).toNat = a + 1 by omega]
  by_cases e : x = a
  · subst e
    simp [TS.mem,h1,h2,hp,upd_self,hd]
  · rw [if_neg (by omega)]
    simp only [TS.mem,set_t,set_q,set_root,set_es,set_k,set_H]
    rw [upd_ne d' (show (x : Int) + 1 ≠ (a : Int) + 1 by omega)]
    rfl
theorem wr_l (h : S.ok) (hp : S.H p = some d) (v : Int) : wrL (S.mem b) p 2 [pv v 0] = (S.set p { d with l:=v }).mem b:=wr_n h hp rfl
theorem wr_r (h : S.ok) (hp : S.H p = some d) (v : Int) : wrL (S.mem b) p 3 [pv v 0] = (S.set p { d with r:=v }).mem b:=wr_n h hp rfl
theorem wr_u (h : S.ok) (hp : S.H p = some d) (v : Int) : wrL (S.mem b) p 4 [pv v 0] = (S.set p { d with u:=v }).mem b:=wr_n h hp rfl
theorem wr_sz (h : S.ok) (hp : S.H p = some d) (v : Int) : wrL (S.mem b) p 5 [.int .i64 v] = (S.set p { d with n:=v }).mem b:=wr_n h hp rfl
theorem wr_c (h : S.ok) (hp : S.H p = some d) (v : Bool) : wrL (S.mem b) p 6 [.bool v] = (S.set p { d with c:=v }).mem b:=wr_n h hp rfl
theorem wr_h (h : S.ok) (hp : S.H p = some d) (s g : Int) : wrL (S.mem b) p 0 [.int .i64 s,.int .u64 g] = (S.set p { d with s:=s,g:=g }).mem b:=wr_n h hp rfl
theorem wr_t (h : S.ok) (v : Int) : wrL (S.mem b) S.p 0 [pv v 0] = (S.top v).mem b:=by
  funext x
  unfold wrL TS.p
  rw [show ((S.t : Int) + 1).toNat = S.t + 1 by omega]
  by_cases e : x = S.t
  · subst e
    simp [TS.mem,putV,TS.top]
  · rw [if_neg (by omega)]
    simp [TS.mem,e,TS.top]
    rfl
end
end Go.Proofs.Ytnlohongffpkpaa.T16
end

section
namespace Go.Proofs.Ytnlohongffpkpaa.T16
open Go Go.RowKit Go.Proofs.Ytnlohongffpkpaa.Sx
set_option linter.unusedVariables false
theorem nameOK : NameOK Try.prog:=nameOK_of (by kernel_rfl)
theorem dOK {S : List Sum} (hS : ∀ q ∈ S,SumOK Try.prog q) : DSnd Try.prog (drawx Try.prog S):=drawx_sound nameOK hS (by kernel_rfl)
def T_size (m : Mem) (p : Int) : Tr:=(.br (cmpOK m p 0) (.br (peq p 0) (.leaf (.memo (.u (.c (.li .i64 0))) m)) (.br (nzp p) (.br (nzp p) (.br (okL m p 5 [(.li .i64 0)]) (.leaf (.memo (.u (.c (.si .i64 (gI m p 5)))) m)) (.no 70)) (.no 76)) (.no 75))) (.no 78))
theorem t_size (m : Mem) (p : Int) : runm Try.prog [] (drawx Try.prog []) 300 48 [.u (.c (.np p 0))] m [98] = T_size m p:=by kernel_rfl
def sizeOK (m : Mem) (p : Int) : Prop:=okP (T_size m p)
def sizeV (m : Mem) (p : Int) : Int:=vInt (outV (T_size m p))
theorem size_all (m : Mem) (p : Int) : allL (fun v m' => m' = m ∧ ∀ ρ,V.den ρ v = V.den ρ (.u (.c (.si .i64 (vInt v))))) (T_size m p):=by
  simp only [T_size,allL]
  repeat' (first | exact fun _ => rfl | exact fun _ => trivial | exact trivial | rfl | constructor)
def s_size : Sum:=rdSum 48 fun m a => match a with | [a0] => (match ptrOf a0 with | some p => some (sizeOK m p,.u (.c (.si .i64 (sizeV m p)))) | _ => none) | _ => none
theorem s_size_ok : SumOK Try.prog s_size:=by
  refine rdSum_ok ⟨_,Try.func48,by kernel_rfl⟩ fun m args pre v h hp hw ρ w hm => ?_
  split at h
  · split at h
    · rename_i a0 _  p h0
      cases h
      exact dm_calls nameOK okn (dOK okn) 300 _ m _ (t_size m p) hp (allL_out (size_all m p) hp).1 ρ ((allL_out (size_all m p) hp).2 ρ) w hm (by simp only [List.map_cons,List.map_nil,ptrOf_den h0])
    · cases h
  · cases h
def T_which (m : Mem) (p : Int) : Tr:=(.br (nzp p) (.br (nzp p) (.br (okL m p 4 [.nilp]) (.br (cmpOK m (gP m p 4) 0) (.br (bNot (peq (gP m p 4) 0)) (.br (nzp p) (.br (nzp p) (.br (okL m p 4 [.nilp]) (.br (nzp (gP m p 4)) (.br (nzp (gP m p 4)) (.br (nzp (gP m p 4)) (.br (okL m (gP m p 4) 3 [.nilp]) (.br (cmpOK m (gP m (gP m p 4) 3) p) (.br (peq (gP m (gP m p 4) 3) p) (.leaf (.memo (.u (.c (.li .i64 1))) m)) (.leaf (.memo (.u (.c (.li .i64 0))) m))) (.no 78)) (.no 70)) (.no 81)) (.no 76)) (.no 75)) (.no 70)) (.no 76)) (.no 75)) (.leaf (.memo (.u (.c (.li .i64 0))) m))) (.no 78)) (.no 70)) (.no 76)) (.no 75))
theorem t_which (m : Mem) (p : Int) : runm Try.prog [] (drawx Try.prog []) 300 51 [.u (.c (.np p 0))] m [98] = T_which m p:=by kernel_rfl
def whichOK (m : Mem) (p : Int) : Prop:=okP (T_which m p)
def whichV (m : Mem) (p : Int) : Int:=vInt (outV (T_which m p))
theorem which_all (m : Mem) (p : Int) : allL (fun v m' => m' = m ∧ ∀ ρ,V.den ρ v = V.den ρ (.u (.c (.si .i64 (vInt v))))) (T_which m p):=by
  simp only [T_which,allL]
  repeat' (first | exact fun _ => rfl | exact fun _ => trivial | exact trivial | rfl | constructor)
def s_which : Sum:=rdSum 51 fun m a => match a with | [a0] => (match ptrOf a0 with | some p => some (whichOK m p,.u (.c (.si .i64 (whichV m p)))) | _ => none) | _ => none
theorem s_which_ok : SumOK Try.prog s_which:=by
  refine rdSum_ok ⟨_,Try.func51,by kernel_rfl⟩ fun m args pre v h hp hw ρ w hm => ?_
  split at h
  · split at h
    · rename_i a0 _  p h0
      cases h
      exact dm_calls nameOK okn (dOK okn) 300 _ m _ (t_which m p) hp (allL_out (which_all m p) hp).1 ρ ((allL_out (which_all m p) hp).2 ρ) w hm (by simp only [List.map_cons,List.map_nil,ptrOf_den h0])
    · cases h
  · cases h
def T_red (m : Mem) (p : Int) : Tr:=(.br (cmpOK m p 0) (.br (bNot (peq p 0)) (.br (nzp p) (.br (nzp p) (.br (okL m p 6 [(.lb false)]) (.leaf (.memo (.u (.c (.sb (gB m p 6)))) m)) (.no 70)) (.no 76)) (.no 75)) (.leaf (.memo (.u (.c (.lb false))) m))) (.no 78))
theorem t_red (m : Mem) (p : Int) : runm Try.prog [] (drawx Try.prog []) 300 76 [.u (.c (.np p 0))] m [98] = T_red m p:=by kernel_rfl
def redOK (m : Mem) (p : Int) : Prop:=okP (T_red m p)
def redV (m : Mem) (p : Int) : Bool:=vBool (outV (T_red m p))
theorem red_all (m : Mem) (p : Int) : allL (fun v m' => m' = m ∧ ∀ ρ,V.den ρ v = V.den ρ (.u (.c (.sb (vBool v))))) (T_red m p):=by
  simp only [T_red,allL]
  repeat' (first | exact fun _ => rfl | exact fun _ => trivial | exact trivial | rfl | constructor)
def s_red : Sum:=rdSum 76 fun m a => match a with | [a0] => (match ptrOf a0 with | some p => some (redOK m p,.u (.c (.sb (redV m p)))) | _ => none) | _ => none
theorem s_red_ok : SumOK Try.prog s_red:=by
  refine rdSum_ok ⟨_,Try.func76,by kernel_rfl⟩ fun m args pre v h hp hw ρ w hm => ?_
  split at h
  · split at h
    · rename_i a0 _  p h0
      cases h
      exact dm_calls nameOK okn (dOK okn) 300 _ m _ (t_red m p) hp (allL_out (red_all m p) hp).1 ρ ((allL_out (red_all m p) hp).2 ρ) w hm (by simp only [List.map_cons,List.map_nil,ptrOf_den h0])
    · cases h
  · cases h
def T_hang (m : Mem) (t : Int) (o : Int) (x : Int) : Tr:=(.br (nzp o) (.br (nzp o) (.br (okL m o 4 [.nilp]) (.br (cmpOK m (gP m o 4) 0) (.br (peq (gP m o 4) 0) (.br (nzp t) (.br (nzp t) (.br (okS m t 0 1) (.letm (wrL m t 0 [(pv x 0)]) (fun m1 => (.br (cmpOK m1 x 0) (.br (bNot (peq x 0)) (.br (nzp o) (.br (nzp o) (.br (okL m1 o 4 [.nilp]) (.br (nzp x) (.br (nzp x) (.br (okS m1 x 4 1) (.letm (wrL m1 x 4 [(pv (gP m1 o 4) 0)]) (fun m2 => (.leaf (.memo (.tup []) m2)))) (.no 72)) (.no 76)) (.no 75)) (.no 70)) (.no 76)) (.no 75)) (.leaf (.memo (.tup []) m1))) (.no 78)))) (.no 72)) (.no 76)) (.no 75)) (.br (nzp o) (.br (nzp o) (.br (okL m o 4 [.nilp]) (.req (whichOK m o) (.br (nzp (gP m o 4)) (.br (nzp (gP m o 4)) (.br (nzp (gP m o 4)) (.br (inR (whichV m o) 2) (.br (okS m (gP m o 4) (aOff 2 (whichV m o) 1) 1) (.letm (wrL m (gP m o 4) (aOff 2 (whichV m o) 1) [(pv x 0)]) (fun m1 => (.br (cmpOK m1 x 0) (.br (bNot (peq x 0)) (.br (nzp o) (.br (nzp o) (.br (okL m1 o 4 [.nilp]) (.br (nzp x) (.br (nzp x) (.br (okS m1 x 4 1) (.letm (wrL m1 x 4 [(pv (gP m1 o 4) 0)]) (fun m2 => (.leaf (.memo (.tup []) m2)))) (.no 72)) (.no 76)) (.no 75)) (.no 70)) (.no 76)) (.no 75)) (.leaf (.memo (.tup []) m1))) (.no 78)))) (.no 72)) (.no 82)) (.no 81)) (.no 76)) (.no 75))) (.no 70)) (.no 76)) (.no 75))) (.no 78)) (.no 70)) (.no 76)) (.no 75))
theorem t_hang (m : Mem) (t : Int) (o : Int) (x : Int) : runm Try.prog [s_which] (drawx Try.prog [s_which]) 300 52 [.u (.c (.np t 0)),.u (.c (.np o 0)),.u (.c (.np x 0))] m [98] = T_hang m t o x:=by kernel_rfl
def hangOK (m : Mem) (t : Int) (o : Int) (x : Int) : Prop:=okP (T_hang m t o x)
def hangM (m : Mem) (t : Int) (o : Int) (x : Int) : Mem:=outM (T_hang m t o x)
theorem hang_all (m : Mem) (t : Int) (o : Int) (x : Int) : allL (fun v m' => ∀ ρ,V.den ρ v = V.den ρ (.tup [])) (T_hang m t o x):=by
  simp only [T_hang,allL]
  repeat' (first | exact fun _ => rfl | exact fun _ => trivial | exact trivial | rfl | constructor)
def s_hang : Sum:=dmSum 52 fun m a => match a with | [a0,a1,a2] => (match ptrOf a0,ptrOf a1,ptrOf a2 with | some t,some o,some x => some (hangOK m t o x,hangM m t o x,.tup []) | _,_,_ => none) | _ => none
theorem s_hang_ok : SumOK Try.prog s_hang:=by
  refine dmSum_ok ⟨_,Try.func52,by kernel_rfl⟩ fun m args pre M v h hp hw ρ w hm => ?_
  split at h
  · split at h
    · rename_i a0 a1 a2 _ _ _  t o x h0 h1 h2
      cases h
      exact dm_calls nameOK (okc s_which_ok okn) (dOK (okc s_which_ok okn)) 300 _ m _ (t_hang m t o x) hp rfl ρ ((allL_out (hang_all m t o x) hp) ρ) w hm (by simp only [List.map_cons,List.map_nil,ptrOf_den h0,ptrOf_den h1,ptrOf_den h2])
    · cases h
  · cases h
def T_counts (m : Mem) (p : Int) : Tr:=(.br (nzp p) (.br (nzp p) (.br (nzp p) (.br (okL m p 2 [.nilp]) (.req (sizeOK m (gP m p 2)) (.br (nzp p) (.br (nzp p) (.br (nzp p) (.br (okL m p 3 [.nilp]) (.req (sizeOK m (gP m p 3)) (.br (nzp p) (.br (nzp p) (.br (okS m p 5 1) (.letm (wrL m p 5 [(.int .i64 (iAdd .i64 (iAdd .i64 1 (sizeV m (gP m p 2))) (sizeV m (gP m p 3))))]) (fun m1 => (.leaf (.memo (.tup []) m1)))) (.no 72)) (.no 76)) (.no 75))) (.no 70)) (.no 81)) (.no 76)) (.no 75))) (.no 70)) (.no 81)) (.no 76)) (.no 75))
theorem t_counts (m : Mem) (p : Int) : runm Try.prog [s_size] (drawx Try.prog [s_size]) 300 88 [.u (.c (.np p 0))] m [98] = T_counts m p:=by kernel_rfl
def countsOK (m : Mem) (p : Int) : Prop:=okP (T_counts m p)
def countsM (m : Mem) (p : Int) : Mem:=outM (T_counts m p)
theorem counts_all (m : Mem) (p : Int) : allL (fun v m' => ∀ ρ,V.den ρ v = V.den ρ (.tup [])) (T_counts m p):=by
  simp only [T_counts,allL]
  repeat' (first | exact fun _ => rfl | exact fun _ => trivial | exact trivial | rfl | constructor)
def s_counts : Sum:=dmSum 88 fun m a => match a with | [a0] => (match ptrOf a0 with | some p => some (countsOK m p,countsM m p,.tup []) | _ => none) | _ => none
theorem s_counts_ok : SumOK Try.prog s_counts:=by
  refine dmSum_ok ⟨_,Try.func88,by kernel_rfl⟩ fun m args pre M v h hp hw ρ w hm => ?_
  split at h
  · split at h
    · rename_i a0 _  p h0
      cases h
      exact dm_calls nameOK (okc s_size_ok okn) (dOK (okc s_size_ok okn)) 300 _ m _ (t_counts m p) hp rfl ρ ((allL_out (counts_all m p) hp) ρ) w hm (by simp only [List.map_cons,List.map_nil,ptrOf_den h0])
    · cases h
  · cases h
def T_turn (m : Mem) (t : Int) (x : Int) (s : Int) : Tr:=(.br (nzp x) (.br (nzp x) (.br (nzp x) (.br (inR (iSub .i64 1 s) 2) (.br (okL m x (aOff 2 (iSub .i64 1 s) 1) [.nilp]) (.req (hangOK m t x (gP m x (aOff 2 (iSub .i64 1 s) 1))) (.letm (hangM m t x (gP m x (aOff 2 (iSub .i64 1 s) 1))) (fun m1 => (.br (nzp (gP m x (aOff 2 (iSub .i64 1 s) 1))) (.br (nzp (gP m x (aOff 2 (iSub .i64 1 s) 1))) (.br (nzp (gP m x (aOff 2 (iSub .i64 1 s) 1))) (.br (inR s 2) (.br (okL m1 (gP m x (aOff 2 (iSub .i64 1 s) 1)) (aOff 2 s 1) [.nilp]) (.br (nzp x) (.br (nzp x) (.br (nzp x) (.br (inR (iSub .i64 1 s) 2) (.br (okS m1 x (aOff 2 (iSub .i64 1 s) 1) 1) (.letm (wrL m1 x (aOff 2 (iSub .i64 1 s) 1) [(pv (gP m1 (gP m x (aOff 2 (iSub .i64 1 s) 1)) (aOff 2 s 1)) 0)]) (fun m2 => (.br (nzp (gP m x (aOff 2 (iSub .i64 1 s) 1))) (.br (nzp (gP m x (aOff 2 (iSub .i64 1 s) 1))) (.br (nzp (gP m x (aOff 2 (iSub .i64 1 s) 1))) (.br (inR s 2) (.br (okL m2 (gP m x (aOff 2 (iSub .i64 1 s) 1)) (aOff 2 s 1) [.nilp]) (.br (cmpOK m2 (gP m2 (gP m x (aOff 2 (iSub .i64 1 s) 1)) (aOff 2 s 1)) 0) (.br (bNot (peq (gP m2 (gP m x (aOff 2 (iSub .i64 1 s) 1)) (aOff 2 s 1)) 0)) (.br (nzp (gP m x (aOff 2 (iSub .i64 1 s) 1))) (.br (nzp (gP m x (aOff 2 (iSub .i64 1 s) 1))) (.br (nzp (gP m x (aOff 2 (iSub .i64 1 s) 1))) (.br (inR s 2) (.br (okL m2 (gP m x (aOff 2 (iSub .i64 1 s) 1)) (aOff 2 s 1) [.nilp]) (.br (nzp (gP m2 (gP m x (aOff 2 (iSub .i64 1 s) 1)) (aOff 2 s 1))) (.br (nzp (gP m2 (gP m x (aOff 2 (iSub .i64 1 s) 1)) (aOff 2 s 1))) (.br (okS m2 (gP m2 (gP m x (aOff 2 (iSub .i64 1 s) 1)) (aOff 2 s 1)) 4 1) (.letm (wrL m2 (gP m2 (gP m x (aOff 2 (iSub .i64 1 s) 1)) (aOff 2 s 1)) 4 [(pv x 0)]) (fun m3 => (.br (nzp (gP m x (aOff 2 (iSub .i64 1 s) 1))) (.br (nzp (gP m x (aOff 2 (iSub .i64 1 s) 1))) (.br (nzp (gP m x (aOff 2 (iSub .i64 1 s) 1))) (.br (inR s 2) (.br (okS m3 (gP m x (aOff 2 (iSub .i64 1 s) 1)) (aOff 2 s 1) 1) (.letm (wrL m3 (gP m x (aOff 2 (iSub .i64 1 s) 1)) (aOff 2 s 1) [(pv x 0)]) (fun m4 => (.br (nzp x) (.br (nzp x) (.br (okS m4 x 4 1) (.letm (wrL m4 x 4 [(pv (gP m x (aOff 2 (iSub .i64 1 s) 1)) 0)]) (fun m5 => (.req (countsOK m5 x) (.letm (countsM m5 x) (fun m6 => (.req (countsOK m6 (gP m x (aOff 2 (iSub .i64 1 s) 1))) (.letm (countsM m6 (gP m x (aOff 2 (iSub .i64 1 s) 1))) (fun m7 => (.leaf (.memo (.tup []) m7)))))))))) (.no 72)) (.no 76)) (.no 75)))) (.no 72)) (.no 82)) (.no 81)) (.no 76)) (.no 75)))) (.no 72)) (.no 76)) (.no 75)) (.no 70)) (.no 82)) (.no 81)) (.no 76)) (.no 75)) (.br (nzp (gP m x (aOff 2 (iSub .i64 1 s) 1))) (.br (nzp (gP m x (aOff 2 (iSub .i64 1 s) 1))) (.br (nzp (gP m x (aOff 2 (iSub .i64 1 s) 1))) (.br (inR s 2) (.br (okS m2 (gP m x (aOff 2 (iSub .i64 1 s) 1)) (aOff 2 s 1) 1) (.letm (wrL m2 (gP m x (aOff 2 (iSub .i64 1 s) 1)) (aOff 2 s 1) [(pv x 0)]) (fun m3 => (.br (nzp x) (.br (nzp x) (.br (okS m3 x 4 1) (.letm (wrL m3 x 4 [(pv (gP m x (aOff 2 (iSub .i64 1 s) 1)) 0)]) (fun m4 => (.req (countsOK m4 x) (.letm (countsM m4 x) (fun m5 => (.req (countsOK m5 (gP m x (aOff 2 (iSub .i64 1 s) 1))) (.letm (countsM m5 (gP m x (aOff 2 (iSub .i64 1 s) 1))) (fun m6 => (.leaf (.memo (.tup []) m6)))))))))) (.no 72)) (.no 76)) (.no 75)))) (.no 72)) (.no 82)) (.no 81)) (.no 76)) (.no 75))) (.no 78)) (.no 70)) (.no 82)) (.no 81)) (.no 76)) (.no 75)))) (.no 72)) (.no 82)) (.no 81)) (.no 76)) (.no 75)) (.no 70)) (.no 82)) (.no 81)) (.no 76)) (.no 75))))) (.no 70)) (.no 82)) (.no 81)) (.no 76)) (.no 75))
theorem t_turn (m : Mem) (t : Int) (x : Int) (s : Int) : runm Try.prog [s_hang,s_counts] (drawx Try.prog [s_hang,s_counts]) 300 77 [.u (.c (.np t 0)),.u (.c (.np x 0)),.u (.c (.si .i64 s))] m [98] = T_turn m t x s:=by kernel_rfl
def turnOK (m : Mem) (t : Int) (x : Int) (s : Int) : Prop:=okP (T_turn m t x s)
def turnM (m : Mem) (t : Int) (x : Int) (s : Int) : Mem:=outM (T_turn m t x s)
theorem turn_all (m : Mem) (t : Int) (x : Int) (s : Int) : allL (fun v m' => ∀ ρ,V.den ρ v = V.den ρ (.tup [])) (T_turn m t x s):=by
  simp only [T_turn,allL]
  repeat' (first | exact fun _ => rfl | exact fun _ => trivial | exact trivial | rfl | constructor)
def s_turn : Sum:=dmSum 77 fun m a => match a with | [a0,a1,a2] => (match ptrOf a0,ptrOf a1,intOf a2 with | some t,some x,some s => some (turnOK m t x s,turnM m t x s,.tup []) | _,_,_ => none) | _ => none
theorem s_turn_ok : SumOK Try.prog s_turn:=by
  refine dmSum_ok ⟨_,Try.func77,by kernel_rfl⟩ fun m args pre M v h hp hw ρ w hm => ?_
  split at h
  · split at h
    · rename_i a0 a1 a2 _ _ _  t x s h0 h1 h2
      cases h
      exact dm_calls nameOK (okc s_hang_ok (okc s_counts_ok okn)) (dOK (okc s_hang_ok (okc s_counts_ok okn))) 300 _ m _ (t_turn m t x s) hp rfl ρ ((allL_out (turn_all m t x s) hp) ρ) w hm (by simp only [List.map_cons,List.map_nil,ptrOf_den h0,ptrOf_den h1,intOf_den h2])
    · cases h
  · cases h
def T_len (m : Mem) (t : Int) : Tr:=(.br (cmpOK m t 0) (.br (peq t 0) (.leaf (.memo (.u (.c (.li .i64 0))) m)) (.br (nzp t) (.br (nzp t) (.br (okL m t 0 [.nilp]) (.req (sizeOK m (gP m t 0)) (.leaf (.memo (.u (.c (.si .i64 (sizeV m (gP m t 0))))) m))) (.no 70)) (.no 76)) (.no 75))) (.no 78))
theorem t_len (m : Mem) (t : Int) : runm Try.prog [s_size] (drawx Try.prog [s_size]) 300 15 [.u (.c (.np t 0))] m [98] = T_len m t:=by kernel_rfl
def lenOK (m : Mem) (t : Int) : Prop:=okP (T_len m t)
def lenV (m : Mem) (t : Int) : Int:=vInt (outV (T_len m t))
theorem len_all (m : Mem) (t : Int) : allL (fun v m' => m' = m ∧ ∀ ρ,V.den ρ v = V.den ρ (.u (.c (.si .i64 (vInt v))))) (T_len m t):=by
  simp only [T_len,allL]
  repeat' (first | exact fun _ => rfl | exact fun _ => trivial | exact trivial | rfl | constructor)
def s_len : Sum:=rdSum 15 fun m a => match a with | [a0] => (match ptrOf a0 with | some t => some (lenOK m t,.u (.c (.si .i64 (lenV m t)))) | _ => none) | _ => none
theorem s_len_ok : SumOK Try.prog s_len:=by
  refine rdSum_ok ⟨_,Try.func15,by kernel_rfl⟩ fun m args pre v h hp hw ρ w hm => ?_
  split at h
  · split at h
    · rename_i a0 _  t h0
      cases h
      exact dm_calls nameOK (okc s_size_ok okn) (dOK (okc s_size_ok okn)) 300 _ m _ (t_len m t) hp (allL_out (len_all m t) hp).1 ρ ((allL_out (len_all m t) hp).2 ρ) w hm (by simp only [List.map_cons,List.map_nil,ptrOf_den h0])
    · cases h
  · cases h
end Go.Proofs.Ytnlohongffpkpaa.T16
end

section
namespace Go.Proofs.Ytnlohongffpkpaa.T16
open Go Go.RowKit Go.Proofs.Ytnlohongffpkpaa.Sx
set_option linter.unusedVariables false
set_option linter.unusedSimpArgs false
def bi (i : Bool) : Int:=match i with | true => 1 | false => 0
def Nd.ch (d : Nd) (i : Bool) : Int:=match i with | true => d.r | false => d.l
def Nd.wch (d : Nd) (i : Bool) (v : Int) : Nd:=match i with | true => { d with r:=v } | false => { d with l:=v }
def bOff (i : Bool) : Nat:=match i with | true => 3 | false => 2
theorem aOff_bi (i : Bool) : aOff 2 (bi i) 1 = bOff i:=by cases i <;> rfl
theorem sub_bi (i : Bool) : iSub .i64 1 (bi i) = bi (!i):=by cases i <;> rfl
theorem inR_bi (i : Bool) : inR (bi i) 2 = true:=by cases i <;> rfl
theorem bNot_t : bNot true = false:=rfl
theorem bNot_f : bNot false = true:=rfl
def TS.sz (S : TS) (p : Int) : Int:=match S.H p with | some d => d.n | none => 0
section
variable {S : TS} {b : Mem} {p : Int} {d : Nd}
theorem H_zero (h : S.ok) : S.H 0 = none:=by
  cases e : S.H 0 with
  | none => rfl
  | some d => have:=(h.nd 0 d e).1;omega
theorem gP_ch (h : S.ok) (hp : S.H p = some d) (i : Bool) : gP (S.mem b) p (bOff i) = d.ch i:=by
  cases i
  · exact gP_l h hp
  · exact gP_r h hp
theorem okL_ch (h : S.ok) (hp : S.H p = some d) (i : Bool) : okL (S.mem b) p (bOff i) [.nilp] = true:=by
  cases i
  · exact okL_2 h hp
  · exact okL_3 h hp
theorem okS_ch (h : S.ok) (hp : S.H p = some d) (i : Bool) : okS (S.mem b) p (bOff i) 1 = true:=by
  cases i <;> exact okS_n h hp rfl
theorem wr_ch (h : S.ok) (hp : S.H p = some d) (i : Bool) (v : Int) : wrL (S.mem b) p (bOff i) [pv v 0] = (S.set p (d.wch i v)).mem b:=by
  cases i
  · exact wr_l h hp v
  · exact wr_r h hp v
theorem ch_nn (h : S.ok) (hp : S.H p = some d) (i : Bool) : 0 ≤ d.ch i:=by
  obtain ⟨_,h1,h2,_⟩:=h.nd p d hp
  cases i
  · exact h1
  · exact h2
theorem u_nn (h : S.ok) (hp : S.H p = some d) : 0 ≤ d.u:=(h.nd p d hp).2.2.2
theorem p_ne0 (h : S.ok) (hp : S.H p = some d) : p ≠ 0:=by have:=(h.nd p d hp).1;omega
theorem TS.ok.wch (h : S.ok) (hp : S.H p = some d) (i : Bool) {v : Int} (hv : 0 ≤ v) : (S.set p (d.wch i v)).ok:=by
  obtain ⟨_,h1,h2,h3⟩:=h.nd p d hp
  cases i
  · exact h.set hp hv h2 h3
  · exact h.set hp h1 hv h3
theorem TS.ok.wu (h : S.ok) (hp : S.H p = some d) {v : Int} (hv : 0 ≤ v) : (S.set p { d with u:=v }).ok:=by
  obtain ⟨_,h1,h2,h3⟩:=h.nd p d hp
  exact h.set hp h1 h2 hv
theorem TS.ok.wc (h : S.ok) (hp : S.H p = some d) (v : Bool) : (S.set p { d with c:=v }).ok:=by
  obtain ⟨_,h1,h2,h3⟩:=h.nd p d hp
  exact h.set hp h1 h2 h3
theorem TS.ok.wn (h : S.ok) (hp : S.H p = some d) (v : Int) : (S.set p { d with n:=v }).ok:=by
  obtain ⟨_,h1,h2,h3⟩:=h.nd p d hp
  exact h.set hp h1 h2 h3
theorem TS.ok.wh (h : S.ok) (hp : S.H p = some d) (s g : Int) : (S.set p { d with s:=s,g:=g }).ok:=by
  obtain ⟨_,h1,h2,h3⟩:=h.nd p d hp
  exact h.set hp h1 h2 h3
theorem size_spec (h : S.ok) (hp : S.has p) : sizeOK (S.mem b) p ∧ sizeV (S.mem b) p = S.sz p:=by
  rcases hp with rfl | ⟨d,hd⟩
  · simp [sizeOK,sizeV,T_size,okP,outV,cmp_zero,peq_zero,vInt,intOf,TS.sz,H_zero h]
  · have h0 : p ≠ 0:=p_ne0 h hd
    have hnn : 0 ≤ p:=Int.le_of_lt (h.nd p d hd).1
    simp [sizeOK,sizeV,T_size,okP,outV,cmp_zero,peq_zero hnn,h0,vInt,intOf,TS.sz,hd,nz_n h hd,okL_5 h hd,gI_n h hd]
theorem red_spec (h : S.ok) (hp : S.has p) : redOK (S.mem b) p ∧ redV (S.mem b) p = (match S.H p with | some d => d.c | none => false):=by
  rcases hp with rfl | ⟨d,hd⟩
  · simp [redOK,redV,T_red,okP,outV,cmp_zero,peq_zero,bNot,vBool,H_zero h]
  · have h0 : p ≠ 0:=p_ne0 h hd
    have hnn : 0 ≤ p:=Int.le_of_lt (h.nd p d hd).1
    simp [redOK,redV,T_red,okP,outV,cmp_zero,peq_zero hnn,h0,bNot,vBool,hd,nz_n h hd,okL_6 h hd,gB_c h hd]
theorem which_top (h : S.ok) (hp : S.H p = some d) (hu : d.u = 0) : whichOK (S.mem b) p ∧ whichV (S.mem b) p = 0:=by
  simp [whichOK,whichV,T_which,okP,outV,cmp_zero,nz_n h hp,okL_4 h hp,gP_u h hp,hu,peq_zero,bNot,vInt,intOf]
theorem which_spec (h : S.ok) (hp : S.H p = some d) {du : Nd} (hu : S.H d.u = some du) (hr : S.has du.r) : whichOK (S.mem b) p ∧ whichV (S.mem b) p = bi (decide (du.r = p)):=by
  have h0 : d.u ≠ 0:=p_ne0 h hu
  have hnn:=u_nn h hp
  have hrn : 0 ≤ du.r:=ch_nn h hu true
  have hpn : 0 ≤ p:=Int.le_of_lt (h.nd p d hp).1
  have hc : cmpOK (S.mem b) du.r p = true:=cmp_has h hr (.inr ⟨d,hp⟩)
  have h1 : peq d.u 0 = false:=by rw [peq_zero hnn];simp [h0]
  have h2 : peq du.r p = decide (du.r = p):=peq_dec hrn hpn
  unfold whichOK whichV T_which
  simp only [okP,outV,cmp_zero,nz_n h hp,okL_4 h hp,gP_u h hp,h1,bNot_f,nz_n h hu,okL_3 h hu,gP_r h hu,hc,h2]
  by_cases e : du.r = p
  · simp [e,vInt,intOf,bi]
  · simp [e,vInt,intOf,bi]
def TS.hg (S : TS) (o : Int) (d : Nd) (x : Int) : TS:=if d.u = 0 then S.top x else match S.H d.u with | some du => S.set d.u (du.wch (decide (du.r = o)) x) | none => S
def TS.up (S : TS) (x u : Int) : TS:=match S.H x with | some dx => S.set x { dx with u:=u } | none => S
def TS.hang (S : TS) (o : Int) (d : Nd) (x : Int) : TS:=(S.hg o d x).up x d.u
theorem hang_tail {S1 : TS} {o x : Int} {d1 : Nd} {M : Mem} (h1 : S1.ok) (ho : S1.H o = some d1) (hx : S1.has x) :
    let T:=Tr.br (cmpOK (S1.mem b) x 0) (.br (bNot (peq x 0)) (.br (nzp o) (.br (nzp o) (.br (okL (S1.mem b) o 4 [.nilp]) (.br (nzp x) (.br (nzp x) (.br (okS (S1.mem b) x 4 1) (.letm (wrL (S1.mem b) x 4 [(pv (gP (S1.mem b) o 4) 0)]) (fun m2 => (.leaf (.memo (.tup []) m2)))) (.no 72)) (.no 76)) (.no 75)) (.no 70)) (.no 76)) (.no 75)) (.leaf (.memo (.tup []) (S1.mem b)))) (.no 78)
    okP T ∧ outM T = (S1.up x d1.u).mem b ∧ (S1.up x d1.u).ok:=by
  rcases hx with rfl | ⟨dx,hdx⟩
  · have : S1.up 0 d1.u = S1:=by simp [TS.up,H_zero h1]
    rw [this]
    simp [okP,outM,cmp_zero,peq_zero,bNot,h1]
  · have hn : 0 ≤ x:=Int.le_of_lt (h1.nd x dx hdx).1
    have h2 : peq x 0 = false:=by rw [peq_zero hn];simp [p_ne0 h1 hdx]
    have : S1.up x d1.u = S1.set x { dx with u:=d1.u }:=by simp [TS.up,hdx]
    rw [this]
    simp only [okP,outM,cmp_zero,h2,bNot_f,nz_n h1 ho,nz_n h1 hdx,okL_4 h1 ho,okS_n h1 hdx (show Nat.ble (4 + 1) 7 = true from rfl),gP_u h1 ho,wr_u h1 hdx]
    exact ⟨by simp,trivial,h1.wu hdx (u_nn h1 ho)⟩
theorem hang_spec (h : S.ok) {o x : Int} (ho : S.H o = some d) (hx : S.has x) (hu : d.u = 0 ∨ ∃ du,S.H d.u = some du ∧ S.has du.r) (hne : d.u ≠ o) :
    hangOK (S.mem b) S.p o x ∧ hangM (S.mem b) S.p o x = (S.hang o d x).mem b ∧ (S.hang o d x).ok:=by
  have hxn:=TS.has.nn h hx
  unfold hangOK hangM T_hang
  rcases hu with hu | ⟨du,hu,hr⟩
  · have h1 : (S.top x).ok:=h.top hxn
    have e : S.hang o d x = (S.top x).up x d.u:=by simp [TS.hang,TS.hg,hu]
    rw [e]
    obtain ⟨g1,g2,g3⟩:=hang_tail (b:=b) (o:=o) (x:=x) (d1:=d) (M:=noM) h1 ho (by rcases hx with h0 | ⟨dx,hx⟩;exact .inl h0;exact .inr ⟨dx,hx⟩)
    have hp0 : peq d.u 0 = true:=by rw [hu];rfl
    simp only [okP,outM,cmp_zero,nz_n h ho,okL_4 h ho,gP_u h ho,hp0,nz_t,okS_t,wr_t h] at g1 g2 ⊢
    refine ⟨?_,g2,g3⟩
    simpa using g1
  · have h0 : d.u ≠ 0:=p_ne0 h hu
    have hp0 : peq d.u 0 = false:=by rw [peq_zero (u_nn h ho)];simp [h0]
    obtain ⟨w1,w2⟩:=which_spec (b:=b) h ho hu hr
    have h1 : (S.set d.u (du.wch (decide (du.r = o)) x)).ok:=h.wch hu _ hxn
    have ho1 : (S.set d.u (du.wch (decide (du.r = o)) x)).H o = some d:=by rw [set_H,upd_ne _ (Ne.symm hne)];exact ho
    have hx1 : (S.set d.u (du.wch (decide (du.r = o)) x)).has x:=by
      rcases hx with h0 | ⟨dx,hx⟩
      · exact .inl h0
      · by_cases e : x = d.u
        · subst e;exact .inr ⟨_,by rw [set_H,upd_self]⟩
        · exact .inr ⟨dx,by rw [set_H,upd_ne _ e];exact hx⟩
    have e : S.hang o d x = (S.set d.u (du.wch (decide (du.r = o)) x)).up x d.u:=by simp [TS.hang,TS.hg,h0,hu]
    rw [e]
    obtain ⟨g1,g2,g3⟩:=hang_tail (b:=b) (o:=o) (x:=x) (d1:=d) (M:=noM) h1 ho1 hx1
    simp only [okP,outM,cmp_zero,nz_n h ho,okL_4 h ho,gP_u h ho,hp0,nz_n h hu,w2,aOff_bi,inR_bi,okS_ch h hu,wr_ch h hu] at g1 g2 ⊢
    refine ⟨?_,g2,g3⟩
    simpa [w1] using g1
theorem counts_spec (h : S.ok) (hp : S.H p = some d) (hl : S.has d.l) (hr : S.has d.r) (hb1 : 0 ≤ S.sz d.l) (hb2 : 0 ≤ S.sz d.r) (hb3 : S.sz d.l + S.sz d.r < 4611686018427387904) :
    countsOK (S.mem b) p ∧ countsM (S.mem b) p = (S.set p { d with n:=1 + S.sz d.l + S.sz d.r }).mem b ∧ (S.set p { d with n:=1 + S.sz d.l + S.sz d.r }).ok:=by
  obtain ⟨l1,l2⟩:=size_spec (b:=b) h hl
  obtain ⟨r1,r2⟩:=size_spec (b:=b) h hr
  have ea : iAdd .i64 (iAdd .i64 1 (S.sz d.l)) (S.sz d.r) = 1 + S.sz d.l + S.sz d.r:=by
    rw [add_i,add_i];omega
  unfold countsOK countsM T_counts
  simp only [okP,outM,nz_n h hp,okL_2 h hp,okL_3 h hp,gP_l h hp,gP_r h hp,l2,r2,okS_n h hp (show Nat.ble (5 + 1) 7 = true from rfl),ea,wr_sz h hp]
  exact ⟨by simp [l1,r1],trivial,h.wn hp _⟩
end
end Go.Proofs.Ytnlohongffpkpaa.T16
end

section
namespace Go.Proofs.Ytnlohongffpkpaa.T16
open Go Go.RowKit Go.Proofs.Ytnlohongffpkpaa.Sx
set_option linter.unusedVariables false
set_option linter.unusedSimpArgs false
section
variable {S : TS} {b : Mem} {p : Int} {d : Nd}
theorem sz_set (S : TS) (p : Int) (d : Nd) (q : Int) : (S.set p d).sz q = if q = p then d.n else S.sz q:=by
  unfold TS.sz
  rw [set_H]
  by_cases e : q = p
  · subst e;rw [upd_self,if_pos rfl]
  · rw [upd_ne d e,if_neg e]
theorem sz_keep {d0 : Nd} (hp : S.H p = some d0) (hn : d.n = d0.n) (q : Int) : (S.set p d).sz q = S.sz q:=by
  rw [sz_set]
  split
  · rename_i e;subst e;unfold TS.sz;rw [hp,hn]
  · rfl
theorem has_set {q : Int} (h : S.has q) : (S.set p d).has q:=by
  rcases h with h | ⟨e,h⟩
  · exact .inl h
  · by_cases e2 : q = p
    · subst e2;exact .inr ⟨d,by rw [set_H,upd_self]⟩
    · exact .inr ⟨e,by rw [set_H,upd_ne d e2];exact h⟩
theorem wch_n (d : Nd) (i : Bool) (v : Int) : (d.wch i v).n = d.n:=by cases i <;> rfl
theorem hang_at (h : S.ok) {o x : Int} (ho : S.H o = some d) (hx : S.has x) (hu : d.u = 0 ∨ ∃ du,S.H d.u = some du ∧ S.has du.r) (hne : d.u ≠ o) (hxu : d.u ≠ 0 → x ≠ d.u) :
    let S':=S.hang o d x
    S'.t = S.t ∧ S'.q = S.q ∧ S'.es = S.es ∧ S'.k = S.k ∧ S'.root = (if d.u = 0 then x else S.root) ∧ (∀ dx,S.H x = some dx → S'.H x = some { dx with u:=d.u }) ∧
    (∀ du,S.H d.u = some du → S'.H d.u = some (du.wch (decide (du.r = o)) x)) ∧ (∀ q,q ≠ x → q ≠ d.u → S'.H q = S.H q) ∧ (∀ q,S'.sz q = S.sz q) ∧ (∀ q,S.has q → S'.has q):=by
  intro S'
  have hS' : S' = (S.hg o d x).up x d.u:=rfl
  have key : ∀ S1 : TS,S1.ok → S1.H x = S.H x →
      (S1.up x d.u).t = S1.t ∧ (S1.up x d.u).q = S1.q ∧ (S1.up x d.u).es = S1.es ∧ (S1.up x d.u).k = S1.k ∧ (S1.up x d.u).root = S1.root ∧ (∀ dx,S.H x = some dx → (S1.up x d.u).H x = some { dx with u:=d.u }) ∧
      (∀ q,q ≠ x → (S1.up x d.u).H q = S1.H q) ∧ (∀ q,(S1.up x d.u).sz q = S1.sz q) ∧ (∀ q,S1.has q → (S1.up x d.u).has q):=by
    intro S1 h1 he
    cases hh : S1.H x with
    | none =>
      have : S1.up x d.u = S1:=by simp [TS.up,hh]
      rw [this]
      exact ⟨rfl,rfl,rfl,rfl,rfl,(fun dx hdx => by rw [he,hdx] at hh;cases hh),fun _ _ => rfl,fun _ => rfl,fun _ h => h⟩
    | some dx =>
      have : S1.up x d.u = S1.set x { dx with u:=d.u }:=by simp [TS.up,hh]
      rw [this]
      refine ⟨rfl,rfl,rfl,rfl,rfl,fun dx' hdx => ?_,fun q hq => by rw [set_H,upd_ne _ hq],fun q => sz_keep (d:={ dx with u:=d.u }) hh rfl q,fun q h => has_set h⟩
      rw [he,hdx] at hh;cases hh;rw [set_H,upd_self]
  rcases hu with hu | ⟨du,hu,hr⟩
  · have e1 : S.hg o d x = S.top x:=by simp [TS.hg,hu]
    rw [hS',e1]
    obtain ⟨k1,k2,k3,k4,k5,k6,k7,k8,k9⟩:=key (S.top x) (h.top (TS.has.nn h hx)) rfl
    refine ⟨k1,k2,k3,k4,by rw [k5,if_pos hu];rfl,k6,fun du hdu => ?_,fun q hq _ => k7 q hq,k8,fun q hq => k9 q hq⟩
    rw [hu,H_zero h] at hdu;cases hdu
  · have h0 : d.u ≠ 0:=p_ne0 h hu
    have e1 : S.hg o d x = S.set d.u (du.wch (decide (du.r = o)) x):=by simp [TS.hg,h0,hu]
    rw [hS',e1]
    obtain ⟨k1,k2,k3,k4,k5,k6,k7,k8,k9⟩:=key (S.set d.u (du.wch (decide (du.r = o)) x)) (h.wch hu _ (TS.has.nn h hx)) (by rw [set_H,upd_ne _ (hxu h0)])
    refine ⟨k1,k2,k3,k4,by rw [k5,if_neg h0];rfl,k6,fun du' hdu => ?_,fun q hq hqu => ?_,fun q => ?_,fun q hq => k9 q (has_set hq)⟩
    · rw [hu] at hdu;cases hdu
      rw [k7 d.u (Ne.symm (hxu h0)),set_H,upd_self]
    · rw [k7 q hq,set_H,upd_ne _ hqu]
    · rw [k8,sz_keep hu (wch_n _ _ _)]
theorem turn_spec (h : S.ok) (i : Bool) {x : Int} {dx dy : Nd} (hx : S.H x = some dx) (hy : S.H (dx.ch (!i)) = some dy) (hm : S.has (dy.ch i)) (hu : dx.u = 0 ∨ ∃ du,S.H dx.u = some du ∧ S.has du.r)
    (ha : S.has (dx.ch i)) (hc : S.has (dy.ch (!i))) (nxy : x ≠ dx.ch (!i)) (nmx : dy.ch i ≠ x) (nmy : dy.ch i ≠ dx.ch (!i)) (nux : dx.u ≠ x) (nuy : dx.u ≠ dx.ch (!i)) (num : dx.u ≠ 0 → dy.ch i ≠ dx.u) (ncx : dy.ch (!i) ≠ x)
    (b1 : 0 ≤ S.sz (dx.ch i)) (b2 : 0 ≤ S.sz (dy.ch i)) (b3 : 0 ≤ S.sz (dy.ch (!i))) (b4 : S.sz (dx.ch i) + S.sz (dy.ch i) + S.sz (dy.ch (!i)) < 2305843009213693952) :
    turnOK (S.mem b) S.p x (bi i) ∧ ∃ S' : TS,turnM (S.mem b) S.p x (bi i) = S'.mem b ∧ S'.ok ∧ S'.t = S.t ∧ S'.q = S.q ∧ S'.es = S.es ∧ S'.k = S.k ∧ S'.root = (if dx.u = 0 then dx.ch (!i) else S.root) ∧
      S'.H x = some { dx.wch (!i) (dy.ch i) with u:=dx.ch (!i),n:=1 + S.sz (dx.ch i) + S.sz (dy.ch i) } ∧
      S'.H (dx.ch (!i)) = some { dy.wch i x with u:=dx.u,n:=2 + S.sz (dx.ch i) + S.sz (dy.ch i) + S.sz (dy.ch (!i)) } ∧
      (∀ dm,S.H (dy.ch i) = some dm → S'.H (dy.ch i) = some { dm with u:=x }) ∧ (∀ du,S.H dx.u = some du → S'.H dx.u = some (du.wch (decide (du.r = x)) (dx.ch (!i)))) ∧
      ∀ q,q ≠ x → q ≠ dx.ch (!i) → q ≠ dy.ch i → q ≠ dx.u → S'.H q = S.H q:=by
  generalize hyy : dx.ch (!i) = y at *
  generalize hmm : dy.ch i = m at *
  have hyn : 0 < y:=(h.nd y dy hy).1
  have hxn : 0 < x:=(h.nd x dx hx).1
  have hmn : 0 ≤ m:=TS.has.nn h hm
  obtain ⟨g1,g2,g3⟩:=hang_spec (b:=b) h hx (.inr ⟨dy,hy⟩) hu nux
  obtain ⟨f1,f2,f3,f4,f5,f6,f7,f8,f9,f10⟩:=hang_at h hx (.inr ⟨dy,hy⟩) hu nux (fun _ => Ne.symm nuy)
  generalize hS1 : S.hang x dx y = S1 at *
  have x1 : S1.H x = some dx:=by rw [f8 x nxy (Ne.symm nux)];exact hx
  have y1 : S1.H y = some { dy with u:=dx.u }:=f6 dy hy
  have p1 : S1.p = S.p:=by unfold TS.p;rw [f1]
  have e1 : gP (S1.mem b) y (bOff i) = m:=by rw [gP_ch g3 y1];exact hmm
  -- x's side
  have hw2 : wrL (S1.mem b) x (bOff (!i)) [pv m 0] = (S1.set x (dx.wch (!i) m)).mem b:=wr_ch g3 x1 (!i) m
  have h2 : (S1.set x (dx.wch (!i) m)).ok:=g3.wch x1 (!i) hmn
  generalize hS2 : S1.set x (dx.wch (!i) m) = S2 at *
  have x2 : S2.H x = some (dx.wch (!i) m):=by rw [← hS2,set_H,upd_self]
  have o2 : ∀ q,q ≠ x → S2.H q = S1.H q:=fun q hq => by rw [← hS2,set_H,upd_ne _ hq]
  have y2 : S2.H y = some { dy with u:=dx.u }:=by rw [o2 y (Ne.symm nxy)];exact y1
  have s2 : ∀ q,S2.sz q = S.sz q:=fun q => by rw [← hS2,sz_keep x1 (wch_n _ _ _),f9]
  have a2 : ∀ q,S.has q → S2.has q:=fun q hq => by rw [← hS2];exact has_set (f10 q hq)
  have e2 : gP (S2.mem b) y (bOff i) = m:=by rw [gP_ch h2 y2];exact hmm
  have t2 : S2.t = S.t ∧ S2.q = S.q ∧ S2.es = S.es ∧ S2.k = S.k ∧ S2.root = S1.root:=by rw [← hS2];exact ⟨f1,f2,f3,f4,rfl⟩
  -- what follows once the middle one knows whom it stands under
  have tail : ∀ S3 : TS,S3.ok → S3.H x = some (dx.wch (!i) m) → S3.H y = some { dy with u:=dx.u } → (∀ q,S3.sz q = S.sz q) → (∀ q,S.has q → S3.has q) →
      (okS (S3.mem b) y (bOff i) 1 = true ∧ ∃ S4 S5 S6 S' : TS,wrL (S3.mem b) y (bOff i) [pv x 0] = S4.mem b ∧ okS (S4.mem b) x 4 1 = true ∧ wrL (S4.mem b) x 4 [pv y 0] = S5.mem b ∧ countsOK (S5.mem b) x ∧ countsM (S5.mem b) x = S6.mem b ∧ countsOK (S6.mem b) y ∧ countsM (S6.mem b) y = S'.mem b ∧
        S'.ok ∧ S'.t = S3.t ∧ S'.q = S3.q ∧ S'.es = S3.es ∧ S'.k = S3.k ∧ S'.root = S3.root ∧ S'.H x = some { dx.wch (!i) m with u:=y,n:=1 + S.sz (dx.ch i) + S.sz m } ∧ S'.H y = some { dy.wch i x with u:=dx.u,n:=2 + S.sz (dx.ch i) + S.sz m + S.sz (dy.ch (!i)) } ∧ ∀ q,q ≠ x → q ≠ y → S'.H q = S3.H q):=by
    intro S3 h3 x3 y3 s3 a3
    refine ⟨okS_ch h3 y3 i,?_⟩
    let d4 : Nd:=({ dy with u:=dx.u } : Nd).wch i x
    let S4:=S3.set y d4
    have h4 : S4.ok:=h3.wch y3 i (Int.le_of_lt hxn)
    have y4 : S4.H y = some d4:=upd_self _ _ _
    have x4 : S4.H x = some (dx.wch (!i) m):=by show upd S3.H y d4 x = _;rw [upd_ne _ nxy];exact x3
    let d5 : Nd:={ dx.wch (!i) m with u:=y }
    let S5:=S4.set x d5
    have h5 : S5.ok:=h4.wu x4 (Int.le_of_lt hyn)
    have x5 : S5.H x = some d5:=upd_self _ _ _
    have y5 : S5.H y = some d4:=by show upd S4.H x d5 y = _;rw [upd_ne _ (Ne.symm nxy)];exact y4
    have s5 : ∀ q,S5.sz q = S.sz q:=fun q => by
      show (S4.set x d5).sz q = _
      rw [sz_keep (d:=d5) x4 (by show (dx.wch (!i) m).n = _;rfl)]
      show (S3.set y d4).sz q = _
      rw [sz_keep (d:=d4) y3 (wch_n _ _ _),s3]
    have a5 : ∀ q,S.has q → S5.has q:=fun q hq => has_set (has_set (a3 q hq))
    have c5 : d5.ch i = dx.ch i ∧ d5.ch (!i) = m:=by cases i <;> exact ⟨rfl,rfl⟩
    have lr5 : (d5.l = dx.ch i ∧ d5.r = m) ∨ (d5.l = m ∧ d5.r = dx.ch i):=by cases i with | false => exact .inl c5 | true => exact .inr ⟨c5.2,c5.1⟩
    have hh5 : S5.has d5.l ∧ S5.has d5.r ∧ 0 ≤ S5.sz d5.l ∧ 0 ≤ S5.sz d5.r ∧ S5.sz d5.l + S5.sz d5.r = S.sz (dx.ch i) + S.sz m:=by
      rw [s5,s5]
      rcases lr5 with ⟨e,e'⟩ | ⟨e,e'⟩ <;> rw [e,e']
      · exact ⟨a5 _ ha,a5 _ hm,b1,b2,rfl⟩
      · exact ⟨a5 _ hm,a5 _ ha,b2,b1,Int.add_comm _ _⟩
    obtain ⟨q1,q2,q3,q4,q5⟩:=hh5
    obtain ⟨k1,k2,k3⟩:=counts_spec (b:=b) h5 x5 q1 q2 q3 q4 (by omega)
    have en : 1 + S5.sz d5.l + S5.sz d5.r = 1 + S.sz (dx.ch i) + S.sz m:=by omega
    rw [en] at k2 k3
    let d6 : Nd:={ d5 with n:=1 + S.sz (dx.ch i) + S.sz m }
    let S6:=S5.set x d6
    have h6 : S6.ok:=k3
    have y6 : S6.H y = some d4:=by show upd S5.H x d6 y = _;rw [upd_ne _ (Ne.symm nxy)];exact y5
    have x6 : S6.H x = some d6:=upd_self _ _ _
    have c4 : d4.ch i = x ∧ d4.ch (!i) = dy.ch (!i):=by cases i <;> exact ⟨rfl,rfl⟩
    have sx6 : S6.sz x = 1 + S.sz (dx.ch i) + S.sz m:=by show (S5.set x d6).sz x = _;rw [sz_set,if_pos rfl]
    have sc6 : S6.sz (dy.ch (!i)) = S.sz (dy.ch (!i)):=by show (S5.set x d6).sz _ = _;rw [sz_set,if_neg ncx,s5]
    have lr4 : (d4.l = x ∧ d4.r = dy.ch (!i)) ∨ (d4.l = dy.ch (!i) ∧ d4.r = x):=by cases i with | false => exact .inl c4 | true => exact .inr ⟨c4.2,c4.1⟩
    have hh6 : S6.has d4.l ∧ S6.has d4.r ∧ 0 ≤ S6.sz d4.l ∧ 0 ≤ S6.sz d4.r ∧ S6.sz d4.l + S6.sz d4.r = 1 + S.sz (dx.ch i) + S.sz m + S.sz (dy.ch (!i)):=by
      have hx6 : S6.has x:=.inr ⟨_,x6⟩
      have hc6 : S6.has (dy.ch (!i)):=has_set (a5 _ hc)
      rcases lr4 with ⟨e,e'⟩ | ⟨e,e'⟩ <;> rw [e,e',sx6,sc6]
      · exact ⟨hx6,hc6,by omega,b3,by omega⟩
      · exact ⟨hc6,hx6,b3,by omega,by omega⟩
    obtain ⟨r1,r2,r3,r4,r5⟩:=hh6
    obtain ⟨l1,l2,l3⟩:=counts_spec (b:=b) h6 y6 r1 r2 r3 r4 (by omega)
    have en2 : 1 + S6.sz d4.l + S6.sz d4.r = 2 + S.sz (dx.ch i) + S.sz m + S.sz (dy.ch (!i)):=by omega
    rw [en2] at l2 l3
    refine ⟨S4,S5,S6,_,wr_ch h3 y3 i x,okS_n h4 x4 rfl,wr_u h4 x4 y,k1,k2,l1,l2,l3,rfl,rfl,rfl,rfl,rfl,?_,?_,fun q hq1 hq2 => ?_⟩
    · rw [set_H,upd_ne _ nxy];exact x6
    · rw [set_H,upd_self]
      cases i <;> rfl
    · rw [set_H,upd_ne _ hq2]
      show upd S5.H x d6 q = _
      rw [upd_ne _ hq1]
      show upd S4.H x d5 q = _
      rw [upd_ne _ hq1]
      show upd S3.H y d4 q = _
      rw [upd_ne _ hq2]
  unfold turnOK turnM T_turn
  rw [sub_bi,aOff_bi,aOff_bi]
  have ey : gP (S.mem b) x (bOff (!i)) = y:=by rw [gP_ch h hx];exact hyy
  rcases hm with hm0 | ⟨dm,hm⟩
  · subst hm0
    obtain ⟨T0,S4,S5,S6,S',T1,T2,T3,T4,T5,T6,T7,T8,T9,T10,T11,T12,T13,T14,T15,T16⟩:=tail S2 h2 x2 y2 s2 a2
    have hp0 : peq 0 0 = true:=rfl
    simp only [okP,outM,nz_n h hx,inR_bi,okL_ch h hx,ey,g2,nz_n h hy,okL_ch g3 y1,okS_ch g3 x1,e1,hw2,okL_ch h2 y2,e2,cmp_zero,hp0,bNot_t,T0,T1,T2,T3,T5,T7]
    refine ⟨by simp [g1,T4,T6],S',rfl,T8,T9.trans t2.1,T10.trans t2.2.1,T11.trans t2.2.2.1,T12.trans t2.2.2.2.1,by rw [T13,t2.2.2.2.2,f5],T14,T15,(fun dm hdm => by rw [H_zero h] at hdm;cases hdm),fun du hdu => ?_,fun q q1 q2 q3 q4 => by rw [T16 q q1 q2,o2 q q1,f8 q q2 q4]⟩
    rw [T16 _ nux nuy,o2 _ nux];exact f7 du hdu
  · have hm1 : m ≠ 0:=p_ne0 h hm
    have m2 : ∃ dm2,S2.H m = some dm2 ∧ dm2 = dm:=by
      refine ⟨dm,?_,rfl⟩
      rw [o2 m nmx]
      by_cases e : dx.u = 0
      · rw [f8 m nmy (by rw [e];exact hm1)];exact hm
      · rw [f8 m nmy (num e)];exact hm
    obtain ⟨dm2,m2,rfl⟩:=m2
    have hp0 : peq m 0 = false:=by rw [peq_zero hmn];simp [hm1]
    have h3 : (S2.set m { dm2 with u:=x }).ok:=h2.wu m2 (Int.le_of_lt hxn)
    obtain ⟨T0,S4,S5,S6,S',T1,T2,T3,T4,T5,T6,T7,T8,T9,T10,T11,T12,T13,T14,T15,T16⟩:=tail (S2.set m { dm2 with u:=x }) h3 (by rw [set_H,upd_ne _ (Ne.symm nmx)];exact x2) (by rw [set_H,upd_ne _ (Ne.symm nmy)];exact y2) (fun q => by rw [sz_keep (d:={ dm2 with u:=x }) m2 rfl,s2]) (fun q hq => has_set (a2 q hq))
    have x4 : okS (S4.mem b) x 4 1 = true:=T2
    simp only [okP,outM,nz_n h hx,inR_bi,okL_ch h hx,ey,g2,nz_n h hy,okL_ch g3 y1,okS_ch g3 x1,e1,hw2,okL_ch h2 y2,e2,cmp_zero,hp0,bNot_f,nz_n h hm,okS_n h2 m2 (show Nat.ble (4 + 1) 7 = true from rfl),wr_u h2 m2,T0,T1,T2,T3,T5,T7]
    refine ⟨by simp [g1,T4,T6],S',rfl,T8,T9.trans t2.1,T10.trans t2.2.1,T11.trans t2.2.2.1,T12.trans t2.2.2.2.1,by rw [T13];show S2.root = _;rw [t2.2.2.2.2,f5],T14,T15,fun dm' hdm => ?_,fun du hdu => ?_,fun q q1 q2 q3 q4 => ?_⟩
    · rw [hm] at hdm;cases hdm
      rw [T16 _ nmx nmy,set_H,upd_self]
    · have hu0 : dx.u ≠ 0:=fun e => by rw [e,H_zero h] at hdu;cases hdu
      rw [T16 _ nux nuy,set_H,upd_ne _ (Ne.symm (num hu0)),o2 _ nux];exact f7 du hdu
    · rw [T16 q q1 q2,set_H,upd_ne _ q3,o2 q q1,f8 q q2 q4]
end
end Go.Proofs.Ytnlohongffpkpaa.T16
end

section
namespace Go.Proofs.Ytnlohongffpkpaa.T16
open Go Go.RowKit Go.Proofs.Ytnlohongffpkpaa.Sx
set_option linter.unusedVariables false
set_option linter.unusedSimpArgs false
inductive T where
  | nil
  | nd (p s g : Int) (c : Bool) (l r : T)
def T.ptr : T → Int
  | .nil => 0
  | .nd p _ _ _ _ _ => p
def T.size : T → Nat
  | .nil => 0
  | .nd _ _ _ _ l r => l.size + r.size + 1
def cnt (q : Int) : T → Nat
  | .nil => 0
  | .nd p _ _ _ l r => (if q = p then 1 else 0) + cnt q l + cnt q r
def Rep (H : Int → Option Nd) : Int → T → Prop
  | _,.nil => True
  | u,.nd p s g c l r => H p = some ⟨s,g,l.ptr,r.ptr,u,((l.size + r.size + 1 : Nat) : Int),c⟩ ∧ Rep H p l ∧ Rep H p r
structure Fr where
  i : Bool
  p : Int
  s : Int
  g : Int
  c : Bool
  o : T
def mkT (i : Bool) (p s g : Int) (c : Bool) (near far : T) : T:=match i with | false => .nd p s g c near far | true => .nd p s g c far near
def Fr.mk' (f : Fr) (t : T) : T:=mkT f.i f.p f.s f.g f.c t f.o
def Fr.node (f : Fr) (q u : Int) (n : Nat) : Nd:=match f.i with
  | false => ⟨f.s,f.g,q,f.o.ptr,u,((n + f.o.size + 1 : Nat) : Int),f.c⟩
  | true => ⟨f.s,f.g,f.o.ptr,q,u,((n + f.o.size + 1 : Nat) : Int),f.c⟩
abbrev Ctx:=List Fr
def topP : Ctx → Int
  | [] => 0
  | f :: _ => f.p
def RepC (H : Int → Option Nd) (root : Int) : Int → Nat → Ctx → Prop
  | q,_,[] => root = q
  | q,n,f :: k => H f.p = some (f.node q (topP k) n) ∧ Rep H f.p f.o ∧ RepC H root f.p (n + f.o.size + 1) k
def ccnt (q : Int) : Ctx → Nat
  | [] => 0
  | f :: k => (if q = f.p then 1 else 0) + cnt q f.o + ccnt q k
def csize : Ctx → Nat
  | [] => 0
  | f :: k => f.o.size + 1 + csize k
def plug : T → Ctx → T
  | t,[] => t
  | t,f :: k => plug (f.mk' t) k
def Dj (t : T) (k : Ctx) : Prop:=∀ q,cnt q t + ccnt q k ≤ 1
theorem size_mk (i : Bool) (p s g : Int) (c : Bool) (x y : T) : (mkT i p s g c x y).size = x.size + y.size + 1:=by cases i <;> simp [mkT,T.size];omega
theorem ptr_mk (i : Bool) (p s g : Int) (c : Bool) (x y : T) : (mkT i p s g c x y).ptr = p:=by cases i <;> rfl
theorem cnt_mk (q : Int) (i : Bool) (p s g : Int) (c : Bool) (x y : T) : cnt q (mkT i p s g c x y) = (if q = p then 1 else 0) + cnt q x + cnt q y:=by cases i <;> simp [mkT,cnt];omega
theorem cnt_ptr (t : T) : t = .nil ∨ 0 < cnt t.ptr t:=by
  cases t with
  | nil => exact .inl rfl
  | nd p s g c l r => right;simp [T.ptr,cnt];omega
theorem size_plug : ∀ (k : Ctx) (t : T),(plug t k).size = t.size + csize k
  | [],t => by simp [plug,csize]
  | f :: k,t => by rw [plug,size_plug k,Fr.mk',size_mk,csize];omega
theorem Rep.mk {H : Int → Option Nd} {u : Int} {i : Bool} {p s g : Int} {c : Bool} {x y : T} : Rep H u (mkT i p s g c x y) ↔ H p = some ((Fr.mk i p s g c y).node x.ptr u x.size) ∧ Rep H p x ∧ Rep H p y:=by
  cases i
  · exact Iff.rfl
  · simp only [mkT,Rep,Fr.node]
    rw [Nat.add_comm y.size x.size,and_comm (a:=Rep H p y)]
theorem rep_congr {H H' : Int → Option Nd} : ∀ {t : T} {u : Int},(∀ q,0 < cnt q t → H' q = H q) → Rep H u t → Rep H' u t
  | .nil,_,_,_ => trivial
  | .nd p s g c l r,u,hc,h => by
    obtain ⟨h1,h2,h3⟩:=h
    refine ⟨?_,rep_congr (fun q hq => hc q (by simp only [cnt];omega)) h2,rep_congr (fun q hq => hc q (by simp only [cnt];omega)) h3⟩
    rw [hc p (by simp [cnt];omega)];exact h1
theorem repC_congr {H H' : Int → Option Nd} {root : Int} : ∀ {k : Ctx} {q : Int} {n : Nat},(∀ q,0 < ccnt q k → H' q = H q) → RepC H root q n k → RepC H' root q n k
  | [],_,_,_,h => h
  | f :: k,q,n,hc,h => by
    obtain ⟨h1,h2,h3⟩:=h
    refine ⟨?_,rep_congr (fun q hq => hc q (by simp only [ccnt];omega)) h2,repC_congr (fun q hq => hc q (by simp only [ccnt];omega)) h3⟩
    rw [hc f.p (by simp [ccnt];omega)];exact h1
theorem rep_up {H H' : Int → Option Nd} {t : T} {u v : Int} (hd : ∀ q,cnt q t ≤ 1) (h : Rep H u t) (hp : ∀ d,H t.ptr = some d → H' t.ptr = some { d with u:=v }) (hc : ∀ q,0 < cnt q t → q ≠ t.ptr → H' q = H q) : Rep H' v t:=by
  cases t with
  | nil => trivial
  | nd p s g c l r =>
    obtain ⟨h1,h2,h3⟩:=h
    have hp0:=hd p
    simp only [cnt,if_true] at hp0
    refine ⟨hp _ h1,rep_congr (fun q hq => hc q (by simp only [cnt];omega) ?_) h2,rep_congr (fun q hq => hc q (by simp only [cnt];omega) ?_) h3⟩
    · intro e
      have e : q = p:=e
      subst e
      omega
    · intro e
      have e : q = p:=e
      subst e
      omega
theorem rep_has {S : TS} {u : Int} {t : T} (h : Rep S.H u t) : S.has t.ptr:=by
  cases t with
  | nil => exact .inl rfl
  | nd p s g c l r => exact .inr ⟨_,h.1⟩
theorem rep_sz {S : TS} (hS : S.ok) {u : Int} {t : T} (h : Rep S.H u t) : S.sz t.ptr = t.size:=by
  cases t with
  | nil => unfold TS.sz;rw [show T.nil.ptr = 0 from rfl,H_zero hS];rfl
  | nd p s g c l r => unfold TS.sz;rw [show (T.nd p s g c l r).ptr = p from rfl,h.1];rfl
theorem repC_up {S : TS} {root q : Int} {n : Nat} : ∀ {k : Ctx},RepC S.H root q n k → topP k = 0 ∨ ∃ d,S.H (topP k) = some d
  | [],_ => .inl rfl
  | f :: k,h => .inr ⟨_,h.1⟩
theorem turnT {S : TS} {b : Mem} (hS : S.ok) {k : Ctx} {i : Bool} {xp xs xg yp ys yg : Int} {xc yc : Bool} {a m c : T}
    (hr : Rep S.H (topP k) (mkT i xp xs xg xc a (mkT i yp ys yg yc m c) )) (hk : RepC S.H S.root xp (mkT i xp xs xg xc a (mkT i yp ys yg yc m c)).size k)
    (hd : Dj (mkT i xp xs xg xc a (mkT i yp ys yg yc m c)) k) (hb : a.size + m.size + c.size < 2305843009213693952) :
    turnOK (S.mem b) S.p xp (bi i) ∧ ∃ S' : TS,turnM (S.mem b) S.p xp (bi i) = S'.mem b ∧ S'.ok ∧ S'.t = S.t ∧ S'.q = S.q ∧ S'.es = S.es ∧ S'.k = S.k ∧ (∀ q,S'.H q = none ↔ S.H q = none) ∧
      Rep S'.H (topP k) (mkT i yp ys yg yc (mkT i xp xs xg xc a m) c) ∧ RepC S'.H S'.root yp (mkT i yp ys yg yc (mkT i xp xs xg xc a m) c).size k:=by
  obtain ⟨x1,x2,x3⟩:=Rep.mk.1 hr
  obtain ⟨y1,y2,y3⟩:=Rep.mk.1 x3
  have hd' : ∀ q,(if q = xp then 1 else 0) + cnt q a + ((if q = yp then 1 else 0) + cnt q m + cnt q c) + ccnt q k ≤ 1:=fun q => by have:=hd q;rw [cnt_mk,cnt_mk] at this;exact this
  have xp0 : xp ≠ 0:=p_ne0 hS x1
  have yp0 : yp ≠ 0:=p_ne0 hS y1
  -- who is who
  have dxp:=hd' xp
  have dyp:=hd' yp
  simp only [if_true] at dxp dyp
  have nxy : xp ≠ yp:=by intro e;rw [if_pos e] at dxp;omega
  have ptrne : ∀ (t : T) (q : Int),q ≠ 0 → cnt q t = 0 → t.ptr ≠ q:=by
    intro t q hq hc e
    rcases cnt_ptr t with rfl | h
    · exact hq e.symm
    · rw [e,hc] at h;omega
  have cm : cnt xp m = 0 ∧ cnt yp m = 0 ∧ cnt xp a = 0 ∧ cnt yp a = 0 ∧ cnt xp c = 0 ∧ cnt yp c = 0 ∧ ccnt xp k = 0 ∧ ccnt yp k = 0:=by
    rw [if_neg nxy] at dxp
    rw [if_neg (Ne.symm nxy)] at dyp
    omega
  obtain ⟨c1,c2,c3,c4,c5,c6,c7,c8⟩:=cm
  have topne : ∀ q,q ≠ 0 → ccnt q k = 0 → topP k ≠ q:=by
    intro q hq hc e
    cases k with
    | nil => exact hq e.symm
    | cons f k => have e : f.p = q:=e;simp [ccnt,← e] at hc
  have num : topP k ≠ 0 → m.ptr ≠ topP k:=by
    intro h0 e
    rcases cnt_ptr m with rfl | h
    · exact h0 e.symm
    · have:=hd' m.ptr
      cases k with
      | nil => exact h0 rfl
      | cons f k => have e : m.ptr = f.p:=e;simp only [ccnt,if_pos e] at this;omega
  let dx : Nd:=(Fr.mk i xp xs xg xc (mkT i yp ys yg yc m c)).node a.ptr (topP k) a.size
  let dy : Nd:=(Fr.mk i yp ys yg yc c).node m.ptr xp m.size
  have hdx : dx.ch i = a.ptr ∧ dx.ch (!i) = yp ∧ dx.u = topP k ∧ dx.s = xs ∧ dx.g = xg ∧ dx.c = xc:=by cases i <;> exact ⟨rfl,rfl,rfl,rfl,rfl,rfl⟩
  have hdy : dy.ch i = m.ptr ∧ dy.ch (!i) = c.ptr ∧ dy.u = xp ∧ dy.s = ys ∧ dy.g = yg ∧ dy.c = yc:=by cases i <;> exact ⟨rfl,rfl,rfl,rfl,rfl,rfl⟩
  obtain ⟨dx1,dx2,dx3,dx4,dx5,dx6⟩:=hdx
  obtain ⟨dy1,dy2,dy3,dy4,dy5,dy6⟩:=hdy
  have hx : S.H xp = some dx:=x1
  have hy : S.H (dx.ch (!i)) = some dy:=by rw [dx2];exact y1
  have huh : dx.u = 0 ∨ ∃ du,S.H dx.u = some du ∧ S.has du.r:=by
    rw [dx3]
    cases k with
    | nil => exact .inl rfl
    | cons f k =>
      obtain ⟨k1,k2,k3⟩:=hk
      refine .inr ⟨_,k1,?_⟩
      cases hf : f.i
      · simp only [Fr.node,hf];exact rep_has k2
      · simp only [Fr.node,hf];exact .inr ⟨_,x1⟩
  have sza : S.sz a.ptr = a.size:=rep_sz hS x2
  have szm : S.sz m.ptr = m.size:=rep_sz hS y2
  have szc : S.sz c.ptr = c.size:=rep_sz hS y3
  obtain ⟨t1,S',t2,t3,t4,t5,t6,t7,t8,t9,t10,t11,t12,t13⟩:=turn_spec (b:=b) hS i hx hy (by rw [dy1];exact rep_has y2) huh (by rw [dx1];exact rep_has x2) (by rw [dy2];exact rep_has y3)
    (by rw [dx2];exact nxy) (by rw [dy1];exact ptrne m xp xp0 c1) (by rw [dy1,dx2];exact ptrne m yp yp0 c2) (by rw [dx3];exact topne xp xp0 c7) (by rw [dx3,dx2];exact topne yp yp0 c8)
    (by rw [dx3,dy1];exact num) (by rw [dy2];exact ptrne c xp xp0 c5) (by rw [dx1,sza];omega) (by rw [dy1,szm];omega) (by rw [dy2,szc];omega) (by rw [dx1,dy1,dy2,sza,szm,szc];omega)
  simp only [dx1,dx2,dx3,dy1,dy2,sza,szm,szc] at t8 t9 t10 t11 t12 t13
  have oth : ∀ q,0 < cnt q a + cnt q c + ccnt q k → q ≠ topP k → S'.H q = S.H q:=by
    intro q hq ht
    have dq:=hd' q
    refine t13 q ?_ ?_ ?_ ht
    · intro e;rw [if_pos e] at dq;omega
    · intro e;rw [if_pos e] at dq;omega
    · intro e
      rcases cnt_ptr m with rfl | h
      · rw [show T.nil.ptr = 0 from rfl] at e
        subst e
        -- nobody stands at nil
        have : S.H 0 = none:=H_zero hS
        have : S'.H 0 = none:=H_zero t3
        have z : ∀ {u : Int} {t : T},Rep S.H u t → cnt 0 t = 0:=by
          intro u t
          induction t generalizing u with
          | nil => intro _;rfl
          | nd p s g c l r ih1 ih2 =>
            intro hh
            have hp:=p_ne0 hS hh.1
            simp only [cnt,ih1 hh.2.1,ih2 hh.2.2]
            rw [if_neg (Ne.symm hp)]
        have zc : ∀ {k : Ctx} {q : Int} {n : Nat},RepC S.H S.root q n k → ccnt 0 k = 0:=by
          intro k
          induction k with
          | nil => intro _ _ _;rfl
          | cons f k ih =>
            intro q n hh
            have hp:=p_ne0 hS hh.1
            simp only [ccnt,z hh.2.1,ih hh.2.2]
            rw [if_neg (Ne.symm hp)]
        rw [z x2,z y3,zc hk] at hq
        omega
      · rw [e] at dq hq
        omega
  have top0 : ∀ q,0 < cnt q a + cnt q m + cnt q c → q ≠ topP k ∨ topP k = 0:=by
    intro q hq
    cases k with
    | nil => exact .inr rfl
    | cons f k =>
      left
      intro e
      have e : q = f.p:=e
      have:=hd' q
      simp only [ccnt,if_pos e] at this
      omega
  have oth2 : ∀ q,0 < cnt q a + cnt q c → S'.H q = S.H q:=by
    intro q hq
    rcases top0 q (by omega) with h | h
    · exact oth q (by omega) h
    · by_cases e : q = topP k
      · rw [e,h,H_zero hS,H_zero t3]
      · exact oth q (by omega) e
  have ra : Rep S'.H xp a:=rep_congr (fun q hq => oth2 q (by omega)) x2
  have rc : Rep S'.H yp c:=rep_congr (fun q hq => oth2 q (by omega)) y3
  have rm : Rep S'.H xp m:=by
    refine rep_up (fun q => by have:=hd' q;omega) y2 (fun d hd => t11 d hd) fun q hq hne => ?_
    have dq:=hd' q
    have hqk : q ≠ topP k:=by
      rcases top0 q (by omega) with h | h
      · exact h
      · intro e
        rw [e,h] at hq
        have z : ∀ {u : Int} {t : T},Rep S.H u t → cnt 0 t = 0:=by
          intro u t
          induction t generalizing u with
          | nil => intro _;rfl
          | nd p s g c l r ih1 ih2 =>
            intro hh
            have hp:=p_ne0 hS hh.1
            simp only [cnt,ih1 hh.2.1,ih2 hh.2.2]
            rw [if_neg (Ne.symm hp)]
        rw [z y2] at hq
        omega
    refine t13 q ?_ ?_ hne hqk
    · intro e;rw [if_pos e] at dq;omega
    · intro e;rw [if_pos e] at dq;omega
  have rx : Rep S'.H yp (mkT i xp xs xg xc a m):=by
    refine Rep.mk.2 ⟨?_,ra,rm⟩
    rw [t9]
    cases i
    · simp only [Fr.node,Nd.wch,dx,mkT];simp;omega
    · simp only [Fr.node,Nd.wch,dx,mkT];simp;omega
  have ry : Rep S'.H (topP k) (mkT i yp ys yg yc (mkT i xp xs xg xc a m) c):=by
    refine Rep.mk.2 ⟨?_,rx,rc⟩
    rw [t10,ptr_mk,size_mk]
    cases i
    · simp only [Fr.node,Nd.wch,dy];simp;omega
    · simp only [Fr.node,Nd.wch,dy];simp;omega
  have td : ∀ q,S'.H q = none ↔ S.H q = none:=by
    intro q
    by_cases e1 : q = xp
    · subst e1;rw [t9,x1];simp
    · by_cases e2 : q = yp
      · subst e2;rw [t10,y1];simp
      · by_cases e3 : q = m.ptr
        · subst e3
          rcases rep_has y2 with h0 | ⟨d,h0⟩
          · rw [h0,H_zero hS,H_zero t3]
          · rw [t11 _ h0,h0];simp
        · by_cases e4 : q = topP k
          · subst e4
            rcases repC_up hk with h0 | ⟨d,h0⟩
            · rw [h0,H_zero hS,H_zero t3]
            · rw [t12 _ h0,h0];simp
          · rw [t13 q e1 e2 e3 e4]
  refine ⟨t1,S',t2,t3,t4,t5,t6,t7,td,ry,?_⟩
  have esz : (mkT i yp ys yg yc (mkT i xp xs xg xc a m) c).size = (mkT i xp xs xg xc a (mkT i yp ys yg yc m c)).size:=by rw [size_mk,size_mk,size_mk,size_mk];omega
  rw [esz]
  cases k with
  | nil => rw [t8,if_pos (show topP [] = 0 from rfl)];rfl
  | cons f k =>
    obtain ⟨k1,k2,k3⟩:=hk
    have fp0 : f.p ≠ 0:=p_ne0 hS k1
    rw [if_neg (show topP (f :: k) ≠ 0 from fp0)] at t8
    have df : ∀ q,0 < cnt q f.o + ccnt q k → q ≠ f.p:=by
      intro q hq e
      have:=hd' q
      simp only [ccnt,if_pos e] at this
      omega
    refine ⟨?_,rep_congr (fun q hq => oth q (by simp only [ccnt];omega) (df q (by omega))) k2,?_⟩
    · have:=t12 _ k1
      have e : topP (f :: k) = f.p:=rfl
      rw [e] at this
      rw [this]
      cases hf : f.i
      · have hne : f.o.ptr ≠ xp:=ptrne f.o xp xp0 (by simp only [ccnt] at c7;omega)
        simp [Fr.node,hf,Nd.wch,hne]
      · simp [Fr.node,hf,Nd.wch]
    · rw [t8]
      exact repC_congr (fun q hq => oth q (by simp only [ccnt];omega) (df q (by omega))) k3
end Go.Proofs.Ytnlohongffpkpaa.T16
end

section
namespace Go.Proofs.Ytnlohongffpkpaa.T16
open Go Go.RowKit Go.Proofs.Ytnlohongffpkpaa.Sx
set_option linter.unusedVariables false
set_option linter.unusedSimpArgs false
structure TS.like (S S' : TS) : Prop where
  t : S'.t = S.t
  q : S'.q = S.q
  es : S'.es = S.es
  k : S'.k = S.k
  dom : ∀ p,S'.H p = none ↔ S.H p = none
theorem like_p {S S' : TS} (h : S.like S') : S'.p = S.p:=by unfold TS.p;rw [h.t]
theorem TS.like.refl (S : TS) : S.like S:=⟨rfl,rfl,rfl,rfl,fun _ => Iff.rfl⟩
theorem TS.like.trans {S S' S'' : TS} (h : S.like S') (h' : S'.like S'') : S.like S'':=⟨h'.t.trans h.t,h'.q.trans h.q,h'.es.trans h.es,h'.k.trans h.k,fun p => (h'.dom p).trans (h.dom p)⟩
theorem like_set {S : TS} {p : Int} {d d0 : Nd} (hp : S.H p = some d0) : S.like (S.set p d):=⟨rfl,rfl,rfl,rfl,fun q => by
  by_cases e : q = p
  · subst e;rw [set_H,upd_self,hp];simp
  · rw [set_H,upd_ne _ e]⟩
structure At (S : TS) (t : T) (k : Ctx) : Prop where
  ok : S.ok
  rep : Rep S.H (topP k) t
  ctx : RepC S.H S.root t.ptr t.size k
  dj : Dj t k
  sm : t.size + csize k < 1152921504606846976
theorem At.out {S : TS} {t : T} {f : Fr} {k : Ctx} (h : At S t (f :: k)) : At S (f.mk' t) k:=by
  obtain ⟨k1,k2,k3⟩:=h.ctx
  refine ⟨h.ok,Rep.mk.2 ⟨k1,h.rep,k2⟩,?_,fun q => ?_,?_⟩
  · rw [Fr.mk',ptr_mk,size_mk];exact k3
  · have:=h.dj q
    simp only [ccnt] at this
    rw [Fr.mk',cnt_mk];omega
  · have:=h.sm
    simp only [csize] at this
    rw [Fr.mk',size_mk];omega
theorem At.into {S : TS} {t : T} {f : Fr} {k : Ctx} (h : At S (f.mk' t) k) : At S t (f :: k):=by
  obtain ⟨k1,k2,k3⟩:=Rep.mk.1 h.rep
  refine ⟨h.ok,k2,⟨k1,k3,?_⟩,fun q => ?_,?_⟩
  · have:=h.ctx;rw [Fr.mk',ptr_mk,size_mk] at this;exact this
  · have:=h.dj q
    rw [Fr.mk',cnt_mk] at this
    simp only [ccnt];omega
  · have:=h.sm
    rw [Fr.mk',size_mk] at this
    simp only [csize];omega
theorem At.outs {S : TS} : ∀ {k : Ctx} {t : T},At S t k → At S (plug t k) []
  | [],t,h => h
  | f :: k,t,h => At.outs (k:=k) h.out
theorem At.ins {S : TS} : ∀ {k : Ctx} {t : T},At S (plug t k) [] → At S t k
  | [],t,h => h
  | f :: k,t,h => (At.ins (k:=k) (t:=f.mk' t) h).into
theorem mk_flip (i : Bool) (p s g : Int) (c : Bool) (x y : T) : mkT i p s g c x y = mkT (!i) p s g c y x:=by cases i <;> rfl
theorem At.get {S : TS} {i : Bool} {p s g : Int} {c : Bool} {x y : T} {k : Ctx} (h : At S (mkT i p s g c x y) k) : S.H p = some ((Fr.mk i p s g c y).node x.ptr (topP k) x.size):=(Rep.mk.1 h.rep).1
theorem At.getf {S : TS} {t : T} {f : Fr} {k : Ctx} (h : At S t (f :: k)) : S.H f.p = some (f.node t.ptr (topP k) t.size):=h.ctx.1
theorem node_c (f : Fr) (q u : Int) (n : Nat) : (f.node q u n).c = f.c:=by unfold Fr.node;split <;> rfl
theorem node_u (f : Fr) (q u : Int) (n : Nat) : (f.node q u n).u = u:=by unfold Fr.node;split <;> rfl
theorem node_ch (f : Fr) (q u : Int) (n : Nat) : (f.node q u n).ch f.i = q:=by unfold Fr.node;split <;> (rename_i e;rw [e];rfl)
theorem node_ch' (f : Fr) (q u : Int) (n : Nat) : (f.node q u n).ch (!f.i) = f.o.ptr:=by unfold Fr.node;split <;> (rename_i e;rw [e];rfl)
theorem node_s (f : Fr) (q u : Int) (n : Nat) : (f.node q u n).s = f.s:=by unfold Fr.node;split <;> rfl
theorem node_g (f : Fr) (q u : Int) (n : Nat) : (f.node q u n).g = f.g:=by unfold Fr.node;split <;> rfl
theorem node_n (f : Fr) (q u : Int) (n : Nat) : (f.node q u n).n = ((n + f.o.size + 1 : Nat) : Int):=by unfold Fr.node;split <;> rfl
theorem At.ptr_ne {S : TS} {t : T} {f : Fr} {k : Ctx} (h : At S t (f :: k)) : t.ptr ≠ f.p ∧ f.o.ptr ≠ f.p ∧ topP k ≠ f.p ∧ (t.ptr = f.o.ptr → t.ptr = 0):=by
  have f0 : f.p ≠ 0:=p_ne0 h.ok h.getf
  have key : ∀ (t' : T),cnt f.p t' = 0 → t'.ptr ≠ f.p:=by
    intro t' hc e
    rcases cnt_ptr t' with rfl | h
    · exact f0 e.symm
    · rw [e,hc] at h;omega
  have hd:=h.dj f.p
  simp only [ccnt,if_true] at hd
  refine ⟨key t (by omega),key f.o (by omega),?_,fun e => ?_⟩
  · intro e
    cases k with
    | nil => exact f0 e.symm
    | cons g k => have e : f.p = g.p:=e.symm;simp only [ccnt,if_pos e] at hd;omega
  · rcases cnt_ptr t with rfl | h1
    · rfl
    · rcases cnt_ptr f.o with h2 | h2
      · rw [h2] at e;rw [e];rfl
      · have:=h.dj t.ptr
        rw [← e] at h2
        simp only [ccnt] at this
        omega
theorem At.setc {S : TS} {i : Bool} {p s g : Int} {c : Bool} {x y : T} {k : Ctx} (h : At S (mkT i p s g c x y) k) (v : Bool) :
    At (S.set p { (Fr.mk i p s g c y).node x.ptr (topP k) x.size with c:=v }) (mkT i p s g v x y) k:=by
  obtain ⟨k1,k2,k3⟩:=Rep.mk.1 h.rep
  have hd:=h.dj
  have hdp:=hd p
  rw [cnt_mk,if_pos rfl] at hdp
  have oth : ∀ q,0 < cnt q x + cnt q y + ccnt q k → (S.set p { (Fr.mk i p s g c y).node x.ptr (topP k) x.size with c:=v }).H q = S.H q:=by
    intro q hq
    rw [set_H,upd_ne]
    intro e;subst e;omega
  refine ⟨h.ok.wc k1 v,Rep.mk.2 ⟨?_,rep_congr (fun q hq => oth q (by omega)) k2,rep_congr (fun q hq => oth q (by omega)) k3⟩,?_,fun q => ?_,?_⟩
  · rw [set_H,upd_self];cases i <;> rfl
  · have:=h.ctx
    rw [ptr_mk,size_mk] at this ⊢
    exact repC_congr (fun q hq => oth q (by omega)) this
  · have:=hd q;rw [cnt_mk] at this ⊢;exact this
  · have:=h.sm;rw [size_mk] at this ⊢;exact this
theorem At.turn {S : TS} {b : Mem} {k : Ctx} {i : Bool} {xp xs xg yp ys yg : Int} {xc yc : Bool} {a m c : T} (h : At S (mkT i xp xs xg xc a (mkT i yp ys yg yc m c)) k) :
    turnOK (S.mem b) S.p xp (bi i) ∧ ∃ S' : TS,turnM (S.mem b) S.p xp (bi i) = S'.mem b ∧ S.like S' ∧ At S' (mkT i yp ys yg yc (mkT i xp xs xg xc a m) c) k:=by
  have hs:=h.sm
  rw [size_mk,size_mk] at hs
  have hc:=h.ctx
  rw [ptr_mk] at hc
  obtain ⟨t1,S',t2,t3,t4,t5,t6,t7,td,t8,t9⟩:=turnT (b:=b) h.ok h.rep hc h.dj (by omega)
  refine ⟨t1,S',t2,⟨t4,t5,t6,t7,td⟩,t3,t8,?_,fun q => ?_,?_⟩
  · rw [ptr_mk];exact t9
  · have:=h.dj q;rw [cnt_mk,cnt_mk] at this;rw [cnt_mk,cnt_mk];omega
  · rw [size_mk,size_mk];omega
def red : T → Bool
  | .nil => false
  | .nd _ _ _ c _ _ => c
def RB : T → Nat → Prop
  | .nil,n => n = 0
  | .nd _ _ _ true l r,n => RB l n ∧ RB r n ∧ red l = false ∧ red r = false
  | .nd _ _ _ false l r,n => ∃ m,n = m + 1 ∧ RB l m ∧ RB r m
def mayR : Ctx → Bool
  | [] => false
  | f :: _ => !f.c
def RBC : Ctx → Nat → Prop
  | [],_ => True
  | f :: k,n => RB f.o n ∧ match f.c with
    | true => red f.o = false ∧ mayR k = true ∧ RBC k n
    | false => RBC k (n + 1)
theorem red_mk (i : Bool) (p s g : Int) (c : Bool) (x y : T) : red (mkT i p s g c x y) = c:=by cases i <;> rfl
theorem RB_red {i : Bool} {p s g : Int} {x y : T} {n : Nat} : RB (mkT i p s g true x y) n ↔ RB x n ∧ RB y n ∧ red x = false ∧ red y = false:=by
  cases i
  · exact Iff.rfl
  · constructor
    · rintro ⟨h1,h2,h3,h4⟩;exact ⟨h2,h1,h4,h3⟩
    · rintro ⟨h1,h2,h3,h4⟩;exact ⟨h2,h1,h4,h3⟩
theorem RB_blk {i : Bool} {p s g : Int} {x y : T} {n : Nat} : RB (mkT i p s g false x y) (n + 1) ↔ RB x n ∧ RB y n:=by
  cases i
  · constructor
    · rintro ⟨m,h0,h1,h2⟩;cases h0;exact ⟨h1,h2⟩
    · rintro ⟨h1,h2⟩;exact ⟨n,rfl,h1,h2⟩
  · constructor
    · rintro ⟨m,h0,h1,h2⟩;cases h0;exact ⟨h2,h1⟩
    · rintro ⟨h1,h2⟩;exact ⟨n,rfl,h2,h1⟩
theorem RBC_red {f : Fr} {k : Ctx} {n : Nat} (hc : f.c = true) : RBC (f :: k) n ↔ RB f.o n ∧ red f.o = false ∧ mayR k = true ∧ RBC k n:=by simp only [RBC,hc]
theorem RBC_blk {f : Fr} {k : Ctx} {n : Nat} (hc : f.c = false) : RBC (f :: k) n ↔ RB f.o n ∧ RBC k (n + 1):=by simp only [RBC,hc]
theorem plug_RB : ∀ {k : Ctx} {t : T} {n : Nat},RB t n → (red t = true → mayR k = true) → RBC k n → ∃ m,RB (plug t k) m ∧ red (plug t k) = false
  | [],t,n,h1,h2,_ => ⟨n,h1,by cases h : red t with | false => exact h | true => exact absurd (h2 h) (by decide)⟩
  | f :: k,t,n,h1,h2,h3 => by
    cases hc : f.c with
    | true =>
      rw [RBC_red hc] at h3
      have ht : red t = false:=by
        cases h : red t with
        | false => rfl
        | true => have:=h2 h;simp [mayR,hc] at this
      refine plug_RB (k:=k) (t:=f.mk' t) (n:=n) ?_ (fun _ => h3.2.2.1) h3.2.2.2
      rw [Fr.mk',hc]
      exact RB_red.2 ⟨h1,h3.1,ht,h3.2.1⟩
    | false =>
      rw [RBC_blk hc] at h3
      refine plug_RB (k:=k) (t:=f.mk' t) (n:=n + 1) ?_ (fun h => ?_) h3.2
      · rw [Fr.mk',hc]
        exact RB_blk.2 ⟨h1,h3.1⟩
      · rw [Fr.mk',red_mk,hc] at h;cases h
def nodes : T → List (Int × Int × Int)
  | .nil => []
  | .nd p s g _ l r => nodes l ++ (p,s,g) :: nodes r
def cl : Ctx → List (Int × Int × Int)
  | [] => []
  | f :: k => match f.i with | false => cl k | true => cl k ++ (nodes f.o ++ [(f.p,f.s,f.g)])
def cr : Ctx → List (Int × Int × Int)
  | [] => []
  | f :: k => match f.i with | false => (f.p,f.s,f.g) :: nodes f.o ++ cr k | true => cr k
theorem nodes_plug : ∀ (k : Ctx) (t : T),nodes (plug t k) = cl k ++ nodes t ++ cr k
  | [],t => by simp [plug,cl,cr]
  | f :: k,t => by
    rw [plug,nodes_plug k,Fr.mk']
    cases hf : f.i <;> simp [mkT,nodes,cl,cr,hf]
theorem nodes_turn (i : Bool) (xp xs xg yp ys yg : Int) (xc yc xc' yc' : Bool) (a m c : T) : nodes (mkT i yp ys yg yc' (mkT i xp xs xg xc' a m) c) = nodes (mkT i xp xs xg xc a (mkT i yp ys yg yc m c)):=by
  cases i <;> simp [mkT,nodes]
theorem nodes_c (i : Bool) (p s g : Int) (c c' : Bool) (x y : T) : nodes (mkT i p s g c x y) = nodes (mkT i p s g c' x y):=by cases i <;> rfl
theorem nodes_mk (i : Bool) (p s g : Int) (c c' : Bool) {x y x' y' : T} (hx : nodes x = nodes x') (hy : nodes y = nodes y') : nodes (mkT i p s g c x y) = nodes (mkT i p s g c' x' y'):=by cases i <;> simp [mkT,nodes,hx,hy]
theorem nodes_plug_congr (k : Ctx) {t t' : T} (h : nodes t = nodes t') : nodes (plug t k) = nodes (plug t' k):=by rw [nodes_plug,nodes_plug,h]
theorem len_nodes : ∀ t : T,(nodes t).length = t.size
  | .nil => rfl
  | .nd p s g c l r => by simp [nodes,T.size,len_nodes l,len_nodes r];omega
theorem mk_of (i : Bool) (p s g : Int) (c : Bool) (l r : T) : ∃ x y,T.nd p s g c l r = mkT i p s g c x y:=by
  cases i
  · exact ⟨l,r,rfl⟩
  · exact ⟨r,l,rfl⟩
end Go.Proofs.Ytnlohongffpkpaa.T16
end

section
namespace Go.Proofs.Ytnlohongffpkpaa.T16
open Go Go.RowKit Go.Proofs.Ytnlohongffpkpaa.Sx
set_option linter.unusedVariables false
def T_settles (m : Mem) (t : Int) (x : Int) : Tr:=(.lp (.mk [x] [] [] m) (fun y0 j0 => (.br (nzp (hdI y0.1)) (.br (nzp (hdI y0.1)) (.br (okL y0.4 (hdI y0.1) 4 [.nilp]) (.req (redOK y0.4 (gP y0.4 (hdI y0.1) 4)) (.br (redV y0.4 (gP y0.4 (hdI y0.1) 4)) (.br (nzp (hdI y0.1)) (.br (nzp (hdI y0.1)) (.br (okL y0.4 (hdI y0.1) 4 [.nilp]) (.br (nzp (gP y0.4 (hdI y0.1) 4)) (.br (nzp (gP y0.4 (hdI y0.1) 4)) (.br (okL y0.4 (gP y0.4 (hdI y0.1) 4) 4 [.nilp]) (.req (whichOK y0.4 (gP y0.4 (hdI y0.1) 4)) (.br (nzp (gP y0.4 (gP y0.4 (hdI y0.1) 4) 4)) (.br (nzp (gP y0.4 (gP y0.4 (hdI y0.1) 4) 4)) (.br (nzp (gP y0.4 (gP y0.4 (hdI y0.1) 4) 4)) (.br (inR (iSub .i64 1 (whichV y0.4 (gP y0.4 (hdI y0.1) 4))) 2) (.br (okL y0.4 (gP y0.4 (gP y0.4 (hdI y0.1) 4) 4) (aOff 2 (iSub .i64 1 (whichV y0.4 (gP y0.4 (hdI y0.1) 4))) 1) [.nilp]) (.req (redOK y0.4 (gP y0.4 (gP y0.4 (gP y0.4 (hdI y0.1) 4) 4) (aOff 2 (iSub .i64 1 (whichV y0.4 (gP y0.4 (hdI y0.1) 4))) 1))) (.br (redV y0.4 (gP y0.4 (gP y0.4 (gP y0.4 (hdI y0.1) 4) 4) (aOff 2 (iSub .i64 1 (whichV y0.4 (gP y0.4 (hdI y0.1) 4))) 1))) (.br (nzp (gP y0.4 (hdI y0.1) 4)) (.br (nzp (gP y0.4 (hdI y0.1) 4)) (.br (okS y0.4 (gP y0.4 (hdI y0.1) 4) 6 1) (.letm (wrL y0.4 (gP y0.4 (hdI y0.1) 4) 6 [(.bool false)]) (fun m1 => (.br (nzp (gP y0.4 (gP y0.4 (gP y0.4 (hdI y0.1) 4) 4) (aOff 2 (iSub .i64 1 (whichV y0.4 (gP y0.4 (hdI y0.1) 4))) 1))) (.br (nzp (gP y0.4 (gP y0.4 (gP y0.4 (hdI y0.1) 4) 4) (aOff 2 (iSub .i64 1 (whichV y0.4 (gP y0.4 (hdI y0.1) 4))) 1))) (.br (okS m1 (gP y0.4 (gP y0.4 (gP y0.4 (hdI y0.1) 4) 4) (aOff 2 (iSub .i64 1 (whichV y0.4 (gP y0.4 (hdI y0.1) 4))) 1)) 6 1) (.letm (wrL m1 (gP y0.4 (gP y0.4 (gP y0.4 (hdI y0.1) 4) 4) (aOff 2 (iSub .i64 1 (whichV y0.4 (gP y0.4 (hdI y0.1) 4))) 1)) 6 [(.bool false)]) (fun m2 => (.br (nzp (gP y0.4 (gP y0.4 (hdI y0.1) 4) 4)) (.br (nzp (gP y0.4 (gP y0.4 (hdI y0.1) 4) 4)) (.br (okS m2 (gP y0.4 (gP y0.4 (hdI y0.1) 4) 4) 6 1) (.letm (wrL m2 (gP y0.4 (gP y0.4 (hdI y0.1) 4) 4) 6 [(.bool true)]) (fun m3 => (.req ((([(0,(.u (.c (.np t 0))))] : List (Nat × V)) = [(0,(.u (.c (.np t 0))))]) ∧ (([] : List (Nat × Blk)) = [])) (.leaf (.again (.mk [(gP y0.4 (gP y0.4 (hdI y0.1) 4) 4)] [] [] m3)))))) (.no 72)) (.no 76)) (.no 75)))) (.no 72)) (.no 76)) (.no 75)))) (.no 72)) (.no 76)) (.no 75)) (.req (whichOK y0.4 (hdI y0.1)) (.br (iNe (whichV y0.4 (hdI y0.1)) (whichV y0.4 (gP y0.4 (hdI y0.1) 4))) (.req (turnOK y0.4 t (gP y0.4 (hdI y0.1) 4) (whichV y0.4 (gP y0.4 (hdI y0.1) 4))) (.letm (turnM y0.4 t (gP y0.4 (hdI y0.1) 4) (whichV y0.4 (gP y0.4 (hdI y0.1) 4))) (fun m1 => (.br (nzp (hdI y0.1)) (.br (nzp (hdI y0.1)) (.br (okS m1 (hdI y0.1) 6 1) (.letm (wrL m1 (hdI y0.1) 6 [(.bool false)]) (fun m2 => (.br (nzp (gP y0.4 (gP y0.4 (hdI y0.1) 4) 4)) (.br (nzp (gP y0.4 (gP y0.4 (hdI y0.1) 4) 4)) (.br (okS m2 (gP y0.4 (gP y0.4 (hdI y0.1) 4) 4) 6 1) (.letm (wrL m2 (gP y0.4 (gP y0.4 (hdI y0.1) 4) 4) 6 [(.bool true)]) (fun m3 => (.req (turnOK m3 t (gP y0.4 (gP y0.4 (hdI y0.1) 4) 4) (iSub .i64 1 (whichV y0.4 (gP y0.4 (hdI y0.1) 4)))) (.letm (turnM m3 t (gP y0.4 (gP y0.4 (hdI y0.1) 4) 4) (iSub .i64 1 (whichV y0.4 (gP y0.4 (hdI y0.1) 4)))) (fun m4 => (.br (nzp t) (.br (nzp t) (.br (okL m4 t 0 [.nilp]) (.br (nzp (gP m4 t 0)) (.br (nzp (gP m4 t 0)) (.br (okS m4 (gP m4 t 0) 6 1) (.letm (wrL m4 (gP m4 t 0) 6 [(.bool false)]) (fun m5 => (.leaf (.up (.memo (.tup []) m5))))) (.no 72)) (.no 76)) (.no 75)) (.no 70)) (.no 76)) (.no 75))))))) (.no 72)) (.no 76)) (.no 75)))) (.no 72)) (.no 76)) (.no 75))))) (.br (nzp (gP y0.4 (hdI y0.1) 4)) (.br (nzp (gP y0.4 (hdI y0.1) 4)) (.br (okS y0.4 (gP y0.4 (hdI y0.1) 4) 6 1) (.letm (wrL y0.4 (gP y0.4 (hdI y0.1) 4) 6 [(.bool false)]) (fun m1 => (.br (nzp (gP y0.4 (gP y0.4 (hdI y0.1) 4) 4)) (.br (nzp (gP y0.4 (gP y0.4 (hdI y0.1) 4) 4)) (.br (okS m1 (gP y0.4 (gP y0.4 (hdI y0.1) 4) 4) 6 1) (.letm (wrL m1 (gP y0.4 (gP y0.4 (hdI y0.1) 4) 4) 6 [(.bool true)]) (fun m2 => (.req (turnOK m2 t (gP y0.4 (gP y0.4 (hdI y0.1) 4) 4) (iSub .i64 1 (whichV y0.4 (gP y0.4 (hdI y0.1) 4)))) (.letm (turnM m2 t (gP y0.4 (gP y0.4 (hdI y0.1) 4) 4) (iSub .i64 1 (whichV y0.4 (gP y0.4 (hdI y0.1) 4)))) (fun m3 => (.br (nzp t) (.br (nzp t) (.br (okL m3 t 0 [.nilp]) (.br (nzp (gP m3 t 0)) (.br (nzp (gP m3 t 0)) (.br (okS m3 (gP m3 t 0) 6 1) (.letm (wrL m3 (gP m3 t 0) 6 [(.bool false)]) (fun m4 => (.leaf (.up (.memo (.tup []) m4))))) (.no 72)) (.no 76)) (.no 75)) (.no 70)) (.no 76)) (.no 75))))))) (.no 72)) (.no 76)) (.no 75)))) (.no 72)) (.no 76)) (.no 75)))))) (.no 70)) (.no 82)) (.no 81)) (.no 76)) (.no 75))) (.no 70)) (.no 76)) (.no 75)) (.no 70)) (.no 76)) (.no 75)) (.br (nzp t) (.br (nzp t) (.br (okL y0.4 t 0 [.nilp]) (.br (nzp (gP y0.4 t 0)) (.br (nzp (gP y0.4 t 0)) (.br (okS y0.4 (gP y0.4 t 0) 6 1) (.letm (wrL y0.4 (gP y0.4 t 0) 6 [(.bool false)]) (fun m1 => (.leaf (.up (.memo (.tup []) m1))))) (.no 72)) (.no 76)) (.no 75)) (.no 70)) (.no 76)) (.no 75)))) (.no 70)) (.no 76)) (.no 75))))
def T_fillsE (m : Mem) (t p s b : Int) : Tr:=(.br (nzp p) (.br (nzp p) (.br (okL m p 6 [(.lb false)]) (.br (nzp b) (.br (nzp b) (.br (okS m b 6 1) (.letm (wrL m b 6 [(.bool (gB m p 6))]) (fun m1 => (.br (nzp p) (.br (nzp p) (.br (okS m1 p 6 1) (.letm (wrL m1 p 6 [(.bool false)]) (fun m2 => (.br (nzp (gP m b (aOff 2 (iSub .i64 1 s) 1))) (.br (nzp (gP m b (aOff 2 (iSub .i64 1 s) 1))) (.br (okS m2 (gP m b (aOff 2 (iSub .i64 1 s) 1)) 6 1) (.letm (wrL m2 (gP m b (aOff 2 (iSub .i64 1 s) 1)) 6 [(.bool false)]) (fun m3 => (.req (turnOK m3 t p s) (.letm (turnM m3 t p s) (fun m4 => (.leaf (.up (.memo (.tup []) m4)))))))) (.no 72)) (.no 76)) (.no 75)))) (.no 72)) (.no 76)) (.no 75)))) (.no 72)) (.no 76)) (.no 75)) (.no 70)) (.no 76)) (.no 75))
def T_fillsR (m : Mem) (t p s b : Int) : Tr:=(.br (nzp b) (.br (nzp b) (.br (nzp b) (.br (inR s 2) (.br (okL m b (aOff 2 s 1) [.nilp]) (.br (nzp b) (.br (nzp b) (.br (nzp b) (.br (inR (iSub .i64 1 s) 2) (.br (okL m b (aOff 2 (iSub .i64 1 s) 1) [.nilp]) (.req (redOK m (gP m b (aOff 2 (iSub .i64 1 s) 1))) (.br (redV m (gP m b (aOff 2 (iSub .i64 1 s) 1))) (T_fillsE m t p s b) (.req (redOK m (gP m b (aOff 2 s 1))) (.br (redV m (gP m b (aOff 2 s 1))) (.br (nzp (gP m b (aOff 2 s 1))) (.br (nzp (gP m b (aOff 2 s 1))) (.br (okS m (gP m b (aOff 2 s 1)) 6 1) (.letm (wrL m (gP m b (aOff 2 s 1)) 6 [(.bool false)]) (fun m1 => (.br (nzp b) (.br (nzp b) (.br (okS m1 b 6 1) (.letm (wrL m1 b 6 [(.bool true)]) (fun m2 => (.req (turnOK m2 t b (iSub .i64 1 s)) (.letm (turnM m2 t b (iSub .i64 1 s)) (fun m3 => (.br (nzp p) (.br (nzp p) (.br (nzp p) (.br (inR (iSub .i64 1 s) 2) (.br (okL m3 p (aOff 2 (iSub .i64 1 s) 1) [.nilp]) (.br (nzp (gP m3 p (aOff 2 (iSub .i64 1 s) 1))) (.br (nzp (gP m3 p (aOff 2 (iSub .i64 1 s) 1))) (.br (nzp (gP m3 p (aOff 2 (iSub .i64 1 s) 1))) (.br (inR (iSub .i64 1 s) 2) (.br (okL m3 (gP m3 p (aOff 2 (iSub .i64 1 s) 1)) (aOff 2 (iSub .i64 1 s) 1) [.nilp]) (T_fillsE m3 t p s (gP m3 p (aOff 2 (iSub .i64 1 s) 1))) (.no 70)) (.no 82)) (.no 81)) (.no 76)) (.no 75)) (.no 70)) (.no 82)) (.no 81)) (.no 76)) (.no 75))))))) (.no 72)) (.no 76)) (.no 75)))) (.no 72)) (.no 76)) (.no 75)) (.br (nzp b) (.br (nzp b) (.br (okS m b 6 1) (.letm (wrL m b 6 [(.bool true)]) (fun m1 => (.br (nzp p) (.br (nzp p) (.br (okL m1 p 6 [(.lb false)]) (.br (gB m1 p 6) (.br (nzp p) (.br (nzp p) (.br (okS m1 p 6 1) (.letm (wrL m1 p 6 [(.bool false)]) (fun m2 => (.leaf (.up (.memo (.tup []) m2))))) (.no 72)) (.no 76)) (.no 75)) (.req (whichOK m1 p) (.br (nzp p) (.br (nzp p) (.br (okL m1 p 4 [.nilp]) (.req ((([(0,(.u (.c (.np t 0))))] : List (Nat × V)) = [(0,(.u (.c (.np t 0))))]) ∧ (([] : List (Nat × Blk)) = [])) (.leaf (.again (.mk [(gP m1 p 4),(whichV m1 p)] [] [] m1)))) (.no 70)) (.no 76)) (.no 75)))) (.no 70)) (.no 76)) (.no 75)))) (.no 72)) (.no 76)) (.no 75)))))) (.no 70)) (.no 82)) (.no 81)) (.no 76)) (.no 75)) (.no 70)) (.no 82)) (.no 81)) (.no 76)) (.no 75))
def T_fills (m : Mem) (t : Int) (p : Int) (s : Int) : Tr:=(.lp (.mk [p,s] [] [] m) (fun y0 j0 => (.br (cmpOK y0.4 (hdI y0.1) 0) (.br (bNot (peq (hdI y0.1) 0)) (.br (nzp (hdI y0.1)) (.br (nzp (hdI y0.1)) (.br (nzp (hdI y0.1)) (.br (inR (iSub .i64 1 (hdI (tlI y0.1))) 2) (.br (okL y0.4 (hdI y0.1) (aOff 2 (iSub .i64 1 (hdI (tlI y0.1))) 1) [.nilp]) (.br (nzp (gP y0.4 (hdI y0.1) (aOff 2 (iSub .i64 1 (hdI (tlI y0.1))) 1))) (.br (nzp (gP y0.4 (hdI y0.1) (aOff 2 (iSub .i64 1 (hdI (tlI y0.1))) 1))) (.br (okL y0.4 (gP y0.4 (hdI y0.1) (aOff 2 (iSub .i64 1 (hdI (tlI y0.1))) 1)) 6 [(.lb false)]) (.br (gB y0.4 (gP y0.4 (hdI y0.1) (aOff 2 (iSub .i64 1 (hdI (tlI y0.1))) 1)) 6) (.br (nzp (gP y0.4 (hdI y0.1) (aOff 2 (iSub .i64 1 (hdI (tlI y0.1))) 1))) (.br (nzp (gP y0.4 (hdI y0.1) (aOff 2 (iSub .i64 1 (hdI (tlI y0.1))) 1))) (.br (okS y0.4 (gP y0.4 (hdI y0.1) (aOff 2 (iSub .i64 1 (hdI (tlI y0.1))) 1)) 6 1) (.letm (wrL y0.4 (gP y0.4 (hdI y0.1) (aOff 2 (iSub .i64 1 (hdI (tlI y0.1))) 1)) 6 [(.bool false)]) (fun m1 => (.br (nzp (hdI y0.1)) (.br (nzp (hdI y0.1)) (.br (okS m1 (hdI y0.1) 6 1) (.letm (wrL m1 (hdI y0.1) 6 [(.bool true)]) (fun m2 => (.req (turnOK m2 t (hdI y0.1) (hdI (tlI y0.1))) (.letm (turnM m2 t (hdI y0.1) (hdI (tlI y0.1))) (fun m3 => (.br (nzp (hdI y0.1)) (.br (nzp (hdI y0.1)) (.br (nzp (hdI y0.1)) (.br (inR (iSub .i64 1 (hdI (tlI y0.1))) 2) (.br (okL m3 (hdI y0.1) (aOff 2 (iSub .i64 1 (hdI (tlI y0.1))) 1) [.nilp]) (T_fillsR m3 t (hdI y0.1) (hdI (tlI y0.1)) (gP m3 (hdI y0.1) (aOff 2 (iSub .i64 1 (hdI (tlI y0.1))) 1))) (.no 70)) (.no 82)) (.no 81)) (.no 76)) (.no 75))))))) (.no 72)) (.no 76)) (.no 75)))) (.no 72)) (.no 76)) (.no 75)) (T_fillsR y0.4 t (hdI y0.1) (hdI (tlI y0.1)) (gP y0.4 (hdI y0.1) (aOff 2 (iSub .i64 1 (hdI (tlI y0.1))) 1)))) (.no 70)) (.no 76)) (.no 75)) (.no 70)) (.no 82)) (.no 81)) (.no 76)) (.no 75)) (.leaf (.up (.memo (.tup []) y0.4)))) (.no 78))))
end Go.Proofs.Ytnlohongffpkpaa.T16
end

section
namespace Go.Proofs.Ytnlohongffpkpaa.T16
open Go Go.RowKit Go.Proofs.Ytnlohongffpkpaa.Sx
set_option linter.unusedVariables false
set_option linter.unusedSimpArgs false
theorem sat_mono : ∀ {T : Tr} {R R' : Leaf → Prop},(∀ l,R l → R' l) → T.sat R → T.sat R'
  | .leaf l,_,_,h,hs => h l hs
  | .br b t e,_,_,h,hs => ⟨fun hb => sat_mono h (hs.1 hb),fun hb => sat_mono h (hs.2 hb)⟩
  | .no _,_,_,_,hs => hs
  | .req p t,_,_,h,hs => ⟨hs.1,sat_mono (T:=t) h hs.2⟩
  | .any q f,_,_,h,hs => fun y hq => sat_mono (T:=f y) h (hs y hq)
  | .letm m f,_,_,h,hs => sat_mono (T:=f m) h hs
  | .lp x f,R,R',h,hs => by
    obtain ⟨I,μ,h1,h2⟩:=hs
    refine ⟨I,μ,h1,fun y j hI => sat_mono (T:=f y j) (fun l hl => ?_) (h2 y j hI)⟩
    cases l <;> first | exact hl | exact h _ hl
def inLoopJ (J : Nat → Vars → Prop) (n : Nat) (R : Leaf → Prop) : Leaf → Prop
  | .again y => ∃ n',n' < n ∧ J n' y
  | .up l => R l
  | _ => False
theorem least {p : Nat → Prop} (h : ∃ n,p n) : ∃ n,p n ∧ ∀ m,m < n → ¬ p m:=by
  obtain ⟨n,hn⟩:=h
  induction n using Nat.strongRecOn with
  | _ n ih =>
    by_cases hx : ∃ m,m < n ∧ p m
    · obtain ⟨m,h1,h2⟩:=hx
      exact ih m h1 h2
    · exact ⟨n,hn,fun m hm hp => hx ⟨m,hm,hp⟩⟩
theorem lp_idx {R : Leaf → Prop} {x : Vars} {f : Vars → (Nat → Value) → Tr} (J : Nat → Vars → Prop) {n0 : Nat} (h0 : J n0 x) (h : ∀ n y j,J n y → (f y j).sat (inLoopJ J n R)) : (Tr.lp x f).sat R:=by
  have hl : ∀ y,(∃ n,J n y) → ∃ n,J n y ∧ ∀ m,m < n → ¬ J m y:=fun y hy => least hy
  let μ : Vars → Nat:=fun y => @dite _ (∃ n,J n y) (Classical.propDecidable _) (fun hy => Classical.choose (hl y hy)) (fun _ => 0)
  have hμ : ∀ y,(∃ n,J n y) → J (μ y) y ∧ ∀ m,J m y → μ y ≤ m:=by
    intro y hy
    have e : μ y = Classical.choose (hl y hy):=by simp only [μ,dif_pos hy]
    rw [e]
    obtain ⟨h1,h2⟩:=Classical.choose_spec (hl y hy)
    refine ⟨h1,fun m hm => ?_⟩
    rcases Nat.lt_or_ge m (Classical.choose (hl y hy)) with h3 | h3
    · exact absurd hm (h2 m h3)
    · exact h3
  refine ⟨fun y => ∃ n,J n y,μ,⟨n0,h0⟩,fun y j hI => ?_⟩
  refine sat_mono (fun l hl => ?_) (h (μ y) y j (hμ y hI).1)
  cases l with
  | again y' =>
    obtain ⟨n',h1,h2⟩:=hl
    exact ⟨⟨n',h2⟩,Nat.lt_of_le_of_lt ((hμ y' ⟨n',h2⟩).2 n' h2) h1⟩
  | up l => exact hl
  | _ => exact hl.elim
theorem brT {R : Leaf → Prop} {b : Bool} {t e : Tr} (hb : b = true) : (Tr.br b t e).sat R ↔ t.sat R:=by subst hb;exact sat_brT
theorem brF {R : Leaf → Prop} {b : Bool} {t e : Tr} (hb : b = false) : (Tr.br b t e).sat R ↔ e.sat R:=by subst hb;exact sat_brF
theorem settle_end {S : TS} {b : Mem} {p s g : Int} {c : Bool} {l r : T} (h : At S (.nd p s g c l r) []) {Q : Leaf → Prop}
    (hQ : ∀ S',S.like S' → At S' (.nd p s g false l r) [] → Q (.up (.memo (.tup []) (S'.mem b)))) :
    (Tr.br (nzp S.p) (.br (nzp S.p) (.br (okL (S.mem b) S.p 0 [.nilp]) (.br (nzp (gP (S.mem b) S.p 0)) (.br (nzp (gP (S.mem b) S.p 0)) (.br (okS (S.mem b) (gP (S.mem b) S.p 0) 6 1) (.letm (wrL (S.mem b) (gP (S.mem b) S.p 0) 6 [(.bool false)]) (fun m1 => (.leaf (.up (.memo (.tup []) m1))))) (.no 72)) (.no 76)) (.no 75)) (.no 70)) (.no 76)) (.no 75)).sat Q:=by
  have hp : S.H p = some _:=h.rep.1
  have hroot : S.root = p:=h.ctx
  have e0 : gP (S.mem b) S.p 0 = p:=by rw [gP_t h.ok,hroot]
  rw [brT nz_t,brT nz_t,brT okL_t,e0,brT (nz_n h.ok hp),brT (nz_n h.ok hp),brT (okS_n h.ok hp rfl),sat_letm,wr_c h.ok hp]
  have:=At.setc (i:=false) (x:=l) (y:=r) h false
  exact hQ _ (like_set hp) this
structure Settled (S : TS) (L : List (Int × Int × Int)) (S' : TS) : Prop where
  like : S.like S'
  tree : ∃ t n,At S' t [] ∧ nodes t = L ∧ RB t n ∧ red t = false
theorem settle_fin {S S1 : TS} {L : List (Int × Int × Int)} {t : T} {n : Nat} (hl : S.like S1) (h : At S1 t []) (hL : nodes t = L) (hr : RB t n) (hd : red t = false) : Settled S L S1:=⟨hl,t,n,h,hL,hr,hd⟩
theorem At.which {S : TS} {b : Mem} {i : Bool} {p s g : Int} {c : Bool} {x y : T} {f : Fr} {k : Ctx} (h : At S (mkT i p s g c x y) (f :: k)) : whichOK (S.mem b) p ∧ whichV (S.mem b) p = bi f.i:=by
  have hp:=h.get
  have hf:=h.getf
  rw [ptr_mk] at hf
  have hne : f.o.ptr ≠ p:=by
    intro e
    have:=h.ptr_ne.2.2.2
    rw [ptr_mk] at this
    exact p_ne0 h.ok hp (this e.symm)
  have hu : ((Fr.mk i p s g c y).node x.ptr (topP (f :: k)) x.size).u = f.p:=node_u _ _ _ _
  have hr : (f.node p (topP k) (mkT i p s g c x y).size).r = match f.i with | true => p | false => f.o.ptr:=by
    unfold Fr.node;split <;> (rename_i e;rw [e])
  obtain ⟨w1,w2⟩:=which_spec (b:=b) h.ok hp (du:=f.node p (topP k) (mkT i p s g c x y).size) (by rw [hu];exact hf) (by
    rw [hr]
    cases f.i
    · exact rep_has h.ctx.2.1
    · exact .inr ⟨_,hp⟩)
  refine ⟨w1,?_⟩
  rw [w2,hr]
  cases f.i
  · simp [hne]
  · simp
theorem red_at {S : TS} {b : Mem} (hS : S.ok) {u : Int} {t : T} (h : Rep S.H u t) : redOK (S.mem b) t.ptr ∧ redV (S.mem b) t.ptr = red t:=by
  obtain ⟨r1,r2⟩:=red_spec (b:=b) hS (rep_has h)
  refine ⟨r1,?_⟩
  rw [r2]
  cases t with
  | nil => rw [show T.nil.ptr = 0 from rfl,H_zero hS];rfl
  | nd p s g c l r => rw [show (T.nd p s g c l r).ptr = p from rfl,h.1];rfl
theorem red_form {t : T} (h : red t = true) : ∃ p s g l r,t = mkT false p s g true l r:=by
  cases t with
  | nil => cases h
  | nd p s g c l r => cases h;exact ⟨p,s,g,l,r,rfl⟩
theorem At.side {S : TS} {t : T} {f : Fr} {k : Ctx} (h : At S t (f :: k)) : At S f.o (Fr.mk (!f.i) f.p f.s f.g f.c t :: k):=by
  have h1:=h.out
  rw [Fr.mk',mk_flip] at h1
  exact At.into (f:=Fr.mk (!f.i) f.p f.s f.g f.c t) h1
theorem settles_walk {S : TS} {b : Mem} {i : Bool} {x s g : Int} {l r : T} {k : Ctx} {n : Nat} (h : At S (mkT i x s g true l r) k) (h1 : RB l n) (h2 : RB r n) (h3 : red l = false) (h4 : red r = false) (h5 : RBC k n) :
    (T_settles (S.mem b) S.p x).sat (isMemo fun v m => v = .tup [] ∧ ∃ S',m = S'.mem b ∧ Settled S (nodes (plug (mkT i x s g true l r) k)) S'):=by
  generalize hL : nodes (plug (mkT i x s g true l r) k) = L
  unfold T_settles
  let J : Nat → Vars → Prop:=fun N y => ∃ (i : Bool) (x s g : Int) (l r : T) (k : Ctx) (n : Nat) (S1 : TS),N = k.length ∧ y.i = [x] ∧ y.m = S1.mem b ∧ S.like S1 ∧ At S1 (mkT i x s g true l r) k ∧ RB l n ∧ RB r n ∧ red l = false ∧ red r = false ∧ RBC k n ∧ nodes (plug (mkT i x s g true l r) k) = L
  refine lp_idx J (n0:=k.length) ⟨i,x,s,g,l,r,k,n,S,rfl,rfl,rfl,TS.like.refl S,h,h1,h2,h3,h4,h5,hL⟩ ?_
  clear h h1 h2 h3 h4 h5 hL
  rintro N ⟨yi,yb,yv,ym⟩ j ⟨i,x,s,g,l,r,k,n,S1,rfl,hyi,hym,hlike,h,h1,h2,h3,h4,h5,hL⟩
  simp only at hyi hym
  subst hyi hym
  have hp1 : S1.p = S.p:=like_p hlike
  simp only [hdI]
  have hx:=h.get
  have hu : gP (S1.mem b) x 4 = topP k:=(gP_u h.ok hx).trans (node_u _ _ _ _)
  rw [brT (nz_n h.ok hx),brT (nz_n h.ok hx),brT (okL_4 h.ok hx),hu]
  -- the end,for a tree whose root may be red
  have fin : ∀ (N : Nat) (S2 : TS) (t : T) (n : Nat),S.like S2 → At S2 t [] → nodes t = L → t ≠ .nil → RB t n →
      (Tr.br (nzp S.p) (.br (nzp S.p) (.br (okL (S2.mem b) S.p 0 [.nilp]) (.br (nzp (gP (S2.mem b) S.p 0)) (.br (nzp (gP (S2.mem b) S.p 0)) (.br (okS (S2.mem b) (gP (S2.mem b) S.p 0) 6 1) (.letm (wrL (S2.mem b) (gP (S2.mem b) S.p 0) 6 [(.bool false)]) (fun m1 => (.leaf (.up (.memo (.tup []) m1))))) (.no 72)) (.no 76)) (.no 75)) (.no 70)) (.no 76)) (.no 75)).sat
        (inLoopJ J N (isMemo fun v m => v = .tup [] ∧ ∃ S',m = S'.mem b ∧ Settled S L S')):=by
    intro N S2 t n hl2 ht hn hne hrb
    cases t with
    | nil => exact absurd rfl hne
    | nd p s g c l r =>
      rw [← like_p hl2]
      refine settle_end ht fun S' hl' ht' => ⟨rfl,S',rfl,?_⟩
      refine ⟨hl2.trans hl',.nd p s g false l r,(match c with | true => n + 1 | false => n),ht',hn,?_,rfl⟩
      cases c with
      | true => exact ⟨n,rfl,hrb.1,hrb.2.1⟩
      | false => exact hrb
  cases k with
  | nil =>
    obtain ⟨r1,r2⟩:=red_spec (b:=b) h.ok (.inl rfl : S1.has (topP []))
    rw [show topP [] = 0 from rfl,H_zero h.ok] at r2
    rw [sat_req]
    refine ⟨r1,?_⟩
    rw [brF (show redV (S1.mem b) (topP []) = false from r2)]
    exact fin _ S1 _ n hlike h hL (fun e => by cases i <;> cases e) (RB_red.2 ⟨h1,h2,h3,h4⟩)
  | cons f k =>
    have hf:=h.getf
    obtain ⟨r1,r2⟩:=red_spec (b:=b) h.ok (.inr ⟨_,hf⟩ : S1.has f.p)
    rw [hf] at r2
    simp only [node_c] at r2
    have htop : topP (f :: k) = f.p:=rfl
    rw [sat_req,htop]
    refine ⟨r1,?_⟩
    cases hfc : f.c with
    | false =>
      rw [hfc] at r2
      rw [brF r2]
      rw [RBC_blk hfc] at h5
      obtain ⟨m,g1,g2⟩:=plug_RB (k:=k) (t:=f.mk' (mkT i x s g true l r)) (n:=n + 1) (by rw [Fr.mk',hfc];exact RB_blk.2 ⟨RB_red.2 ⟨h1,h2,h3,h4⟩,h5.1⟩) (fun hh => by rw [Fr.mk',red_mk,hfc] at hh;cases hh) h5.2
      refine fin _ S1 (plug (mkT i x s g true l r) (f :: k)) m hlike h.outs hL ?_ g1
      intro e
      have:=size_plug (f :: k) (mkT i x s g true l r)
      rw [e,size_mk] at this
      simp only [T.size] at this
      omega
    | true =>
      rw [hfc] at r2
      rw [brT r2]
      rw [RBC_red hfc] at h5
      obtain ⟨h5a,h5b,h5c,h5d⟩:=h5
      cases k with
      | nil => simp [mayR] at h5c
      | cons f2 k =>
      have h5c : f2.c = false:=by simpa [mayR] using h5c
      rw [RBC_blk h5c] at h5d
      obtain ⟨h6,h7⟩:=h5d
      have ho:=h.out
      have hg:=ho.getf
      have hfu : gP (S1.mem b) f.p 4 = f2.p:=(gP_u h.ok hf).trans (node_u _ _ _ _)
      rw [Fr.mk'] at ho
      obtain ⟨w1,w2⟩:=At.which (b:=b) ho
      obtain ⟨wx1,wx2⟩:=At.which (b:=b) h
      have hgo : gP (S1.mem b) f2.p (bOff (!f2.i)) = f2.o.ptr:=(gP_ch h.ok hg (!f2.i)).trans (node_ch' _ _ _ _)
      have hrep2 : Rep S1.H f2.p f2.o:=ho.ctx.2.1
      obtain ⟨q1,q2⟩:=red_at (b:=b) h.ok hrep2
      rw [brT (nz_n h.ok hx),brT (nz_n h.ok hx),brT (okL_4 h.ok hx),brT (nz_n h.ok hf),brT (nz_n h.ok hf),brT (okL_4 h.ok hf),hfu,sat_req]
      refine ⟨w1,?_⟩
      rw [w2,sub_bi,aOff_bi,brT (nz_n h.ok hg),brT (nz_n h.ok hg),brT (nz_n h.ok hg),brT (inR_bi _),brT (okL_ch h.ok hg _),hgo,sat_req]
      refine ⟨q1,?_⟩
      cases hro : red f2.o with
      | true =>
        rw [brT (q2.trans hro)]
        obtain ⟨u,us,ug,ul,ur,hU⟩:=red_form hro
        -- the one above: black
        have a2:=At.setc ho false
        rw [brT (nz_n h.ok hf),brT (nz_n h.ok hf),brT (okS_n h.ok hf rfl),sat_letm,wr_c h.ok hf]
        have e2 : S1.set f.p { f.node (mkT i x s g true l r).ptr (topP (f2 :: k)) (mkT i x s g true l r).size with c:=false } = S1.set f.p { (Fr.mk f.i f.p f.s f.g f.c f.o).node (mkT i x s g true l r).ptr (topP (f2 :: k)) (mkT i x s g true l r).size with c:=false }:=rfl
        rw [e2]
        generalize hS2 : S1.set f.p { (Fr.mk f.i f.p f.s f.g f.c f.o).node (mkT i x s g true l r).ptr (topP (f2 :: k)) (mkT i x s g true l r).size with c:=false } = S2 at a2
        have l2 : S1.like S2:=by rw [← hS2];exact like_set hf
        -- the uncle: black
        have b2:=a2.side
        rw [hU] at b2
        have hu2:=b2.get
        have b3:=At.setc b2 false
        have hup : f2.o.ptr = u:=by rw [hU];rfl
        rw [hup,brT (nz_n a2.ok hu2),brT (nz_n a2.ok hu2),brT (okS_n a2.ok hu2 rfl),sat_letm,wr_c a2.ok hu2]
        generalize hS3 : S2.set u _ = S3 at b3
        have l3 : S2.like S3:=by rw [← hS3];exact like_set hu2
        -- the grandparent: red
        have c3:=b3.out
        have hg3:=b3.getf
        rw [Fr.mk',mk_flip] at c3
        simp only [Bool.not_not] at c3
        have c4:=At.setc c3 true
        have hg3':=c3.get
        rw [brT (nz_n b3.ok hg3'),brT (nz_n b3.ok hg3'),brT (okS_n b3.ok hg3' rfl),sat_letm,wr_c b3.ok hg3']
        generalize hS4 : S3.set f2.p _ = S4 at c4
        have l4 : S3.like S4:=by rw [← hS4];exact like_set hg3'
        rw [sat_req]
        refine ⟨by simp,k.length,by simp only [List.length_cons];omega,f2.i,f2.p,f2.s,f2.g,_,_,k,n + 1,S4,rfl,rfl,rfl,((hlike.trans l2).trans l3).trans l4,c4,?_,?_,?_,rfl,h7,?_⟩
        · exact RB_blk.2 ⟨RB_red.2 ⟨h1,h2,h3,h4⟩,h5a⟩
        · rw [hU] at h6
          exact RB_blk.2 ⟨(RB_red.1 h6).1,(RB_red.1 h6).2.1⟩
        · exact red_mk _ _ _ _ _ _ _
        · rw [← hL]
          refine nodes_plug_congr k ?_
          rw [Fr.mk',Fr.mk']
          refine nodes_mk _ _ _ _ _ _ (nodes_mk _ _ _ _ _ _ rfl rfl) ?_
          rw [hU];rfl
      | false =>
        rw [brF (q2.trans hro),sat_req]
        refine ⟨wx1,?_⟩
        rw [wx2]
        by_cases hff : f.i = f2.i
        · have hne : iNe (bi f.i) (bi f2.i) = false:=by rw [hff];simp [iNe]
          rw [brF hne]
          have a2:=At.setc ho false
          rw [brT (nz_n h.ok hf),brT (nz_n h.ok hf),brT (okS_n h.ok hf rfl),sat_letm,wr_c h.ok hf]
          have e2 : S1.set f.p { f.node (mkT i x s g true l r).ptr (topP (f2 :: k)) (mkT i x s g true l r).size with c:=false } = S1.set f.p { (Fr.mk f.i f.p f.s f.g f.c f.o).node (mkT i x s g true l r).ptr (topP (f2 :: k)) (mkT i x s g true l r).size with c:=false }:=rfl
          rw [e2]
          generalize hS2 : S1.set f.p { (Fr.mk f.i f.p f.s f.g f.c f.o).node (mkT i x s g true l r).ptr (topP (f2 :: k)) (mkT i x s g true l r).size with c:=false } = S2 at a2
          have l2 : S1.like S2:=by rw [← hS2];exact like_set hf
          have c2:=a2.out
          rw [Fr.mk'] at c2
          have hg2:=c2.get
          have c3:=At.setc c2 true
          rw [brT (nz_n a2.ok hg2),brT (nz_n a2.ok hg2),brT (okS_n a2.ok hg2 rfl),sat_letm,wr_c a2.ok hg2]
          generalize hS3 : S2.set f2.p _ = S3 at c3
          have l3 : S2.like S3:=by rw [← hS3];exact like_set hg2
          have hl3:=(hlike.trans l2).trans l3
          rw [mk_flip f2.i,hff,mk_flip f2.i f.p] at c3
          obtain ⟨t1,S4,t2,tl,t7⟩:=At.turn (b:=b) c3
          rw [like_p hl3] at t1 t2
          rw [sat_req]
          refine ⟨t1,?_⟩
          rw [sat_letm,t2]
          obtain ⟨m,g1,g2⟩:=plug_RB (k:=k) (n:=n + 1) (RB_blk.2 ⟨RB_red.2 ⟨h6,h5a,hro,h5b⟩,RB_red.2 ⟨h1,h2,h3,h4⟩⟩ : RB (mkT (!f2.i) f.p f.s f.g false (mkT (!f2.i) f2.p f2.s f2.g true f2.o f.o) (mkT i x s g true l r)) (n + 1)) (fun hh => by rw [red_mk] at hh;cases hh) h7
          refine fin _ S4 _ m (hl3.trans tl) t7.outs ?_ ?_ g1
          · rw [← hL]
            refine nodes_plug_congr k ?_
            rw [Fr.mk',Fr.mk',nodes_turn (!f2.i) f2.p f2.s f2.g f.p f.s f.g f2.c f.c,← mk_flip,hff,← mk_flip]
          · intro e
            have:=size_plug k (mkT (!f2.i) f.p f.s f.g false (mkT (!f2.i) f2.p f2.s f2.g true f2.o f.o) (mkT i x s g true l r))
            rw [e,size_mk] at this
            simp only [T.size] at this
            omega
        · have hfi : f.i = !f2.i:=by cases h8 : f.i <;> cases h9 : f2.i <;> simp_all
          have hne : iNe (bi f.i) (bi f2.i) = true:=by rw [hfi];cases f2.i <;> rfl
          rw [brT hne,sat_req]
          obtain ⟨m,c,hX,x1,x2,x3,x4⟩ : ∃ m c,mkT i x s g true l r = mkT f2.i x s g true m c ∧ RB m n ∧ RB c n ∧ red m = false ∧ red c = false:=by
            by_cases e : i = f2.i
            · subst e;exact ⟨l,r,rfl,h1,h2,h3,h4⟩
            · have e : f2.i = !i:=by cases h8 : f2.i <;> cases h9 : i <;> simp_all
              exact ⟨r,l,by rw [e];exact mk_flip _ _ _ _ _ _ _,h2,h1,h4,h3⟩
          rw [hX,hfi,mk_flip (!f2.i)] at ho
          simp only [Bool.not_not] at ho
          obtain ⟨t1,S2,t2,tl,a2⟩:=At.turn (b:=b) ho
          rw [hp1] at t1 t2
          refine ⟨t1,?_⟩
          rw [sat_letm,t2]
          have hx2:=a2.get
          have a3:=At.setc a2 false
          rw [brT (nz_n a2.ok hx2),brT (nz_n a2.ok hx2),brT (okS_n a2.ok hx2 rfl),sat_letm,wr_c a2.ok hx2]
          generalize hS3 : S2.set x _ = S3 at a3
          have l3 : S2.like S3:=by rw [← hS3];exact like_set hx2
          have c3:=a3.out
          rw [Fr.mk'] at c3
          have hg3:=c3.get
          have c4:=At.setc c3 true
          rw [brT (nz_n a3.ok hg3),brT (nz_n a3.ok hg3),brT (okS_n a3.ok hg3 rfl),sat_letm,wr_c a3.ok hg3]
          generalize hS4 : S3.set f2.p _ = S4 at c4
          have l4 : S3.like S4:=by rw [← hS4];exact like_set hg3
          have hl4:=((hlike.trans tl).trans l3).trans l4
          rw [mk_flip f2.i f2.p,mk_flip f2.i x] at c4
          obtain ⟨u1,S5,u2,ul,c5⟩:=At.turn (b:=b) c4
          rw [like_p hl4] at u1 u2
          rw [sat_req]
          refine ⟨u1,?_⟩
          rw [sat_letm,u2]
          obtain ⟨m',g1,g2⟩:=plug_RB (k:=k) (n:=n + 1) (RB_blk.2 ⟨RB_red.2 ⟨h6,x2,hro,x4⟩,RB_red.2 ⟨h5a,x1,h5b,x3⟩⟩ : RB (mkT (!f2.i) x s g false (mkT (!f2.i) f2.p f2.s f2.g true f2.o c) (mkT f2.i f.p f.s f.g true f.o m)) (n + 1)) (fun hh => by rw [red_mk] at hh;cases hh) h7
          rw [hfc] at c5
          refine fin _ S5 _ m' (hl4.trans ul) c5.outs ?_ ?_ g1
          · rw [← hL]
            refine nodes_plug_congr k ?_
            rw [Fr.mk',Fr.mk',nodes_turn (!f2.i) f2.p f2.s f2.g x s g f2.c true,← mk_flip,hfi,hX]
            refine nodes_mk _ _ _ _ _ _ ?_ rfl
            rw [← mk_flip,nodes_turn f2.i f.p f.s f.g x s g f.c true,mk_flip f2.i]
          · intro e
            have:=size_plug k (mkT (!f2.i) x s g false (mkT (!f2.i) f2.p f2.s f2.g true f2.o c) (mkT f2.i f.p f.s f.g true f.o m))
            rw [e,size_mk] at this
            simp only [T.size] at this
            omega
end Go.Proofs.Ytnlohongffpkpaa.T16
end

section
namespace Go.Proofs.Ytnlohongffpkpaa.T16
open Go Go.RowKit Go.Proofs.Ytnlohongffpkpaa.Sx
set_option linter.unusedVariables false
set_option linter.unusedSimpArgs false
theorem sat_all {G : Type} (hne : Nonempty G) : ∀ {T : Tr} {R : G → Leaf → Prop},(∀ g,T.sat (R g)) → T.sat (fun l => ∀ g,R g l)
  | .leaf l,_,h => h
  | .br b t e,_,h => ⟨fun hb => sat_all hne fun g => (h g).1 hb,fun hb => sat_all hne fun g => (h g).2 hb⟩
  | .no _,_,h => (hne.elim fun g => h g)
  | .req p t,_,h => ⟨hne.elim fun g => (h g).1,sat_all (T:=t) hne fun g => (h g).2⟩
  | .any q f,_,h => fun y hq => sat_all (T:=f y) hne fun g => h g y hq
  | .letm m f,_,h => sat_all (T:=f m) hne h
  | .lp x f,R,h => by
    have hc : ∀ g,∃ (q : (Vars → Prop) × (Vars → Nat)),q.1 x ∧ ∀ y j,q.1 y → (f y j).sat (inLoop q.1 (q.2 y) q.2 (R g)):=fun g => by
      obtain ⟨I,μ,h1,h2⟩:=h g
      exact ⟨(I,μ),h1,h2⟩
    let I : G → Vars → Prop:=fun g => (Classical.choose (hc g)).1
    let μ : G → Vars → Nat:=fun g => (Classical.choose (hc g)).2
    have h1 : ∀ g,I g x:=fun g => (Classical.choose_spec (hc g)).1
    have h2 : ∀ g y j,I g y → (f y j).sat (inLoop (I g) (μ g y) (μ g) (R g)):=fun g => (Classical.choose_spec (hc g)).2
    obtain ⟨g0⟩:=hne
    refine ⟨fun y => ∀ g,I g y,μ g0,h1,fun y j hI => ?_⟩
    refine sat_mono (fun l hl => ?_) (sat_all (T:=f y j) ⟨g0⟩ fun g => h2 g y j (hI g))
    cases l with
    | again y' => exact ⟨fun g => (hl g).1,(hl g0).2⟩
    | up l => exact fun g => hl g
    | _ => exact (hl g0).elim
theorem sat_ghost {G : Type} (hne : Nonempty G) {T : Tr} {p : G → V → Mem → Prop} (h : ∀ g,T.sat (isMemo (p g))) : T.sat (isMemo fun v x => ∀ g,p g v x):=by
  refine sat_mono (fun l hl => ?_) (sat_all hne h)
  cases l with
  | memo v x => exact fun g => hl g
  | _ => exact hne.elim fun g => hl g
structure SettG where
  S : TS
  b : Mem
  i : Bool
  s : Int
  g : Int
  l : T
  r : T
  k : Ctx
  n : Nat
def SettG.pre (G : SettG) (m : Mem) (t x : Int) : Prop :=
  m = G.S.mem G.b ∧ t = G.S.p ∧ At G.S (mkT G.i x G.s G.g true G.l G.r) G.k ∧ RB G.l G.n ∧ RB G.r G.n ∧ red G.l = false ∧ red G.r = false ∧ RBC G.k G.n
def SettG.post (G : SettG) (x : Int) (y : Vars) : Prop:=∃ S',y.m = S'.mem G.b ∧ Settled G.S (nodes (plug (mkT G.i x G.s G.g true G.l G.r) G.k)) S'
def settlesP (m : Mem) (t x : Int) : Prop:=∃ G : SettG,G.pre m t x
def settlesQ (m : Mem) (t x : Int) (y : Vars) : Prop:=∀ G : SettG,G.pre m t x → G.post x y
def s_settles : Sum:=memSum 49 fun m a => match a with | [a0,a1] => (match ptrOf a0,ptrOf a1 with | some t,some x => some ⟨settlesP m t x,settlesQ m t x,fun y => .tup []⟩ | _,_ => none) | _ => none
theorem t_settles (m : Mem) (t : Int) (x : Int) : runm Try.prog [s_turn,s_which,s_red] (drawl Try.prog [s_turn,s_which,s_red] (fun _ _ => some ⟨[1],[],[0],[]⟩)) 300 49 [.u (.c (.np t 0)),.u (.c (.np x 0))] m [98] = T_settles m t x:=by kernel_rfl
theorem s_settles_ok : SumOK Try.prog s_settles:=by
  refine memSum_ok ⟨_,Try.func49,by kernel_rfl⟩ fun m args ms h hp hw ρ w hm => ?_
  split at h
  · split at h
    · rename_i a0 a1 _ _ t x h0 h1
      cases h
      have hS : ∀ q ∈ [s_turn,s_which,s_red],SumOK Try.prog q:=okc s_turn_ok (okc s_which_ok (okc s_red_ok okn))
      refine mm_calls nameOK hS (drawl_sound nameOK hS (by kernel_rfl) _) 300 _ m _ (t_settles m t x) ρ ?_ w hm (by simp only [List.map_cons,List.map_nil,ptrOf_den h0,ptrOf_den h1])
      obtain ⟨G0,hG0⟩:=hp
      have key:=sat_ghost (G:={ G : SettG // G.pre m t x }) ⟨⟨G0,hG0⟩⟩ (T:=T_settles m t x) (p:=fun G v x' => v = .tup [] ∧ G.1.post x ⟨[],[],[],x'⟩) fun ⟨G,hG⟩ => by
        obtain ⟨rfl,rfl,g1,g2,g3,g4,g5,g6⟩:=hG
        exact settles_walk g1 g2 g3 g4 g5 g6
      refine sat_mono (fun l hl => ?_) key
      cases l with
      | memo v x' => exact ⟨⟨[],[],[],x'⟩,fun G hG => (hl ⟨G,hG⟩).2,by rw [(hl ⟨G0,hG0⟩).1],rfl⟩
      | _ => exact hl.elim
    · cases h
  · cases h
end Go.Proofs.Ytnlohongffpkpaa.T16
end

section
namespace Go.Proofs.Ytnlohongffpkpaa.T16
open Go Go.RowKit Go.Proofs.Ytnlohongffpkpaa.Sx
set_option linter.unusedVariables false
set_option linter.unusedSimpArgs false
theorem At.col {S : TS} {b : Mem} {i : Bool} {p s g : Int} {c : Bool} {x y : T} {k : Ctx} (h : At S (mkT i p s g c x y) k) (v : Bool) {f : Mem → Tr} {Q : Leaf → Prop} {n1 n2 n3 : Nat}
    (hk : ∀ S',S.like S' → At S' (mkT i p s g v x y) k → (f (S'.mem b)).sat Q) :
    (Tr.br (nzp p) (.br (nzp p) (.br (okS (S.mem b) p 6 1) (.letm (wrL (S.mem b) p 6 [.bool v]) f) (.no n1)) (.no n2)) (.no n3)).sat Q:=by
  have hp:=h.get
  rw [brT (nz_n h.ok hp),brT (nz_n h.ok hp),brT (okS_n h.ok hp rfl),sat_letm,wr_c h.ok hp]
  exact hk _ (like_set hp) (h.setc v)
theorem At.turnS {S0 S : TS} {b : Mem} {k : Ctx} {i : Bool} {xp xs xg yp ys yg : Int} {xc yc : Bool} {a m c : T} (hl : S0.like S) (h : At S (mkT i xp xs xg xc a (mkT i yp ys yg yc m c)) k) {f : Mem → Tr} {Q : Leaf → Prop}
    (hk : ∀ S',S.like S' → At S' (mkT i yp ys yg yc (mkT i xp xs xg xc a m) c) k → (f (S'.mem b)).sat Q) :
    (Tr.req (turnOK (S.mem b) S0.p xp (bi i)) (.letm (turnM (S.mem b) S0.p xp (bi i)) f)).sat Q:=by
  obtain ⟨t1,S4,t2,tl,t7⟩:=At.turn (b:=b) h
  rw [← like_p hl,sat_req,sat_letm,t2]
  exact ⟨t1,hk S4 tl t7⟩
theorem At.far {S : TS} {i : Bool} {p s g : Int} {c : Bool} {x y : T} {k : Ctx} (h : At S (mkT i p s g c x y) k) : At S y (Fr.mk (!i) p s g c x :: k):=by
  rw [mk_flip i p] at h
  exact At.into (f:=Fr.mk (!i) p s g c x) h
theorem At.near {S : TS} {i : Bool} {p s g : Int} {c : Bool} {x y : T} {k : Ctx} (h : At S (mkT i p s g c x y) k) : At S x (Fr.mk i p s g c y :: k):=At.into (f:=Fr.mk i p s g c y) h
theorem At.back {S : TS} {i : Bool} {p s g : Int} {c : Bool} {x y : T} {k : Ctx} (h : At S y (Fr.mk (!i) p s g c x :: k)) : At S (mkT i p s g c x y) k:=by
  rw [mk_flip i p];exact h.out
theorem form_of (i : Bool) {t : T} (h : t ≠ .nil) : ∃ p s g c x y,t = mkT i p s g c x y:=by
  cases t with
  | nil => exact absurd rfl h
  | nd p s g c l r =>
    obtain ⟨x,y,e⟩:=mk_of i p s g c l r
    exact ⟨p,s,g,c,x,y,e⟩
theorem red_mk' {i : Bool} {p s g : Int} {c : Bool} {x y : T} : red (mkT i p s g c x y) = c:=red_mk _ _ _ _ _ _ _
theorem red_nn {t : T} (h : red t = true) : t ≠ .nil:=by rintro rfl;cases h
theorem RB_nn {t : T} {n : Nat} (h : RB t (n + 1)) : t ≠ .nil:=by rintro rfl;cases h
theorem fillsE_walk {S0 S : TS} {b : Mem} {i : Bool} {p ps pg : Int} {pc : Bool} {t : T} {k : Ctx} {n : Nat} {B bs bg : Int} {near far : T} {L : List (Int × Int × Int)} (hl : S0.like S)
    (h : At S (mkT i p ps pg pc t (mkT i B bs bg false near far)) k) (h1 : RB t n) (h2 : red far = true) (h3 : RBC (Fr.mk i p ps pg pc (mkT i B bs bg false near far) :: k) (n + 1))
    (hL : nodes (plug (mkT i p ps pg pc t (mkT i B bs bg false near far)) k) = L) {Q : Leaf → Prop} (hQ : ∀ S',Settled S0 L S' → Q (.up (.memo (.tup []) (S'.mem b)))) :
    (T_fillsE (S.mem b) S0.p p (bi i) B).sat Q:=by
  unfold T_fillsE
  have hp:=h.get
  have hs:=h.far
  have hB:=hs.get
  have hfar : gP (S.mem b) B (bOff (!i)) = far.ptr:=(gP_ch h.ok hB (!i)).trans (node_ch' _ _ _ _)
  obtain ⟨F,fs,fg,fc,f1,f2,hF⟩:=form_of i (red_nn h2)
  have hfc : fc = true:=by rw [hF,red_mk] at h2;exact h2
  subst hfc
  rw [sub_bi,aOff_bi,hfar,hF,ptr_mk,brT (nz_n h.ok hp),brT (nz_n h.ok hp),brT (okL_6 h.ok hp),gB_c h.ok hp,node_c]
  refine At.col hs pc fun S2 l2 a2 => ?_
  refine At.col a2.out false fun S3 l3 a3 => ?_
  have a4:=(At.into a3 : At S3 (mkT i B bs bg pc near far) (Fr.mk (!i) p ps pg false t :: k)).far
  rw [hF] at a4
  refine At.col a4 false fun S4 l4 a5 => ?_
  have hl4:=((hl.trans l2).trans l3).trans l4
  refine At.turnS hl4 a5.back.back fun S5 l5 a6 => hQ S5 ?_
  have hx : RB near n ∧ RB f1 n ∧ RB f2 n ∧ ∃ m,RB (plug (mkT i B bs bg pc (mkT i p ps pg false t near) (mkT i F fs fg false f1 f2)) k) m ∧ red (plug (mkT i B bs bg pc (mkT i p ps pg false t near) (mkT i F fs fg false f1 f2)) k) = false:=by
    cases pc with
    | true =>
      rw [RBC_red rfl] at h3
      obtain ⟨e1,e2,e3,e4⟩:=h3
      obtain ⟨g1,g2⟩:=RB_blk.1 e1
      rw [hF] at g2
      obtain ⟨g3,g4,g5,g6⟩:=RB_red.1 g2
      exact ⟨g1,g3,g4,plug_RB (n:=n + 1) (RB_red.2 ⟨RB_blk.2 ⟨h1,g1⟩,RB_blk.2 ⟨g3,g4⟩,red_mk',red_mk'⟩) (fun _ => e3) e4⟩
    | false =>
      rw [RBC_blk rfl] at h3
      obtain ⟨e1,e4⟩:=h3
      obtain ⟨g1,g2⟩:=RB_blk.1 e1
      rw [hF] at g2
      obtain ⟨g3,g4,g5,g6⟩:=RB_red.1 g2
      exact ⟨g1,g3,g4,plug_RB (n:=n + 2) (RB_blk.2 ⟨RB_blk.2 ⟨h1,g1⟩,RB_blk.2 ⟨g3,g4⟩⟩) (fun hh => by rw [red_mk] at hh;cases hh) e4⟩
  obtain ⟨_,_,_,m,g1,g2⟩:=hx
  refine settle_fin (hl4.trans l5) a6.outs ?_ g1 g2
  rw [← hL]
  refine nodes_plug_congr k ?_
  rw [nodes_turn i p ps pg B bs bg pc false false pc t near _]
  exact nodes_mk _ _ _ _ _ _ rfl (nodes_mk _ _ _ _ _ _ rfl (by rw [hF];exact nodes_c _ _ _ _ _ _ _ _))
theorem fillsR_walk {S0 S : TS} {b : Mem} {i : Bool} {p ps pg : Int} {pc : Bool} {t : T} {k : Ctx} {n : Nat} {B bs bg : Int} {near far : T} {L : List (Int × Int × Int)} (hl : S0.like S)
    (h : At S (mkT i p ps pg pc t (mkT i B bs bg false near far)) k) (h1 : RB t n) (ht : red t = false) (h3 : RBC (Fr.mk i p ps pg pc (mkT i B bs bg false near far) :: k) (n + 1))
    (hL : nodes (plug (mkT i p ps pg pc t (mkT i B bs bg false near far)) k) = L) {Q : Leaf → Prop} (hQ : ∀ S',Settled S0 L S' → Q (.up (.memo (.tup []) (S'.mem b))))
    (hA : pc = false → ∀ S' t',S0.like S' → At S' t' k → RB t' (n + 1) → red t' = false → RBC k (n + 2) → nodes (plug t' k) = L → ∀ z,(∀ f k',k = f :: k' → z = bi f.i) → Q (.again ⟨[topP k,z],[],[],S'.mem b⟩)) :
    (T_fillsR (S.mem b) S0.p p (bi i) B).sat Q:=by
  unfold T_fillsR
  have hp:=h.get
  have hs:=h.far
  have hB:=hs.get
  have hfar : gP (S.mem b) B (bOff (!i)) = far.ptr:=(gP_ch h.ok hB (!i)).trans (node_ch' _ _ _ _)
  have hnear : gP (S.mem b) B (bOff i) = near.ptr:=(gP_ch h.ok hB i).trans (node_ch _ _ _ _)
  obtain ⟨_,rn,rf⟩:=Rep.mk.1 hs.rep
  obtain ⟨q1,q2⟩:=red_at (b:=b) h.ok rf
  obtain ⟨q3,q4⟩:=red_at (b:=b) h.ok rn
  rw [sub_bi,aOff_bi,aOff_bi,hfar,hnear,inR_bi,inR_bi,brT (nz_n h.ok hB),brT (nz_n h.ok hB),brT (nz_n h.ok hB),brT rfl,brT (okL_ch h.ok hB _),brT (nz_n h.ok hB),brT (nz_n h.ok hB),brT (nz_n h.ok hB),brT rfl,brT (okL_ch h.ok hB _),sat_req]
  refine ⟨q1,?_⟩
  cases hfr : red far with
  | true =>
    rw [brT (q2.trans hfr)]
    exact fillsE_walk hl h h1 hfr h3 hL hQ
  | false =>
    rw [brF (q2.trans hfr),sat_req]
    refine ⟨q3,?_⟩
    have hx : RB near n ∧ RB far n:=by
      cases pc with
      | true => rw [RBC_red rfl] at h3;exact RB_blk.1 h3.1
      | false => rw [RBC_blk rfl] at h3;exact RB_blk.1 h3.1
    cases hnr : red near with
    | true =>
      rw [brT (q4.trans hnr)]
      obtain ⟨Y,ys,yg,yc,y1,y2,hY⟩:=form_of i (red_nn hnr)
      have hyc : yc = true:=by rw [hY,red_mk] at hnr;exact hnr
      subst hyc
      obtain ⟨g3,g4,g5,g6⟩:=RB_red.1 (hY ▸ hx.1)
      have a1:=hs.near
      rw [hY] at a1 ⊢
      rw [ptr_mk]
      refine At.col a1 false fun S2 l2 a2 => ?_
      refine At.col a2.out true fun S3 l3 a3 => ?_
      have a3':=a3
      simp only at a3'
      rw [mk_flip i B,mk_flip i Y] at a3'
      refine At.turnS ((hl.trans l2).trans l3) a3' fun S4 l4 a4 => ?_
      rw [mk_flip (!i) Y,mk_flip (!i) B] at a4
      simp only [Bool.not_not] at a4
      have a5:=a4.back
      have hp5:=a5.get
      have hY5:=a4.get
      have hk5 : gP (S4.mem b) p (bOff (!i)) = Y:=(gP_ch a5.ok hp5 (!i)).trans ((node_ch' _ _ _ _).trans (ptr_mk _ _ _ _ _ _ _))
      rw [hk5,brT (nz_n a5.ok hp5),brT (nz_n a5.ok hp5),brT (nz_n a5.ok hp5),brT rfl,brT (okL_ch a5.ok hp5 _),brT (nz_n a5.ok hY5),brT (nz_n a5.ok hY5),brT (nz_n a5.ok hY5),brT rfl,brT (okL_ch a5.ok hY5 _)]
      have hR : RB (mkT i Y ys yg false y1 (mkT i B bs bg true y2 far)) (n + 1):=RB_blk.2 ⟨g3,RB_red.2 ⟨g4,hx.2,g6,hfr⟩⟩
      refine fillsE_walk (((hl.trans l2).trans l3).trans l4) a5 h1 red_mk' ?_ ?_ hQ
      · cases pc with
        | true =>
          rw [RBC_red rfl] at h3 ⊢
          exact ⟨hR,red_mk',h3.2.2.1,h3.2.2.2⟩
        | false =>
          rw [RBC_blk rfl] at h3 ⊢
          exact ⟨hR,h3.2⟩
      · rw [← hL]
        refine nodes_plug_congr k (nodes_mk _ _ _ _ _ _ rfl ?_)
        rw [hY]
        rw [← nodes_turn i Y ys yg B bs bg false true true false y1 y2 far]
    | false =>
      rw [brF (q4.trans hnr)]
      refine At.col hs true fun S2 l2 a2 => ?_
      have a3:=a2.back
      have hp3:=a3.get
      rw [brT (nz_n a3.ok hp3),brT (nz_n a3.ok hp3),brT (okL_6 a3.ok hp3),gB_c a3.ok hp3,node_c]
      have hR : RB (mkT i B bs bg true near far) n:=RB_red.2 ⟨hx.1,hx.2,hnr,hfr⟩
      have hN : ∀ c,nodes (plug (mkT i p ps pg c t (mkT i B bs bg true near far)) k) = L:=fun c => by
        rw [← hL]
        exact nodes_plug_congr k (nodes_mk _ _ _ _ _ _ rfl (nodes_c _ _ _ _ _ _ _ _))
      cases pc with
      | true =>
        rw [brT rfl]
        refine At.col a3 false fun S3 l3 a4 => ?_
        refine hQ S3 ?_
        rw [RBC_red rfl] at h3
        obtain ⟨m,g1,g2⟩:=plug_RB (k:=k) (n:=n + 1) (RB_blk.2 ⟨h1,hR⟩ : RB (mkT i p ps pg false t (mkT i B bs bg true near far)) (n + 1)) (fun hh => by rw [red_mk] at hh;cases hh) h3.2.2.2
        exact settle_fin ((hl.trans l2).trans l3) a4.outs (hN false) g1 g2
      | false =>
        rw [brF rfl,sat_req]
        have hu : gP (S2.mem b) p 4 = topP k:=(gP_u a3.ok hp3).trans (node_u _ _ _ _)
        rw [RBC_blk rfl] at h3
        have hw : whichOK (S2.mem b) p ∧ ∀ f k',k = f :: k' → whichV (S2.mem b) p = bi f.i:=by
          cases k with
          | nil => exact ⟨(which_top (b:=b) a3.ok hp3 (node_u _ _ _ _)).1,fun f k' e => by cases e⟩
          | cons f k =>
            obtain ⟨w1,w2⟩:=At.which (b:=b) a3
            exact ⟨w1,fun f' k' e => by cases e;exact w2⟩
        refine ⟨hw.1,?_⟩
        rw [brT (nz_n a3.ok hp3),brT (nz_n a3.ok hp3),brT (okL_4 a3.ok hp3),sat_req,hu]
        refine ⟨by simp,?_⟩
        exact hA rfl S2 _ (hl.trans l2) a3 (RB_blk.2 ⟨h1,hR⟩) red_mk' h3.2 (hN false) _ hw.2
theorem fills_walk {S : TS} {b : Mem} {t : T} {k : Ctx} {n : Nat} {z : Int} (h : At S t k) (h1 : RB t n) (ht : red t = false) (h3 : RBC k (n + 1)) (hz : ∀ f k',k = f :: k' → z = bi f.i) :
    (T_fills (S.mem b) S.p (topP k) z).sat (isMemo fun v m => v = .tup [] ∧ ∃ S',m = S'.mem b ∧ Settled S (nodes (plug t k)) S'):=by
  generalize hL : nodes (plug t k) = L
  unfold T_fills
  let J : Nat → Vars → Prop:=fun N y => ∃ (t : T) (k : Ctx) (n : Nat) (z : Int) (S1 : TS),N = k.length ∧ y = ⟨[topP k,z],[],[],S1.mem b⟩ ∧ S.like S1 ∧ At S1 t k ∧ RB t n ∧ red t = false ∧ RBC k (n + 1) ∧ (∀ f k',k = f :: k' → z = bi f.i) ∧ nodes (plug t k) = L
  refine lp_idx J (n0:=k.length) ⟨t,k,n,z,S,rfl,rfl,TS.like.refl S,h,h1,ht,h3,hz,hL⟩ ?_
  clear h h1 ht h3 hz hL
  rintro N y j ⟨t,k,n,z,S1,rfl,rfl,hl,h,h1,ht,h3,hz,hL⟩
  have hQ : ∀ S',Settled S L S' → inLoopJ J k.length (isMemo fun v m => v = .tup [] ∧ ∃ S',m = S'.mem b ∧ Settled S L S') (.up (.memo (.tup []) (S'.mem b))):=fun S' hs => ⟨rfl,S',rfl,hs⟩
  simp only [hdI,tlI]
  rw [brT (cmp_zero _ _)]
  cases k with
  | nil =>
    rw [brF (by rfl)]
    exact hQ S1 (settle_fin hl h hL h1 ht)
  | cons f k =>
    obtain ⟨i,p,ps,pg,pc,o⟩:=f
    have hzi : z = bi i:=hz _ _ rfl
    subst hzi
    have hp:=h.getf
    have htop : topP (Fr.mk i p ps pg pc o :: k) = p:=rfl
    have hpz : peq p 0 = false:=by
      rw [peq_zero (Int.le_of_lt (h.ok.nd p _ hp).1)]
      simp [p_ne0 h.ok hp]
    have h0 : At S1 (mkT i p ps pg pc t o) k:=h.out
    have hRo : RB o (n + 1):=h3.1
    obtain ⟨B,bs,bg,bc,near,far,hB⟩:=form_of i (RB_nn hRo)
    subst hB
    have hp0:=h0.get
    have hB:=h0.far.get
    have hb : gP (S1.mem b) p (bOff (!i)) = B:=(gP_ch h0.ok hp0 (!i)).trans ((node_ch' _ _ _ _).trans (ptr_mk _ _ _ _ _ _ _))
    rw [htop,brT (by rw [hpz];rfl),sub_bi,aOff_bi,hb,brT (nz_n h0.ok hp0),brT (nz_n h0.ok hp0),brT (nz_n h0.ok hp0),brT (inR_bi _),brT (okL_ch h0.ok hp0 _),brT (nz_n h0.ok hB),brT (nz_n h0.ok hB),brT (okL_6 h0.ok hB),gB_c h0.ok hB,node_c]
    have hA : ∀ S' t',S.like S' → At S' t' k → RB t' (n + 1) → red t' = false → RBC k (n + 2) → nodes (plug t' k) = L → ∀ z,(∀ f k',k = f :: k' → z = bi f.i) → inLoopJ J (k.length + 1) (isMemo fun v m => v = .tup [] ∧ ∃ S',m = S'.mem b ∧ Settled S L S') (.again ⟨[topP k,z],[],[],S'.mem b⟩) :=
      fun S' t' g1 g2 g3 g4 g5 g6 z g7 => ⟨k.length,Nat.lt_succ_self _,t',k,n + 1,z,S',rfl,rfl,g1,g2,g3,g4,g5,g7,g6⟩
    cases bc with
    | false =>
      rw [brF rfl]
      exact fillsR_walk hl h0 h1 ht h3 hL hQ (fun _ => hA)
    | true =>
      rw [brT rfl]
      have hpc : pc = false:=by
        cases pc with
        | false => rfl
        | true => rw [RBC_red rfl] at h3;have:=h3.2.1;rw [red_mk] at this;cases this
      subst hpc
      rw [RBC_blk rfl] at h3
      obtain ⟨g3,g4,g5,g6⟩:=RB_red.1 hRo
      refine At.col h0.far false fun S2 l2 a2 => ?_
      refine At.col a2.back true fun S3 l3 a3 => ?_
      refine At.turnS ((hl.trans l2).trans l3) a3 fun S4 l4 a4 => ?_
      obtain ⟨N,ns,ng,nc,n1,n2,hN⟩:=form_of i (RB_nn g3)
      have hnc : nc = false:=by rw [hN,red_mk] at g5;exact g5
      subst hnc
      subst hN
      have a5:=a4.near
      have hp5:=a5.get
      have hk5 : gP (S4.mem b) p (bOff (!i)) = N:=(gP_ch a5.ok hp5 (!i)).trans ((node_ch' _ _ _ _).trans (ptr_mk _ _ _ _ _ _ _))
      rw [hk5,brT (nz_n a5.ok hp5),brT (nz_n a5.ok hp5),brT (nz_n a5.ok hp5),brT (inR_bi _),brT (okL_ch a5.ok hp5 _)]
      refine fillsR_walk (((hl.trans l2).trans l3).trans l4) a5 h1 ht ?_ ?_ hQ (fun e => by cases e)
      · rw [RBC_red rfl,RBC_blk rfl]
        exact ⟨g3,red_mk',rfl,g4,h3.2⟩
      · rw [← hL]
        refine nodes_plug_congr k ?_
        rw [Fr.mk',Fr.mk',nodes_turn i p ps pg B bs bg true true true false t _ far]
        exact (nodes_mk _ _ _ _ _ _ rfl rfl)
structure FillG where
  S : TS
  b : Mem
  t : T
  k : Ctx
  n : Nat
def FillG.pre (G : FillG) (m : Mem) (t p s : Int) : Prop :=
  m = G.S.mem G.b ∧ t = G.S.p ∧ p = topP G.k ∧ At G.S G.t G.k ∧ RB G.t G.n ∧ red G.t = false ∧ RBC G.k (G.n + 1) ∧ (∀ f k',G.k = f :: k' → s = bi f.i)
def FillG.post (G : FillG) (y : Vars) : Prop:=∃ S',y.m = S'.mem G.b ∧ Settled G.S (nodes (plug G.t G.k)) S'
def fillsP (m : Mem) (t p s : Int) : Prop:=∃ G : FillG,G.pre m t p s
def fillsQ (m : Mem) (t p s : Int) (y : Vars) : Prop:=∀ G : FillG,G.pre m t p s → G.post y
def s_fills : Sum:=memSum 53 fun m a => match a with | [a0,a1,a2] => (match ptrOf a0,ptrOf a1,intOf a2 with | some t,some p,some s => some ⟨fillsP m t p s,fillsQ m t p s,fun y => .tup []⟩ | _,_,_ => none) | _ => none
theorem t_fills (m : Mem) (t : Int) (p : Int) (s : Int) : runm Try.prog [s_turn,s_which,s_red] (drawl Try.prog [s_turn,s_which,s_red] (fun _ _ => some ⟨[1,2],[],[0],[]⟩)) 300 53 [.u (.c (.np t 0)),.u (.c (.np p 0)),.u (.c (.si .i64 s))] m [98] = T_fills m t p s:=by kernel_rfl
theorem s_fills_ok : SumOK Try.prog s_fills:=by
  refine memSum_ok ⟨_,Try.func53,by kernel_rfl⟩ fun m args ms h hp hw ρ w hm => ?_
  split at h
  · split at h
    · rename_i a0 a1 a2 _ _ _ t p s h0 h1 h2
      cases h
      have hS : ∀ q ∈ [s_turn,s_which,s_red],SumOK Try.prog q:=okc s_turn_ok (okc s_which_ok (okc s_red_ok okn))
      refine mm_calls nameOK hS (drawl_sound nameOK hS (by kernel_rfl) _) 300 _ m _ (t_fills m t p s) ρ ?_ w hm (by simp only [List.map_cons,List.map_nil,ptrOf_den h0,ptrOf_den h1,intOf_den h2])
      obtain ⟨G0,hG0⟩:=hp
      have key:=sat_ghost (G:={ G : FillG // G.pre m t p s }) ⟨⟨G0,hG0⟩⟩ (T:=T_fills m t p s) (p:=fun G v x' => v = .tup [] ∧ G.1.post ⟨[],[],[],x'⟩) fun ⟨G,hG⟩ => by
        obtain ⟨rfl,rfl,rfl,g1,g2,g3,g4,g5⟩:=hG
        exact fills_walk g1 g2 g3 g4 g5
      refine sat_mono (fun l hl => ?_) key
      cases l with
      | memo v x' => exact ⟨⟨[],[],[],x'⟩,fun G hG => (hl ⟨G,hG⟩).2,by rw [(hl ⟨G0,hG0⟩).1],rfl⟩
      | _ => exact hl.elim
    · cases h
  · cases h
end Go.Proofs.Ytnlohongffpkpaa.T16
end

section
namespace Go.Proofs.Ytnlohongffpkpaa.T16
open Go Go.RowKit Go.Proofs.Ytnlohongffpkpaa.Sx
set_option linter.unusedVariables false
set_option linter.unusedSimpArgs false
def hTy (P : Program) (t : Nat) : Bool:=match P.underlying t with
  | some (.struct fs) => (match fs.toList with
    | [f,g] => f.name != "_" && g.name != "_" && Nat.beq f.offset 0 && Nat.beq g.offset 1 && Nat.beq (P.cellsOf f.type) 1 && Nat.beq (P.cellsOf g.type) 1 && Nat.beq (P.cellsOf t) 2 && (match P.underlying f.type with | some (.int .i64) => true | _ => false) && (match P.underlying g.type with | some (.int .u64) => true | _ => false)
    | _ => false)
  | _ => false
def inI (s : Int) : Prop:=-9223372036854775808 ≤ s ∧ s < 9223372036854775808
def inU (g : Int) : Prop:=0 ≤ g ∧ g < 18446744073709551616
abbrev hKey (s g : Int) : Value:=.agg (.mk [(.int .i64 s),(.int .u64 g)])
theorem okKey_h {P : Program} {t : Nat} (h : hTy P t = true) (hk : P.keyType t = true) (hs : 0 < P.types.size) {s g : Int} (h1 : inI s) (h2 : inU g) : okKey P t (hKey s g):=by
  unfold hTy at h
  split at h
  · rename_i fs hu
    split at h
    · rename_i f g' hfs
      simp only [Bool.and_eq_true,Nat.beq_eq_true_eq] at h
      obtain ⟨⟨⟨⟨⟨⟨⟨⟨a1,a2⟩,a3⟩,a4⟩,a5⟩,a6⟩,a7⟩,a8⟩,a9⟩:=h
      replace a3:=Nat.eq_of_beq_eq_true a3
      replace a4:=Nat.eq_of_beq_eq_true a4
      replace a5:=Nat.eq_of_beq_eq_true a5
      replace a6:=Nat.eq_of_beq_eq_true a6
      replace a7:=Nat.eq_of_beq_eq_true a7
      have hf : fs = #[f,g']:=by rw [← Array.toArray_toList (xs:=fs),hfs]
      subst hf
      have u1 : P.underlying f.type = some (.int .i64):=by revert a8;split <;> simp_all
      have u2 : P.underlying g'.type = some (.int .u64):=by revert a9;split <;> simp_all
      refine ⟨?_,rfl⟩
      unfold Go.keyOf
      rw [hu]
      simp only
      have hfm : (hKey s g).formed P t = true:=by
        unfold hKey
        simp [Value.formed,hu,a7]
      rw [if_pos (by simp [hk,hfm])]
      obtain ⟨n,hn⟩ : ∃ n,P.types.size = n + 1:=⟨P.types.size - 1,by omega⟩
      have w1 : (Lit.int .i64 s).wf = true:=by unfold inI at h1;have e1 : IntKind.min .i64 = -9223372036854775808:=rfl;have e2 : IntKind.max .i64 = 9223372036854775807:=rfl;simp only [Lit.wf,e1,e2,Bool.and_eq_true,decide_eq_true_eq];omega
      have w2 : (Lit.int .u64 g).wf = true:=by unfold inU at h2;have e1 : IntKind.min .u64 = 0:=rfl;have e2 : IntKind.max .u64 = 18446744073709551615:=rfl;simp only [Lit.wf,e1,e2,Bool.and_eq_true,decide_eq_true_eq];omega
      rw [hn]
      have k1 : P.keyLits (n + 1) f.type [.int .i64 s] = some [.int .i64 s]:=by unfold Program.keyLits;simp [u1,w1]
      have k2 : P.keyLits (n + 1) g'.type [.int .u64 g] = some [.int .u64 g]:=by unfold Program.keyLits;simp [u2,w2]
      unfold Program.keyLits
      simp [hu,hKey,Value.cells,a7,a3,a4,a5,a6,k1,k2,bne_iff_ne.1 a1,bne_iff_ne.1 a2]
    · cases h
  · cases h
theorem keyed29 : Go.Maps.Keyed Try.prog 29:=Go.Maps.Keyed.of_law (deep_law_laid (by kernel_rfl) (m:=2) (by omega) (of_decide_eq_true (by kernel_rfl)) (by kernel_rfl) (by kernel_rfl))
theorem okKey29 {s g : Int} (h1 : inI s) (h2 : inU g) : okKey Try.prog 29 (hKey s g):=okKey_h (by kernel_rfl) (by kernel_rfl) (of_decide_eq_true (by kernel_rfl)) h1 h2
theorem hKey_inj {s g s' g' : Int} (h : hKey s g = hKey s' g') : s = s' ∧ g = g':=by
  unfold hKey at h
  simpa using h
structure Ents (es : List MapEntry) (L : List (Int × Int × Int)) : Prop where
  ap : es.Pairwise (fun a b => a.key ≠ b.key)
  to : ∀ e ∈ es,∃ x ∈ L,e.key = hKey x.2.1 x.2.2 ∧ e.val = pv x.1 0
  fro : ∀ x ∈ L,∃ e ∈ es,e.key = hKey x.2.1 x.2.2 ∧ e.val = pv x.1 0
  rng : ∀ x ∈ L,inI x.2.1 ∧ inU x.2.2
theorem Ents.find {es : List MapEntry} {L : List (Int × Int × Int)} (h : Ents es L) {p s g : Int} (hx : (p,s,g) ∈ L) : ∃ j,efind (hKey s g) es 0 = some (j,pv p 0):=by
  obtain ⟨e,he,hk,hv⟩:=h.fro _ hx
  obtain ⟨j,hj⟩:=List.getElem?_of_mem he
  exact ⟨0 + j,by rw [efind_some rfl h.ap hj hk,hv]⟩
theorem Ents.miss {es : List MapEntry} {L : List (Int × Int × Int)} (h : Ents es L) {s g : Int} (hx : ∀ x ∈ L,¬ (x.2.1 = s ∧ x.2.2 = g)) : efind (hKey s g) es 0 = none:=by
  refine efind_none rfl fun e he hk => ?_
  obtain ⟨x,h1,h2,h3⟩:=h.to e he
  exact hx x h1 (hKey_inj (h2.symm.trans hk))
structure Tre (S : TS) (t : T) (n : Nat) : Prop where
  at' : At S t []
  rb : RB t n
  blk : red t = false
  en : Ents S.es.toList (nodes t)
section
variable {S : TS} {b : Mem} {t : T} {n : Nat}
theorem mem_q (h : S.ok) : S.mem b S.q = some (.map S.es S.k):=by simp [TS.mem,Ne.symm h.ne]
theorem cell_q : pl (mcell (S.mem b) S.p 1) = .map (some S.q):=by rw [cell_m];rfl
theorem mpE_q (h : S.ok) : mpE (S.mem b) (.map (some S.q)) = S.es.toList:=by simp [mpE,mem_q h]
theorem okM29 (h : S.ok) {L : List (Int × Int × Int)} (he : Ents S.es.toList L) : okM Try.prog 29 (S.mem b) (.map (some S.q)):=by
  refine .inr ⟨S.q,S.es,S.k,rfl,mem_q h,fun e hE => ?_,he.ap⟩
  obtain ⟨x,h1,h2,h3⟩:=he.to e hE
  rw [h2]
  exact (okKey29 (he.rng x h1).1 (he.rng x h1).2).1
theorem lk_hit (h : S.ok) {L : List (Int × Int × Int)} (he : Ents S.es.toList L) {p s g : Int} (hx : (p,s,g) ∈ L) : lkZ (S.mem b) (.map (some S.q)) (.agg (.mk [(.int .i64 s),(.int .u64 g)])) (.pointer .none) = pv p 0:=by
  obtain ⟨j,hj⟩:=he.find hx
  simp only [lkZ,mlook,mpE_q h]
  rw [show efind (.agg (.mk [(.int .i64 s),(.int .u64 g)])) S.es.toList 0 = some (j,pv p 0) from hj];rfl
theorem lk_miss (h : S.ok) {L : List (Int × Int × Int)} (he : Ents S.es.toList L) {s g : Int} (hx : ∀ x ∈ L,¬ (x.2.1 = s ∧ x.2.2 = g)) : lkZ (S.mem b) (.map (some S.q)) (.agg (.mk [(.int .i64 s),(.int .u64 g)])) (.pointer .none) = pv 0 0:=by
  simp only [lkZ,mlook,mpE_q h]
  rw [show efind (.agg (.mk [(.int .i64 s),(.int .u64 g)])) S.es.toList 0 = none from he.miss hx];rfl
theorem peq_t : peq S.p 0 = false:=by
  have:=S.p_pos
  rw [peq_zero (by omega)];simp;omega
theorem peq_n (h : S.ok) {p : Int} {d : Nd} (hp : S.H p = some d) : peq p 0 = false:=by
  rw [peq_zero (Int.le_of_lt (h.nd p _ hp).1)];simp [p_ne0 h hp]
theorem split_at : ∀ {t : T} {p s g : Int} {j : Nat},(nodes t)[j]? = some (p,s,g) → ∃ c l r k,plug (.nd p s g c l r) k = t ∧ (cl k).length + l.size = j
  | .nil,_,_,_,_,h => by simp [nodes] at h
  | .nd q s' g' c l r,p,s,g,j,h => by
    simp only [nodes] at h
    rcases Nat.lt_trichotomy j l.size with hj | hj | hj
    · rw [List.getElem?_append_left (by rw [len_nodes];exact hj)] at h
      obtain ⟨c',l',r',k,hk,hl⟩:=split_at h
      refine ⟨c',l',r',k ++ [⟨false,q,s',g',c,r⟩],?_,?_⟩
      · have : ∀ (k : Ctx) (t : T) (f : Fr),plug t (k ++ [f]) = f.mk' (plug t k):=by
          intro k;induction k with
          | nil => intros;rfl
          | cons a k ih => intro t f;exact ih _ _
        rw [this,hk];rfl
      · have : ∀ (k : Ctx) (f : Fr),f.i = false → cl (k ++ [f]) = cl k:=by
          intro k f hf
          induction k with
          | nil => simp [cl,hf]
          | cons a k ih => simp only [List.cons_append,cl,ih]
        rw [this _ _ rfl];exact hl
    · subst hj
      rw [List.getElem?_append_right (by rw [len_nodes];exact Nat.le_refl _),len_nodes,Nat.sub_self] at h
      simp only [List.getElem?_cons_zero,Option.some.injEq,Prod.mk.injEq] at h
      obtain ⟨rfl,rfl,rfl⟩:=h
      exact ⟨c,l,r,[],rfl,by simp [cl]⟩
    · rw [List.getElem?_append_right (by rw [len_nodes];omega),len_nodes] at h
      obtain ⟨m,hm⟩ : ∃ m,j - l.size = m + 1:=⟨j - l.size - 1,by omega⟩
      rw [hm,List.getElem?_cons_succ] at h
      obtain ⟨c',l',r',k,hk,hl⟩:=split_at h
      refine ⟨c',l',r',k ++ [⟨true,q,s',g',c,l⟩],?_,?_⟩
      · have : ∀ (k : Ctx) (t : T) (f : Fr),plug t (k ++ [f]) = f.mk' (plug t k):=by
          intro k;induction k with
          | nil => intros;rfl
          | cons a k ih => intro t f;exact ih _ _
        rw [this,hk];rfl
      · have : ∀ (k : Ctx) (f : Fr),f.i = true → (cl (k ++ [f])).length = (cl k).length + (f.o.size + 1):=by
          intro k f hf
          induction k with
          | nil => simp [cl,hf,len_nodes]
          | cons a k ih =>
            simp only [List.cons_append,cl]
            cases a.i <;> simp [ih]
            omega
        rw [this _ _ rfl]
        show (cl k).length + (l.size + 1) + l'.size = j
        omega
def cI : C → Int
  | .li _ n => n
  | .si _ n => n
  | .np n _ => n
  | _ => 0
def cB : C → Bool
  | .lb n => n
  | .sb n => n
  | _ => false
def yOf (v : V) (m : Mem) : Vars :=
  match v with
  | .tup [.c a,.c b] => ⟨[cI a],[cB b],[],m⟩
  | .tup [.agg [a,b],.c c] => ⟨[cI a,cI b],[cB c],[],m⟩
  | .u (.c a) => ⟨[cI a],[],[],m⟩
  | _ => ⟨[],[],[],m⟩
def idxPost (L : List (Int × Int × Int)) (s g : Int) (y : Vars) : Prop :=
  (∃ (j : Nat) (p : Int),L[j]? = some (p,s,g) ∧ y.i = [(j : Int)] ∧ y.b = [true]) ∨ ((∀ x ∈ L,¬ (x.2.1 = s ∧ x.2.2 = g)) ∧ y.i = [0] ∧ y.b = [false])
def retIB (y : Vars) : V:=.tup [.c (.si .i64 (hdI y.i)),.c (.sb (hdB y.b))]
end
def T_index (m : Mem) (t : Int) (hs hg : Int) : Tr:=(.br (cmpOK m t 0) (.br (peq t 0) (.leaf (.memo (.tup [(.c (.li .i64 0)),(.c (.lb false))]) m)) (.br (nzp t) (.br (nzp t) (.br (okL m t 1 [(.raw (.map (.none)))]) (.req ((Go.Maps.Keyed Try.prog 29) ∧ ((okM Try.prog 29 m (pl (mcell m t 1))) ∧ ((okKey Try.prog 29 (.agg (.mk [(.int .i64 hs),(.int .u64 hg)]))) ∧ (((okU (.c .nilp) (lkZ m (pl (mcell m t 1)) (.agg (.mk [(.int .i64 hs),(.int .u64 hg)])) (.pointer (.none)))) : Bool) = true)))) (.br (cmpOK m (vP (lkZ m (pl (mcell m t 1)) (.agg (.mk [(.int .i64 hs),(.int .u64 hg)])) (.pointer (.none)))) 0) (.br (peq (vP (lkZ m (pl (mcell m t 1)) (.agg (.mk [(.int .i64 hs),(.int .u64 hg)])) (.pointer (.none)))) 0) (.leaf (.memo (.tup [(.c (.li .i64 0)),(.c (.lb false))]) m)) (.br (nzp t) (.br (nzp t) (.br (okL m t 1 [(.raw (.map (.none)))]) (.req ((Go.Maps.Keyed Try.prog 29) ∧ ((okM Try.prog 29 m (pl (mcell m t 1))) ∧ ((okKey Try.prog 29 (.agg (.mk [(.int .i64 hs),(.int .u64 hg)]))) ∧ (((okU (.c .nilp) (lkZ m (pl (mcell m t 1)) (.agg (.mk [(.int .i64 hs),(.int .u64 hg)])) (.pointer (.none)))) : Bool) = true)))) (.br (nzp (vP (lkZ m (pl (mcell m t 1)) (.agg (.mk [(.int .i64 hs),(.int .u64 hg)])) (.pointer (.none))))) (.br (nzp (vP (lkZ m (pl (mcell m t 1)) (.agg (.mk [(.int .i64 hs),(.int .u64 hg)])) (.pointer (.none))))) (.br (nzp (vP (lkZ m (pl (mcell m t 1)) (.agg (.mk [(.int .i64 hs),(.int .u64 hg)])) (.pointer (.none))))) (.br (okL m (vP (lkZ m (pl (mcell m t 1)) (.agg (.mk [(.int .i64 hs),(.int .u64 hg)])) (.pointer (.none)))) 2 [.nilp]) (.req (sizeOK m (gP m (vP (lkZ m (pl (mcell m t 1)) (.agg (.mk [(.int .i64 hs),(.int .u64 hg)])) (.pointer (.none)))) 2)) (.lp (.mk [(vP (lkZ m (pl (mcell m t 1)) (.agg (.mk [(.int .i64 hs),(.int .u64 hg)])) (.pointer (.none)))),(sizeV m (gP m (vP (lkZ m (pl (mcell m t 1)) (.agg (.mk [(.int .i64 hs),(.int .u64 hg)])) (.pointer (.none)))) 2))] [] [] m) (fun y0 j0 => (.br (nzp (hdI y0.1)) (.br (nzp (hdI y0.1)) (.br (okL y0.4 (hdI y0.1) 4 [.nilp]) (.br (cmpOK y0.4 (gP y0.4 (hdI y0.1) 4) 0) (.br (bNot (peq (gP y0.4 (hdI y0.1) 4) 0)) (.req (whichOK y0.4 (hdI y0.1)) (.br (iEq (whichV y0.4 (hdI y0.1)) 1) (.br (nzp (hdI y0.1)) (.br (nzp (hdI y0.1)) (.br (okL y0.4 (hdI y0.1) 4 [.nilp]) (.br (nzp (gP y0.4 (hdI y0.1) 4)) (.br (nzp (gP y0.4 (hdI y0.1) 4)) (.br (nzp (gP y0.4 (hdI y0.1) 4)) (.br (okL y0.4 (gP y0.4 (hdI y0.1) 4) 2 [.nilp]) (.req (sizeOK y0.4 (gP y0.4 (gP y0.4 (hdI y0.1) 4) 2)) (.br (nzp (hdI y0.1)) (.br (nzp (hdI y0.1)) (.br (okL y0.4 (hdI y0.1) 4 [.nilp]) (.req ((([] : List (Nat × V)) = []) ∧ (([] : List (Nat × Blk)) = [])) (.leaf (.again (.mk [(gP y0.4 (hdI y0.1) 4),(iAdd .i64 (hdI (tlI y0.1)) (iAdd .i64 (sizeV y0.4 (gP y0.4 (gP y0.4 (hdI y0.1) 4) 2)) 1))] [] [] y0.4)))) (.no 70)) (.no 76)) (.no 75))) (.no 70)) (.no 81)) (.no 76)) (.no 75)) (.no 70)) (.no 76)) (.no 75)) (.br (nzp (hdI y0.1)) (.br (nzp (hdI y0.1)) (.br (okL y0.4 (hdI y0.1) 4 [.nilp]) (.req ((([] : List (Nat × V)) = []) ∧ (([] : List (Nat × Blk)) = [])) (.leaf (.again (.mk [(gP y0.4 (hdI y0.1) 4),(hdI (tlI y0.1))] [] [] y0.4)))) (.no 70)) (.no 76)) (.no 75)))) (.leaf (.up (.memo (.tup [(.c (.si .i64 (hdI (tlI y0.1)))),(.c (.lb true))]) y0.4)))) (.no 78)) (.no 70)) (.no 76)) (.no 75))))) (.no 70)) (.no 81)) (.no 76)) (.no 75))) (.no 70)) (.no 76)) (.no 75))) (.no 78))) (.no 70)) (.no 76)) (.no 75))) (.no 78))
def T_at (m : Mem) (t : Int) (i : Int) : Tr:=(.br (cmpOK m t 0) (.br (peq t 0) (.leaf (.memo (.tup [(.agg [(.li .i64 0),(.li .u64 0)]),(.c (.lb false))]) m)) (.br (iLt i 0) (.leaf (.memo (.tup [(.agg [(.li .i64 0),(.li .u64 0)]),(.c (.lb false))]) m)) (.req (lenOK m t) (.br (iGe i (lenV m t)) (.leaf (.memo (.tup [(.agg [(.li .i64 0),(.li .u64 0)]),(.c (.lb false))]) m)) (.br (nzp t) (.br (nzp t) (.br (okL m t 0 [.nilp]) (.lp (.mk [i,(gP m t 0)] [] [] m) (fun y0 j0 => (.br (nzp (hdI (tlI y0.1))) (.br (nzp (hdI (tlI y0.1))) (.br (nzp (hdI (tlI y0.1))) (.br (okL y0.4 (hdI (tlI y0.1)) 2 [.nilp]) (.req (sizeOK y0.4 (gP y0.4 (hdI (tlI y0.1)) 2)) (.br (iEq (hdI y0.1) (sizeV y0.4 (gP y0.4 (hdI (tlI y0.1)) 2))) (.br (nzp (hdI (tlI y0.1))) (.br (nzp (hdI (tlI y0.1))) (.br (okL y0.4 (hdI (tlI y0.1)) 0 [(.li .i64 0),(.li .u64 0)]) (.leaf (.up (.memo (.tup [(.agg [(.si .i64 (gI y0.4 (hdI (tlI y0.1)) 0)),(.si .u64 (gI y0.4 (hdI (tlI y0.1)) 1))]),(.c (.lb true))]) y0.4))) (.no 70)) (.no 76)) (.no 75)) (.br (iLt (hdI y0.1) (sizeV y0.4 (gP y0.4 (hdI (tlI y0.1)) 2))) (.br (nzp (hdI (tlI y0.1))) (.br (nzp (hdI (tlI y0.1))) (.br (nzp (hdI (tlI y0.1))) (.br (okL y0.4 (hdI (tlI y0.1)) 2 [.nilp]) (.req ((([(4,(.u (.c (.ptr 0 0))))] : List (Nat × V)) = [(4,(.u (.c (.ptr 0 0))))]) ∧ (([(0,([(.li .i64 0),(.li .u64 0)],29))] : List (Nat × Blk)) = [(0,([(.li .i64 0),(.li .u64 0)],29))])) (.leaf (.again (.mk [(hdI y0.1),(gP y0.4 (hdI (tlI y0.1)) 2)] [] [] y0.4)))) (.no 70)) (.no 81)) (.no 76)) (.no 75)) (.br (nzp (hdI (tlI y0.1))) (.br (nzp (hdI (tlI y0.1))) (.br (nzp (hdI (tlI y0.1))) (.br (okL y0.4 (hdI (tlI y0.1)) 3 [.nilp]) (.req ((([(4,(.u (.c (.ptr 0 0))))] : List (Nat × V)) = [(4,(.u (.c (.ptr 0 0))))]) ∧ (([(0,([(.li .i64 0),(.li .u64 0)],29))] : List (Nat × Blk)) = [(0,([(.li .i64 0),(.li .u64 0)],29))])) (.leaf (.again (.mk [(iSub .i64 (hdI y0.1) (iAdd .i64 (sizeV y0.4 (gP y0.4 (hdI (tlI y0.1)) 2)) 1)),(gP y0.4 (hdI (tlI y0.1)) 3)] [] [] y0.4)))) (.no 70)) (.no 81)) (.no 76)) (.no 75))))) (.no 70)) (.no 81)) (.no 76)) (.no 75)))) (.no 70)) (.no 76)) (.no 75)))))) (.no 78))
section
variable {S : TS} {b : Mem} {t : T} {n : Nat}
theorem iadd_i {x y : Int} (h : -9223372036854775808 ≤ x + y ∧ x + y < 9223372036854775808) : iAdd .i64 x y = x + y:=by rw [add_i];omega
theorem isub_i {x y : Int} (h : -9223372036854775808 ≤ x - y ∧ x - y < 9223372036854775808) : iSub .i64 x y = x - y:=by rw [sub_i];omega
theorem At.side_sz {i : Bool} {p s g : Int} {c : Bool} {x y : T} {k : Ctx} (h : At S (mkT i p s g c x y) k) :
    gP (S.mem b) p (bOff i) = x.ptr ∧ gP (S.mem b) p (bOff (!i)) = y.ptr ∧ sizeOK (S.mem b) x.ptr ∧ sizeV (S.mem b) x.ptr = x.size ∧ sizeOK (S.mem b) y.ptr ∧ sizeV (S.mem b) y.ptr = y.size:=by
  obtain ⟨_,hx,hy⟩:=Rep.mk.1 h.rep
  obtain ⟨a1,a2⟩:=size_spec (b:=b) h.ok (rep_has hx)
  obtain ⟨a3,a4⟩:=size_spec (b:=b) h.ok (rep_has hy)
  exact ⟨(gP_ch h.ok h.get i).trans (node_ch _ _ _ _),(gP_ch h.ok h.get (!i)).trans (node_ch' _ _ _ _),a1,a2.trans (rep_sz h.ok hx),a3,a4.trans (rep_sz h.ok hy)⟩
theorem index_walk (h : Tre S t n) {s g : Int} (h1 : inI s) (h2 : inU g) :
    (T_index (S.mem b) S.p s g).sat (isMemo fun v m => idxPost (nodes t) s g (yOf v m) ∧ m = S.mem b ∧ ∀ ρ,v.den ρ = (retIB (yOf v m)).den ρ):=by
  have hS:=h.at'.ok
  unfold T_index
  rw [brT (cmp_zero _ _),brF peq_t,brT nz_t,brT nz_t,brT okL_m]
  simp only [cell_q]
  by_cases hf : ∃ x ∈ nodes t,x.2.1 = s ∧ x.2.2 = g
  · obtain ⟨⟨p,s',g'⟩,hx,rfl,rfl⟩:=hf
    simp only [lk_hit hS h.en hx]
    obtain ⟨i0,hi0⟩:=List.getElem?_of_mem hx
    obtain ⟨c,l,r,k,hk,hl⟩:=split_at hi0
    have hA : At S (mkT false p s' g' c l r) k:=At.ins (by rw [show plug (mkT false p s' g' c l r) k = t from hk];exact h.at')
    have hp:=hA.get
    have hpn : 0 ≤ p:=Int.le_of_lt (hS.nd p _ hp).1
    have hreq : Go.Maps.Keyed Try.prog 29 ∧ okM Try.prog 29 (S.mem b) (.map (some S.q)) ∧ okKey Try.prog 29 (.agg (.mk [(.int .i64 s'),(.int .u64 g')])) ∧ (okU (.c .nilp) (pv p 0) : Bool) = true:=⟨keyed29,okM29 hS h.en,okKey29 h1 h2,isP_pv p⟩
    obtain ⟨z1,z2,z3,z4,z5,z6⟩:=hA.side_sz (b:=b)
    rw [sat_req]
    refine ⟨hreq,?_⟩
    simp only [vP_pv hpn]
    rw [brT (cmp_zero _ _),brF (peq_n hS hp),brT nz_t,brT nz_t,brT okL_m,sat_req]
    refine ⟨hreq,?_⟩
    simp only [show gP (S.mem b) p 2 = l.ptr from z1,z4]
    rw [brT (nz_n hS hp),brT (nz_n hS hp),brT (nz_n hS hp),brT (okL_2 hS hp),sat_req]
    refine ⟨z3,?_⟩
    have hsm:=h.at'.sm
    let J : Nat → Vars → Prop:=fun N y => ∃ (i : Bool) (p s g : Int) (c : Bool) (x z : T) (k : Ctx) (j : Nat),N = k.length ∧ y = ⟨[p,(j : Int)],[],[],S.mem b⟩ ∧ At S (mkT i p s g c x z) k ∧ plug (mkT i p s g c x z) k = t ∧ j < (mkT i p s g c x z).size ∧ (cl k).length + j = i0
    refine lp_idx J (n0:=k.length) ⟨false,p,s',g',c,l,r,k,l.size,rfl,rfl,hA,hk,by rw [size_mk];omega,hl⟩ ?_
    clear hA hp hpn z1 z2 z3 z4 z5 z6 hk hl hreq c l r k
    rintro N y _ ⟨i,q,qs,qg,c,x,z,k,j,rfl,rfl,hA,hk,hjs,hl⟩
    have hq:=hA.get
    have hu : gP (S.mem b) q 4 = topP k:=(gP_u hS hq).trans (node_u _ _ _ _)
    simp only [hdI,tlI,hu]
    rw [brT (nz_n hS hq),brT (nz_n hS hq),brT (okL_4 hS hq),brT (cmp_zero _ _)]
    cases k with
    | nil =>
      rw [brF (by rfl)]
      have : j = i0:=by simp only [cl,List.length_nil] at hl;omega
      subst this
      exact ⟨.inl ⟨j,p,hi0,rfl,rfl⟩,rfl,fun ρ => rfl⟩
    | cons f k =>
      have hf:=hA.getf
      have hpz : peq (topP (f :: k)) 0 = false:=peq_n hS hf
      obtain ⟨w1,w2⟩:=At.which (b:=b) hA
      have hsz:=size_plug (f :: k) (mkT i q qs qg c x z)
      rw [hk] at hsz
      rw [brT (by rw [hpz];rfl),sat_req,w2,show topP (f :: k) = f.p from rfl]
      refine ⟨w1,?_⟩
      have ho:=hA.out
      have hok : ∀ d : Nat,d = (match f.i with | true => f.o.size + 1 | false => 0) → inLoopJ J (f :: k).length (isMemo fun v m => idxPost (nodes t) s' g' (yOf v m) ∧ m = S.mem b ∧ ∀ ρ,v.den ρ = (retIB (yOf v m)).den ρ) (.again ⟨[f.p,((j + d : Nat) : Int)],[],[],S.mem b⟩):=by
        rintro d rfl
        refine ⟨k.length,by simp,f.i,f.p,f.s,f.g,f.c,_,f.o,k,_,rfl,rfl,ho,hk,?_,?_⟩
        · rw [size_mk];cases f.i <;> simp only <;> omega
        · simp only [cl] at hl ⊢
          cases hfi : f.i <;> simp only [hfi] at hl ⊢
          · exact hl
          · simp only [List.length_append,len_nodes,List.length_cons,List.length_nil] at hl
            omega
      cases hfi : f.i with
      | false =>
        rw [brF (by rfl),brT (nz_n hS hq),brT (nz_n hS hq),brT (okL_4 hS hq),sat_req]
        refine ⟨by simp,?_⟩
        exact hok 0 (by rw [hfi])
      | true =>
        have hF : At S (mkT true f.p f.s f.g f.c (mkT i q qs qg c x z) f.o) k:=by rw [← hfi];exact ho
        obtain ⟨z1,z2,z3,z4,z5,z6⟩:=hF.side_sz (b:=b)
        simp only [csize] at hsz
        rw [show gP (S.mem b) f.p 2 = f.o.ptr from z2,z6,brT (by rfl),brT (nz_n hS hq),brT (nz_n hS hq),brT (okL_4 hS hq),brT (nz_n hS hf),brT (nz_n hS hf),brT (nz_n hS hf),brT (okL_2 hS hf),sat_req]
        refine ⟨z5,?_⟩
        simp only [csize] at hsm
        rw [brT (nz_n hS hq),brT (nz_n hS hq),brT (okL_4 hS hq),sat_req]
        refine ⟨by simp,?_⟩
        rw [iadd_i (x:=((f.o.size : Nat) : Int)) (by omega),iadd_i (by omega)]
        have:=hok (f.o.size + 1) (by rw [hfi])
        rw [show ((j + (f.o.size + 1) : Nat) : Int) = (j : Int) + ((f.o.size : Int) + 1) by omega] at this
        exact this
  · have hf' : ∀ x ∈ nodes t,¬ (x.2.1 = s ∧ x.2.2 = g):=fun x hx he => hf ⟨x,hx,he⟩
    simp only [lk_miss hS h.en hf']
    rw [sat_req]
    refine ⟨⟨keyed29,okM29 hS h.en,okKey29 h1 h2,rfl⟩,?_⟩
    rw [brT (by rfl),brT (by rfl)]
    exact ⟨.inr ⟨hf',rfl,rfl⟩,rfl,fun ρ => rfl⟩
theorem len_spec (h : At S t []) : lenOK (S.mem b) S.p ∧ lenV (S.mem b) S.p = t.size:=by
  have hroot : S.root = t.ptr:=h.ctx
  obtain ⟨a1,a2⟩:=size_spec (b:=b) h.ok (rep_has h.rep)
  have hz:=a2.trans (rep_sz h.ok h.rep)
  simp [lenOK,lenV,T_len,okP,outV,cmp_zero,peq_t,vInt,intOf,nz_t,okL_t,gP_t h.ok,hroot,a1,hz]
def atPost (L : List (Int × Int × Int)) (i : Int) (y : Vars) : Prop :=
  (∃ (j : Nat) (p s g : Int),i = j ∧ L[j]? = some (p,s,g) ∧ y.i = [s,g] ∧ y.b = [true]) ∨ ((i < 0 ∨ (L.length : Int) ≤ i) ∧ y.i = [0,0] ∧ y.b = [false])
def retHB (y : Vars) : V:=.tup [.agg [.si .i64 (hdI y.i),.si .u64 (hdI (tlI y.i))],.c (.sb (hdB y.b))]
theorem at_walk (h : At S t []) {i : Int} :
    (T_at (S.mem b) S.p i).sat (isMemo fun v m => atPost (nodes t) i (yOf v m) ∧ m = S.mem b ∧ ∀ ρ,v.den ρ = (retHB (yOf v m)).den ρ):=by
  have hS:=h.ok
  unfold T_at
  obtain ⟨l1,l2⟩:=len_spec (b:=b) h
  rw [brT (cmp_zero _ _),brF peq_t]
  by_cases hi : i < 0
  · rw [brT (by simp [iLt,hi])]
    exact ⟨.inr ⟨.inl hi,rfl,rfl⟩,rfl,fun ρ => rfl⟩
  rw [brF (by simp [iLt,hi]),sat_req,l2]
  refine ⟨l1,?_⟩
  by_cases hj : (t.size : Int) ≤ i
  · rw [brT (by simp [iGe,hj])]
    exact ⟨.inr ⟨.inr (by rw [len_nodes];exact hj),rfl,rfl⟩,rfl,fun ρ => rfl⟩
  rw [brF (by simp [iGe];omega),brT nz_t,brT nz_t,brT okL_t,gP_t hS,show S.root = t.ptr from h.ctx]
  obtain ⟨i0,rfl⟩ : ∃ i0 : Nat,i = i0:=⟨i.toNat,by omega⟩
  have hsm:=h.sm
  let J : Nat → Vars → Prop:=fun N y => ∃ (t' : T) (k : Ctx) (j : Nat),N = t'.size ∧ y = ⟨[(j : Int),t'.ptr],[],[],S.mem b⟩ ∧ At S t' k ∧ j < t'.size ∧ (nodes t')[j]? = (nodes t)[i0]?
  refine lp_idx J (n0:=t.size) ⟨t,[],i0,rfl,rfl,h,by omega,rfl⟩ ?_
  rintro N y _ ⟨t',k,j,rfl,rfl,hA,hjs,hl⟩
  have hne : t' ≠ .nil:=by rintro rfl;simp [T.size] at hjs
  obtain ⟨p,s,g,c,l,r,rfl⟩:=form_of false hne
  have hq:=hA.get
  obtain ⟨z1,z2,z3,z4,z5,z6⟩:=hA.side_sz (b:=b)
  have hsm2:=hA.sm
  rw [size_mk] at hjs hsm2
  have hnd : nodes (mkT false p s g c l r) = nodes l ++ (p,s,g) :: nodes r:=rfl
  rw [hnd] at hl
  simp only [hdI,tlI,ptr_mk,show gP (S.mem b) p 2 = l.ptr from z1,show gP (S.mem b) p 3 = r.ptr from z2,z4]
  rw [brT (nz_n hS hq),brT (nz_n hS hq),brT (nz_n hS hq),brT (okL_2 hS hq),sat_req]
  refine ⟨z3,?_⟩
  by_cases h3 : j = l.size
  · subst h3
    rw [brT (by simp [iEq]),brT (nz_n hS hq),brT (nz_n hS hq),brT (okL_0 hS hq),gI_s hS hq,gI_g hS hq,node_s,node_g]
    rw [List.getElem?_append_right (by rw [len_nodes];exact Nat.le_refl _),len_nodes,Nat.sub_self,List.getElem?_cons_zero] at hl
    exact ⟨.inl ⟨i0,p,s,g,rfl,hl.symm,rfl,rfl⟩,rfl,fun ρ => rfl⟩
  rw [brF (by simp [iEq];omega)]
  by_cases h4 : j < l.size
  · rw [brT (by simp [iLt,h4]),brT (nz_n hS hq),brT (nz_n hS hq),brT (nz_n hS hq),brT (okL_2 hS hq),sat_req]
    refine ⟨by simp,l.size,by rw [size_mk];omega,l,_,j,rfl,rfl,hA.near,h4,?_⟩
    rw [List.getElem?_append_left (by rw [len_nodes];exact h4)] at hl
    exact hl
  · rw [brF (by simp [iLt];omega),brT (nz_n hS hq),brT (nz_n hS hq),brT (nz_n hS hq),brT (okL_3 hS hq),sat_req]
    refine ⟨by simp,?_⟩
    rw [iadd_i (by omega),isub_i (by omega),show (j : Int) - ((l.size : Int) + 1) = ((j - (l.size + 1) : Nat) : Int) by omega]
    refine ⟨r.size,by rw [size_mk];omega,r,_,_,rfl,rfl,hA.far,by omega,?_⟩
    rw [List.getElem?_append_right (by rw [len_nodes];omega),len_nodes,show j - l.size = (j - (l.size + 1)) + 1 by omega,List.getElem?_cons_succ] at hl
    exact hl
end
theorem mm_ghost {P : Program} {S : List Sum} (hN : NameOK P) (hS : ∀ q ∈ S,SumOK P q) {D : DrawX} (hD : DSnd P D) (fuel : Nat) {f : Nat} (args : List V) (m : Mem) (mt : List Nat) {T : Tr} (hT : runm P S D fuel f args m mt = T)
    {G : Type} {pre : G → Prop} {post : G → Vars → Prop} {ret : Vars → V} (hp : ∃ g,pre g) (hw : ∀ g,pre g → T.sat (isMemo fun v x => post g (yOf v x) ∧ (yOf v x).m = x ∧ ∀ ρ,v.den ρ = (ret (yOf v x)).den ρ))
    (ρ : Nat → Nat) (w : World) (hm : ∀ a o,m a = some o → w.heap[a]? = some o) {vs : Array Value} (he : vs = (args.map (V.den ρ)).toArray) :
    Calls P f vs w fun e w' => ∃ y,(∀ g,pre g → post g y) ∧ e = .returned ((ret y).den ρ) ∧ MemTo m y.m w w':=by
  refine mm_calls hN hS hD fuel args m mt hT ρ ?_ w hm he
  obtain ⟨g0,h0⟩:=hp
  have key:=sat_ghost (G:={ g : G // pre g }) ⟨⟨g0,h0⟩⟩ (T:=T) (p:=fun g v x => post g.1 (yOf v x) ∧ (yOf v x).m = x ∧ ∀ ρ,v.den ρ = (ret (yOf v x)).den ρ) fun ⟨g,hg⟩ => hw g hg
  refine sat_mono (fun l hl => ?_) key
  cases l with
  | memo v x => exact ⟨yOf v x,fun g hg => (hl ⟨g,hg⟩).1,(hl ⟨g0,h0⟩).2.2 ρ,(hl ⟨g0,h0⟩).2.1⟩
  | _ => exact hl.elim
structure TG where
  S : TS
  b : Mem
  t : T
  n : Nat
def TG.is (G : TG) (m : Mem) (p : Int) : Prop:=m = G.S.mem G.b ∧ p = G.S.p ∧ Tre G.S G.t G.n
def indexP (m : Mem) (t hs hg : Int) : Prop:=∃ G : TG,G.is m t ∧ inI hs ∧ inU hg
def indexQ (m : Mem) (t hs hg : Int) (y : Vars) : Prop:=∀ G : TG,(G.is m t ∧ inI hs ∧ inU hg) → idxPost (nodes G.t) hs hg y ∧ y.m = m
def atP (m : Mem) (t i : Int) : Prop:=∃ G : TG,G.is m t
def atQ (m : Mem) (t i : Int) (y : Vars) : Prop:=∀ G : TG,G.is m t → atPost (nodes G.t) i y ∧ y.m = m
theorem yOf_m (v : V) (m : Mem) : (yOf v m).m = m:=by unfold yOf;split <;> rfl
def s_index : Sum:=memSum 24 fun m a => match a with | [a0,a1] => (match ptrOf a0,hanOf a1 with | some t,some (hs,hg) => some ⟨indexP m t hs hg,indexQ m t hs hg,fun y => .tup [.c (.si .i64 (hdI y.i)),.c (.sb (hdB y.b))]⟩ | _,_ => none) | _ => none
theorem t_index (m : Mem) (t : Int) (hs hg : Int) : runm Try.prog [s_size,s_which] (drawl Try.prog [s_size,s_which] (fun _ _ => some ⟨[6,7],[],[],[]⟩)) 300 24 [.u (.c (.np t 0)),.u (.agg [.si .i64 hs,.si .u64 hg])] m [98] = T_index m t hs hg:=by kernel_rfl
theorem s_index_ok : SumOK Try.prog s_index:=by
  refine memSum_ok ⟨_,Try.func24,by kernel_rfl⟩ fun m args ms h hp hw ρ w hm => ?_
  split at h
  · split at h
    · rename_i a0 a1 _ _ t hs hg h0 h1
      cases h
      have hS : ∀ q ∈ [s_size,s_which],SumOK Try.prog q:=okc s_size_ok (okc s_which_ok okn)
      refine mm_ghost nameOK hS (drawl_sound nameOK hS (by kernel_rfl) _) 300 _ m _ (t_index m t hs hg) hp (fun G hG => ?_) ρ w hm (by simp only [List.map_cons,List.map_nil,ptrOf_den h0,hanOf_den h1])
      obtain ⟨⟨rfl,rfl,g1⟩,g2,g3⟩:=hG
      refine sat_mono (fun l hl => ?_) (index_walk g1 g2 g3)
      cases l with
      | memo v x => exact ⟨⟨hl.1,(yOf_m _ _).trans hl.2.1⟩,yOf_m _ _,hl.2.2⟩
      | _ => exact hl.elim
    · cases h
  · cases h
def s_at : Sum:=memSum 16 fun m a => match a with | [a0,a1] => (match ptrOf a0,intOf a1 with | some t,some i => some ⟨atP m t i,atQ m t i,fun y => .tup [.agg [.si .i64 (hdI y.i),.si .u64 (hdI (tlI y.i))],.c (.sb (hdB y.b))]⟩ | _,_ => none) | _ => none
theorem t_at (m : Mem) (t : Int) (i : Int) : runm Try.prog [s_size,s_len] (drawl Try.prog [s_size,s_len] (fun _ _ => some ⟨[1,6],[],[4],[0]⟩)) 300 16 [.u (.c (.np t 0)),.u (.c (.si .i64 i))] m [98] = T_at m t i:=by kernel_rfl
theorem s_at_ok : SumOK Try.prog s_at:=by
  refine memSum_ok ⟨_,Try.func16,by kernel_rfl⟩ fun m args ms h hp hw ρ w hm => ?_
  split at h
  · split at h
    · rename_i a0 a1 _ _ t i h0 h1
      cases h
      have hS : ∀ q ∈ [s_size,s_len],SumOK Try.prog q:=okc s_size_ok (okc s_len_ok okn)
      refine mm_ghost nameOK hS (drawl_sound nameOK hS (by kernel_rfl) _) 300 _ m _ (t_at m t i) hp (fun G hG => ?_) ρ w hm (by simp only [List.map_cons,List.map_nil,ptrOf_den h0,intOf_den h1])
      obtain ⟨rfl,rfl,g1⟩:=hG
      refine sat_mono (fun l hl => ?_) (at_walk g1.at')
      cases l with
      | memo v x => exact ⟨⟨hl.1,(yOf_m _ _).trans hl.2.1⟩,yOf_m _ _,hl.2.2⟩
      | _ => exact hl.elim
    · cases h
  · cases h
end Go.Proofs.Ytnlohongffpkpaa.T16
end

section
namespace Go.Proofs.Ytnlohongffpkpaa.T16
open Go Go.RowKit Go.Proofs.Ytnlohongffpkpaa.Sx
set_option linter.unusedVariables false
set_option linter.unusedSimpArgs false
def TS.put (S : TS) (es : Array MapEntry) (k : Nat) : TS:={ S with es:=es,k:=k }
section
variable {S : TS} {b : Mem} {t : T} {n : Nat}
theorem free_at {a : Nat} (h : S.mem b a = none) : a ≠ S.t ∧ a ≠ S.q ∧ S.H ((a : Int) + 1) = none:=by
  unfold TS.mem at h
  by_cases h1 : a = S.t
  · simp [h1] at h
  · by_cases h2 : a = S.q
    · rw [if_neg h1,if_pos h2] at h;cases h
    · refine ⟨h1,h2,?_⟩
      rw [if_neg h1,if_neg h2] at h
      split at h
      · cases h
      · assumption
theorem new_mem {a : Nat} {d : Nd} (h : S.mem b a = none) : alM (S.mem b) ((a : Int) + 1) d.cells 98 = (S.set ((a : Int) + 1) d).mem b:=by
  obtain ⟨h1,h2,h3⟩:=free_at h
  funext c
  unfold alM TS.mem
  rw [show (((a : Int) + 1).toNat) = a + 1 by omega]
  by_cases e : c = a
  · subst e
    simp [h1,h2,upd]
  · have : ¬ ((c : Int) + 1 = (a : Int) + 1):=by omega
    simp [e,upd,this]
theorem new_ok {a : Nat} {d : Nd} (h : S.mem b a = none) (hS : S.ok) (hl : 0 ≤ d.l) (hr : 0 ≤ d.r) (hu : 0 ≤ d.u) : (S.set ((a : Int) + 1) d).ok:=by
  obtain ⟨h1,h2,h3⟩:=free_at h
  refine ⟨hS.ne,?_,?_,hS.root,fun p e he => ?_⟩
  · rw [set_H,set_t,upd_ne _ (by omega)];exact hS.ht
  · rw [set_H,set_q,upd_ne _ (by omega)];exact hS.hq
  · by_cases e' : p = (a : Int) + 1
    · subst e';rw [set_H,upd_self] at he;cases he;exact ⟨by omega,hl,hr,hu⟩
    · rw [set_H,upd_ne _ e'] at he;exact hS.nd p e he
theorem Ents.congr {es : List MapEntry} {L L' : List (Int × Int × Int)} (h : Ents es L) (hL : ∀ x,x ∈ L' ↔ x ∈ L) : Ents es L' :=
  ⟨h.ap,fun e he => by obtain ⟨x,h1,h2⟩:=h.to e he;exact ⟨x,(hL x).2 h1,h2⟩,fun x hx => h.fro x ((hL x).1 hx),fun x hx => h.rng x ((hL x).1 hx)⟩
theorem Ents.push {es : List MapEntry} {L : List (Int × Int × Int)} (h : Ents es L) {p s g : Int} {c : Nat} (hx : ∀ x ∈ L,¬ (x.2.1 = s ∧ x.2.2 = g)) (h1 : inI s) (h2 : inU g) : Ents (es ++ [⟨hKey s g,pv p 0,c⟩]) ((p,s,g) :: L):=by
  have hk : ∀ e ∈ es,e.key ≠ hKey s g:=fun e he hk => by
    obtain ⟨x,g1,g2,g3⟩:=h.to e he
    exact hx x g1 (hKey_inj (g2.symm.trans hk))
  refine ⟨List.pairwise_append.2 ⟨h.ap,by simp,fun e he e' he' => ?_⟩,fun e he => ?_,fun x hx => ?_,fun x hx => ?_⟩
  · simp only [List.mem_singleton] at he';subst he';exact hk e he
  · rcases List.mem_append.1 he with he | he
    · obtain ⟨x,g1,g2⟩:=h.to e he;exact ⟨x,List.mem_cons_of_mem _ g1,g2⟩
    · simp only [List.mem_singleton] at he;subst he;exact ⟨(p,s,g),by simp,rfl,rfl⟩
  · rcases List.mem_cons.1 hx with rfl | hx
    · exact ⟨_,List.mem_append_right _ (List.mem_singleton.2 rfl),rfl,rfl⟩
    · obtain ⟨e,g1,g2⟩:=h.fro x hx;exact ⟨e,List.mem_append_left _ g1,g2⟩
  · rcases List.mem_cons.1 hx with rfl | hx
    · exact ⟨h1,h2⟩
    · exact h.rng x hx
theorem put_mem (hS : S.ok) {L : List (Int × Int × Int)} (he : Ents S.es.toList L) {s g p : Int} (hx : ∀ x ∈ L,¬ (x.2.1 = s ∧ x.2.2 = g)) :
    mput (S.mem b) (.map (some S.q)) (.agg (.mk [(.int .i64 s),(.int .u64 g)])) (pv p 0) = (S.put (S.es.push ⟨hKey s g,pv p 0,S.k⟩) (S.k + 1)).mem b:=by
  have hm:=he.miss hx
  funext a
  simp only [mput,mchg]
  by_cases e : a = S.q
  · subst e
    rw [if_pos rfl,mem_q hS]
    simp only [esPut]
    rw [show efind (.agg (.mk [(.int .i64 s),(.int .u64 g)])) S.es.toList 0 = none from hm]
    simp [TS.mem,TS.put,Ne.symm hS.ne]
  · rw [if_neg e]
    simp [TS.mem,TS.put,e]
theorem put_ok {es : Array MapEntry} {k : Nat} (h : S.ok) : (S.put es k).ok:=⟨h.ne,h.ht,h.hq,h.root,h.nd⟩
structure Dn (S : TS) (t : T) (k : Ctx) : Prop where
  ok : S.ok
  rep : Rep S.H (topP k) t
  ctx : RepC S.H S.root t.ptr (t.size + 1) k
  dj : Dj t k
  sm : t.size + csize k + 1 < 1152921504606846976
def stepN (p s g : Int) (c : Bool) (l r : T) (u : Int) : Nd:=⟨s,g,l.ptr,r.ptr,u,((l.size + r.size + 2 : Nat) : Int),c⟩
theorem Dn.step {p s g : Int} {c : Bool} {l r : T} {k : Ctx} (h : Dn S (.nd p s g c l r) k) :
    Dn (S.set p (stepN p s g c l r (topP k))) l (Fr.mk false p s g c r :: k) ∧ Dn (S.set p (stepN p s g c l r (topP k))) r (Fr.mk true p s g c l :: k):=by
  obtain ⟨h1,h2,h3⟩:=h.rep
  have hd:=h.dj
  have hdp:=hd p
  simp only [cnt,if_true] at hdp
  have hnn:=h.ok.nd p _ h1
  have hok : (S.set p (stepN p s g c l r (topP k))).ok:=h.ok.set h1 hnn.2.1 hnn.2.2.1 hnn.2.2.2
  have oth : ∀ q,0 < cnt q l + cnt q r + ccnt q k → (S.set p (stepN p s g c l r (topP k))).H q = S.H q:=by
    intro q hq
    rw [set_H,upd_ne]
    intro e;subst e;omega
  have hself : (S.set p (stepN p s g c l r (topP k))).H p = some (stepN p s g c l r (topP k)):=by rw [set_H,upd_self]
  have rl:=rep_congr (fun q hq => oth q (by omega)) h2
  have rr:=rep_congr (fun q hq => oth q (by omega)) h3
  have rc : RepC (S.set p (stepN p s g c l r (topP k))).H S.root p (l.size + r.size + 2) k:=repC_congr (fun q hq => oth q (by omega)) h.ctx
  have hsm:=h.sm
  simp only [T.size] at hsm
  refine ⟨⟨hok,rl,⟨?_,rr,?_⟩,fun q => ?_,?_⟩,⟨hok,rr,⟨?_,rl,?_⟩,fun q => ?_,?_⟩⟩
  · rw [hself];simp only [stepN,Fr.node,Option.some.injEq,Nd.mk.injEq];refine ⟨trivial,trivial,trivial,trivial,trivial,?_,trivial⟩;omega
  · show RepC _ S.root p (l.size + 1 + r.size + 1) k
    rw [show l.size + 1 + r.size + 1 = l.size + r.size + 2 by omega];exact rc
  · have:=hd q;simp only [cnt,ccnt] at this ⊢;omega
  · simp only [csize];omega
  · rw [hself];simp only [stepN,Fr.node,Option.some.injEq,Nd.mk.injEq];refine ⟨trivial,trivial,trivial,trivial,trivial,?_,trivial⟩;omega
  · show RepC _ S.root p (r.size + 1 + l.size + 1) k
    rw [show r.size + 1 + l.size + 1 = l.size + r.size + 2 by omega];exact rc
  · have:=hd q;simp only [cnt,ccnt] at this ⊢;omega
  · simp only [csize];omega
theorem Dn.plant {f : Fr} {k : Ctx} {x s g : Int} (h : Dn S .nil (f :: k)) (hx : S.H x = some ⟨s,g,0,0,0,1,true⟩) (hc : ccnt x (f :: k) = 0) :
    S.H f.p = some (f.node 0 (topP k) 1) ∧ (S.set f.p ((f.node 0 (topP k) 1).wch f.i x)).ok ∧ (S.set f.p ((f.node 0 (topP k) 1).wch f.i x)).H x = some ⟨s,g,0,0,0,1,true⟩ ∧
    At ((S.set f.p ((f.node 0 (topP k) 1).wch f.i x)).set x ⟨s,g,0,0,f.p,1,true⟩) (mkT false x s g true .nil .nil) (f :: k):=by
  obtain ⟨h1,h2,h3⟩:=h.ctx
  have hxp:=h.ok.nd x _ hx
  have hfp:=h.ok.nd f.p _ h1
  simp only [ccnt] at hc
  have hne : x ≠ f.p:=by intro e;rw [if_pos e] at hc;omega
  rw [if_neg hne] at hc
  have hok:=h.ok.wch h1 f.i (Int.le_of_lt hxp.1)
  have hx' : (S.set f.p ((f.node 0 (topP k) 1).wch f.i x)).H x = some ⟨s,g,0,0,0,1,true⟩:=by rw [set_H,upd_ne _ hne];exact hx
  refine ⟨h1,hok,hx',⟨hok.set hx' (Int.le_refl _) (Int.le_refl _) (Int.le_of_lt hfp.1),?_,?_,fun q => ?_,?_⟩⟩
  · exact ⟨by rw [set_H,upd_self];rfl,trivial,trivial⟩
  · have hd:=h.dj
    have oth : ∀ q,0 < cnt q f.o + ccnt q k → ((S.set f.p ((f.node 0 (topP k) 1).wch f.i x)).set x ⟨s,g,0,0,f.p,1,true⟩).H q = S.H q:=by
      intro q hq
      have:=hd q
      simp only [ccnt,cnt] at this
      rw [set_H,upd_ne,set_H,upd_ne]
      · intro e;subst e;rw [if_pos rfl] at this;omega
      · intro e;subst e;omega
    refine ⟨?_,rep_congr (fun q hq => oth q (by omega)) h2,repC_congr (fun q hq => oth q (by omega)) h3⟩
    rw [set_H,upd_ne _ (Ne.symm hne),set_H,upd_self]
    unfold Fr.node
    cases f.i <;> rfl
  · have:=h.dj q
    simp only [mkT,cnt,ccnt] at this ⊢
    by_cases e : q = x
    · subst e
      rw [if_neg hne]
      simp;omega
    · rw [if_neg e];omega
  · have:=h.sm
    simp only [mkT,T.size,csize] at this ⊢;omega
theorem RB_down {i : Bool} {p s g : Int} {c : Bool} {x y : T} {k : Ctx} {n : Nat} (h : RB (mkT i p s g c x y) n) (h2 : c = true → mayR k = true) (h3 : RBC k n) : ∃ m,RB x m ∧ (red x = true → mayR (Fr.mk i p s g c y :: k) = true) ∧ RBC (Fr.mk i p s g c y :: k) m:=by
  cases c with
  | true =>
    obtain ⟨g1,g2,g3,g4⟩:=RB_red.1 h
    exact ⟨n,g1,fun e => (by rw [g3] at e;cases e),(RBC_red rfl).2 ⟨g2,g4,h2 rfl,h3⟩⟩
  | false =>
    have : ∃ m,n = m + 1:=by cases i <;> (obtain ⟨m,e,_⟩:=h;exact ⟨m,e⟩)
    obtain ⟨m,rfl⟩:=this
    obtain ⟨g1,g2⟩:=RB_blk.1 h
    exact ⟨m,g1,fun _ => rfl,(RBC_blk rfl).2 ⟨g2,h3⟩⟩
theorem Dn.fin {S0 : TS} {f : Fr} {k : Ctx} {x s g : Int} {L : List (Int × Int × Int)} (hl : S0.like S) (h : Dn S .nil (f :: k)) (hx : S.H x = some ⟨s,g,0,0,0,1,true⟩) (hc : ccnt x (f :: k) = 0) (hr : RBC (f :: k) 0)
    (hL : cl (f :: k) ++ (x,s,g) :: cr (f :: k) = L) {Q : Leaf → Prop} {l : Mem → Leaf} {n1 n2 n3 n4 n5 n6 n7 : Nat} (hQ : ∀ S',Settled S0 L S' → Q (l (S'.mem b))) :
    (Tr.br (nzp f.p) (.br (nzp f.p) (.br (nzp f.p) (.br (okS (S.mem b) f.p (bOff f.i) 1) (.letm (wrL (S.mem b) f.p (bOff f.i) [(pv x 0)]) (fun m3 => (.br (nzp x) (.br (nzp x) (.br (okS m3 x 4 1) (.letm (wrL m3 x 4 [(pv f.p 0)]) (fun m4 => (.req (settlesP m4 S0.p x) (.any (settlesQ m4 S0.p x) (fun y2 => (.leaf (l y2.4))))))) (.no n1)) (.no n2)) (.no n3)))) (.no n4)) (.no n5)) (.no n6)) (.no n7)).sat Q:=by
  obtain ⟨h1,h2,h3,h4⟩:=h.plant hx hc
  rw [brT (nz_n h.ok h1),brT (nz_n h.ok h1),brT (nz_n h.ok h1),brT (okS_ch h.ok h1 _),sat_letm,wr_ch h.ok h1,brT (nz_n h2 h3),brT (nz_n h2 h3),brT (okS_n h2 h3 rfl),sat_letm,wr_u h2 h3,sat_req,sat_any]
  let G : SettG:=⟨(S.set f.p ((f.node 0 (topP k) 1).wch f.i x)).set x ⟨s,g,0,0,f.p,1,true⟩,b,false,s,g,.nil,.nil,f :: k,0⟩
  have hG : G.pre (((S.set f.p ((f.node 0 (topP k) 1).wch f.i x)).set x ⟨s,g,0,0,f.p,1,true⟩).mem b) S0.p x:=⟨rfl,(like_p ((hl.trans (like_set h1)).trans (like_set h3))).symm,h4,rfl,rfl,rfl,rfl,hr⟩
  refine ⟨⟨G,hG⟩,fun y hy => ?_⟩
  obtain ⟨S',e,hs⟩:=hy G hG
  rw [sat_leaf,e]
  refine hQ S' ⟨((hl.trans (like_set h1)).trans (like_set h3)).trans hs.like,?_⟩
  obtain ⟨t',m,a1,a2,a3,a4⟩:=hs.tree
  refine ⟨t',m,a1,?_,a3,a4⟩
  rw [a2,nodes_plug,← hL]
  show cl (f :: k) ++ [(x,s,g)] ++ cr (f :: k) = _
  simp
end
def T_insert (m : Mem) (t : Int) (i : Int) (hs hg : Int) : Tr:=(.br (cmpOK m t 0) (.br (peq t 0) (.leaf (.memo (.u (.c (.li .i64 1))) m)) (.br (nzp t) (.br (nzp t) (.br (okL m t 1 [(.raw (.map (.none)))]) (.br (isMpV (pl (mcell m t 1))) (.br (isNilM (pl (mcell m t 1))) (.leaf (.memo (.u (.c (.li .i64 1))) m)) (.br (iLt i 0) (.leaf (.memo (.u (.c (.li .i64 2))) m)) (.req (lenOK m t) (.br (iGt i (lenV m t)) (.leaf (.memo (.u (.c (.li .i64 2))) m)) (.br (nzp t) (.br (nzp t) (.br (okL m t 1 [(.raw (.map (.none)))]) (.req ((Go.Maps.Keyed Try.prog 29) ∧ ((okM Try.prog 29 m (pl (mcell m t 1))) ∧ ((okKey Try.prog 29 (.agg (.mk [(.int .i64 hs),(.int .u64 hg)]))) ∧ (((okU (.c .nilp) (lkZ m (pl (mcell m t 1)) (.agg (.mk [(.int .i64 hs),(.int .u64 hg)])) (.pointer (.none)))) : Bool) = true)))) (.br (cmpOK m (vP (lkZ m (pl (mcell m t 1)) (.agg (.mk [(.int .i64 hs),(.int .u64 hg)])) (.pointer (.none)))) 0) (.br (bNot (peq (vP (lkZ m (pl (mcell m t 1)) (.agg (.mk [(.int .i64 hs),(.int .u64 hg)])) (.pointer (.none)))) 0)) (.leaf (.memo (.u (.c (.li .i64 7))) m)) (.any (newQ m (.mk [(.int .i64 hs),(.int .u64 hg),(.pointer (.none)),(.pointer (.none)),(.pointer (.none)),(.int .i64 1),(.bool true)]) 98) (fun y0 => (.br (nzp t) (.br (nzp t) (.br (okL y0.4 t 1 [(.raw (.map (.none)))]) (.req ((Go.Maps.Keyed Try.prog 29) ∧ ((okM Try.prog 29 y0.4 (pl (mcell y0.4 t 1))) ∧ ((((isNilM (pl (mcell y0.4 t 1))) : Bool) = false) ∧ (okKey Try.prog 29 (.agg (.mk [(.int .i64 hs),(.int .u64 hg)])))))) (.letm (mput y0.4 (pl (mcell y0.4 t 1)) (.agg (.mk [(.int .i64 hs),(.int .u64 hg)])) (pv (pI y0.1) 0)) (fun m1 => (.br (nzp t) (.br (nzp t) (.br (okL m1 t 0 [.nilp]) (.br (cmpOK m1 (gP m1 t 0) 0) (.br (peq (gP m1 t 0) 0) (.br (nzp t) (.br (nzp t) (.br (okS m1 t 0 1) (.letm (wrL m1 t 0 [(pv (pI y0.1) 0)]) (fun m2 => (.br (nzp (pI y0.1)) (.br (nzp (pI y0.1)) (.br (okS m2 (pI y0.1) 6 1) (.letm (wrL m2 (pI y0.1) 6 [(.bool false)]) (fun m3 => (.leaf (.memo (.u (.c (.li .i64 0))) m3)))) (.no 72)) (.no 76)) (.no 75)))) (.no 72)) (.no 76)) (.no 75)) (.br (nzp t) (.br (nzp t) (.br (okL m1 t 0 [.nilp]) (.lp (.mk [i,(gP m1 t 0),0] [] [] m1) (fun y1 j1 => (.br (nzp (hdI (tlI y1.1))) (.br (nzp (hdI (tlI y1.1))) (.br (okL y1.4 (hdI (tlI y1.1)) 5 [(.li .i64 0)]) (.br (nzp (hdI (tlI y1.1))) (.br (nzp (hdI (tlI y1.1))) (.br (okS y1.4 (hdI (tlI y1.1)) 5 1) (.letm (wrL y1.4 (hdI (tlI y1.1)) 5 [(.int .i64 (iAdd .i64 (gI y1.4 (hdI (tlI y1.1)) 5) 1))]) (fun m2 => (.br (nzp (hdI (tlI y1.1))) (.br (nzp (hdI (tlI y1.1))) (.br (nzp (hdI (tlI y1.1))) (.br (okL m2 (hdI (tlI y1.1)) 2 [.nilp]) (.req (sizeOK m2 (gP m2 (hdI (tlI y1.1)) 2)) (.br (iGt (hdI y1.1) (sizeV m2 (gP m2 (hdI (tlI y1.1)) 2))) (.br (nzp (hdI (tlI y1.1))) (.br (nzp (hdI (tlI y1.1))) (.br (nzp (hdI (tlI y1.1))) (.br (okL m2 (hdI (tlI y1.1)) 3 [.nilp]) (.br (cmpOK m2 (gP m2 (hdI (tlI y1.1)) 3) 0) (.br (peq (gP m2 (hdI (tlI y1.1)) 3) 0) (.br (nzp (hdI (tlI y1.1))) (.br (nzp (hdI (tlI y1.1))) (.br (nzp (hdI (tlI y1.1))) (.br (okS m2 (hdI (tlI y1.1)) 3 1) (.letm (wrL m2 (hdI (tlI y1.1)) 3 [(pv (pI y0.1) 0)]) (fun m3 => (.br (nzp (pI y0.1)) (.br (nzp (pI y0.1)) (.br (okS m3 (pI y0.1) 4 1) (.letm (wrL m3 (pI y0.1) 4 [(pv (hdI (tlI y1.1)) 0)]) (fun m4 => (.req (settlesP m4 t (pI y0.1)) (.any (settlesQ m4 t (pI y0.1)) (fun y2 => (.leaf (.up (.memo (.u (.c (.li .i64 0))) y2.4)))))))) (.no 72)) (.no 76)) (.no 75)))) (.no 72)) (.no 81)) (.no 76)) (.no 75)) (.br (nzp (hdI (tlI y1.1))) (.br (nzp (hdI (tlI y1.1))) (.br (nzp (hdI (tlI y1.1))) (.br (okL m2 (hdI (tlI y1.1)) 3 [.nilp]) (.req ((([(0,(.u (.c (.np t 0)))),(7,(.u (.c (.np (pI y0.1) 0))))] : List (Nat × V)) = [(0,(.u (.c (.np t 0)))),(7,(.u (.c (.np (pI y0.1) 0))))]) ∧ (([] : List (Nat × Blk)) = [])) (.leaf (.again (.mk [(iSub .i64 (hdI y1.1) (iAdd .i64 (sizeV m2 (gP m2 (hdI (tlI y1.1)) 2)) 1)),(gP m2 (hdI (tlI y1.1)) 3),1] [] [] m2)))) (.no 70)) (.no 81)) (.no 76)) (.no 75))) (.no 78)) (.no 70)) (.no 81)) (.no 76)) (.no 75)) (.br (nzp (hdI (tlI y1.1))) (.br (nzp (hdI (tlI y1.1))) (.br (nzp (hdI (tlI y1.1))) (.br (okL m2 (hdI (tlI y1.1)) 2 [.nilp]) (.br (cmpOK m2 (gP m2 (hdI (tlI y1.1)) 2) 0) (.br (peq (gP m2 (hdI (tlI y1.1)) 2) 0) (.br (nzp (hdI (tlI y1.1))) (.br (nzp (hdI (tlI y1.1))) (.br (nzp (hdI (tlI y1.1))) (.br (okS m2 (hdI (tlI y1.1)) 2 1) (.letm (wrL m2 (hdI (tlI y1.1)) 2 [(pv (pI y0.1) 0)]) (fun m3 => (.br (nzp (pI y0.1)) (.br (nzp (pI y0.1)) (.br (okS m3 (pI y0.1) 4 1) (.letm (wrL m3 (pI y0.1) 4 [(pv (hdI (tlI y1.1)) 0)]) (fun m4 => (.req (settlesP m4 t (pI y0.1)) (.any (settlesQ m4 t (pI y0.1)) (fun y2 => (.leaf (.up (.memo (.u (.c (.li .i64 0))) y2.4)))))))) (.no 72)) (.no 76)) (.no 75)))) (.no 72)) (.no 81)) (.no 76)) (.no 75)) (.br (nzp (hdI (tlI y1.1))) (.br (nzp (hdI (tlI y1.1))) (.br (nzp (hdI (tlI y1.1))) (.br (okL m2 (hdI (tlI y1.1)) 2 [.nilp]) (.req ((([(0,(.u (.c (.np t 0)))),(7,(.u (.c (.np (pI y0.1) 0))))] : List (Nat × V)) = [(0,(.u (.c (.np t 0)))),(7,(.u (.c (.np (pI y0.1) 0))))]) ∧ (([] : List (Nat × Blk)) = [])) (.leaf (.again (.mk [(hdI y1.1),(gP m2 (hdI (tlI y1.1)) 2),0] [] [] m2)))) (.no 70)) (.no 81)) (.no 76)) (.no 75))) (.no 78)) (.no 70)) (.no 81)) (.no 76)) (.no 75)))) (.no 70)) (.no 81)) (.no 76)) (.no 75)))) (.no 72)) (.no 76)) (.no 75)) (.no 70)) (.no 76)) (.no 75)))) (.no 70)) (.no 76)) (.no 75))) (.no 78)) (.no 70)) (.no 76)) (.no 75))))) (.no 70)) (.no 76)) (.no 75))))) (.no 78))) (.no 70)) (.no 76)) (.no 75)))))) (.no 109)) (.no 70)) (.no 76)) (.no 75))) (.no 78))
def T_fresh (m : Mem)  : Tr:=(.any (newMQ m) (fun y0 => (.any (newQ y0.4 (.mk [(.pointer (.none)),(pl (hdV y0.3))]) 95) (fun y1 => (.leaf (.memo (.u (.c (.np (pI y1.1) 0))) y1.4))))))
section
variable {S : TS} {b : Mem} {t : T} {n : Nat}
def insPost (S : TS) (b : Mem) (L : List (Int × Int × Int)) (i s g : Int) (y : Vars) : Prop :=
  ((i < 0 ∨ (L.length : Int) < i) ∧ y.i = [2] ∧ y.m = S.mem b) ∨
  (0 ≤ i ∧ i ≤ L.length ∧ (∃ x ∈ L,x.2.1 = s ∧ x.2.2 = g) ∧ y.i = [7] ∧ y.m = S.mem b) ∨
  (0 ≤ i ∧ i ≤ L.length ∧ (∀ x ∈ L,¬ (x.2.1 = s ∧ x.2.2 = g)) ∧ y.i = [0] ∧ ∃ (S' : TS) (t' : T) (n' a : Nat),y.m = S'.mem b ∧ S'.t = S.t ∧ S'.q = S.q ∧ Tre S' t' n' ∧ nodes t' = L.take i.toNat ++ ((a : Int) + 1,s,g) :: L.drop i.toNat ∧ S.mem b a = none ∧ ∀ q,S'.H q = none ↔ S.H q = none ∧ q ≠ (a : Int) + 1)
def retI (y : Vars) : V:=.u (.c (.si .i64 (hdI y.i)))
theorem cnt_of_none {H : Int → Option Nd} {x : Int} (hx : H x = none) : ∀ {t : T} {u : Int},Rep H u t → cnt x t = 0
  | .nil,_,_ => rfl
  | .nd p s g c l r,u,⟨h1,h2,h3⟩ => by
    have : x ≠ p:=by rintro rfl;rw [hx] at h1;cases h1
    simp only [cnt,if_neg this,cnt_of_none hx h2,cnt_of_none hx h3]
theorem insert_walk (h : Tre S t n) (hsz : t.size + 1 < 1152921504606846976) {i s g : Int} (h1 : inI s) (h2 : inU g) :
    (T_insert (S.mem b) S.p i s g).sat (isMemo fun v m => insPost S b (nodes t) i s g (yOf v m) ∧ ∀ ρ,v.den ρ = (retI (yOf v m)).den ρ):=by
  have hS:=h.at'.ok
  have hroot : S.root = t.ptr:=h.at'.ctx
  unfold T_insert
  obtain ⟨l1,l2⟩:=len_spec (b:=b) h.at'
  rw [brT (cmp_zero _ _),brF peq_t,brT nz_t,brT nz_t,brT okL_m]
  rw [cell_q,brT (by rfl),brF (by rfl)]
  by_cases hi : i < 0
  · rw [brT (by simp [iLt,hi])]
    exact ⟨.inl ⟨.inl hi,rfl,rfl⟩,fun ρ => rfl⟩
  rw [brF (by simp [iLt,hi]),sat_req,l2]
  refine ⟨l1,?_⟩
  by_cases hj : (t.size : Int) < i
  · rw [brT (by simp [iGt,hj])]
    exact ⟨.inl ⟨.inr (by rw [len_nodes];exact hj),rfl,rfl⟩,fun ρ => rfl⟩
  rw [brF (by simp [iGt];omega),brT nz_t,brT nz_t,brT okL_m]
  by_cases hf : ∃ x ∈ nodes t,x.2.1 = s ∧ x.2.2 = g
  · obtain ⟨⟨p,s',g'⟩,hx,rfl,rfl⟩:=hf
    have hp : ∃ d,S.H p = some d:=by
      obtain ⟨i0,hi0⟩:=List.getElem?_of_mem hx
      obtain ⟨c,l,r,k,hk,hl⟩:=split_at hi0
      have hA : At S (mkT false p s' g' c l r) k:=At.ins (by rw [show plug (mkT false p s' g' c l r) k = t from hk];exact h.at')
      exact ⟨_,hA.get⟩
    obtain ⟨d,hp⟩:=hp
    have hpn : 0 ≤ p:=Int.le_of_lt (hS.nd p _ hp).1
    rw [lk_hit hS h.en hx,sat_req]
    refine ⟨⟨keyed29,okM29 hS h.en,okKey29 h1 h2,isP_pv p⟩,?_⟩
    rw [vP_pv hpn,brT (cmp_zero _ _),brT (by rw [peq_n hS hp];rfl)]
    exact ⟨.inr (.inl ⟨by omega,by rw [len_nodes];omega,⟨_,hx,rfl,rfl⟩,rfl,rfl⟩),fun ρ => rfl⟩
  have hf' : ∀ x ∈ nodes t,¬ (x.2.1 = s ∧ x.2.2 = g):=fun x hx he => hf ⟨x,hx,he⟩
  rw [lk_miss hS h.en hf',sat_req]
  refine ⟨⟨keyed29,okM29 hS h.en,okKey29 h1 h2,rfl⟩,?_⟩
  rw [brT (by rfl),brF (by rfl),sat_any]
  rintro ⟨yi,yb,yv,ym⟩ ⟨a,ha,hfr,hym⟩
  simp only at ha hym
  subst ha hym
  obtain ⟨fa1,fa2,fa3⟩:=free_at hfr
  have e0 : alM (S.mem b) ((a : Int) + 1) (.mk [(.int .i64 s),(.int .u64 g),(.pointer .none),(.pointer .none),(.pointer .none),(.int .i64 1),(.bool true)]) 98 = (S.set ((a : Int) + 1) ⟨s,g,0,0,0,1,true⟩).mem b:=new_mem (d:=⟨s,g,0,0,0,1,true⟩) hfr
  have ok1 : (S.set ((a : Int) + 1) ⟨s,g,0,0,0,1,true⟩).ok:=new_ok hfr hS (Int.le_refl _) (Int.le_refl _) (Int.le_refl _)
  have hx1 : (S.set ((a : Int) + 1) ⟨s,g,0,0,0,1,true⟩).H ((a : Int) + 1) = some ⟨s,g,0,0,0,1,true⟩:=by rw [set_H,upd_self]
  have oth : ∀ q,0 < cnt q t → (S.set ((a : Int) + 1) ⟨s,g,0,0,0,1,true⟩).H q = S.H q:=fun q hq => by
    rw [set_H,upd_ne]
    rintro rfl
    rw [cnt_of_none fa3 h.at'.rep] at hq;omega
  have rep1 : Rep (S.set ((a : Int) + 1) ⟨s,g,0,0,0,1,true⟩).H 0 t:=rep_congr oth h.at'.rep
  have hcx : cnt ((a : Int) + 1) t = 0:=cnt_of_none fa3 h.at'.rep
  have en1 : Ents (S.set ((a : Int) + 1) ⟨s,g,0,0,0,1,true⟩).es.toList (nodes t):=h.en
  have ep : (S.set ((a : Int) + 1) ⟨s,g,0,0,0,1,true⟩).p = S.p:=rfl
  have el : (S.set ((a : Int) + 1) ⟨s,g,0,0,0,1,true⟩).t = S.t ∧ (S.set ((a : Int) + 1) ⟨s,g,0,0,0,1,true⟩).q = S.q ∧ (S.set ((a : Int) + 1) ⟨s,g,0,0,0,1,true⟩).root = t.ptr:=⟨rfl,rfl,hroot⟩
  have ed : ∀ q,(S.set ((a : Int) + 1) ⟨s,g,0,0,0,1,true⟩).H q = none ↔ S.H q = none ∧ q ≠ (a : Int) + 1:=fun q => by
    by_cases e : q = (a : Int) + 1
    · rw [e,hx1];simp
    · rw [set_H,upd_ne _ e];simp [e]
  simp only [pI,e0]
  generalize S.set ((a : Int) + 1) ⟨s,g,0,0,0,1,true⟩ = S1 at ok1 hx1 rep1 en1 ep el ed
  generalize hxa : ((a : Int) + 1) = x at hx1 hcx ed
  obtain ⟨et,eq,er⟩:=el
  rw [← ep,brT nz_t,brT nz_t,brT okL_m,cell_q,sat_req]
  refine ⟨⟨keyed29,okM29 ok1 en1,rfl,okKey29 h1 h2⟩,?_⟩
  rw [sat_letm,put_mem ok1 en1 hf']
  have ok2 : (S1.put (S1.es.push ⟨hKey s g,pv x 0,S1.k⟩) (S1.k + 1)).ok:=put_ok ok1
  have en2 : Ents (S1.put (S1.es.push ⟨hKey s g,pv x 0,S1.k⟩) (S1.k + 1)).es.toList ((x,s,g) :: nodes t):=by
    have:=en1.push (p:=x) (c:=S1.k) hf' h1 h2
    simpa [TS.put] using this
  have ep2 : S1.p = (S1.put (S1.es.push ⟨hKey s g,pv x 0,S1.k⟩) (S1.k + 1)).p:=rfl
  have hx2 : (S1.put (S1.es.push ⟨hKey s g,pv x 0,S1.k⟩) (S1.k + 1)).H x = some ⟨s,g,0,0,0,1,true⟩:=hx1
  have rep2 : Rep (S1.put (S1.es.push ⟨hKey s g,pv x 0,S1.k⟩) (S1.k + 1)).H 0 t:=rep1
  have el2 : (S1.put (S1.es.push ⟨hKey s g,pv x 0,S1.k⟩) (S1.k + 1)).t = S.t ∧ (S1.put (S1.es.push ⟨hKey s g,pv x 0,S1.k⟩) (S1.k + 1)).q = S.q ∧ (S1.put (S1.es.push ⟨hKey s g,pv x 0,S1.k⟩) (S1.k + 1)).root = t.ptr:=⟨et,eq,er⟩
  have ed2 : ∀ q,(S1.put (S1.es.push ⟨hKey s g,pv x 0,S1.k⟩) (S1.k + 1)).H q = none ↔ S.H q = none ∧ q ≠ x:=ed
  rw [ep2]
  generalize S1.put (S1.es.push ⟨hKey s g,pv x 0,S1.k⟩) (S1.k + 1) = S2 at ok2 en2 ep2 hx2 rep2 el2 ed2
  obtain ⟨et2,eq2,er2⟩:=el2
  clear ok1 hx1 rep1 en1 ep et eq er oth ep2 e0 ed
  have hxp:=ok2.nd x _ hx2
  rw [brT nz_t,brT nz_t,brT okL_t,gP_t ok2,er2,brT (cmp_zero _ _)]
  cases t with
  | nil =>
    have hi0 : i = 0:=by simp only [T.size] at hj;omega
    subst hi0
    rw [brT (by rfl),brT nz_t,brT nz_t,brT okS_t,sat_letm,wr_t ok2]
    have ok3 : (S2.top x).ok:=ok2.top (Int.le_of_lt hxp.1)
    have hA : At (S2.top x) (mkT false x s g true .nil .nil) []:=⟨ok3,⟨hx2,trivial,trivial⟩,rfl,fun q => (by simp [mkT,cnt,ccnt];split <;> omega),by simp [mkT,T.size,csize]⟩
    refine At.col hA false fun S' hl hA' => ?_
    refine ⟨.inr (.inr ⟨Int.le_refl _,by simp [nodes],hf',rfl,S',_,1,a,rfl,hl.t.trans et2,hl.q.trans eq2,⟨hA',⟨0,rfl,rfl,rfl⟩,rfl,?_⟩,by rw [hxa];rfl,hfr,fun q => (hl.dom q).trans (by rw [hxa];exact ed2 q)⟩),fun ρ => rfl⟩
    rw [hl.es]
    exact en2
  | nd p0 s0 g0 c0 l0 r0 =>
    have hpn0:=(ok2.nd p0 _ rep2.1).1
    rw [brF (show peq (T.nd p0 s0 g0 c0 l0 r0).ptr 0 = false from peq_n ok2 rep2.1),brT nz_t,brT nz_t,brT okL_t]
    generalize hL0 : nodes (.nd p0 s0 g0 c0 l0 r0) = L0 at *
    obtain ⟨i0,rfl⟩ : ∃ i0 : Nat,i = i0:=⟨i.toNat,by omega⟩
    have hlen : L0.length = (T.nd p0 s0 g0 c0 l0 r0).size:=by rw [← hL0,len_nodes]
    let J : Nat → Vars → Prop:=fun N y => ∃ (S3 : TS) (t' : T) (k : Ctx) (j : Nat) (z : Int) (n : Nat),N = t'.size ∧ y = ⟨[(j : Int),t'.ptr,z],[],[],S3.mem b⟩ ∧ S2.like S3 ∧ Dn S3 t' k ∧ t' ≠ .nil ∧ S3.H x = some ⟨s,g,0,0,0,1,true⟩ ∧ cnt x t' + ccnt x k = 0 ∧ RB t' n ∧ (red t' = true → mayR k = true) ∧ RBC k n ∧ nodes (plug t' k) = L0 ∧ (cl k).length + j = i0 ∧ j ≤ t'.size
    have hd0 : Dn S2 (.nd p0 s0 g0 c0 l0 r0) []:=⟨ok2,rep2,er2,fun q => by have:=h.at'.dj q;exact this,by simp only [csize];omega⟩
    refine lp_idx J (n0:=(T.nd p0 s0 g0 c0 l0 r0).size) ⟨S2,_,[],i0,0,n,rfl,rfl,TS.like.refl _,hd0,by simp,hx2,by simpa [ccnt] using hcx,h.rb,(fun e => by rw [h.blk] at e;cases e),trivial,hL0,by simp [cl],by omega⟩ ?_
    rintro N y _ ⟨S3,t',k,j,z,n',rfl,rfl,hl,hD,hne,hx3,hcx3,hrb,hmr,hrc,hL,hj0,hjs⟩
    have hQ : ∀ S',Settled S2 (L0.take i0 ++ (x,s,g) :: L0.drop i0) S' → inLoopJ J t'.size (isMemo fun v m => insPost S b L0 i0 s g (yOf v m) ∧ ∀ ρ,v.den ρ = (retI (yOf v m)).den ρ) (.up (.memo (.u (.c (.li .i64 0))) (S'.mem b))):=by
      rintro S' ⟨g1,t1,n1,g2,g3,g4,g5⟩
      refine ⟨.inr (.inr ⟨by omega,by omega,hf',rfl,S',t1,n1,a,rfl,g1.t.trans et2,g1.q.trans eq2,⟨g2,g4,g5,?_⟩,by rw [Int.toNat_natCast,hxa];exact g3,hfr,fun q => (g1.dom q).trans (by rw [hxa];exact ed2 q)⟩),fun ρ => rfl⟩
      rw [g1.es,g3]
      refine en2.congr fun e => ?_
      conv => rhs;rw [← List.take_append_drop i0 L0]
      simp only [List.mem_append,List.mem_cons]
      constructor
      · rintro (h | h | h)
        · exact .inr (.inl h)
        · exact .inl h
        · exact .inr (.inr h)
      · rintro (h | h | h)
        · exact .inr (.inl h)
        · exact .inl h
        · exact .inr (.inr h)
    have hcut : ∀ (f : Fr) (k : Ctx),nodes (plug .nil (f :: k)) = L0 → (cl (f :: k)).length = i0 → cl (f :: k) ++ (x,s,g) :: cr (f :: k) = L0.take i0 ++ (x,s,g) :: L0.drop i0:=by
      intro f k e1 e2
      rw [nodes_plug,show nodes T.nil = [] from rfl,List.append_nil] at e1
      rw [← e1,← e2,List.take_left,List.drop_left]
    cases t' with
    | nil => exact absurd rfl hne
    | nd p s' g' c l r =>
      obtain ⟨dl,dr⟩:=hD.step
      obtain ⟨hp3,_,_⟩:=hD.rep
      have hsm:=hD.sm
      simp only [T.size] at hsm hjs
      have hxne : x ≠ p:=by
        rintro rfl
        simp only [cnt,if_true] at hcx3;omega
      have ev : iAdd .i64 ((l.size + r.size + 1 : Nat) : Int) 1 = ((l.size + r.size + 2 : Nat) : Int):=by rw [iadd_i (by omega)];omega
      simp only [hdI,tlI,show (T.nd p s' g' c l r).ptr = p from rfl]
      rw [brT (nz_n hD.ok hp3),brT (nz_n hD.ok hp3),brT (okL_5 hD.ok hp3),brT (nz_n hD.ok hp3),brT (nz_n hD.ok hp3),brT (okS_n hD.ok hp3 rfl),sat_letm,gI_n hD.ok hp3]
      rw [ev,wr_sz hD.ok hp3]
      have hp4 : (S3.set p (stepN p s' g' c l r (topP k))).H p = some (stepN p s' g' c l r (topP k)):=by rw [set_H,upd_self]
      have hx4 : (S3.set p (stepN p s' g' c l r (topP k))).H x = some ⟨s,g,0,0,0,1,true⟩:=by rw [set_H,upd_ne _ hxne];exact hx3
      have hl4 : S2.like (S3.set p (stepN p s' g' c l r (topP k))):=hl.trans (like_set hp3)
      rw [show S3.set p { s:=s',g:=g',l:=l.ptr,r:=r.ptr,u:=topP k,n:=((l.size + r.size + 2 : Nat) : Int),c:=c } = S3.set p (stepN p s' g' c l r (topP k)) from rfl]
      generalize S3.set p (stepN p s' g' c l r (topP k)) = S4 at dl dr hp4 hx4 hl4
      have ok4:=dl.ok
      obtain ⟨z1,z2⟩:=size_spec (b:=b) ok4 (rep_has dl.rep)
      have z2:=z2.trans (rep_sz ok4 dl.rep)
      have gl : gP (S4.mem b) p 2 = l.ptr:=gP_l ok4 hp4
      have gr : gP (S4.mem b) p 3 = r.ptr:=gP_r ok4 hp4
      rw [gl,gr,brT (nz_n ok4 hp4),brT (nz_n ok4 hp4),brT (nz_n ok4 hp4),brT (okL_2 ok4 hp4),sat_req,z2]
      refine ⟨z1,?_⟩
      have hcc : ∀ q,cnt q (.nd p s' g' c l r) = (if q = p then 1 else 0) + cnt q l + cnt q r:=fun q => rfl
      by_cases hgo : (l.size : Int) < j
      · rw [brT (by simp only [iGt,decide_eq_true_eq];omega),brT (nz_n ok4 hp4),brT (nz_n ok4 hp4),brT (nz_n ok4 hp4),brT (okL_3 ok4 hp4),brT (cmp_zero _ _)]
        obtain ⟨m,b1,b2,b3⟩:=RB_down (i:=true) (p:=p) (s:=s') (g:=g') (c:=c) (x:=r) (y:=l) hrb hmr hrc
        cases r with
        | nil =>
          rw [brT (by rfl)]
          have hm : m = 0:=b1
          subst hm
          simp only [T.size] at hjs
          refine Dn.fin (l:=fun m => .up (.memo (.u (.c (.li .i64 0))) m)) (f:=Fr.mk true p s' g' c l) hl4 dr hx4 ?_ b3 (hcut (Fr.mk true p s' g' c l) k hL ?_) (fun S' hs => hQ S' hs)
          · simp only [cnt] at hcx3;simp only [ccnt];omega
          · simp only [cl,List.length_append,len_nodes,List.length_cons,List.length_nil];omega
        | nd rp rs rg rc rl rr =>
          rw [brF (show peq (T.nd rp rs rg rc rl rr).ptr 0 = false from peq_n ok4 dr.rep.1),brT (nz_n ok4 hp4),brT (nz_n ok4 hp4),brT (nz_n ok4 hp4),brT (okL_3 ok4 hp4),sat_req]
          refine ⟨by simp,?_⟩
          rw [iadd_i (by omega),isub_i (by omega),show (j : Int) - ((l.size : Int) + 1) = ((j - (l.size + 1) : Nat) : Int) by omega]
          refine ⟨(T.nd rp rs rg rc rl rr).size,by simp only [T.size];omega,S4,_,Fr.mk true p s' g' c l :: k,_,1,m,rfl,rfl,hl4,dr,by simp,hx4,?_,b1,b2,b3,hL,?_,?_⟩
          · simp only [cnt] at hcx3;simp only [cnt,ccnt];omega
          · simp only [cl,List.length_append,len_nodes,List.length_cons,List.length_nil];omega
          · omega
      · rw [brF (by simp only [iGt,decide_eq_false_iff_not];omega),brT (nz_n ok4 hp4),brT (nz_n ok4 hp4),brT (nz_n ok4 hp4),brT (okL_2 ok4 hp4),brT (cmp_zero _ _)]
        obtain ⟨m,b1,b2,b3⟩:=RB_down (i:=false) (p:=p) (s:=s') (g:=g') (c:=c) (x:=l) (y:=r) hrb hmr hrc
        cases l with
        | nil =>
          rw [brT (by rfl)]
          have hm : m = 0:=b1
          subst hm
          simp only [T.size] at hgo
          refine Dn.fin (l:=fun m => .up (.memo (.u (.c (.li .i64 0))) m)) (f:=Fr.mk false p s' g' c r) hl4 dl hx4 ?_ b3 (hcut (Fr.mk false p s' g' c r) k hL ?_) (fun S' hs => hQ S' hs)
          · simp only [cnt] at hcx3;simp only [ccnt];omega
          · simp only [cl];omega
        | nd rp rs rg rc rl rr =>
          rw [brF (show peq (T.nd rp rs rg rc rl rr).ptr 0 = false from peq_n ok4 dl.rep.1),brT (nz_n ok4 hp4),brT (nz_n ok4 hp4),brT (nz_n ok4 hp4),brT (okL_2 ok4 hp4),sat_req]
          refine ⟨by simp,?_⟩
          refine ⟨(T.nd rp rs rg rc rl rr).size,by simp only [T.size];omega,S4,_,Fr.mk false p s' g' c r :: k,j,0,m,rfl,rfl,hl4,dl,by simp,hx4,?_,b1,b2,b3,hL,?_,?_⟩
          · simp only [cnt] at hcx3;simp only [cnt,ccnt];omega
          · simp only [cl];omega
          · omega
end
def insertP (m : Mem) (t i hs hg : Int) : Prop:=∃ G : TG,G.is m t ∧ G.t.size + 1 < 1152921504606846976 ∧ inI hs ∧ inU hg
def insertQ (m : Mem) (t i hs hg : Int) (y : Vars) : Prop:=∀ G : TG,(G.is m t ∧ G.t.size + 1 < 1152921504606846976 ∧ inI hs ∧ inU hg) → insPost G.S G.b (nodes G.t) i hs hg y
def s_insert : Sum:=memSum 17 fun m a => match a with | [a0,a1,a2] => (match ptrOf a0,intOf a1,hanOf a2 with | some t,some i,some (hs,hg) => some ⟨insertP m t i hs hg,insertQ m t i hs hg,fun y => .u (.c (.si .i64 (hdI y.i)))⟩ | _,_,_ => none) | _ => none
theorem t_insert (m : Mem) (t : Int) (i : Int) (hs hg : Int) : runm Try.prog [s_size,s_len,s_settles] (drawl Try.prog [s_size,s_len,s_settles] (fun _ _ => some ⟨[1,8,9],[],[0,7],[]⟩)) 300 17 [.u (.c (.np t 0)),.u (.c (.si .i64 i)),.u (.agg [.si .i64 hs,.si .u64 hg])] m [98] = T_insert m t i hs hg:=by kernel_rfl
theorem s_insert_ok : SumOK Try.prog s_insert:=by
  refine memSum_ok ⟨_,Try.func17,by kernel_rfl⟩ fun m args ms h hp hw ρ w hm => ?_
  split at h
  · split at h
    · rename_i a0 a1 a2 _ _ _ t i hs hg h0 h1 h2
      cases h
      have hS : ∀ q ∈ [s_size,s_len,s_settles],SumOK Try.prog q:=okc s_size_ok (okc s_len_ok (okc s_settles_ok okn))
      refine mm_ghost nameOK hS (drawl_sound nameOK hS (by kernel_rfl) _) 300 _ m _ (t_insert m t i hs hg) hp (fun G hG => ?_) ρ w hm (by simp only [List.map_cons,List.map_nil,ptrOf_den h0,intOf_den h1,hanOf_den h2])
      obtain ⟨⟨rfl,rfl,g1⟩,g2,g3,g4⟩:=hG
      refine sat_mono (fun l hl => ?_) (insert_walk g1 g2 g3 g4)
      cases l with
      | memo v x => exact ⟨hl.1,yOf_m _ _,hl.2⟩
      | _ => exact hl.elim
    · cases h
  · cases h
def freshP (m : Mem) : Prop:=True
def freshQ (m : Mem) (y : Vars) : Prop:=∃ S : TS,y.i = [S.p] ∧ y.m = S.mem m ∧ Tre S .nil 0 ∧ m S.t = none ∧ m S.q = none ∧ ∀ q,S.H q = none
def s_fresh : Sum:=memSum 14 fun m a => match a with | [] => some ⟨freshP m,freshQ m,fun y => .u (.c (.np (hdI y.i) 0))⟩ | _ => none
theorem t_fresh (m : Mem)  : runm Try.prog [] (drawx Try.prog []) 300 14 [] m [98,92,95] = T_fresh m :=by kernel_rfl
theorem s_fresh_ok : SumOK Try.prog s_fresh:=by
  refine memSum_ok ⟨_,Try.func14,by kernel_rfl⟩ fun m args ms h hp hw ρ w hm => ?_
  split at h
  · cases h
    refine (mm_ghost nameOK okn (dOK okn) 300 _ m _ (t_fresh m) (G:=Unit) (pre:=fun _ => True) (post:=fun _ y => freshQ m y) (ret:=fun y => .u (.c (.np (hdI y.i) 0))) ⟨(),trivial⟩ (fun _ _ => ?_) ρ w hm (by simp only [List.map_nil])).mono ?_
    · unfold T_fresh
      rw [sat_any]
      rintro ⟨yi,yb,yv,ym⟩ ⟨q,hq1,hq2,hq3⟩
      simp only at hq2 hq3
      subst hq2 hq3
      rw [sat_any]
      rintro ⟨zi,zb,zv,zm⟩ ⟨a,ha1,ha2,ha3⟩
      simp only at ha1 ha3
      subst ha1 ha3
      have hne : a ≠ q:=by
        rintro rfl
        simp [alO] at ha2
      refine ⟨⟨⟨a,q,0,#[],0,fun _ => none⟩,rfl,?_,⟨⟨⟨hne,rfl,rfl,Int.le_refl _,fun p d h => by cases h⟩,trivial,rfl,fun _ => Nat.zero_le _,by simp [T.size,csize]⟩,rfl,rfl,⟨by simp,by simp,by simp [nodes],by simp [nodes]⟩⟩,?_,hq1,fun _ => rfl⟩,rfl,fun ρ => rfl⟩
      · funext c
        simp only [yOf_m,alM,TS.mem,alO,hdV]
        rw [show (((a : Int) + 1).toNat) = a + 1 by omega]
        by_cases e : c = a
        · subst e;simp;exact ⟨rfl,rfl⟩
        · by_cases e2 : c = q
          · subst e2;simp [e]
          · simp [e,e2]
      · simp only [alO] at ha2
        rw [if_neg hne] at ha2;exact ha2
    · rintro e w' ⟨y,h1,h2,h3⟩
      exact ⟨y,h1 () trivial,h2,h3⟩
  · cases h
end Go.Proofs.Ytnlohongffpkpaa.T16
end
