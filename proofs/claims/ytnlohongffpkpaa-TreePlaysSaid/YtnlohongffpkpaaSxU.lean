/- The symbolic executor: a region that leaves its order open, in which calls stand among operations that read the local heap. A text of the session's own. -/
import Derived.Test.YtnlohongffpkpaaSxS
import Derived.OrdersHeld
namespace Go.Proofs.Ytnlohongffpkpaa.Sx
open Go Go.RowKit

def isCallO : Op → Bool
  | .call _ => true
  | _ => false
/-- the memory is unsaid -/
def hpE (E : Bool) (hp : Hp) : Hp := match E with | true => { hp with x := noM } | false => hp
def erS (E : Bool) (σ : St) : St := { tm := σ.tm, hp := hpE E σ.hp, n := σ.n }
def backS (σ σ' : St) : St := { tm := σ'.tm, hp := σ.hp, n := σ.n }
def pureG (P : Program) (N : Nat) (ops : Array Oper) (E : Bool) (o : Oper) (σ : St) (k : St → Tr) : Tr :=
  match o.guard with
  | none => opX P o.op (erS E σ) fun v σ' => k ((backS σ σ').put o.dst v)
  | some (j, want) => match guardTmp ops j with
    | none => .no 41
    | some t => match Nat.blt t N with
      | false => .no 42
      | true => match look σ.tm t with
        | .u (.c (.lb b)) => (match b == want with
          | true => opX P o.op (erS E σ) fun v σ' => k ((backS σ σ').put o.dst v)
          | false => k (σ.put o.dst (.tup [])))
        | .u (.c (.sb b)) => .br b
          (match true == want with
           | true => opX P o.op (erS E (retell σ (.tmp t) true)) fun v σ' => k ((backS (retell σ (.tmp t) true) σ').put o.dst v)
           | false => k ((retell σ (.tmp t) true).put o.dst (.tup [])))
          (match false == want with
           | true => opX P o.op (erS E (retell σ (.tmp t) false)) fun v σ' => k ((backS (retell σ (.tmp t) false) σ').put o.dst v)
           | false => k ((retell σ (.tmp t) false).put o.dst (.tup [])))
        | .tup [] => k (σ.put o.dst (.tup []))
        | _ => .no 43
def isRdy (fl : List Bool) (i : Nat) (o : Oper) : Bool := !(fl.getD i true) && o.after.toList.all fun e => !Region.binds .any e || fl.getD e.on false
def freeB (ops : Array Oper) (fl : List Bool) (i : Nat) (o : Oper) : List Oper → Nat → Bool
  | [], _ => true
  | p :: r, j => (Nat.beq j i || fl.getD j true || edgeTo p i || o.apart ops p) && freeB ops fl i o r (j + 1)
def takeK (E : Bool) (σ : St) (o : Op) : Bool := !isCallO o && pureOp o && (match E with | true => !(onR o σ || onM o σ) | false => true)
def nextT (N : Nat) (ops : Array Oper) (E : Bool) (fl : List Bool) (σ : St) : List Oper → Nat → Option (Nat × Oper)
  | [], _ => none
  | o :: r, i => match isRdy fl i o && takeK E σ o.op && okDst N o.dst && freeB ops fl i o ops.toList 0 with
    | true => some (i, o)
    | false => nextT N ops E fl σ r (i + 1)
def readyL (fl : List Bool) : List Oper → Nat → List (Nat × Oper)
  | [], _ => []
  | o :: r, i => match isRdy fl i o with | true => (i, o) :: readyL fl r (i + 1) | false => readyL fl r (i + 1)
def heldx (P : Program) (S : List Sum) (ih : Nat → Code → St → K → Tr) (N : Nat) (ops : Array Oper) (E : Bool) : Nat → List Bool → St → (St → Tr) → Tr
  | 0, _, _, _ => .no 90
  | f + 1, fl, σ, k => match nextT N ops E fl σ ops.toList 0 with
    | some q => pureG P N ops E q.2 σ fun σ' => heldx P S ih N ops E f (fl.set q.1 true) σ' k
    | none => match readyL fl ops.toList 0 with
      | [] => (match fl.all id with | true => k σ | false => .no 91)
      | q :: r => (match r with
        | [] => (match !isCallO q.2.op && pureOp q.2.op && okDst N q.2.dst with
          | true => pureG P N ops false q.2 σ fun σ' => heldx P S ih N ops E f (fl.set q.1 true) σ' k
          | false => opsx P S ih N ops [q.2] σ fun σ' => (match Nat.beq σ'.n σ.n && beqB σ'.hp.wr σ.hp.wr with
            | true => (match E with
              | true => .req (σ'.hp.c = σ.hp.c ∧ σ'.hp.m = σ.hp.m) (heldx P S ih N ops E f (fl.set q.1 true) σ' k)
              | false => .req (σ'.hp.c = σ.hp.c ∧ σ'.hp.m = σ.hp.m ∧ σ'.hp.x = σ.hp.x) (heldx P S ih N ops E f (fl.set q.1 true) σ' k))
            | false => .no 94))
        | _ :: _ => .no 92)
/-- Where is it wanted? Calls among others, or a call that is guarded. -/
def cntCalls : List Oper → Nat
  | [] => 0
  | o :: r => match isCallO o.op with
    | true => (match o.guard with | none => cntCalls r + 1 | some _ => cntCalls r + 2)
    | false => cntCalls r
def isBltO : Op → Bool
  | .call c => (match c.callee with | .builtin _ => true | _ => false)
  | _ => false
def anyCall : List Oper → Bool
  | [] => false
  | o :: r => (isCallO o.op && !isBltO o.op) || anyCall r
def drawg (P : Program) (S : List Sum) (ih : Nat → Code → St → K → Tr) (N : Nat) (ops : Array Oper) (σ : St) (k : St → Tr) : Tr :=
  match Region.noSelect ops && Nat.ble 2 (cntCalls ops.toList) && ops.toList.all (fun o => isCallO o.op || pureOp o.op) with
  | true => heldx P S ih N ops (anyCall ops.toList) (ops.size + 1) (ops.toList.map fun _ => false) σ k
  | false => drawf P S ih N ops σ k
def drawh (P : Program) (S : List Sum) (lv : Nat → Nat → Option LT) (ct : Nat → Nat → Nat → Option CT) : DrawX := ⟨drawg P S, lv, ct⟩

section
variable {P : Program} {S : List Sum} {W : World} {n0 : NL} {ρ0 : Nat → Nat} {N : Nat} {ρ : Nat → Nat} {σ : St} {R : Leaf → Prop} {ops : Array Oper}

theorem HInv.rho {hp : Hp} {n : Nat} {w : World} {ρ' : Nat → Nat} (h : HInv W n0 ρ0 ρ hp n w) (hE : Ext n ρ ρ') : HInv W n0 ρ0 ρ' hp n w := by
  have e := hE
  refine ⟨fun i hi => by rw [e i hi]; exact h.lt i hi, fun i j hi hj hij => by rw [e i hi, e j hj] at hij; exact h.inj i j hi hj hij, fun i b hb => ?_, h.le, fun i hi => (e i (Nat.lt_of_lt_of_le hi h.le)).trans (h.old i hi), fun i h1 h2 => by rw [e i h2]; exact h.new i h1 h2, h.os, h.tape, h.output, h.size, h.far, fun i m hm => ?_, h.lim, ⟨h.mem.sub, fun a o ha i hi => by rw [e i hi]; exact h.mem.sep a o ha i hi, h.mem.dom⟩⟩
  · obtain ⟨g1, g2, g3⟩ := h.blk i b hb
    exact ⟨g1, g2, by rw [e i g1, dens_ext hE b.1 g2]; exact g3⟩
  · obtain ⟨g1, g2, g3⟩ := h.mblk i m hm
    exact ⟨g1, g2, by rw [e i g1, mden_ext hE m.1 g2]; exact g3⟩
theorem HInv.same {hp hp' : Hp} {n : Nat} {w : World} (h : HInv W n0 ρ0 ρ hp n w) (hb : hp'.c = hp.c) (hm : hp'.m = hp.m) (hl : hp'.lim = hp.lim) (hx : MR W n0.x hp'.wr hp'.x ρ n w) : HInv W n0 ρ0 ρ hp' n w := by
  refine ⟨h.lt, h.inj, fun i b e => h.blk i b ?_, h.le, h.old, h.new, h.os, h.tape, h.output, h.size, h.far, fun i m e => h.mblk i m ?_, hl.trans h.lim, hx⟩
  · unfold lookH at e ⊢; rw [← hb]; exact e
  · unfold lookM at e ⊢; rw [← hm]; exact e
theorem HInv.er {hp : Hp} {n : Nat} {w : World} (h : HInv W n0 ρ0 ρ hp n w) (E : Bool) : HInv W n0 ρ0 ρ (hpE E hp) n w := by
  cases E with
  | false => exact h
  | true => exact h.same rfl rfl rfl (MR.none _ _ _ _ _ _)

/-- A pure operation, whether it is done or not. -/
theorem pureG_sound {E : Bool} {o : Oper} {k : St → Tr} (hp : pureOp o.op = true) (hd : okDst N o.dst = true) {a : Act} {w : World} (hI : Inv W n0 ρ0 N ρ σ a w) (h : (pureG P N ops E o σ k).sat R) :
    ∃ v σ', σ'.hp = σ.hp ∧ σ'.n = σ.n ∧ (k σ').sat R ∧ Inv W n0 ρ0 N ρ σ' (a.put o.dst v) w ∧ YieldsIf P ops (fun w => HInv W n0 ρ0 ρ (hpE E σ.hp) σ.n w) o v a := by
  have hd' := okDst_lt hd
  have run : ∀ σ1 : St, Inv W n0 ρ0 N ρ σ1 a w → σ1.n = σ.n → σ1.hp = σ.hp → Region.wanted o (yielded ops a.tmps) = true → (opX P o.op (erS E σ1) fun v σ' => k ((backS σ1 σ').put o.dst v)).sat R →
      ∃ v σ', σ'.hp = σ.hp ∧ σ'.n = σ.n ∧ (k σ').sat R ∧ Inv W n0 ρ0 N ρ σ' (a.put o.dst v) w ∧ YieldsIf P ops (fun w => HInv W n0 ρ0 ρ (hpE E σ.hp) σ.n w) o v a := by
    intro σ1 hI1 hn hh hw hs
    obtain ⟨v, σ', g1, g2, g3, g4⟩ := opXA_sound (W := W) (n0 := n0) (ρ0 := ρ0) (N := N) (ρ := ρ) hp hs
    have hIE : Inv W n0 ρ0 N ρ (erS E σ1) a w := ⟨hI1.defers, hI1.sz, hI1.tm, hI1.tmwf, hI1.H.er E⟩
    obtain ⟨k1, k2, k3⟩ := g4 a w hIE
    have g2' : σ'.n = σ1.n := g2
    have hB : Inv W n0 ρ0 N ρ (backS σ1 σ') a w := ⟨k1.defers, k1.sz, k1.tm, fun q hq => by have := k1.tmwf q hq; rw [g2'] at this; exact this, hI1.H⟩
    refine ⟨v.den ρ, _, ?_, ?_, g3, hB.put o.dst v hd' k2, .inl ⟨hw, fun w' hS => ?_⟩⟩
    · rw [(put_hp _ _ _).1]; exact hh
    · rw [(put_hp _ _ _).2]; exact hn
    · refine (g4 a w' ⟨hI1.defers, hI1.sz, hI1.tm, hI1.tmwf, ?_⟩).2.2
      show HInv W n0 ρ0 ρ (hpE E σ1.hp) σ1.n w'
      rw [hh, hn]; exact hS
  have skip : ∀ σ1 : St, Inv W n0 ρ0 N ρ σ1 a w → σ1.n = σ.n → σ1.hp = σ.hp → Region.wanted o (yielded ops a.tmps) = false → (k (σ1.put o.dst (.tup []))).sat R →
      ∃ v σ', σ'.hp = σ.hp ∧ σ'.n = σ.n ∧ (k σ').sat R ∧ Inv W n0 ρ0 N ρ σ' (a.put o.dst v) w ∧ YieldsIf P ops (fun w => HInv W n0 ρ0 ρ (hpE E σ.hp) σ.n w) o v a := by
    intro σ1 hI1 hn hh hw hs
    refine ⟨undef, _, ?_, ?_, hs, hI1.put o.dst (.tup []) hd' rfl, .inr ⟨hw, rfl⟩⟩
    · rw [(put_hp _ _ _).1]; exact hh
    · rw [(put_hp _ _ _).2]; exact hn
  unfold pureG at h
  split at h
  · rename_i hg
    exact run σ hI rfl rfl (by simp [Region.wanted, hg]) h
  · rename_i j want hg
    split at h
    · exact h.elim
    · rename_i t hgt
      split at h
      · exact h.elim
      · rename_i ht
        have ht' : t < N := by simpa using ht
        split at h
        · rename_i b hb
          have hy := yielded_of hI hgt ht' (b := b) (by rw [hb]; rfl)
          split at h
          · rename_i hbw
            exact run σ hI rfl rfl (by simp only [Region.wanted, hg, hy]; simpa using hbw) h
          · rename_i hbw
            exact skip σ hI rfl rfl (by simp only [Region.wanted, hg, hy]; simpa using hbw) h
        · rename_i b hb
          have hy := yielded_of hI hgt ht' (b := b) (by rw [hb]; rfl)
          have fin : ∀ c : Bool, b = c → (match c == want with
              | true => opX P o.op (erS E (retell σ (.tmp t) c)) fun v σ' => k ((backS (retell σ (.tmp t) c) σ').put o.dst v)
              | false => k ((retell σ (.tmp t) c).put o.dst (.tup []))).sat R →
              ∃ v σ', σ'.hp = σ.hp ∧ σ'.n = σ.n ∧ (k σ').sat R ∧ Inv W n0 ρ0 N ρ σ' (a.put o.dst v) w ∧ YieldsIf P ops (fun w => HInv W n0 ρ0 ρ (hpE E σ.hp) σ.n w) o v a := by
            intro c hc hs
            subst hc
            have hI1 : Inv W n0 ρ0 N ρ (retell σ (.tmp t) b) a w := hI.retell t _ rfl (by rw [hb]; rfl)
            split at hs
            · rename_i hbw
              exact run _ hI1 rfl rfl (by simp only [Region.wanted, hg, hy]; simpa using hbw) hs
            · rename_i hbw
              exact skip _ hI1 rfl rfl (by simp only [Region.wanted, hg, hy]; simpa using hbw) hs
          obtain ⟨h1, h2⟩ := h
          cases hbb : b with
          | true => exact fin true hbb (h1 hbb)
          | false => exact fin false hbb (h2 hbb)
        · rename_i hb
          have hy := yielded_undef hI hgt ht' (by rw [hb]; rfl)
          exact skip σ hI rfl rfl (by simp [Region.wanted, hg, hy]) h
        · exact h.elim

theorem getD_toA (fl : List Bool) (i : Nat) (d : Bool) : fl.toArray.getD i d = fl.getD i d := by
  simp [Array.getD_eq_getD_getElem?, List.getD_eq_getElem?_getD]
theorem set_toA (fl : List Bool) (i : Nat) : (fl.set i true).toArray = fl.toArray.setIfInBounds i true := by simp
theorem isRdy_mem {fl : List Bool} {i : Nat} {o : Oper} (ho : ops[i]? = some o) : isRdy fl i o = true ↔ i ∈ Region.ready .any ops fl.toArray := by
  rw [mem_ready, getD_toA]
  simp only [isRdy, Bool.and_eq_true, Bool.not_eq_true', List.all_eq_true, Bool.or_eq_true]
  constructor
  · rintro ⟨h1, h2⟩
    refine ⟨h1, o, ho, fun e he hb => ?_⟩
    rw [getD_toA]
    rcases h2 e (by simpa using he) with h | h
    · rw [hb] at h; cases h
    · exact h
  · rintro ⟨h1, o', ho', h2⟩
    rw [ho] at ho'; cases ho'
    refine ⟨h1, fun e he => ?_⟩
    cases hb : Region.binds .any e with
    | false => exact .inl rfl
    | true => have := h2 e (by simpa using he) hb; rw [getD_toA] at this; exact .inr this
theorem nextT_spec {E : Bool} {fl : List Bool} : ∀ {l : List Oper} {i : Nat} {q : Nat × Oper}, (∀ j, l[j]? = ops[i + j]?) → nextT N ops E fl σ l i = some q →
    ops[q.1]? = some q.2 ∧ isRdy fl q.1 q.2 = true ∧ takeK E σ q.2.op = true ∧ okDst N q.2.dst = true ∧ freeB ops fl q.1 q.2 ops.toList 0 = true
  | [], _, _, _, h => by cases h
  | o :: r, i, q, hl, h => by
    simp only [nextT] at h
    split at h
    · rename_i hc
      cases h
      simp only [Bool.and_eq_true] at hc
      have := hl 0
      exact ⟨by simpa using this.symm, hc.1.1.1, hc.1.1.2, hc.1.2, hc.2⟩
    · exact nextT_spec (fun j => by have := hl (j + 1); rw [show i + 1 + j = i + (j + 1) by omega, ← this]; simp) h
theorem readyL_spec {fl : List Bool} : ∀ {l : List Oper} {i j : Nat} {o : Oper}, l[j]? = some o → isRdy fl (i + j) o = true → (i + j, o) ∈ readyL fl l i
  | [], _, _, _, h, _ => by simp at h
  | p :: r, i, 0, o, h, hr => by
    simp only [List.getElem?_cons_zero, Option.some.injEq] at h
    subst h
    simp only [readyL, show isRdy fl i p = true from hr]
    simp
  | p :: r, i, j + 1, o, h, hr => by
    simp only [List.getElem?_cons_succ] at h
    have := readyL_spec (i := i + 1) h (by rw [show i + 1 + j = i + (j + 1) by omega]; exact hr)
    rw [show i + 1 + j = i + (j + 1) by omega] at this
    simp only [readyL]
    split
    · exact List.mem_cons_of_mem _ this
    · exact this
theorem readyL_mem {fl : List Bool} : ∀ {l : List Oper} {i : Nat} {q : Nat × Oper}, q ∈ readyL fl l i → ∃ j, q.1 = i + j ∧ l[j]? = some q.2 ∧ isRdy fl q.1 q.2 = true
  | [], _, _, h => by cases h
  | p :: r, i, q, h => by
    simp only [readyL] at h
    have rec' : q ∈ readyL fl r (i + 1) → ∃ j, q.1 = i + j ∧ (p :: r)[j]? = some q.2 ∧ isRdy fl q.1 q.2 = true := fun h => by
      obtain ⟨j, h1, h2, h3⟩ := readyL_mem h
      exact ⟨j + 1, by omega, by simpa using h2, h3⟩
    split at h
    · rename_i hr
      rcases List.mem_cons.1 h with rfl | h
      · exact ⟨0, rfl, rfl, hr⟩
      · exact rec' h
    · exact rec' h
theorem freeB_spec {fl : List Bool} {i : Nat} {o : Oper} : ∀ {l : List Oper} {k : Nat}, freeB ops fl i o l k = true → ∀ j p, l[j]? = some p → k + j ≠ i → fl.getD (k + j) true = false → edgeTo p i = false → o.apart ops p = true
  | [], _, _, j, p, h, _, _, _ => by simp at h
  | q :: r, k, hf, 0, p, h, h1, h2, h3 => by
    simp only [List.getElem?_cons_zero, Option.some.injEq] at h
    subst h
    simp only [freeB, Bool.and_eq_true, Bool.or_eq_true] at hf
    rcases hf.1 with ((h | h) | h) | h
    · exact absurd (Nat.eq_of_beq_eq_true h) h1
    · rw [Nat.add_zero] at h2; rw [h] at h2; cases h2
    · rw [h] at h3; cases h3
    · exact h
  | q :: r, k, hf, j + 1, p, h, h1, h2, h3 => by
    simp only [List.getElem?_cons_succ] at h
    simp only [freeB, Bool.and_eq_true] at hf
    exact freeB_spec hf.2 j p h (by omega) (by rw [show k + 1 + j = k + (j + 1) by omega]; exact h2) h3
theorem cnt_set {fl : List Bool} {i : Nat} (h : fl.getD i true = false) : (fl.set i true).count false + 1 = fl.count false := by
  have hlt : i < fl.length := by
    rcases Nat.lt_or_ge i fl.length with h1 | h1
    · exact h1
    · rw [List.getD_eq_getElem?_getD, List.getElem?_eq_none h1] at h; cases h
  have he : fl[i] = false := by
    rw [List.getD_eq_getElem?_getD, List.getElem?_eq_getElem hlt] at h; exact h
  have e : fl = fl.take i ++ false :: fl.drop (i + 1) := by
    conv => lhs; rw [← List.take_append_drop i fl]
    rw [List.drop_eq_getElem_cons hlt, he]
  rw [List.set_eq_take_append_cons_drop, if_pos hlt]
  conv => rhs; rw [e]
  simp [List.count_append, List.count_cons]
  omega

theorem heldx_any (hN : NameOK P) (hS : ∀ q ∈ S, SumOK P q) {ih : Nat → Code → St → K → Tr} (hih : Snd P ih) {E : Bool} (hsel : Region.noSelect ops = true) {k : St → Tr} {Q : Exit → Act → World → Prop} (hQ : ∀ c a w, ¬ Q (.panic c) a w)
    {σs : St} {ρs : Nat → Nat} : ∀ (f : Nat) (fl : List Bool) (σ : St) (ρ : Nat → Nat) (a : Act) (w : World), Inv W n0 ρ0 N ρ σ a w → σ.n = σs.n → Ext σs.n ρs ρ → σ.hp.c = σs.hp.c → σ.hp.m = σs.hp.m → σ.hp.wr = σs.hp.wr → σs.hp.lim = n0.l → (E = false → σ.hp.x = σs.hp.x) →
      (heldx P S ih N ops E f fl σ k).sat R →
      (∀ σ' ρ' a' w', Inv W n0 ρ0 N ρ' σ' a' w' → Ext σ.n ρ ρ' → σ.n ≤ σ'.n → (k σ').sat R → Q .normal a' w') →
      ∀ fuel, fl.length = ops.size → fl.count false ≤ fuel → wpAnyH P .any ops Q (fun w => HInv W n0 ρ0 ρs (hpE E σs.hp) σs.n w) fuel fl.toArray a w := by
  intro f
  induction f with
  | zero => intro fl σ ρ a w _ _ _ _ _ _ _ _ h; exact h.elim
  | succ f ihf =>
    intro fl σ ρ a w hI c1 c2 c3 c4 c5 c6 c7 h hk fuel hlen hfu
    -- the condition, told of the state at hand
    have toS : ∀ w, HInv W n0 ρ0 ρ (hpE E σ.hp) σ.n w → HInv W n0 ρ0 ρs (hpE E σs.hp) σs.n w := fun w hw => by
      rw [c1] at hw
      have h1 : HInv W n0 ρ0 ρs (hpE E σ.hp) σs.n w := hw.rho (fun i hi => (c2 i hi).symm)
      have hl : σs.hp.lim = σ.hp.lim := c6.trans hI.H.lim.symm
      cases E with
      | true => exact h1.same c3.symm c4.symm hl (MR.none _ _ _ _ _ _)
      | false =>
        refine h1.same c3.symm c4.symm hl ?_
        have := h1.mem
        show MR W n0.x σs.hp.wr σs.hp.x ρs σs.n w
        rw [← c5, ← c7 rfl]; exact this
    have ofS : ∀ w, HInv W n0 ρ0 ρs (hpE E σs.hp) σs.n w → HInv W n0 ρ0 ρ (hpE E σ.hp) σ.n w := fun w hw => by
      rw [c1]
      have h1 : HInv W n0 ρ0 ρ (hpE E σs.hp) σs.n w := hw.rho c2
      have hl : σ.hp.lim = σs.hp.lim := hI.H.lim.trans c6.symm
      cases E with
      | true => exact h1.same c3 c4 hl (MR.none _ _ _ _ _ _)
      | false =>
        refine h1.same c3 c4 hl ?_
        have := h1.mem
        show MR W n0.x σ.hp.wr σ.hp.x ρ σs.n w
        rw [c5, c7 rfl]; exact this
    have hSw := toS w (hI.H.er E)
    have step : ∀ (i : Nat) (o : Oper) σ' ρ' a' w', fl.getD i true = false → Inv W n0 ρ0 N ρ' σ' a' w' → σ'.n = σ.n → Ext σ.n ρ ρ' → σ'.hp.c = σ.hp.c → σ'.hp.m = σ.hp.m → σ'.hp.wr = σ.hp.wr → (E = false → σ'.hp.x = σ.hp.x) →
        (heldx P S ih N ops E f (fl.set i true) σ' k).sat R → ∀ g, fuel = g + 1 → wpAnyH P .any ops Q (fun w => HInv W n0 ρ0 ρs (hpE E σs.hp) σs.n w) g (fl.toArray.setIfInBounds i true) a' w' := by
      intro i o σ' ρ' a' w' hun hI' d1 d2 d3 d4 d5 d6 hs g hg
      rw [← set_toA]
      have hc := cnt_set hun
      refine ihf (fl.set i true) σ' ρ' a' w' hI' (d1.trans c1) (c2.trans (by rw [c1]; exact Nat.le_refl _) d2) (d3.trans c3) (d4.trans c4) (d5.trans c5) c6 (fun e => (d6 e).trans (c7 e)) hs ?_ g (by rw [List.length_set]; exact hlen) (by omega)
      intro σ2 ρ2 a2 w2 g1 g2 g3 g4
      exact hk σ2 ρ2 a2 w2 g1 (d2.trans (Nat.le_of_eq d1.symm) g2) (by omega) g4
    have hpos : ∀ i, fl.getD i true = false → ∃ g, fuel = g + 1 := fun i hun => ⟨fuel - 1, by have := cnt_set hun; omega⟩
    simp only [heldx] at h
    split at h
    · rename_i q hq
      obtain ⟨t1, t2, t3, t4, t5⟩ := nextT_spec (i := 0) (fun j => by simp) hq
      have hun : fl.getD q.1 true = false := by
        simp only [isRdy, Bool.and_eq_true, Bool.not_eq_true'] at t2; exact t2.1
      obtain ⟨g, hg⟩ := hpos _ hun
      simp only [takeK, Bool.and_eq_true] at t3
      obtain ⟨v, σ', e1, e2, e3, e4, e5⟩ := pureG_sound t3.1.2 t4 hI h
      subst hg
      refine wpAnyH_first (v := v) t1 (Region.noSelect_spec hsel) (fun c a w hq => (hQ c _ w hq).elim) g fl.toArray a w ?_ ((isRdy_mem t1).1 t2) ?_ hSw ?_
      · intro j oj hj hne hunj hno
        rw [getD_toA] at hunj
        refine freeB_spec t5 j oj (by simpa using hj) (by omega) (by rw [Nat.zero_add]; exact hunj) ?_
        cases he : edgeTo oj q.1 with
        | false => rfl
        | true =>
          exfalso
          simp only [edgeTo, List.any_eq_true, Bool.and_eq_true] at he
          obtain ⟨e, he, hb, hon⟩ := he
          exact hno e (by simpa using he) hb (Nat.eq_of_beq_eq_true hon)
      · rcases e5 with ⟨w1, w2⟩ | ⟨w1, w2⟩
        · exact .inl ⟨w1, fun w' hw' => w2 w' (ofS w' hw')⟩
        · exact .inr ⟨w1, w2⟩
      · exact step q.1 q.2 σ' ρ _ w hun e4 e2 (Ext.refl _ _) (by rw [e1]) (by rw [e1]) (by rw [e1]) (fun _ => by rw [e1]) e3 g rfl
    · split at h
      · rename_i hr
        split at h
        · rename_i hall
          rw [List.all_eq_true] at hall
          have hnil : Region.ready .any ops fl.toArray = [] := by
            cases hrr : Region.ready .any ops fl.toArray with
            | nil => rfl
            | cons i r =>
              have hi : i ∈ Region.ready .any ops fl.toArray := by rw [hrr]; simp
              obtain ⟨h1, o, ho, _⟩ := mem_ready.1 hi
              have hlt := (Array.getElem?_eq_some_iff.1 ho).1
              rw [getD_toA, List.getD_eq_getElem?_getD, List.getElem?_eq_getElem (by omega)] at h1
              have := hall fl[i] (by simp)
              simp only [id] at this
              simp only [Option.getD_some] at h1
              rw [this] at h1; cases h1
          exact wpAnyH_done hnil (hk σ ρ a w hI (Ext.refl _ _) (Nat.le_refl _) h) fuel
        · exact h.elim
      · rename_i q r hr
        split at h
        · rename_i hr0
          have hmem : q ∈ readyL fl ops.toList 0 := by rw [hr]; simp
          obtain ⟨j, j1, j2, j3⟩ := readyL_mem hmem
          have hj : ops[q.1]? = some q.2 := by rw [j1, Nat.zero_add]; simpa using j2
          have hun : fl.getD q.1 true = false := by
            simp only [isRdy, Bool.and_eq_true, Bool.not_eq_true'] at j3; exact j3.1
          obtain ⟨g, hg⟩ := hpos _ hun
          have honly : ∀ i ∈ Region.ready .any ops fl.toArray, i = q.1 := by
            intro i hi
            obtain ⟨_, o, ho, _⟩ := mem_ready.1 hi
            have := readyL_spec (fl := fl) (l := ops.toList) (i := 0) (j := i) (o := o) (by simpa using ho) (by rw [Nat.zero_add]; exact (isRdy_mem ho).2 hi)
            rw [hr] at this
            simp only [Nat.zero_add, List.mem_singleton] at this
            rw [← this]
          subst hg
          have hready := (isRdy_mem hj).1 j3
          refine ⟨(fun hn => by rw [hn] at hready; cases hready), fun i hi => ?_⟩
          have hiq := honly i hi
          subst hiq
          split at h
          · rename_i hc
            simp only [Bool.and_eq_true] at hc
            obtain ⟨v, σ', e1, e2, e3, e4, e5⟩ := pureG_sound (E := false) hc.1.2 hc.2 hI h
            exact e5.wpOp hj hI.H ⟨hSw, step q.1 q.2 σ' ρ _ w hun e4 e2 (Ext.refl _ _) (by rw [e1]) (by rw [e1]) (by rw [e1]) (fun _ => by rw [e1]) e3 g rfl⟩
          · have hseq := opsx_seq (Q := Q) (Kc := fun a' w' => HInv W n0 ρ0 ρs (hpE E σs.hp) σs.n w' ∧ wpAnyH P .any ops Q (fun w => HInv W n0 ρ0 ρs (hpE E σs.hp) σs.n w) g (fl.toArray.setIfInBounds q.1 true) a' w') hN hS hih ops [q.2] σ ρ a w hI h (fun σ' ρ' a' w' h1 h2 h3 h4 => by
              split at h4
              · rename_i hcn
                simp only [Bool.and_eq_true] at hcn
                have d1 := Nat.eq_of_beq_eq_true hcn.1
                have d5 := beqB_eq hcn.2
                have fin : σ'.hp.c = σ.hp.c → σ'.hp.m = σ.hp.m → (E = false → σ'.hp.x = σ.hp.x) → (heldx P S ih N ops E f (fl.set q.1 true) σ' k).sat R →
                    HInv W n0 ρ0 ρs (hpE E σs.hp) σs.n w' ∧ wpAnyH P .any ops Q (fun w => HInv W n0 ρ0 ρs (hpE E σs.hp) σs.n w) g (fl.toArray.setIfInBounds q.1 true) a' w' := by
                  intro d3 d4 d6 hs
                  refine ⟨?_, step q.1 q.2 σ' ρ' a' w' hun h1 d1 h2 d3 d4 d5 d6 hs g rfl⟩
                  have hw1 : HInv W n0 ρ0 ρs (hpE E σ'.hp) σs.n w' := by
                    have := h1.H.er E
                    rw [d1, c1] at this
                    exact this.rho fun i hi => by
                      rw [c1] at h2
                      exact ((h2 i hi).trans (c2 i hi)).symm
                  have hl : σs.hp.lim = σ'.hp.lim := c6.trans h1.H.lim.symm
                  cases E with
                  | true => exact hw1.same (d3.trans c3).symm (d4.trans c4).symm hl (MR.none _ _ _ _ _ _)
                  | false =>
                    refine hw1.same (d3.trans c3).symm (d4.trans c4).symm hl ?_
                    have := hw1.mem
                    show MR W n0.x σs.hp.wr σs.hp.x ρs σs.n w'
                    rw [← c5, ← c7 rfl, ← d5, ← d6 rfl]; exact this
                split at h4
                · exact fin h4.1.1 h4.1.2 (fun e => by cases e) h4.2
                · exact fin h4.1.1 h4.1.2.1 (fun _ => h4.1.2.2) h4.2
              · exact h4.elim)
            unfold wpOp
            rw [hj]
            simp only
            simp only [wpSeq] at hseq
            split
            · rename_i hw
              rw [if_pos hw] at hseq
              exact hseq
            · rename_i hw
              rw [if_neg hw] at hseq
              exact hseq
        · exact h.elim

theorem drawh_sound (hN : NameOK P) (hS : ∀ q ∈ S, SumOK P q) (hmix : P.follows .mixedOrders = true) (lv : Nat → Nat → Option LT) (ct : Nat → Nat → Nat → Option CT) : DSnd P (drawh P S lv ct) := by
  intro ih hih W n0 ρ0 N R id ops σ k ρ a w Q hI h hk
  simp only [drawh, drawg] at h
  split at h
  · rename_i hc
    simp only [Bool.and_eq_true] at hc
    refine Code.wp_mono (Q := fun e a w => (∀ c, e ≠ .panic c) ∧ Q e a w) (fun e a w h => h.2) (wp_region_held (S := fun w => HInv W n0 ρ0 ρ (hpE (anyCall ops.toList) σ.hp) σ.n w) hmix ?_)
    have hI' : Inv W n0 ρ0 N ρ σ a { w with drawn := w.drawn + 1 } := ⟨hI.defers, hI.sz, hI.tm, hI.tmwf, hI.H.drew _⟩
    have := heldx_any (σs := σ) (ρs := ρ) (Q := fun e a w => (∀ c, e ≠ .panic c) ∧ Q e a w) hN hS hih (E := anyCall ops.toList) hc.1.1 (fun c a w h => h.1 c rfl) (ops.size + 1) (ops.toList.map fun _ => false) σ ρ a _ hI' rfl (Ext.refl _ _) rfl rfl rfl hI.H.lim (fun _ => rfl) h
      (fun σ' ρ' a' w' h1 h2 h3 h4 => ⟨(fun c e => by cases e), hk σ' ρ' a' w' h1 h2 h3 h4⟩) ops.size (by simp) (by
        have : ((ops.toList.map fun _ => false).count false) ≤ (ops.toList.map fun _ => false).length := List.count_le_length
        simpa using this)
    have e : (ops.toList.map fun _ => false).toArray = Array.replicate ops.size false := by
      apply Array.ext'
      simp [List.map_const']
    rw [e] at this
    exact this
  · exact drawl_sound hN hS hmix lv ih hih W n0 ρ0 N R id ops σ k ρ a w Q hI h hk
end
end Go.Proofs.Ytnlohongffpkpaa.Sx
