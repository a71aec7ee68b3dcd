import Derived.Test.YtnlohongffpkpaaLawOnceW4
import Derived.LoopNIn
import Derived.LoopIn
import Derived.MapKept
set_option linter.unusedVariables false
set_option linter.unusedSimpArgs false
section
/- The symbolic executor: a region that leaves its order open, in which stores into the memory stand among reads of it. A text of the session's own. -/
namespace Go.Proofs.Ytnlohongffpkpaa.Sx
open Go Go.RowKit

/-- the blocks at these pointers alone -/
def restr (L : List Int) (x : Mem) : Mem := fun a => if ((a : Int) + 1) ∈ L then x a else none
def memL (p : Int) (L : List Int) : Prop := p ∈ L
/-- nothing at these pointers is changed -/
def agreeL (L : List Int) (m x : Mem) : Prop := ∀ a : Nat, ((a : Int) + 1) ∈ L → m a = x a
def hpL (L : List Int) (hp : Hp) : Hp := { hp with x := restr L hp.x }
/-- Is it a load from the memory? -/
def loadP (σ : St) (o : Oper) : Option Int :=
  match o.op, o.guard with
  | .load _ x, none => (match ev σ x with | .u (.c (.np p _)) => some p | _ => none)
  | _, _ => none
def freeM (σ : St) (o : Oper) : Bool :=
  match o.op with
  | .nilCheck _ => true
  | .fieldAddr _ _ _ => true
  | .indexAddr _ _ _ => true
  | .move _ => true
  | op => takeK ⟨true, []⟩ σ op
def nextM (N : Nat) (ops : Array Oper) (fl : List Bool) (σ : St) : List Oper → Nat → Option (Nat × Oper)
  | [], _ => none
  | o :: r, i => match isRdy fl i o && (freeM σ o || (loadP σ o).isSome) && okDst N o.dst && freeB ops fl i o ops.toList 0 with
    | true => some (i, o)
    | false => nextM N ops fl σ r (i + 1)
def heldm (P : Program) (S : List Sum) (ih : Nat → Code → St → K → Tr) (N : Nat) (ops : Array Oper) (L : List Int) : Nat → List Bool → St → (St → Tr) → Tr
  | 0, _, _, _ => .no 90
  | f + 1, fl, σ, k => match nextM N ops fl σ ops.toList 0 with
    | some q => (match loadP σ q.2 with
      | some p => .req (memL p L) (opX P q.2.op σ fun v σ' => heldm P S ih N ops L f (fl.set q.1 true) ((backS σ σ').put q.2.dst v) k)
      | none => pureG P N ops ⟨true, []⟩ q.2 σ fun σ' => heldm P S ih N ops L f (fl.set q.1 true) σ' k)
    | none => match readyL fl ops.toList 0 with
      | [] => (match fl.all id with | true => k σ | false => .no 91)
      | q :: r => (match r with
        | [] => (match !isCallO q.2.op && pureOp q.2.op && okDst N q.2.dst with
          | true => pureG P N ops ⟨false, []⟩ q.2 σ fun σ' => heldm P S ih N ops L f (fl.set q.1 true) σ' k
          | false => opsx P S ih N ops [q.2] σ fun σ' => (match Nat.beq σ'.n σ.n && beqB σ'.hp.wr σ.hp.wr with
            | true => .req (σ'.hp.c = σ.hp.c ∧ σ'.hp.m = σ.hp.m ∧ agreeL L σ'.hp.x σ.hp.x) (heldm P S ih N ops L f (fl.set q.1 true) σ' k)
            | false => .no 94))
        | _ :: _ => .no 92)
def isStoreO : Op → Bool
  | .store _ _ _ => true
  | _ => false
def drawm (P : Program) (S : List Sum) (Lf : St → List Int) (ih : Nat → Code → St → K → Tr) (N : Nat) (ops : Array Oper) (σ : St) (k : St → Tr) : Tr :=
  match Region.noSelect ops && ops.toList.any (fun o => isStoreO o.op) && ops.toList.all (fun o => isStoreO o.op || (pureOp o.op && !isCallO o.op)) with
  | true => heldm P S ih N ops (Lf σ) (ops.size + 1) (ops.toList.map fun _ => false) σ k
  | false => drawf P S ih N ops σ k
/-- .. where elements of slices stand among calls -/
def isIdx : Op → Bool
  | .indexAddr _ _ _ => true
  | _ => false
def drawn (P : Program) (S : List Sum) (Lf : St → List Int) (ih : Nat → Code → St → K → Tr) (N : Nat) (ops : Array Oper) (σ : St) (k : St → Tr) : Tr :=
  match Region.noSelect ops && Nat.ble 2 (ops.toList.countP fun o => isIdx o.op) && Nat.ble 2 (cntCalls ops.toList) && ops.toList.all (fun o => isCallO o.op || pureOp o.op) with
  | true => heldm P S ih N ops (Lf σ) (ops.size + 1) (ops.toList.map fun _ => false) σ k
  | false => drawg P S ih N ops σ k
def drawv (P : Program) (S : List Sum) (lv : Nat → Nat → Option LT) (Lf : St → List Int) : DrawX := ⟨drawm P S Lf, lv, fun _ _ _ => none⟩

section
variable {P : Program} {S : List Sum} {W : World} {n0 : NL} {ρ0 : Nat → Nat} {N : Nat} {ρ : Nat → Nat} {σ : St} {R : Leaf → Prop} {ops : Array Oper} {L : List Int}

theorem mget_restr {x : Mem} {p : Int} (h : p ∈ L) : mget (restr L x) p = mget x p := by
  unfold mget
  split
  · rfl
  · rename_i a e
    have : ((a : Int) + 1) ∈ L := by rw [show (a : Int) + 1 = p by omega]; exact h
    simp [restr, this]
theorem mcell_restr {x : Mem} {p : Int} (h : p ∈ L) (k : Nat) : mcell (restr L x) p k = mcell x p k := by unfold mcell; rw [mget_restr h]
theorem rdC_restr {x : Mem} {p : Int} (h : p ∈ L) (z : C) (k : Nat) : rdC z (restr L x) p k = rdC z x p k := by
  cases z <;> simp [rdC, gB, gI, gP, mcell_restr h]
theorem rdL_restr {x : Mem} {p : Int} (h : p ∈ L) : ∀ (zs : List C) (k : Nat), rdL (restr L x) p k zs = rdL x p k zs
  | [], _ => rfl
  | z :: r, k => by rw [rdL, rdL, rdC_restr h, rdL_restr h r]
theorem ldM_restr {t : TypeId} {x : Mem} {p : Int} (h : p ∈ L) (off : Nat) : ldM P t (restr L x) p off = ldM P t x p off := by
  unfold ldM; simp only [rdC_restr h, rdL_restr h]
theorem okL_restr {x : Mem} {p : Int} (h : p ∈ L) (off : Nat) (zs : List C) : okL (restr L x) p off zs = okL x p off zs := by unfold okL; rw [mget_restr h]
theorem MR.restr {x0 x : Mem} {b : Bool} {n : Nat} {w : World} (h : MR W x0 b x ρ n w) (L : List Int) : MR W x0 b (Sx.restr L x) ρ n w := by
  refine ⟨fun a o e => ?_, fun a o e => ?_, fun hb a o e => ?_⟩
  all_goals
    unfold Sx.restr at e
    split at e
    · first | exact h.sub a o e | exact h.sep a o e | exact h.dom hb a o e
    · cases e
theorem HInv.restr {hp : Hp} {n : Nat} {w : World} (h : HInv W n0 ρ0 ρ hp n w) (L : List Int) : HInv W n0 ρ0 ρ (hpL L hp) n w := h.same rfl rfl rfl (h.mem.restr L)
theorem loadP_sound {o : Oper} {p : Int} {k : V → St → Tr} (hl : loadP σ o = some p) (hp : p ∈ L) (hd : okDst N o.dst = true) {a : Act} {w : World} (hI : Inv W n0 ρ0 N ρ σ a w) (h : (opX P o.op σ k).sat R) :
    ∃ v, (k v σ).sat R ∧ v.wf σ.n = true ∧ YieldsIf P ops (fun w => HInv W n0 ρ0 ρ (hpL L σ.hp) σ.n w) o (v.den ρ) a := by
  obtain ⟨dst, op, type, pos, after, guard⟩ := o
  unfold loadP at hl
  split at hl
  · rename_i t x hop hg
    simp only at hop hg
    subst hop hg
    split at hl
    · rename_i p' off hx
      cases hl
      have hon : onR (.load t x) σ = false := rfl
      have hom : onM (.load t x) σ = true := by simp only [onM, hx]; rfl
      simp only [opX, hon, hom, opxM, hx] at h
      obtain ⟨q, hq, hs⟩ := kO_sat h
      obtain ⟨hok, hs⟩ := br_no hs
      obtain ⟨b, e1, e2, e3⟩ := run_loadM (P := P) (zs := q.1) (u := q.2) hI.H hq hok
      refine ⟨_, hs, e3, .inl ⟨by simp [Region.wanted], fun w' hS => ?_⟩⟩
      obtain ⟨b', f1, f2, f3⟩ := run_loadM (P := P) (hp := hpL L σ.hp) (zs := q.1) (u := q.2) hS (by show ldM P t (restr L σ.hp.x) p off = _; rw [ldM_restr hp]; exact hq) (by show okL (restr L σ.hp.x) p off _ = true; rw [okL_restr hp]; exact hok)
      refine run_v (s := Instr.loadAt t (a.eval x)) ?_
      have hd : a.eval x = .pointer (some ⟨b', off, none⟩) := by rw [ev_den hI x, hx]; exact pv_at f1
      simp only [hd, Instr.loadAt, Instr.sureAddr, Sem.run_bind, Sem.run_pure, Result.andThen_ok]
      exact f2
    · cases hl
  · cases hl
theorem nextM_spec {fl : List Bool} : ∀ {l : List Oper} {i : Nat} {q : Nat × Oper}, (∀ j, l[j]? = ops[i + j]?) → nextM N ops fl σ l i = some q →
    ops[q.1]? = some q.2 ∧ isRdy fl q.1 q.2 = true ∧ (freeM σ q.2 || (loadP σ q.2).isSome) = true ∧ okDst N q.2.dst = true ∧ freeB ops fl q.1 q.2 ops.toList 0 = true
  | [], _, _, _, h => by cases h
  | o :: r, i, q, hl, h => by
    simp only [nextM] at h
    split at h
    · rename_i hc
      cases h
      rw [Bool.and_eq_true, Bool.and_eq_true, Bool.and_eq_true] at hc
      have := hl 0
      exact ⟨by simpa using this.symm, hc.1.1.1, hc.1.1.2, hc.1.2, hc.2⟩
    · exact nextM_spec (fun j => by have := hl (j + 1); rw [show i + 1 + j = i + (j + 1) by omega, ← this]; simp) h

theorem heldm_any (hN : NameOK P) (hS : ∀ q ∈ S, SumOK P q) {ih : Nat → Code → St → K → Tr} (hih : Snd P ih) (hsel : Region.noSelect ops = true) {k : St → Tr} {Q : Exit → Act → World → Prop} (hQ : ∀ c a w, ¬ Q (.panic c) a w)
    {σs : St} {ρs : Nat → Nat} : ∀ (f : Nat) (fl : List Bool) (σ : St) (ρ : Nat → Nat) (a : Act) (w : World), Inv W n0 ρ0 N ρ σ a w → σ.n = σs.n → Ext σs.n ρs ρ → σ.hp.c = σs.hp.c → σ.hp.m = σs.hp.m → σ.hp.wr = σs.hp.wr → σs.hp.lim = n0.l → agreeL L σ.hp.x σs.hp.x →
      (heldm P S ih N ops L f fl σ k).sat R →
      (∀ σ' ρ' a' w', Inv W n0 ρ0 N ρ' σ' a' w' → Ext σ.n ρ ρ' → σ.n ≤ σ'.n → (k σ').sat R → Q .normal a' w') →
      ∀ fuel, fl.length = ops.size → fl.count false ≤ fuel → wpAnyH P .any ops Q (fun w => HInv W n0 ρ0 ρs (hpL L σs.hp) σs.n w) fuel fl.toArray a w := by
  intro f
  induction f with
  | zero => intro fl σ ρ a w _ _ _ _ _ _ _ _ h; exact h.elim
  | succ f ihf =>
    intro fl σ ρ a w hI c1 c2 c3 c4 c5 c6 c7 h hk fuel hlen hfu
    have er : ∀ {x y : Mem}, agreeL L x y → restr L x = restr L y := fun {x y} hxy => by
      funext c
      unfold restr
      split
      · rename_i hc; exact hxy c hc
      · rfl
    have toS : ∀ {σ' : St} {ρ' : Nat → Nat} {w : World}, σ'.n = σs.n → Ext σs.n ρs ρ' → σ'.hp.c = σs.hp.c → σ'.hp.m = σs.hp.m → σ'.hp.wr = σs.hp.wr → σ'.hp.lim = n0.l → agreeL L σ'.hp.x σs.hp.x → HInv W n0 ρ0 ρ' (hpL L σ'.hp) σ'.n w → HInv W n0 ρ0 ρs (hpL L σs.hp) σs.n w := by
      intro σ' ρ' w d1 d2 d3 d4 d5 d6 d7 hw
      rw [d1] at hw
      have h1 : HInv W n0 ρ0 ρs (hpL L σ'.hp) σs.n w := hw.rho (fun i hi => (d2 i hi).symm)
      refine h1.same d3.symm d4.symm (c6.trans d6.symm) ?_
      have := h1.mem
      show MR W n0.x σs.hp.wr (restr L σs.hp.x) ρs σs.n w
      rw [← d5, ← er d7]; exact this
    have ofS : ∀ w, HInv W n0 ρ0 ρs (hpL L σs.hp) σs.n w → HInv W n0 ρ0 ρ (hpL L σ.hp) σ.n w := fun w hw => by
      rw [c1]
      have h1 : HInv W n0 ρ0 ρ (hpL L σs.hp) σs.n w := hw.rho c2
      refine h1.same c3 c4 (hI.H.lim.trans c6.symm) ?_
      have := h1.mem
      show MR W n0.x σ.hp.wr (restr L σ.hp.x) ρ σs.n w
      rw [c5, er c7]; exact this
    have hSw := toS c1 c2 c3 c4 c5 hI.H.lim c7 (hI.H.restr L)
    have step : ∀ (i : Nat) (o : Oper) σ' ρ' a' w', fl.getD i true = false → Inv W n0 ρ0 N ρ' σ' a' w' → σ'.n = σ.n → Ext σ.n ρ ρ' → σ'.hp.c = σ.hp.c → σ'.hp.m = σ.hp.m → σ'.hp.wr = σ.hp.wr → agreeL L σ'.hp.x σ.hp.x →
        (heldm P S ih N ops L f (fl.set i true) σ' k).sat R → ∀ g, fuel = g + 1 → wpAnyH P .any ops Q (fun w => HInv W n0 ρ0 ρs (hpL L σs.hp) σs.n w) g (fl.toArray.setIfInBounds i true) a' w' := by
      intro i o σ' ρ' a' w' hun hI' d1 d2 d3 d4 d5 d6 hs g hg
      rw [← set_toA]
      have hc := cnt_set hun
      refine ihf (fl.set i true) σ' ρ' a' w' hI' (d1.trans c1) (c2.trans (by rw [c1]; exact Nat.le_refl _) d2) (d3.trans c3) (d4.trans c4) (d5.trans c5) c6 (fun c hc => (d6 c hc).trans (c7 c hc)) hs ?_ g (by rw [List.length_set]; exact hlen) (by omega)
      intro σ2 ρ2 a2 w2 g1 g2 g3 g4
      exact hk σ2 ρ2 a2 w2 g1 (d2.trans (Nat.le_of_eq d1.symm) g2) (by omega) g4
    have hpos : ∀ i, fl.getD i true = false → ∃ g, fuel = g + 1 := fun i hun => ⟨fuel - 1, by have := cnt_set hun; omega⟩
    simp only [heldm] at h
    split at h
    · rename_i q hq
      obtain ⟨t1, t2, t3, t4, t5⟩ := nextM_spec (i := 0) (fun j => by simp) hq
      have hun : fl.getD q.1 true = false := by
        simp only [isRdy, Bool.and_eq_true, Bool.not_eq_true'] at t2; exact t2.1
      obtain ⟨g, hg⟩ := hpos _ hun
      have take : ∀ (v : Value) (σ' : St), σ'.hp = σ.hp → σ'.n = σ.n → (heldm P S ih N ops L f (fl.set q.1 true) σ' k).sat R → Inv W n0 ρ0 N ρ σ' (a.put q.2.dst v) w → YieldsIf P ops (fun w => HInv W n0 ρ0 ρs (hpL L σs.hp) σs.n w) q.2 v a →
          wpAnyH P .any ops Q (fun w => HInv W n0 ρ0 ρs (hpL L σs.hp) σs.n w) fuel fl.toArray a w := by
        intro v σ' e1 e2 e3 e4 e5
        subst hg
        refine wpAnyH_first (v := v) t1 (Region.noSelect_spec hsel) (fun c a w hq => (hQ c _ w hq).elim) g fl.toArray a w ?_ ((isRdy_mem t1).1 t2) e5 hSw ?_
        · intro j oj hj hne hunj hno
          rw [getD_toA] at hunj
          refine freeB_spec t5 j oj (by simpa using hj) (by omega) (by rw [Nat.zero_add]; exact hunj) ?_
          cases he : edgeTo oj q.1 with
          | false => rfl
          | true =>
            exfalso
            simp only [edgeTo, List.any_eq_true, Bool.and_eq_true] at he
            obtain ⟨e, he, hb, hon⟩ := he
            exact hno e (by simpa using he) hb (Nat.eq_of_beq_eq_true hon)
        · exact step q.1 q.2 σ' ρ _ w hun e4 e2 (Ext.refl _ _) (by rw [e1]) (by rw [e1]) (by rw [e1]) (fun _ _ => by rw [e1]) e3 g rfl
      split at h
      · rename_i p hlp
        obtain ⟨hpL, h⟩ := h
        obtain ⟨v, e1, e2, e3⟩ := loadP_sound (ops := ops) (L := L) hlp hpL t4 hI h
        refine take (v.den ρ) _ ?_ ?_ e1 (Inv.put (σ := backS σ σ) ⟨hI.defers, hI.sz, hI.tm, hI.tmwf, hI.H⟩ q.2.dst v (okDst_lt t4) e2) ?_
        · rw [(put_hp _ _ _).1]; rfl
        · rw [(put_hp _ _ _).2]; rfl
        · rcases e3 with ⟨w1, w2⟩ | ⟨w1, w2⟩
          · exact .inl ⟨w1, fun w' hw' => w2 w' (ofS w' hw')⟩
          · exact .inr ⟨w1, w2⟩
      · rename_i hlp
        rw [hlp] at t3
        have hpo : pureOp q.2.op = true := by
          simp only [Option.isSome_none, Bool.or_false] at t3
          unfold freeM at t3
          split at t3
          · rename_i e; rw [e]; rfl
          · rename_i e; rw [e]; rfl
          · rename_i e; rw [e]; rfl
          · rename_i e; rw [e]; rfl
          · simp only [takeK, Bool.and_eq_true] at t3; exact t3.1.2
        obtain ⟨v, σ', e1, e2, e3, e4, e5⟩ := pureG_sound hpo t4 hI h
        refine take v σ' e1 e2 e3 e4 ?_
        have conv : ∀ w', HInv W n0 ρ0 ρs (hpL L σs.hp) σs.n w' → HInv W n0 ρ0 ρ (hpE ⟨true, []⟩ σ.hp) σ.n w' := fun w' hw' => (ofS w' hw').same rfl rfl rfl (MR.none _ _ _ _ _ _)
        rcases e5 with ⟨w1, w2⟩ | ⟨w1, w2⟩
        · exact .inl ⟨w1, fun w' hw' => w2 w' (conv w' hw')⟩
        · exact .inr ⟨w1, w2⟩
    · split at h
      · rename_i hr
        split at h
        · rename_i hall
          rw [List.all_eq_true] at hall
          have hnil : Region.ready .any ops fl.toArray = [] := by
            cases hrr : Region.ready .any ops fl.toArray with
            | nil => rfl
            | cons i r =>
              have hi : i ∈ Region.ready .any ops fl.toArray := by rw [hrr]; simp
              obtain ⟨h1, o, ho, _⟩ := mem_ready.1 hi
              have hlt := (Array.getElem?_eq_some_iff.1 ho).1
              rw [getD_toA, List.getD_eq_getElem?_getD, List.getElem?_eq_getElem (by omega)] at h1
              have := hall fl[i] (by simp)
              simp only [id] at this
              simp only [Option.getD_some] at h1
              rw [this] at h1; cases h1
          exact wpAnyH_done hnil (hk σ ρ a w hI (Ext.refl _ _) (Nat.le_refl _) h) fuel
        · exact h.elim
      · rename_i q r hr
        split at h
        · rename_i hr0
          have hmem : q ∈ readyL fl ops.toList 0 := by rw [hr]; simp
          obtain ⟨j, j1, j2, j3⟩ := readyL_mem hmem
          have hj : ops[q.1]? = some q.2 := by rw [j1, Nat.zero_add]; simpa using j2
          have hun : fl.getD q.1 true = false := by
            simp only [isRdy, Bool.and_eq_true, Bool.not_eq_true'] at j3; exact j3.1
          obtain ⟨g, hg⟩ := hpos _ hun
          have honly : ∀ i ∈ Region.ready .any ops fl.toArray, i = q.1 := by
            intro i hi
            obtain ⟨_, o, ho, _⟩ := mem_ready.1 hi
            have := readyL_spec (fl := fl) (l := ops.toList) (i := 0) (j := i) (o := o) (by simpa using ho) (by rw [Nat.zero_add]; exact (isRdy_mem ho).2 hi)
            rw [hr] at this
            simp only [Nat.zero_add, List.mem_singleton] at this
            rw [← this]
          subst hg
          have hready := (isRdy_mem hj).1 j3
          refine ⟨(fun hn => by rw [hn] at hready; cases hready), fun i hi => ?_⟩
          have hiq := honly i hi
          subst hiq
          split at h
          · rename_i hc
            simp only [Bool.and_eq_true] at hc
            obtain ⟨v, σ', e1, e2, e3, e4, e5⟩ := pureG_sound (E := ⟨false, []⟩) hc.1.2 hc.2 hI h
            exact e5.wpOp hj hI.H ⟨hSw, step q.1 q.2 σ' ρ _ w hun e4 e2 (Ext.refl _ _) (by rw [e1]) (by rw [e1]) (by rw [e1]) (fun _ _ => by rw [e1]) e3 g rfl⟩
          · have hseq := opsx_seq (Q := Q) (Kc := fun a' w' => HInv W n0 ρ0 ρs (hpL L σs.hp) σs.n w' ∧ wpAnyH P .any ops Q (fun w => HInv W n0 ρ0 ρs (hpL L σs.hp) σs.n w) g (fl.toArray.setIfInBounds q.1 true) a' w') hN hS hih ops [q.2] σ ρ a w hI h (fun σ' ρ' a' w' h1 h2 h3 h4 => by
              split at h4
              · rename_i hcn
                simp only [Bool.and_eq_true] at hcn
                have d1 := Nat.eq_of_beq_eq_true hcn.1
                have d5 := beqB_eq hcn.2
                obtain ⟨⟨d3, d4, d6⟩, hs⟩ := h4
                exact ⟨toS (d1.trans c1) (c2.trans (by rw [c1]; exact Nat.le_refl _) h2) (d3.trans c3) (d4.trans c4) (d5.trans c5) h1.H.lim (fun c hc => (d6 c hc).trans (c7 c hc)) (h1.H.restr L), step q.1 q.2 σ' ρ' a' w' hun h1 d1 h2 d3 d4 d5 d6 hs g rfl⟩
              · exact h4.elim)
            unfold wpOp
            rw [hj]
            simp only
            simp only [wpSeq] at hseq
            split
            · rename_i hw
              rw [if_pos hw] at hseq
              exact hseq
            · rename_i hw
              rw [if_neg hw] at hseq
              exact hseq
        · exact h.elim

theorem drawv_sound (hN : NameOK P) (hS : ∀ q ∈ S, SumOK P q) (hmix : P.follows .mixedOrders = true) (lv : Nat → Nat → Option LT) (Lf : St → List Int) : DSnd P (drawv P S lv Lf) := by
  intro ih hih W n0 ρ0 N R id ops σ k ρ a w Q hI h hk
  simp only [drawv, drawm] at h
  split at h
  · rename_i hc
    simp only [Bool.and_eq_true] at hc
    refine Code.wp_mono (Q := fun e a w => (∀ c, e ≠ .panic c) ∧ Q e a w) (fun e a w h => h.2) (wp_region_held (S := fun w => HInv W n0 ρ0 ρ (hpL (Lf σ) σ.hp) σ.n w) hmix ?_)
    have hI' : Inv W n0 ρ0 N ρ σ a { w with drawn := w.drawn + 1 } := ⟨hI.defers, hI.sz, hI.tm, hI.tmwf, hI.H.drew _⟩
    have := heldm_any (σs := σ) (ρs := ρ) (L := Lf σ) (Q := fun e a w => (∀ c, e ≠ .panic c) ∧ Q e a w) hN hS hih hc.1.1 (fun c a w h => h.1 c rfl) (ops.size + 1) (ops.toList.map fun _ => false) σ ρ a _ hI' rfl (Ext.refl _ _) rfl rfl rfl hI.H.lim (fun _ _ => rfl) h
      (fun σ' ρ' a' w' h1 h2 h3 h4 => ⟨(fun c e => by cases e), hk σ' ρ' a' w' h1 h2 h3 h4⟩) ops.size (by simp) (by
        have : ((ops.toList.map fun _ => false).count false) ≤ (ops.toList.map fun _ => false).length := List.count_le_length
        simpa using this)
    have e : (ops.toList.map fun _ => false).toArray = Array.replicate ops.size false := by
      apply Array.ext'
      simp [List.map_const']
    rw [e] at this
    exact this
  · exact drawl_sound hN hS hmix lv ih hih W n0 ρ0 N R id ops σ k ρ a w Q hI h hk
end
end Go.Proofs.Ytnlohongffpkpaa.Sx
end

section
/- Layer 15: a list in the memory: its chain, its map; what is read and written. A text of the session's own. -/
namespace Go.Proofs.Ytnlohongffpkpaa.T16
open Go Go.RowKit Go.Proofs.Ytnlohongffpkpaa.Sx Go.Proofs
set_option linter.unusedVariables false
set_option linter.unusedSimpArgs false

abbrev LN := List (Nat × Int × Int)
def hdA : LN → Int → Int
  | [], e => e
  | x :: _, _ => (x.1 : Int) + 1
def laA : Int → LN → Int
  | f, [] => f
  | _, x :: r => laA ((x.1 : Int) + 1) r
def lkO (s g b f : Int) : Obj := .cells #[.int .i64 s, .int .u64 g, pv b 0, pv f 0] 142 (0, 0)
def hdO (q : Nat) (f l : Int) : Obj := .cells #[.map (some q), pv f 0, pv l 0] 140 (0, 0)
def Ch (m : Mem) : Int → LN → Int → Prop
  | _, [], _ => True
  | f, x :: r, e => m x.1 = some (lkO x.2.1 x.2.2 (hdA r e) f) ∧ Ch m ((x.1 : Int) + 1) r e
def nds (L : LN) : List (Int × Int × Int) := L.map fun x => ((x.1 : Int) + 1, x.2.1, x.2.2)
def hsL (L : LN) : List (Int × Int) := L.map fun x => (x.2.1, x.2.2)
structure DL (m : Mem) (t q : Nat) (L : LN) : Prop where
  hd : m t = some (hdO q (hdA L 0) (laA 0 L))
  mp : ∃ es k, m q = some (.map es k) ∧ Ents es.toList (nds L) ∧ es.size = L.length
  ch : Ch m 0 L 0
  nd : (L.map (·.1)).Nodup
/-- whose a block is -/
def dlD (t q : Nat) (L : LN) (a : Nat) : Prop := a = t ∨ a = q ∨ a ∈ L.map (·.1)

theorem hdA_nn : ∀ {L : LN} {e : Int}, 0 ≤ e → 0 ≤ hdA L e
  | [], e, h => h
  | x :: _, e, h => by simp only [hdA]; omega
theorem laA_nn : ∀ {L : LN} {f : Int}, 0 ≤ f → 0 ≤ laA f L
  | [], f, h => h
  | x :: r, f, h => by simp only [laA]; exact laA_nn (by omega)
theorem hdA_app : ∀ (A B : LN) (e : Int), hdA (A ++ B) e = hdA A (hdA B e)
  | [], B, e => rfl
  | x :: _, B, e => rfl
theorem laA_app : ∀ (A B : LN) (f : Int), laA f (A ++ B) = laA (laA f A) B
  | [], B, f => rfl
  | x :: r, B, f => laA_app r B _
theorem laA_snoc (A : LN) (y : Nat × Int × Int) (f : Int) : laA f (A ++ [y]) = (y.1 : Int) + 1 := by rw [laA_app]; rfl
theorem Ch_app {m : Mem} : ∀ {A B : LN} {f e : Int}, Ch m f (A ++ B) e ↔ Ch m f A (hdA B e) ∧ Ch m (laA f A) B e
  | [], B, f, e => by simp [Ch, laA]
  | x :: r, B, f, e => by
    simp only [List.cons_append, Ch, laA, hdA_app]
    rw [Ch_app (A := r) (B := B)]
    exact and_assoc.symm
theorem Ch_congr {m m' : Mem} : ∀ {L : LN} {f e : Int}, (∀ a ∈ L.map (·.1), m' a = m a) → Ch m f L e → Ch m' f L e
  | [], _, _, _, _ => trivial
  | x :: r, f, e, hm, h => ⟨by rw [hm x.1 (by simp)]; exact h.1, Ch_congr (fun a ha => hm a (by simp only [List.map_cons, List.mem_cons]; exact .inr ha)) h.2⟩
theorem DL.congr {m m' : Mem} {t q : Nat} {L : LN} (h : DL m t q L) (hm : ∀ a, dlD t q L a → m' a = m a) : DL m' t q L := by
  obtain ⟨es, k, h1, h2, h3⟩ := h.mp
  exact ⟨by rw [hm t (.inl rfl)]; exact h.hd, ⟨es, k, by rw [hm q (.inr (.inl rfl))]; exact h1, h2, h3⟩, Ch_congr (fun a ha => hm a (.inr (.inr ha))) h.ch, h.nd⟩
/-- a node, told by what is ahead of it, and behind -/
theorem Ch.at' {m : Mem} {A B : LN} {x : Nat × Int × Int} (h : Ch m 0 (A ++ x :: B) 0) : m x.1 = some (lkO x.2.1 x.2.2 (hdA B 0) (laA 0 A)) := (Ch_app.1 h).2.1
theorem Ch.mem {m : Mem} {L : LN} (h : Ch m 0 L 0) {x : Nat × Int × Int} (hx : x ∈ L) : ∃ b f, m x.1 = some (lkO x.2.1 x.2.2 b f) := by
  obtain ⟨A, B, rfl⟩ := List.append_of_mem hx
  exact ⟨_, _, h.at'⟩
section
variable {m : Mem} {t q : Nat} {L : LN}
theorem DL.tq (h : DL m t q L) : t ≠ q := by
  rintro rfl
  obtain ⟨es, k, h1, _⟩ := h.mp
  have := h.hd; rw [h1] at this; cases this
theorem DL.t_no (h : DL m t q L) : t ∉ L.map (·.1) := by
  intro hm
  obtain ⟨x, hx, e⟩ := List.mem_map.1 hm
  obtain ⟨b, f, h1⟩ := h.ch.mem hx
  rw [e, h.hd] at h1
  simp [hdO, lkO] at h1
theorem DL.q_no (h : DL m t q L) : q ∉ L.map (·.1) := by
  intro hm
  obtain ⟨x, hx, e⟩ := List.mem_map.1 hm
  obtain ⟨b, f, h1⟩ := h.ch.mem hx
  obtain ⟨es, k, h2, _⟩ := h.mp
  rw [e, h2] at h1
  simp [lkO] at h1
theorem nz_p (t : Nat) : nzp ((t : Int) + 1) = true := nzp_of (by omega)
theorem pz_p (t : Nat) : peq ((t : Int) + 1) 0 = false := by rw [peq_zero (by omega)]; simp; omega
theorem DL.pc (h : DL m t q L) : pl (mcell m ((t : Int) + 1) 0) = .map (some q) := by
  unfold mcell; rw [mget_of h.hd]; rfl
theorem DL.g1 (h : DL m t q L) : gP m ((t : Int) + 1) 1 = hdA L 0 := by
  unfold gP mcell; rw [mget_of h.hd]; exact vP_pv (hdA_nn (Int.le_refl 0))
theorem DL.g2 (h : DL m t q L) : gP m ((t : Int) + 1) 2 = laA 0 L := by
  unfold gP mcell; rw [mget_of h.hd]; exact vP_pv (laA_nn (Int.le_refl 0))
theorem hd_okL {q : Nat} {f l : Int} (h : m t = some (hdO q f l)) : okL m ((t : Int) + 1) 0 [.raw (.map none)] = true ∧ okL m ((t : Int) + 1) 1 [.nilp] = true ∧ okL m ((t : Int) + 1) 2 [.nilp] = true := by
  unfold okL; rw [mget_of h]
  refine ⟨rfl, ?_, ?_⟩ <;> simp [okR, okC, isP_pv]
theorem hd_okS {q : Nat} {f l : Int} (h : m t = some (hdO q f l)) : okS m ((t : Int) + 1) 1 1 = true ∧ okS m ((t : Int) + 1) 2 1 = true := by
  unfold okS; rw [mgetW_of h]; exact ⟨rfl, rfl⟩
theorem hd_gP {q : Nat} {f l : Int} (h : m t = some (hdO q f l)) (hf : 0 ≤ f) (hl : 0 ≤ l) : gP m ((t : Int) + 1) 1 = f ∧ gP m ((t : Int) + 1) 2 = l := by
  unfold gP mcell; rw [mget_of h]; exact ⟨vP_pv hf, vP_pv hl⟩
theorem hd_wr {q : Nat} {f l : Int} (h : m t = some (hdO q f l)) (v : Int) : wrL m ((t : Int) + 1) 1 [pv v 0] = alO m t (hdO q v l) ∧ wrL m ((t : Int) + 1) 2 [pv v 0] = alO m t (hdO q f v) := by
  constructor
  · rw [wrL_at h]; rfl
  · rw [wrL_at h]; rfl
theorem nd_okL {a : Nat} {s g b f : Int} (h : m a = some (lkO s g b f)) : okL m ((a : Int) + 1) 2 [.nilp] = true ∧ okL m ((a : Int) + 1) 3 [.nilp] = true ∧ okL m ((a : Int) + 1) 0 [.li .i64 0, .li .u64 0] = true := by
  unfold okL; rw [mget_of h]
  refine ⟨?_, ?_, ?_⟩ <;> simp [okR, okC, isP_pv, isK]
theorem nd_okS {a : Nat} {s g b f : Int} (h : m a = some (lkO s g b f)) : okS m ((a : Int) + 1) 2 1 = true ∧ okS m ((a : Int) + 1) 3 1 = true := by
  unfold okS; rw [mgetW_of h]; exact ⟨rfl, rfl⟩
theorem nd_gP {a : Nat} {s g b f : Int} (h : m a = some (lkO s g b f)) (hb : 0 ≤ b) (hf : 0 ≤ f) : gP m ((a : Int) + 1) 2 = b ∧ gP m ((a : Int) + 1) 3 = f ∧ gI m ((a : Int) + 1) 0 = s ∧ gI m ((a : Int) + 1) 1 = g := by
  unfold gP gI mcell; rw [mget_of h]; exact ⟨vP_pv hb, vP_pv hf, rfl, rfl⟩
theorem nd_wr {a : Nat} {s g b f : Int} (h : m a = some (lkO s g b f)) (v : Int) : wrL m ((a : Int) + 1) 2 [pv v 0] = alO m a (lkO s g v f) ∧ wrL m ((a : Int) + 1) 3 [pv v 0] = alO m a (lkO s g b v) := by
  constructor
  · rw [wrL_at h]; rfl
  · rw [wrL_at h]; rfl
theorem alO_self (m : Mem) (a : Nat) (o : Obj) : alO m a o a = some o := if_pos rfl
theorem alO_ne {m : Mem} {a b : Nat} (o : Obj) (h : b ≠ a) : alO m a o b = m b := if_neg h
theorem alM_alO (m : Mem) (a : Nat) (cs : Array Value) (ty : Nat) : alM m ((a : Int) + 1) cs ty = alO m a (.cells cs ty (0, 0)) := by
  funext x; unfold alM alO
  by_cases e : x = a
  · subst e; rw [if_pos (by omega), if_pos rfl]
  · rw [if_neg (by omega), if_neg e]
/-! the map -/
theorem DL.okm (h : DL m t q L) : okM Try.prog 29 m (.map (some q)) := by
  obtain ⟨es, k, h1, h2, _⟩ := h.mp
  refine .inr ⟨q, es, k, rfl, h1, fun e hE => ?_, h2.ap⟩
  obtain ⟨x, g1, g2, g3⟩ := h2.to e hE
  rw [g2]
  exact (okKey29 (h2.rng x g1).1 (h2.rng x g1).2).1
theorem nds_mem {x : Nat × Int × Int} (h : x ∈ L) : ((x.1 : Int) + 1, x.2.1, x.2.2) ∈ nds L := List.mem_map.2 ⟨x, h, rfl⟩
theorem DL.hit (h : DL m t q L) {x : Nat × Int × Int} (hx : x ∈ L) : lkZ m (.map (some q)) (.agg (.mk [(.int .i64 x.2.1), (.int .u64 x.2.2)])) (.pointer .none) = pv ((x.1 : Int) + 1) 0 := by
  obtain ⟨es, k, h1, h2, _⟩ := h.mp
  obtain ⟨j, hj⟩ := h2.find (nds_mem hx)
  have : mpE m (.map (some q)) = es.toList := by simp [mpE, h1]
  simp only [lkZ, mlook, this]
  rw [show efind (.agg (.mk [(.int .i64 x.2.1), (.int .u64 x.2.2)])) es.toList 0 = some (j, pv ((x.1 : Int) + 1) 0) from hj]; rfl
theorem DL.missN (h : DL m t q L) {s g : Int} (hx : (s, g) ∉ hsL L) : ∀ x ∈ nds L, ¬ (x.2.1 = s ∧ x.2.2 = g) := by
  rintro x h1 ⟨rfl, rfl⟩
  obtain ⟨y, hy, rfl⟩ := List.mem_map.1 h1
  exact hx (List.mem_map.2 ⟨y, hy, rfl⟩)
theorem DL.miss (h : DL m t q L) {s g : Int} (hx : (s, g) ∉ hsL L) : lkZ m (.map (some q)) (.agg (.mk [(.int .i64 s), (.int .u64 g)])) (.pointer .none) = pv 0 0 := by
  obtain ⟨es, k, h1, h2, _⟩ := h.mp
  have : mpE m (.map (some q)) = es.toList := by simp [mpE, h1]
  simp only [lkZ, mlook, this]
  rw [show efind (.agg (.mk [(.int .i64 s), (.int .u64 g)])) es.toList 0 = none from h2.miss (h.missN hx)]; rfl
theorem DL.len (h : DL m t q L) : mlen m (.map (some q)) = L.length := by
  obtain ⟨es, k, h1, _, h3⟩ := h.mp
  have : mpE m (.map (some q)) = es.toList := by simp [mpE, h1]
  simp only [mlen, this, Array.length_toList, h3]
theorem mput_at {es : Array MapEntry} {k : Nat} (h : m q = some (.map es k)) {s g : Int} (hm : efind (hKey s g) es.toList 0 = none) (v : Value) :
    mput m (.map (some q)) (.agg (.mk [(.int .i64 s), (.int .u64 g)])) v = alO m q (.map (es.push ⟨hKey s g, v, k⟩) (k + 1)) := by
  funext a
  simp only [mput, mchg, alO]
  by_cases e : a = q
  · subst e
    rw [if_pos rfl, if_pos rfl, h]
    simp only [esPut]
    rw [show efind (.agg (.mk [(.int .i64 s), (.int .u64 g)])) es.toList 0 = none from hm]
  · rw [if_neg e, if_neg e]
theorem mdel_at {es : Array MapEntry} {k : Nat} (h : m q = some (.map es k)) {s g : Int} {i : Nat} {v : Value} (hf : efind (hKey s g) es.toList 0 = some (i, v)) :
    mdel m (.map (some q)) (.agg (.mk [(.int .i64 s), (.int .u64 g)])) = alO m q (.map (es.eraseIdxIfInBounds i) k) := by
  funext a
  simp only [mdel, mchg, alO]
  by_cases e : a = q
  · subst e
    rw [if_pos rfl, if_pos rfl, h]
    simp only [esDel]
    rw [show efind (.agg (.mk [(.int .i64 s), (.int .u64 g)])) es.toList 0 = some (i, v) from hf]
  · rw [if_neg e, if_neg e]
end
def vPtr (v : V) : Int := (ptrOf v).getD 0
def T_lend (m : Mem) (t : Int) (o : Bool) : Tr := (.br (cmpOK m t 0) (.br (peq t 0) (.leaf (.memo (.u (.c .nilp)) m)) (.br o (.br (nzp t) (.br (nzp t) (.br (okL m t 1 [.nilp]) (.leaf (.memo (.u (.c (.np (gP m t 1) 0))) m)) (.no 70)) (.no 76)) (.no 75)) (.br (nzp t) (.br (nzp t) (.br (okL m t 2 [.nilp]) (.leaf (.memo (.u (.c (.np (gP m t 2) 0))) m)) (.no 70)) (.no 76)) (.no 75)))) (.no 78))
theorem t_lend (m : Mem) (t : Int) (o : Bool) : runm Try.prog [] (drawx Try.prog []) 300 87 [.u (.c (.np t 0)), .u (.c (.sb o))] m [142, 140, 137] = T_lend m t o := by kernel_rfl
def lendOK (m : Mem) (t : Int) (o : Bool) : Prop := okP (T_lend m t o)
def lendV (m : Mem) (t : Int) (o : Bool) : Int := vPtr (outV (T_lend m t o))
theorem lend_all (m : Mem) (t : Int) (o : Bool) : allL (fun v m' => m' = m ∧ ∀ ρ, V.den ρ v = V.den ρ (.u (.c (.np (vPtr v) 0)))) (T_lend m t o) := by
  simp only [T_lend, allL]
  repeat' (first | exact fun _ => rfl | exact fun _ => trivial | exact trivial | rfl | constructor)
def s_lend : Sum := rdSum 87 fun m a => match a with | [a0, a1] => (match ptrOf a0, booOf a1 with | some t, some o => some (lendOK m t o, .u (.c (.np (lendV m t o) 0))) | _, _ => none) | _ => none
theorem s_lend_ok : SumOK Try.prog s_lend := by
  refine rdSum_ok ⟨_, Try.func87, by kernel_rfl⟩ fun m args pre v h hp hw ρ w hm => ?_
  split at h
  · split at h
    · rename_i a0 a1 _ _  t o h0 h1
      cases h
      exact dm_calls nameOK okn (dOK okn) 300 _ m _ (t_lend m t o) hp (allL_out (lend_all m t o) hp).1 ρ ((allL_out (lend_all m t o) hp).2 ρ) w hm (by simp only [List.map_cons, List.map_nil, ptrOf_den h0, booOf_den h1])
    · cases h
  · cases h
def T_lhas (m : Mem) (t : Int) (hs hg : Int) : Tr := (.br (cmpOK m t 0) (.br (bNot (peq t 0)) (.br (nzp t) (.br (nzp t) (.br (okL m t 0 [(.raw (.map (.none)))]) (.req ((Go.Maps.Keyed Try.prog 29) ∧ ((okM Try.prog 29 m (pl (mcell m t 0))) ∧ ((okKey Try.prog 29 (.agg (.mk [(.int .i64 hs), (.int .u64 hg)]))) ∧ (((okU (.c .nilp) (lkZ m (pl (mcell m t 0)) (.agg (.mk [(.int .i64 hs), (.int .u64 hg)])) (.pointer (.none)))) : Bool) = true)))) (.br (cmpOK m (vP (lkZ m (pl (mcell m t 0)) (.agg (.mk [(.int .i64 hs), (.int .u64 hg)])) (.pointer (.none)))) 0) (.leaf (.memo (.u (.c (.sb (bNot (peq (vP (lkZ m (pl (mcell m t 0)) (.agg (.mk [(.int .i64 hs), (.int .u64 hg)])) (.pointer (.none)))) 0))))) m)) (.no 78))) (.no 70)) (.no 76)) (.no 75)) (.leaf (.memo (.u (.c (.lb false))) m))) (.no 78))
theorem t_lhas (m : Mem) (t : Int) (hs hg : Int) : runm Try.prog [] (drawx Try.prog []) 300 80 [.u (.c (.np t 0)), .u (.agg [.si .i64 hs, .si .u64 hg])] m [142, 140, 137] = T_lhas m t hs hg := by kernel_rfl
def lhasOK (m : Mem) (t : Int) (hs hg : Int) : Prop := okP (T_lhas m t hs hg)
def lhasV (m : Mem) (t : Int) (hs hg : Int) : Bool := vBool (outV (T_lhas m t hs hg))
theorem lhas_all (m : Mem) (t : Int) (hs hg : Int) : allL (fun v m' => m' = m ∧ ∀ ρ, V.den ρ v = V.den ρ (.u (.c (.sb (vBool v))))) (T_lhas m t hs hg) := by
  simp only [T_lhas, allL]
  repeat' (first | exact fun _ => rfl | exact fun _ => trivial | exact trivial | rfl | constructor)
def s_lhas : Sum := rdSum 80 fun m a => match a with | [a0, a1] => (match ptrOf a0, hanOf a1 with | some t, some (hs, hg) => some (lhasOK m t hs hg, .u (.c (.sb (lhasV m t hs hg)))) | _, _ => none) | _ => none
theorem s_lhas_ok : SumOK Try.prog s_lhas := by
  refine rdSum_ok ⟨_, Try.func80, by kernel_rfl⟩ fun m args pre v h hp hw ρ w hm => ?_
  split at h
  · split at h
    · rename_i a0 a1 _ _  t hs hg h0 h1
      cases h
      exact dm_calls nameOK okn (dOK okn) 300 _ m _ (t_lhas m t hs hg) hp (allL_out (lhas_all m t hs hg) hp).1 ρ ((allL_out (lhas_all m t hs hg) hp).2 ρ) w hm (by simp only [List.map_cons, List.map_nil, ptrOf_den h0, hanOf_den h1])
    · cases h
  · cases h
def T_llen (m : Mem) (t : Int) : Tr := (.br (cmpOK m t 0) (.br (peq t 0) (.leaf (.memo (.u (.c (.li .i64 0))) m)) (.br (nzp t) (.br (nzp t) (.br (okL m t 0 [(.raw (.map (.none)))]) (.req (okM Try.prog 29 m (pl (mcell m t 0))) (.leaf (.memo (.u (.c (.si .i64 (mlen m (pl (mcell m t 0)))))) m))) (.no 70)) (.no 76)) (.no 75))) (.no 78))
theorem t_llen (m : Mem) (t : Int) : runm Try.prog [] (drawx Try.prog []) 300 128 [.u (.c (.np t 0))] m [142, 140, 137] = T_llen m t := by kernel_rfl
def llenOK (m : Mem) (t : Int) : Prop := okP (T_llen m t)
def llenV (m : Mem) (t : Int) : Int := vInt (outV (T_llen m t))
theorem llen_all (m : Mem) (t : Int) : allL (fun v m' => m' = m ∧ ∀ ρ, V.den ρ v = V.den ρ (.u (.c (.si .i64 (vInt v))))) (T_llen m t) := by
  simp only [T_llen, allL]
  repeat' (first | exact fun _ => rfl | exact fun _ => trivial | exact trivial | rfl | constructor)
def s_llen : Sum := rdSum 128 fun m a => match a with | [a0] => (match ptrOf a0 with | some t => some (llenOK m t, .u (.c (.si .i64 (llenV m t)))) | _ => none) | _ => none
theorem s_llen_ok : SumOK Try.prog s_llen := by
  refine rdSum_ok ⟨_, Try.func128, by kernel_rfl⟩ fun m args pre v h hp hw ρ w hm => ?_
  split at h
  · split at h
    · rename_i a0 _  t h0
      cases h
      exact dm_calls nameOK okn (dOK okn) 300 _ m _ (t_llen m t) hp (allL_out (llen_all m t) hp).1 ρ ((allL_out (llen_all m t) hp).2 ρ) w hm (by simp only [List.map_cons, List.map_nil, ptrOf_den h0])
    · cases h
  · cases h
section
variable {m : Mem} {t q : Nat} {L : LN}
theorem lend_spec (h : DL m t q L) (o : Bool) : lendOK m ((t : Int) + 1) o ∧ lendV m ((t : Int) + 1) o = (match o with | true => hdA L 0 | false => laA 0 L) := by
  obtain ⟨k1, k2, k3⟩ := hd_okL h.hd
  cases o <;> simp [lendOK, lendV, T_lend, okP, outV, cmp_zero, pz_p, nz_p, k2, k3, vPtr, ptrOf, h.g1, h.g2]
theorem lhas_spec (h : DL m t q L) {s g : Int} (h1 : inI s) (h2 : inU g) : lhasOK m ((t : Int) + 1) s g ∧ (lhasV m ((t : Int) + 1) s g = true ↔ (s, g) ∈ hsL L) := by
  obtain ⟨k1, k2, k3⟩ := hd_okL h.hd
  by_cases hx : (s, g) ∈ hsL L
  · obtain ⟨x, hx1, hx2⟩ := List.mem_map.1 hx
    simp only [Prod.mk.injEq] at hx2
    obtain ⟨rfl, rfl⟩ := hx2
    have hl := h.hit hx1
    simp [lhasOK, lhasV, T_lhas, okP, outV, cmp_zero, pz_p, nz_p, k1, vBool, h.pc, hl, keyed29, h.okm, okKey29 h1 h2, bNot, okU, okC, isP_pv, vP_pv (show (0 : Int) ≤ (x.1 : Int) + 1 by omega), hx]
  · have hl := h.miss hx
    simp [lhasOK, lhasV, T_lhas, okP, outV, cmp_zero, pz_p, nz_p, k1, vBool, h.pc, hl, keyed29, h.okm, okKey29 h1 h2, bNot, okU, okC, isP_pv, vP_pv (Int.le_refl 0), hx, peq_zero]
theorem llen_spec (h : DL m t q L) : llenOK m ((t : Int) + 1) ∧ llenV m ((t : Int) + 1) = L.length := by
  obtain ⟨k1, k2, k3⟩ := hd_okL h.hd
  simp [llenOK, llenV, T_llen, okP, outV, cmp_zero, pz_p, nz_p, k1, vInt, intOf, h.pc, h.okm, h.len]
end
end Go.Proofs.Ytnlohongffpkpaa.T16
end

section
/- Layer 15: a list's calls: one is put at an end, one is taken out. A text of the session's own. -/
namespace Go.Proofs.Ytnlohongffpkpaa.T16
open Go Go.RowKit Go.Proofs.Ytnlohongffpkpaa.Sx Go.Proofs
set_option linter.unusedVariables false
set_option linter.unusedSimpArgs false

structure DG where
  t : Nat
  q : Nat
  L : LN
def DG.is (G : DG) (m : Mem) (p : Int) : Prop := p = (G.t : Int) + 1 ∧ DL m G.t G.q G.L
/-- all others are as they were -/
def keepD (t q : Nat) (L : LN) (m m' : Mem) : Prop := ∀ a, m a ≠ none → ¬ dlD t q L a → m' a = m a
section
variable {m : Mem} {t q : Nat} {L : LN}
theorem DL.there (h : DL m t q L) {a : Nat} (ha : dlD t q L a) : m a ≠ none := by
  rcases ha with rfl | rfl | ha
  · rw [h.hd]; simp
  · obtain ⟨es, k, h1, _⟩ := h.mp
    rw [h1]; simp
  · obtain ⟨x, hx, e⟩ := List.mem_map.1 ha
    obtain ⟨b, f, h1⟩ := h.ch.mem hx
    rw [← e, h1]; simp
theorem DL.fresh (h : DL m t q L) {a : Nat} (ha : m a = none) : ¬ dlD t q L a := fun hd => h.there hd ha
theorem ents_new {es : Array MapEntry} {k : Nat} {a : Nat} {s g : Int} (he : Ents es.toList (nds L)) (hx : ∀ x ∈ nds L, ¬ (x.2.1 = s ∧ x.2.2 = g)) (h1 : inI s) (h2 : inU g) :
    Ents (es.push ⟨hKey s g, pv ((a : Int) + 1) 0, k⟩).toList (nds ((a, s, g) :: L)) := by
  rw [Array.toList_push]
  exact he.push hx h1 h2
theorem nds_snoc (x : Nat × Int × Int) : ∀ y, y ∈ nds (L ++ [x]) ↔ y ∈ nds (x :: L) := by
  intro y
  simp [nds, or_comm]
def pushPost (m : Mem) (G : DG) (s g : Int) (front : Bool) (y : Vars) : Prop :=
  ((s, g) ∈ hsL G.L ∧ y.i = [7] ∧ y.m = m) ∨
  ((s, g) ∉ hsL G.L ∧ y.i = [0] ∧ ∃ a, m a = none ∧ DL y.m G.t G.q (match front with | true => (a, s, g) :: G.L | false => G.L ++ [(a, s, g)]) ∧ keepD G.t G.q G.L m y.m)
end
def T_lpush (m : Mem) (t : Int) (hs hg : Int) (o : Bool) : Tr := (.br (cmpOK m t 0) (.br (peq t 0) (.leaf (.memo (.u (.c (.li .i64 1))) m)) (.br (nzp t) (.br (nzp t) (.br (okL m t 0 [(.raw (.map (.none)))]) (.br (isMpV (pl (mcell m t 0))) (.br (isNilM (pl (mcell m t 0))) (.leaf (.memo (.u (.c (.li .i64 1))) m)) (.br (nzp t) (.br (nzp t) (.br (okL m t 0 [(.raw (.map (.none)))]) (.req ((Go.Maps.Keyed Try.prog 29) ∧ ((okM Try.prog 29 m (pl (mcell m t 0))) ∧ ((okKey Try.prog 29 (.agg (.mk [(.int .i64 hs), (.int .u64 hg)]))) ∧ (((okU (.c .nilp) (lkZ m (pl (mcell m t 0)) (.agg (.mk [(.int .i64 hs), (.int .u64 hg)])) (.pointer (.none)))) : Bool) = true)))) (.br (cmpOK m (vP (lkZ m (pl (mcell m t 0)) (.agg (.mk [(.int .i64 hs), (.int .u64 hg)])) (.pointer (.none)))) 0) (.br (bNot (peq (vP (lkZ m (pl (mcell m t 0)) (.agg (.mk [(.int .i64 hs), (.int .u64 hg)])) (.pointer (.none)))) 0)) (.leaf (.memo (.u (.c (.li .i64 7))) m)) (.any (newQ m (.mk [(.int .i64 hs), (.int .u64 hg), (.pointer (.none)), (.pointer (.none))]) 142) (fun y0 => (.br (nzp t) (.br (nzp t) (.br (okL y0.4 t 0 [(.raw (.map (.none)))]) (.req ((Go.Maps.Keyed Try.prog 29) ∧ ((okM Try.prog 29 y0.4 (pl (mcell y0.4 t 0))) ∧ ((((isNilM (pl (mcell y0.4 t 0))) : Bool) = false) ∧ (okKey Try.prog 29 (.agg (.mk [(.int .i64 hs), (.int .u64 hg)])))))) (.letm (mput y0.4 (pl (mcell y0.4 t 0)) (.agg (.mk [(.int .i64 hs), (.int .u64 hg)])) (pv (pI y0.1) 0)) (fun m1 => (.br (nzp t) (.br (nzp t) (.br (okL m1 t 1 [.nilp]) (.br (cmpOK m1 (gP m1 t 1) 0) (.br (peq (gP m1 t 1) 0) (.br (nzp t) (.br (nzp t) (.br (okS m1 t 1 1) (.letm (wrL m1 t 1 [(pv (pI y0.1) 0)]) (fun m2 => (.br (nzp t) (.br (nzp t) (.br (okS m2 t 2 1) (.letm (wrL m2 t 2 [(pv (pI y0.1) 0)]) (fun m3 => (.leaf (.memo (.u (.c (.li .i64 0))) m3)))) (.no 72)) (.no 76)) (.no 75)))) (.no 72)) (.no 76)) (.no 75)) (.br o (.br (nzp t) (.br (nzp t) (.req (memL t [t]) (.br (okL m1 t 1 [.nilp]) (.br (nzp t) (.br (nzp t) (.req (memL t [t]) (.br (okL m1 t 1 [.nilp]) (.br (nzp (pI y0.1)) (.br (nzp (pI y0.1)) (.br (okS m1 (pI y0.1) 2 1) (.letm (wrL m1 (pI y0.1) 2 [(pv (gP m1 t 1) 0)]) (fun m2 => (.req ((([(0, ([(.si .i64 hs), (.si .u64 hg)], 29))] : List (Nat × Blk)) = [(0, ([(.si .i64 hs), (.si .u64 hg)], 29))]) ∧ ((([] : List (Nat × MBlk)) = []) ∧ (agreeL [t] m2 m1))) (.br (nzp (gP m1 t 1)) (.br (nzp (gP m1 t 1)) (.br (okS m2 (gP m1 t 1) 3 1) (.letm (wrL m2 (gP m1 t 1) 3 [(pv (pI y0.1) 0)]) (fun m3 => (.req ((([(0, ([(.si .i64 hs), (.si .u64 hg)], 29))] : List (Nat × Blk)) = [(0, ([(.si .i64 hs), (.si .u64 hg)], 29))]) ∧ ((([] : List (Nat × MBlk)) = []) ∧ (agreeL [t] m3 m2))) (.br (nzp t) (.br (nzp t) (.br (okS m3 t 1 1) (.letm (wrL m3 t 1 [(pv (pI y0.1) 0)]) (fun m4 => (.leaf (.memo (.u (.c (.li .i64 0))) m4)))) (.no 72)) (.no 76)) (.no 75))))) (.no 72)) (.no 76)) (.no 75))))) (.no 72)) (.no 76)) (.no 75)) (.no 70))) (.no 76)) (.no 75)) (.no 70))) (.no 76)) (.no 75)) (.br (nzp t) (.br (nzp t) (.req (memL t [t]) (.br (okL m1 t 2 [.nilp]) (.br (nzp t) (.br (nzp t) (.req (memL t [t]) (.br (okL m1 t 2 [.nilp]) (.br (nzp (pI y0.1)) (.br (nzp (pI y0.1)) (.br (okS m1 (pI y0.1) 3 1) (.letm (wrL m1 (pI y0.1) 3 [(pv (gP m1 t 2) 0)]) (fun m2 => (.req ((([(0, ([(.si .i64 hs), (.si .u64 hg)], 29))] : List (Nat × Blk)) = [(0, ([(.si .i64 hs), (.si .u64 hg)], 29))]) ∧ ((([] : List (Nat × MBlk)) = []) ∧ (agreeL [t] m2 m1))) (.br (nzp (gP m1 t 2)) (.br (nzp (gP m1 t 2)) (.br (okS m2 (gP m1 t 2) 2 1) (.letm (wrL m2 (gP m1 t 2) 2 [(pv (pI y0.1) 0)]) (fun m3 => (.req ((([(0, ([(.si .i64 hs), (.si .u64 hg)], 29))] : List (Nat × Blk)) = [(0, ([(.si .i64 hs), (.si .u64 hg)], 29))]) ∧ ((([] : List (Nat × MBlk)) = []) ∧ (agreeL [t] m3 m2))) (.br (nzp t) (.br (nzp t) (.br (okS m3 t 2 1) (.letm (wrL m3 t 2 [(pv (pI y0.1) 0)]) (fun m4 => (.leaf (.memo (.u (.c (.li .i64 0))) m4)))) (.no 72)) (.no 76)) (.no 75))))) (.no 72)) (.no 76)) (.no 75))))) (.no 72)) (.no 76)) (.no 75)) (.no 70))) (.no 76)) (.no 75)) (.no 70))) (.no 76)) (.no 75)))) (.no 78)) (.no 70)) (.no 76)) (.no 75))))) (.no 70)) (.no 76)) (.no 75))))) (.no 78))) (.no 70)) (.no 76)) (.no 75))) (.no 109)) (.no 70)) (.no 76)) (.no 75))) (.no 78))
section
variable {m : Mem} {t q : Nat} {L : LN}
theorem lpush_walk (h : DL m t q L) {s g : Int} (h1 : inI s) (h2 : inU g) (o : Bool) :
    (T_lpush m ((t : Int) + 1) s g o).sat (isMemo fun w x => pushPost m ⟨t, q, L⟩ s g o (yOf w x) ∧ ∀ ρ, w.den ρ = (retI (yOf w x)).den ρ) := by
  unfold T_lpush
  obtain ⟨k1, k2, k3⟩ := hd_okL h.hd
  rw [brT (cmp_zero _ _), brF (pz_p t), brT (nz_p t), brT (nz_p t), brT k1]
  simp only [h.pc]
  rw [brT (by rfl), brF (by rfl), brT (nz_p t), brT (nz_p t), brT k1, sat_req]
  by_cases hx : (s, g) ∈ hsL L
  · obtain ⟨x, hx1, hx2⟩ := List.mem_map.1 hx
    simp only [Prod.mk.injEq] at hx2
    obtain ⟨rfl, rfl⟩ := hx2
    simp only [h.hit hx1, vP_pv (show (0 : Int) ≤ (x.1 : Int) + 1 by omega)]
    refine ⟨⟨keyed29, h.okm, okKey29 h1 h2, by simp [okU, okC, isP_pv]⟩, ?_⟩
    rw [brT (cmp_zero _ _), brT (by rw [pz_p]; rfl)]
    exact ⟨.inl ⟨hx, rfl, rfl⟩, fun ρ => rfl⟩
  simp only [h.miss hx, vP_pv (Int.le_refl 0)]
  refine ⟨⟨keyed29, h.okm, okKey29 h1 h2, isP_pv 0⟩, ?_⟩
  rw [brT (cmp_zero _ _), brF (by rfl), sat_any]
  rintro ⟨yi, yb, yv, ym⟩ ⟨a, hai, ham, hym⟩
  simp only at hai hym
  have e1 : alM m ((a : Int) + 1) (.mk [(.int .i64 s), (.int .u64 g), (.pointer .none), (.pointer .none)]) 142 = alO m a (lkO s g 0 0) := alM_alO m a _ 142
  rw [e1] at hym
  subst hai hym
  obtain ⟨es, k, m1, m2, m3⟩ := h.mp
  have hfr := h.fresh ham
  have hat : a ≠ t := fun e => hfr (.inl e)
  have haq : a ≠ q := fun e => hfr (.inr (.inl e))
  have haL : a ∉ L.map (·.1) := fun e => hfr (.inr (.inr e))
  have htq := h.tq
  have htL := h.t_no
  have hqL := h.q_no
  have h' : DL (alO m a (lkO s g 0 0)) t q L := h.congr fun c hc => alO_ne _ (by rintro rfl; exact hfr hc)
  obtain ⟨j1, j2, j3⟩ := hd_okL h'.hd
  have hq1 : alO m a (lkO s g 0 0) q = some (.map es k) := by rw [alO_ne _ (Ne.symm haq)]; exact m1
  have hpI : pI [(a : Int) + 1] = (a : Int) + 1 := rfl
  simp only [hpI]
  rw [brT (nz_p t), brT (nz_p t), brT j1]
  simp only [h'.pc]
  rw [sat_req]
  refine ⟨⟨keyed29, h'.okm, rfl, okKey29 h1 h2⟩, ?_⟩
  rw [sat_letm, mput_at hq1 (m2.miss (h.missN hx))]
  generalize hM2 : alO (alO m a (lkO s g 0 0)) q (.map (es.push ⟨hKey s g, pv ((a : Int) + 1) 0, k⟩) (k + 1)) = M2
  have o2 : ∀ c, c ≠ a → c ≠ q → M2 c = m c := fun c c1 c2 => by rw [← hM2, alO_ne _ c2, alO_ne _ c1]
  have a2 : M2 a = some (lkO s g 0 0) := by rw [← hM2, alO_ne _ haq, alO_self]
  have q2 : M2 q = some (.map (es.push ⟨hKey s g, pv ((a : Int) + 1) 0, k⟩) (k + 1)) := by rw [← hM2, alO_self]
  have t2 : M2 t = some (hdO q (hdA L 0) (laA 0 L)) := by rw [o2 t (Ne.symm hat) htq]; exact h.hd
  have L2 : ∀ c ∈ L.map (·.1), M2 c = m c := fun c hc => o2 c (by rintro rfl; exact haL hc) (by rintro rfl; exact hqL hc)
  have hen := ents_new (k := k) (a := a) m2 (h.missN hx) h1 h2
  have hsz : (es.push ⟨hKey s g, pv ((a : Int) + 1) 0, k⟩).size = L.length + 1 := by rw [Array.size_push, m3]
  obtain ⟨j1, j2, j3⟩ := hd_okL t2
  obtain ⟨j4, j5⟩ := hd_okS t2
  obtain ⟨g1, g2⟩ := hd_gP t2 (hdA_nn (Int.le_refl 0)) (laA_nn (Int.le_refl 0))
  rw [brT (nz_p t), brT (nz_p t), brT j2, brT (cmp_zero _ _), g1]
  cases hL : L with
  | nil =>
    subst hL
    rw [brT (by rfl), brT (nz_p t), brT (nz_p t), brT j4, sat_letm, (hd_wr t2 _).1]
    have t3 : alO M2 t (hdO q ((a : Int) + 1) (laA 0 [])) t = some (hdO q ((a : Int) + 1) (laA 0 [])) := alO_self _ _ _
    rw [brT (nz_p t), brT (nz_p t), brT (hd_okS t3).2, sat_letm, (hd_wr t3 _).2]
    refine ⟨.inr ⟨hx, rfl, a, ham, ?_, fun c hc hd => ?_⟩, fun ρ => rfl⟩
    · have key : DL (alO (alO M2 t (hdO q ((a : Int) + 1) (laA 0 []))) t (hdO q ((a : Int) + 1) ((a : Int) + 1))) t q [(a, s, g)] :=
        ⟨alO_self _ _ _, ⟨_, _, by rw [alO_ne _ (Ne.symm htq), alO_ne _ (Ne.symm htq)]; exact q2, hen, hsz⟩, ⟨by rw [alO_ne _ hat, alO_ne _ hat]; exact a2, trivial⟩, by simp⟩
      cases o <;> exact key
    · have c1 : c ≠ t := fun e => hd (.inl e)
      have c2 : c ≠ q := fun e => hd (.inr (.inl e))
      have c3 : c ≠ a := by rintro rfl; exact hc ham
      show alO _ _ _ c = _
      rw [alO_ne _ c1, alO_ne _ c1, o2 c c3 c2]
  | cons y B =>
    rw [← hL]
    have hfst : hdA L 0 = (y.1 : Int) + 1 := by rw [hL]; rfl
    have hyL : y.1 ∈ L.map (·.1) := by rw [hL]; simp
    rw [hfst, brF (pz_p _)]
    cases o with
    | true =>
      have hy2 : M2 y.1 = some (lkO y.2.1 y.2.2 (hdA B 0) 0) := by
        rw [L2 _ hyL]
        have := h.ch; rw [hL] at this; exact this.1
      have hya : y.1 ≠ a := fun e => haL (e ▸ hyL)
      have hyt : y.1 ≠ t := fun e => htL (e ▸ hyL)
      have hyq : y.1 ≠ q := fun e => hqL (e ▸ hyL)
      rw [sat_brT, brT (nz_p t), brT (nz_p t), sat_req]
      refine ⟨by simp [memL], ?_⟩
      rw [brT j2, brT (nz_p t), brT (nz_p t), sat_req]
      refine ⟨by simp [memL], ?_⟩
      rw [brT j2, brT (nz_p a), brT (nz_p a), brT (nd_okS a2).1, sat_letm, (nd_wr a2 _).1, sat_req]
      refine ⟨⟨trivial, trivial, fun c hc => alO_ne _ ?_⟩, ?_⟩
      · simp only [List.mem_singleton] at hc; omega
      generalize hM3 : alO M2 a (lkO s g ((y.1 : Int) + 1) 0) = M3
      have y3 : M3 y.1 = some (lkO y.2.1 y.2.2 (hdA B 0) 0) := by rw [← hM3, alO_ne _ hya]; exact hy2
      have t3 : M3 t = some (hdO q (hdA L 0) (laA 0 L)) := by rw [← hM3, alO_ne _ (Ne.symm hat)]; exact t2
      rw [brT (nz_p _), brT (nz_p _), brT (nd_okS y3).2, sat_letm, (nd_wr y3 _).2, sat_req]
      refine ⟨⟨trivial, trivial, fun c hc => alO_ne _ ?_⟩, ?_⟩
      · simp only [List.mem_singleton] at hc; omega
      generalize hM4 : alO M3 y.1 (lkO y.2.1 y.2.2 (hdA B 0) ((a : Int) + 1)) = M4
      have t4 : M4 t = some (hdO q (hdA L 0) (laA 0 L)) := by rw [← hM4, alO_ne _ (Ne.symm hyt)]; exact t3
      rw [brT (nz_p t), brT (nz_p t), brT (hd_okS t4).1, sat_letm, (hd_wr t4 _).1]
      have o5 : ∀ c, c ≠ t → c ≠ y.1 → c ≠ a → c ≠ q → alO M4 t (hdO q ((a : Int) + 1) (laA 0 L)) c = m c := fun c c1 c2 c3 c4 => by rw [alO_ne _ c1, ← hM4, alO_ne _ c2, ← hM3, alO_ne _ c3, o2 c c3 c4]
      refine ⟨.inr ⟨hx, rfl, a, ham, ⟨?_, ⟨_, k + 1, ?_, hen, hsz⟩, ?_, ?_⟩, fun c hc hd => ?_⟩, fun ρ => rfl⟩
      · show alO _ _ _ t = _
        rw [alO_self, hL]; rfl
      · show alO _ _ _ q = _
        rw [alO_ne _ (Ne.symm htq), ← hM4, alO_ne _ (Ne.symm hyq), ← hM3, alO_ne _ (Ne.symm haq)]; exact q2
      · have hnd := h.nd
        rw [hL] at hnd ⊢
        simp only [List.map_cons, List.nodup_cons] at hnd
        have hch := h.ch
        rw [hL] at hch
        refine ⟨?_, ?_, Ch_congr (fun c hc => ?_) hch.2⟩
        · show alO _ _ _ a = _
          rw [alO_ne _ hat, ← hM4, alO_ne _ (Ne.symm hya), ← hM3, alO_self]; rfl
        · show alO _ _ _ y.1 = _
          rw [alO_ne _ hyt, ← hM4, alO_self]
        · have hcL : c ∈ L.map (·.1) := by rw [hL]; simp only [List.map_cons, List.mem_cons]; exact .inr hc
          have := o5 c (fun e => htL (e ▸ hcL)) (fun e => hnd.1 (e ▸ hc)) (fun e => haL (e ▸ hcL)) (fun e => hqL (e ▸ hcL))
          rw [hL] at this; exact this
      · simp only [List.map_cons, List.nodup_cons]
        exact ⟨haL, h.nd⟩
      · exact o5 c (fun e => hd (.inl e)) (fun e => hd (.inr (.inr (e ▸ hyL)))) (by rintro rfl; exact hc ham) (fun e => hd (.inr (.inl e)))
    | false =>
      obtain ⟨A, z, hAz⟩ : ∃ A z, L = A ++ [z] := by
        rcases List.eq_nil_or_concat L with e | ⟨A, z, e⟩
        · rw [e] at hL; cases hL
        · exact ⟨A, z, by rw [e, List.concat_eq_append]⟩
      have hlast : laA 0 L = (z.1 : Int) + 1 := by rw [hAz, laA_snoc]
      have hzL : z.1 ∈ L.map (·.1) := by rw [hAz]; simp
      have hch := h.ch
      rw [hAz, Ch_app] at hch
      have hz2 : M2 z.1 = some (lkO z.2.1 z.2.2 0 (laA 0 A)) := by rw [L2 _ hzL]; exact hch.2.1
      have hza : z.1 ≠ a := fun e => haL (e ▸ hzL)
      have hzt : z.1 ≠ t := fun e => htL (e ▸ hzL)
      have hzq : z.1 ≠ q := fun e => hqL (e ▸ hzL)
      rw [sat_brF, brT (nz_p t), brT (nz_p t), sat_req]
      refine ⟨by simp [memL], ?_⟩
      rw [brT j3, brT (nz_p t), brT (nz_p t), sat_req]
      refine ⟨by simp [memL], ?_⟩
      rw [brT j3, brT (nz_p a), brT (nz_p a), brT (nd_okS a2).2, sat_letm, g2, hlast, (nd_wr a2 _).2, sat_req]
      refine ⟨⟨trivial, trivial, fun c hc => alO_ne _ ?_⟩, ?_⟩
      · simp only [List.mem_singleton] at hc; omega
      generalize hM3 : alO M2 a (lkO s g 0 ((z.1 : Int) + 1)) = M3
      have z3 : M3 z.1 = some (lkO z.2.1 z.2.2 0 (laA 0 A)) := by rw [← hM3, alO_ne _ hza]; exact hz2
      have t3 : M3 t = some (hdO q (hdA L 0) (laA 0 L)) := by rw [← hM3, alO_ne _ (Ne.symm hat)]; exact t2
      rw [brT (nz_p _), brT (nz_p _), brT (nd_okS z3).1, sat_letm, (nd_wr z3 _).1, sat_req]
      refine ⟨⟨trivial, trivial, fun c hc => alO_ne _ ?_⟩, ?_⟩
      · simp only [List.mem_singleton] at hc; omega
      generalize hM4 : alO M3 z.1 (lkO z.2.1 z.2.2 ((a : Int) + 1) (laA 0 A)) = M4
      have t4 : M4 t = some (hdO q (hdA L 0) (laA 0 L)) := by rw [← hM4, alO_ne _ (Ne.symm hzt)]; exact t3
      rw [brT (nz_p t), brT (nz_p t), brT (hd_okS t4).2, sat_letm, (hd_wr t4 _).2]
      have o5 : ∀ c, c ≠ t → c ≠ z.1 → c ≠ a → c ≠ q → alO M4 t (hdO q (hdA L 0) ((a : Int) + 1)) c = m c := fun c c1 c2 c3 c4 => by rw [alO_ne _ c1, ← hM4, alO_ne _ c2, ← hM3, alO_ne _ c3, o2 c c3 c4]
      refine ⟨.inr ⟨hx, rfl, a, ham, ⟨?_, ⟨_, k + 1, ?_, hen.congr (nds_snoc _), ?_⟩, ?_, ?_⟩, fun c hc hd => ?_⟩, fun ρ => rfl⟩
      · show alO _ _ _ t = _
        rw [alO_self, laA_snoc, hdA_app, hL]; rfl
      · show alO _ _ _ q = _
        rw [alO_ne _ (Ne.symm htq), ← hM4, alO_ne _ (Ne.symm hzq), ← hM3, alO_ne _ (Ne.symm haq)]; exact q2
      · rw [hsz]; simp
      · show Ch _ 0 (L ++ [(a, s, g)]) 0
        have hnd := h.nd
        rw [hAz, List.map_append, List.nodup_append] at hnd
        rw [Ch_app, hlast]
        refine ⟨?_, ?_, trivial⟩
        · rw [hAz, Ch_app]
          refine ⟨Ch_congr (fun c hc => ?_) hch.1, ?_, trivial⟩
          · have hcL : c ∈ L.map (·.1) := by rw [hAz, List.map_append]; exact List.mem_append_left _ hc
            have := o5 c (fun e => htL (e ▸ hcL)) (fun e => hnd.2.2 c hc z.1 (by simp) e) (fun e => haL (e ▸ hcL)) (fun e => hqL (e ▸ hcL))
            rw [hAz] at this; exact this
          · show alO _ _ _ z.1 = _
            rw [alO_ne _ hzt, ← hM4, alO_self]; rfl
        · show alO _ _ _ a = _
          rw [alO_ne _ hat, ← hM4, alO_ne _ (Ne.symm hza), ← hM3, alO_self]; rfl
      · rw [List.map_append, List.nodup_append]
        refine ⟨h.nd, by simp, fun c hc d hd => ?_⟩
        simp only [List.map_cons, List.map_nil, List.mem_singleton] at hd
        subst hd
        rintro rfl
        exact haL hc
      · exact o5 c (fun e => hd (.inl e)) (fun e => hd (.inr (.inr (e ▸ hzL)))) (by rintro rfl; exact hc ham) (fun e => hd (.inr (.inl e)))
end
def lpushP (m : Mem) (t hs hg : Int) (o : Bool) : Prop := ∃ G : DG, G.is m t ∧ inI hs ∧ inU hg
def lpushQ (m : Mem) (t hs hg : Int) (o : Bool) (y : Vars) : Prop := ∀ G : DG, (G.is m t ∧ inI hs ∧ inU hg) → pushPost m G hs hg o y
def s_lpush : Sum := memSum 60 fun m a => match a with | [a0, a1, a2] => (match ptrOf a0, hanOf a1, booOf a2 with | some t, some (hs, hg), some o => some ⟨lpushP m t hs hg o, lpushQ m t hs hg o, fun y => .u (.c (.si .i64 (hdI y.i)))⟩ | _, _, _ => none) | _ => none
theorem t_lpush (m : Mem) (t : Int) (hs hg : Int) (o : Bool) : runm Try.prog [] (drawv Try.prog [] (fun _ _ => none) (fun σ => match Go.Proofs.Ytnlohongffpkpaa.Sx.look σ.tm 0 with | .u (.c (.np p 0)) => [p] | _ => [])) 300 60 [.u (.c (.np t 0)), .u (.agg [.si .i64 hs, .si .u64 hg]), .u (.c (.sb o))] m [142, 140, 137] = T_lpush m t hs hg o := by kernel_rfl
theorem s_lpush_ok : SumOK Try.prog s_lpush := by
  refine memSum_ok ⟨_, Try.func60, by kernel_rfl⟩ fun m args ms h hp hw ρ w hm => ?_
  split at h
  · split at h
    · rename_i a0 a1 a2 _ _ _ t hs hg o h0 h1 h2
      cases h
      refine mm_ghost nameOK okn (drawv_sound nameOK okn (by kernel_rfl) _ _) 300 _ m _ (t_lpush m t hs hg o) hp (fun G hG => ?_) ρ w hm (by simp only [List.map_cons, List.map_nil, ptrOf_den h0, hanOf_den h1, booOf_den h2])
      obtain ⟨⟨rfl, g1⟩, g2, g3⟩ := hG
      refine sat_mono (fun l hl => ?_) (lpush_walk g1 g2 g3 o)
      cases l with
      | memo v x => exact ⟨hl.1, yOf_m _ _, hl.2⟩
      | _ => exact hl.elim
    · cases h
  · cases h
end Go.Proofs.Ytnlohongffpkpaa.T16
end

section
/- Layer 15: a list's calls: what stands at an end; one is taken out; a new one. A text of the session's own. -/
namespace Go.Proofs.Ytnlohongffpkpaa.T16
open Go Go.RowKit Go.Proofs.Ytnlohongffpkpaa.Sx Go.Proofs
set_option linter.unusedVariables false
set_option linter.unusedSimpArgs false

def endH (hs : List (Int × Int)) (front : Bool) : Option (Int × Int) := match front with | true => hs.head? | false => hs.getLast?
def peekPost (hs : List (Int × Int)) (o : Bool) (y : Vars) : Prop :=
  (∃ x, endH hs o = some x ∧ y.i = [x.1, x.2] ∧ y.b = [true]) ∨ (endH hs o = none ∧ y.i = [0, 0] ∧ y.b = [false])
def endP (L : LN) : Bool → Int
  | true => hdA L 0
  | false => laA 0 L
def T_lpeek (m : Mem) (t : Int) (o : Bool) : Tr := (.req (lendOK m t o) (.br (cmpOK m (lendV m t o) 0) (.br (peq (lendV m t o) 0) (.leaf (.memo (.tup [(.agg [(.li .i64 0), (.li .u64 0)]), (.c (.lb false))]) m)) (.br (nzp (lendV m t o)) (.br (nzp (lendV m t o)) (.br (okL m (lendV m t o) 0 [(.li .i64 0), (.li .u64 0)]) (.leaf (.memo (.tup [(.agg [(.si .i64 (gI m (lendV m t o) 0)), (.si .u64 (gI m (lendV m t o) 1))]), (.c (.lb true))]) m)) (.no 70)) (.no 76)) (.no 75))) (.no 78)))
theorem lpeek_walk {m : Mem} {t q : Nat} {L : LN} (h : DL m t q L) (o : Bool) :
    (T_lpeek m ((t : Int) + 1) o).sat (isMemo fun w x => peekPost (hsL L) o (yOf w x) ∧ x = m ∧ ∀ ρ, w.den ρ = (retHB (yOf w x)).den ρ) := by
  unfold T_lpeek
  obtain ⟨l1, l2'⟩ := lend_spec h o
  have l2 : lendV m ((t : Int) + 1) o = endP L o := by rw [l2']; cases o <;> rfl
  clear l2'
  rw [sat_req, l2]
  refine ⟨l1, ?_⟩
  rw [brT (cmp_zero _ _)]
  have key : ∀ x ∈ L, endH (hsL L) o = some (x.2.1, x.2.2) → (endP L o) = (x.1 : Int) + 1 →
      (Tr.br (peq (endP L o) 0) (.leaf (.memo (.tup [(.agg [(.li .i64 0), (.li .u64 0)]), (.c (.lb false))]) m)) (.br (nzp (endP L o)) (.br (nzp (endP L o)) (.br (okL m (endP L o) 0 [(.li .i64 0), (.li .u64 0)]) (.leaf (.memo (.tup [(.agg [(.si .i64 (gI m (endP L o) 0)), (.si .u64 (gI m (endP L o) 1))]), (.c (.lb true))]) m)) (.no 70)) (.no 76)) (.no 75))).sat (isMemo fun w x => peekPost (hsL L) o (yOf w x) ∧ x = m ∧ ∀ ρ, w.den ρ = (retHB (yOf w x)).den ρ) := by
    intro x hx he hp
    rw [hp]
    obtain ⟨A, B, rfl⟩ := List.append_of_mem hx
    have hn := h.ch.at'
    obtain ⟨g1, g2, g3, g4⟩ := nd_gP hn (hdA_nn (Int.le_refl 0)) (laA_nn (Int.le_refl 0))
    rw [brF (pz_p _), brT (nz_p _), brT (nz_p _), brT (nd_okL hn).2.2, g3, g4]
    exact ⟨.inl ⟨_, he, rfl, rfl⟩, rfl, fun ρ => rfl⟩
  cases hL : L with
  | nil =>
    subst hL
    cases o
    · rw [brT (by rfl)]
      exact ⟨.inr ⟨rfl, rfl, rfl⟩, rfl, fun ρ => rfl⟩
    · rw [brT (by rfl)]
      exact ⟨.inr ⟨rfl, rfl, rfl⟩, rfl, fun ρ => rfl⟩
  | cons y B =>
    rw [← hL]
    cases o with
    | true => exact key y (by rw [hL]; simp) (by rw [hL]; rfl) (by rw [hL]; rfl)
    | false =>
      obtain ⟨A, z, hAz⟩ : ∃ A z, L = A ++ [z] := by
        rcases List.eq_nil_or_concat L with e | ⟨A, z, e⟩
        · rw [e] at hL; cases hL
        · exact ⟨A, z, by rw [e, List.concat_eq_append]⟩
      exact key z (by rw [hAz]; simp) (by rw [hAz]; simp [endH, hsL]) (by rw [hAz]; exact laA_snoc _ _ _)
/-- a list, or none -/
def DG.isN (m : Mem) (p : Int) : Option DG → Prop
  | none => p = 0
  | some G => G.is m p
def DG.hs : Option DG → List (Int × Int)
  | none => []
  | some G => hsL G.L
theorem lpeek_walk0 (m : Mem) (o : Bool) :
    (T_lpeek m 0 o).sat (isMemo fun w x => peekPost [] o (yOf w x) ∧ x = m ∧ ∀ ρ, w.den ρ = (retHB (yOf w x)).den ρ) := by
  unfold T_lpeek
  have h0 : lendOK m 0 o ∧ lendV m 0 o = 0 := by
    simp [lendOK, lendV, T_lend, okP, outV, cmp_zero, peq_zero, vPtr, ptrOf]
  rw [sat_req, h0.2]
  refine ⟨h0.1, ?_⟩
  rw [brT (cmp_zero _ _), brT (by rfl)]
  exact ⟨.inr ⟨by cases o <;> rfl, rfl, rfl⟩, rfl, fun ρ => rfl⟩
def lpeekP (m : Mem) (t : Int) (o : Bool) : Prop := ∃ G : Option DG, DG.isN m t G
def lpeekQ (m : Mem) (t : Int) (o : Bool) (y : Vars) : Prop := ∀ G : Option DG, DG.isN m t G → peekPost (DG.hs G) o y ∧ y.m = m
def s_lpeek : Sum := memSum 75 fun m a => match a with | [a0, a1] => (match ptrOf a0, booOf a1 with | some t, some o => some ⟨lpeekP m t o, lpeekQ m t o, fun y => .tup [.agg [.si .i64 (hdI y.i), .si .u64 (hdI (tlI y.i))], .c (.sb (hdB y.b))]⟩ | _, _ => none) | _ => none
theorem t_lpeek (m : Mem) (t : Int) (o : Bool) : runm Try.prog [s_lend] (drawx Try.prog [s_lend]) 300 75 [.u (.c (.np t 0)), .u (.c (.sb o))] m [142, 140, 137] = T_lpeek m t o := by kernel_rfl
theorem s_lpeek_ok : SumOK Try.prog s_lpeek := by
  refine memSum_ok ⟨_, Try.func75, by kernel_rfl⟩ fun m args ms h hp hw ρ w hm => ?_
  split at h
  · split at h
    · rename_i a0 a1 _ _ t o h0 h1
      cases h
      refine mm_ghost nameOK (okc s_lend_ok okn) (dOK (okc s_lend_ok okn)) 300 _ m _ (t_lpeek m t o) hp (fun G hG => ?_) ρ w hm (by simp only [List.map_cons, List.map_nil, ptrOf_den h0, booOf_den h1])
      have key : (T_lpeek m t o).sat (isMemo fun w x => peekPost (DG.hs G) o (yOf w x) ∧ x = m ∧ ∀ ρ, w.den ρ = (retHB (yOf w x)).den ρ) := by
        cases G with
        | none => cases hG; exact lpeek_walk0 m o
        | some G => obtain ⟨rfl, g1⟩ := hG; exact lpeek_walk g1 o
      refine sat_mono (fun l hl => ?_) key
      cases l with
      | memo v x => exact ⟨⟨hl.1, (yOf_m _ _).trans hl.2.1⟩, yOf_m _ _, hl.2.2⟩
      | _ => exact hl.elim
    · cases h
  · cases h
/-! one is taken out -/
theorem efind_lt {k : Value} : ∀ {es : List MapEntry} {i0 j : Nat} {v : Value}, efind k es i0 = some (j, v) → i0 ≤ j ∧ j < i0 + es.length
  | [], _, _, _, h => by cases h
  | e :: r, i0, j, v, h => by
    simp only [efind] at h
    split at h
    · cases h; simp
    · have := efind_lt h; simp only [List.length_cons]; omega
theorem nds_erase {A B : LN} {x : Nat × Int × Int} : (nds (A ++ x :: B)).eraseIdx A.length = nds (A ++ B) := by
  unfold nds
  rw [List.map_append, List.map_append, List.map_cons, List.eraseIdx_append_of_length_le (by simp)]
  simp
def lremPost (m : Mem) (G : DG) (s g : Int) (y : Vars) : Prop :=
  ((s, g) ∉ hsL G.L ∧ y.b = [false] ∧ y.m = m) ∨
  (∃ A x B, G.L = A ++ x :: B ∧ x.2.1 = s ∧ x.2.2 = g ∧ y.b = [true] ∧ DL y.m G.t G.q (A ++ B) ∧ keepD G.t G.q G.L m y.m)
def T_lrem2 (m2 : Mem) (t x : Int) : Tr := (.br (nzp x) (.br (nzp x) (.br (okL m2 x 2 [.nilp]) (.br (cmpOK m2 (gP m2 x 2) 0) (.br (peq (gP m2 x 2) 0) (.br (nzp x) (.br (nzp x) (.br (okL m2 x 3 [.nilp]) (.br (nzp t) (.br (nzp t) (.br (okS m2 t 2 1) (.letm (wrL m2 t 2 [(pv (gP m2 x 3) 0)]) (fun m3 => (.leaf (.memo (.u (.c (.lb true))) m3)))) (.no 72)) (.no 76)) (.no 75)) (.no 70)) (.no 76)) (.no 75)) (.br (nzp x) (.br (nzp x) (.br (okL m2 x 2 [.nilp]) (.br (nzp x) (.br (nzp x) (.br (okL m2 x 3 [.nilp]) (.br (nzp (gP m2 x 2)) (.br (nzp (gP m2 x 2)) (.br (okS m2 (gP m2 x 2) 3 1) (.letm (wrL m2 (gP m2 x 2) 3 [(pv (gP m2 x 3) 0)]) (fun m3 => (.leaf (.memo (.u (.c (.lb true))) m3)))) (.no 72)) (.no 76)) (.no 75)) (.no 70)) (.no 76)) (.no 75)) (.no 70)) (.no 76)) (.no 75))) (.no 78)) (.no 70)) (.no 76)) (.no 75))
def T_lremove (m : Mem) (t : Int) (hs hg : Int) : Tr := (.req (lhasOK m t hs hg) (.br (bNot (lhasV m t hs hg)) (.leaf (.memo (.u (.c (.lb false))) m)) (.br (nzp t) (.br (nzp t) (.br (okL m t 0 [(.raw (.map (.none)))]) (.req ((Go.Maps.Keyed Try.prog 29) ∧ ((okM Try.prog 29 m (pl (mcell m t 0))) ∧ ((okKey Try.prog 29 (.agg (.mk [(.int .i64 hs), (.int .u64 hg)]))) ∧ (((okU (.c .nilp) (lkZ m (pl (mcell m t 0)) (.agg (.mk [(.int .i64 hs), (.int .u64 hg)])) (.pointer (.none)))) : Bool) = true)))) (.br (nzp t) (.br (nzp t) (.br (okL m t 0 [(.raw (.map (.none)))]) (.req ((Go.Maps.Keyed Try.prog 29) ∧ ((okM Try.prog 29 m (pl (mcell m t 0))) ∧ (okKey Try.prog 29 (.agg (.mk [(.int .i64 hs), (.int .u64 hg)]))))) (.letm (mdel m (pl (mcell m t 0)) (.agg (.mk [(.int .i64 hs), (.int .u64 hg)]))) (fun m1 => (.br (nzp (vP (lkZ m (pl (mcell m t 0)) (.agg (.mk [(.int .i64 hs), (.int .u64 hg)])) (.pointer (.none))))) (.br (nzp (vP (lkZ m (pl (mcell m t 0)) (.agg (.mk [(.int .i64 hs), (.int .u64 hg)])) (.pointer (.none))))) (.br (okL m1 (vP (lkZ m (pl (mcell m t 0)) (.agg (.mk [(.int .i64 hs), (.int .u64 hg)])) (.pointer (.none)))) 3 [.nilp]) (.br (cmpOK m1 (gP m1 (vP (lkZ m (pl (mcell m t 0)) (.agg (.mk [(.int .i64 hs), (.int .u64 hg)])) (.pointer (.none)))) 3) 0) (.br (peq (gP m1 (vP (lkZ m (pl (mcell m t 0)) (.agg (.mk [(.int .i64 hs), (.int .u64 hg)])) (.pointer (.none)))) 3) 0) (.br (nzp (vP (lkZ m (pl (mcell m t 0)) (.agg (.mk [(.int .i64 hs), (.int .u64 hg)])) (.pointer (.none))))) (.br (nzp (vP (lkZ m (pl (mcell m t 0)) (.agg (.mk [(.int .i64 hs), (.int .u64 hg)])) (.pointer (.none))))) (.br (okL m1 (vP (lkZ m (pl (mcell m t 0)) (.agg (.mk [(.int .i64 hs), (.int .u64 hg)])) (.pointer (.none)))) 2 [.nilp]) (.br (nzp t) (.br (nzp t) (.br (okS m1 t 1 1) (.letm (wrL m1 t 1 [(pv (gP m1 (vP (lkZ m (pl (mcell m t 0)) (.agg (.mk [(.int .i64 hs), (.int .u64 hg)])) (.pointer (.none)))) 2) 0)]) (fun m2 => (T_lrem2 m2 t (vP (lkZ m (pl (mcell m t 0)) (.agg (.mk [(.int .i64 hs), (.int .u64 hg)])) (.pointer (.none))))))) (.no 72)) (.no 76)) (.no 75)) (.no 70)) (.no 76)) (.no 75)) (.br (nzp (vP (lkZ m (pl (mcell m t 0)) (.agg (.mk [(.int .i64 hs), (.int .u64 hg)])) (.pointer (.none))))) (.br (nzp (vP (lkZ m (pl (mcell m t 0)) (.agg (.mk [(.int .i64 hs), (.int .u64 hg)])) (.pointer (.none))))) (.br (okL m1 (vP (lkZ m (pl (mcell m t 0)) (.agg (.mk [(.int .i64 hs), (.int .u64 hg)])) (.pointer (.none)))) 3 [.nilp]) (.br (nzp (vP (lkZ m (pl (mcell m t 0)) (.agg (.mk [(.int .i64 hs), (.int .u64 hg)])) (.pointer (.none))))) (.br (nzp (vP (lkZ m (pl (mcell m t 0)) (.agg (.mk [(.int .i64 hs), (.int .u64 hg)])) (.pointer (.none))))) (.br (okL m1 (vP (lkZ m (pl (mcell m t 0)) (.agg (.mk [(.int .i64 hs), (.int .u64 hg)])) (.pointer (.none)))) 2 [.nilp]) (.br (nzp (gP m1 (vP (lkZ m (pl (mcell m t 0)) (.agg (.mk [(.int .i64 hs), (.int .u64 hg)])) (.pointer (.none)))) 3)) (.br (nzp (gP m1 (vP (lkZ m (pl (mcell m t 0)) (.agg (.mk [(.int .i64 hs), (.int .u64 hg)])) (.pointer (.none)))) 3)) (.br (okS m1 (gP m1 (vP (lkZ m (pl (mcell m t 0)) (.agg (.mk [(.int .i64 hs), (.int .u64 hg)])) (.pointer (.none)))) 3) 2 1) (.letm (wrL m1 (gP m1 (vP (lkZ m (pl (mcell m t 0)) (.agg (.mk [(.int .i64 hs), (.int .u64 hg)])) (.pointer (.none)))) 3) 2 [(pv (gP m1 (vP (lkZ m (pl (mcell m t 0)) (.agg (.mk [(.int .i64 hs), (.int .u64 hg)])) (.pointer (.none)))) 2) 0)]) (fun m2 => (T_lrem2 m2 t (vP (lkZ m (pl (mcell m t 0)) (.agg (.mk [(.int .i64 hs), (.int .u64 hg)])) (.pointer (.none))))))) (.no 72)) (.no 76)) (.no 75)) (.no 70)) (.no 76)) (.no 75)) (.no 70)) (.no 76)) (.no 75))) (.no 78)) (.no 70)) (.no 76)) (.no 75))))) (.no 70)) (.no 76)) (.no 75))) (.no 70)) (.no 76)) (.no 75))))
/-- the second half -/
theorem lrem2_walk {m m2 : Mem} {t q : Nat} {A B : LN} {x : Nat × Int × Int} {es : Array MapEntry} {k : Nat} (hq : m2 q = some (.map es k)) (he : Ents es.toList (nds (A ++ B))) (hsz : es.size = (A ++ B).length)
    (ht : m2 t = some (hdO q (hdA (A ++ B) 0) (laA 0 (A ++ x :: B)))) (hA : Ch m2 0 A (hdA B 0)) (hx : m2 x.1 = some (lkO x.2.1 x.2.2 (hdA B 0) (laA 0 A))) (hB : Ch m2 ((x.1 : Int) + 1) B 0)
    (hnd : ((A ++ x :: B).map (·.1)).Nodup) (htq : t ≠ q) (htL : t ∉ (A ++ x :: B).map (·.1)) (hqL : q ∉ (A ++ x :: B).map (·.1)) (hf : ∀ c, m c ≠ none → ¬ dlD t q (A ++ x :: B) c → m2 c = m c) :
    (T_lrem2 m2 ((t : Int) + 1) ((x.1 : Int) + 1)).sat (isMemo fun w y => w = .u (.c (.lb true)) ∧ DL y t q (A ++ B) ∧ keepD t q (A ++ x :: B) m y) := by
  unfold T_lrem2
  have hnd2 : ((A ++ B).map (·.1)).Nodup := by
    refine hnd.sublist ?_
    rw [List.map_append, List.map_append]
    exact List.Sublist.append (List.Sublist.refl _) (by simp)
  obtain ⟨j1, j2, j3⟩ := nd_okL hx
  obtain ⟨g1, g2, _⟩ := nd_gP hx (hdA_nn (Int.le_refl 0)) (laA_nn (Int.le_refl 0))
  rw [brT (nz_p _), brT (nz_p _), brT j1, brT (cmp_zero _ _), g1, g2]
  cases B with
  | nil =>
    have hl : laA 0 (A ++ x :: []) = (x.1 : Int) + 1 := laA_snoc A x 0
    rw [brT (by rfl), brT (nz_p _), brT (nz_p _), brT j2, brT (nz_p _), brT (nz_p _), brT (hd_okS ht).2, sat_letm, (hd_wr ht _).2]
    refine ⟨rfl, ⟨?_, ⟨es, k, ?_, he, hsz⟩, ?_, hnd2⟩, fun c hc hd => ?_⟩
    · rw [alO_self, List.append_nil]
    · rw [alO_ne _ (Ne.symm htq)]; exact hq
    · rw [List.append_nil]
      exact Ch_congr (fun c hc => alO_ne _ (by rintro rfl; exact htL (by rw [List.map_append]; exact List.mem_append_left _ hc))) hA
    · rw [alO_ne _ (fun e => hd (.inl e))]; exact hf c hc hd
  | cons z B =>
    have hzL : z.1 ∈ (A ++ x :: z :: B).map (·.1) := by simp
    have hz := hB.1
    have hzt : z.1 ≠ t := fun e => htL (e ▸ hzL)
    have hzq : z.1 ≠ q := fun e => hqL (e ▸ hzL)
    have hp : hdA (z :: B) 0 = (z.1 : Int) + 1 := rfl
    rw [hp, brF (pz_p _), brT (nz_p _), brT (nz_p _), brT j1, brT (nz_p _), brT (nz_p _), brT j2, brT (nz_p _), brT (nz_p _), brT (nd_okS hz).2, sat_letm, (nd_wr hz _).2]
    have hndz := hnd2
    rw [List.map_append, List.map_cons, List.nodup_append, List.nodup_cons] at hndz
    refine ⟨rfl, ⟨?_, ⟨es, k, ?_, he, hsz⟩, ?_, hnd2⟩, fun c hc hd => ?_⟩
    · rw [alO_ne _ (Ne.symm hzt), ht]
      congr 2
      rw [laA_app, laA_app]; rfl
    · rw [alO_ne _ (Ne.symm hzq)]; exact hq
    · rw [Ch_app]
      refine ⟨Ch_congr (fun c hc => alO_ne _ (by rintro rfl; exact hndz.2.2 _ hc _ (by simp) rfl)) (by rw [hp] at hA; exact hA), alO_self _ _ _, Ch_congr (fun c hc => alO_ne _ (by rintro rfl; exact hndz.2.1.1 hc)) hB.2⟩
    · rw [alO_ne (a := z.1) (b := c) _ (fun e => hd (.inr (.inr (e ▸ hzL))))]; exact hf c hc hd
theorem lremove_walk {m : Mem} {t q : Nat} {L : LN} (h : DL m t q L) {s g : Int} (h1 : inI s) (h2 : inU g) :
    (T_lremove m ((t : Int) + 1) s g).sat (isMemo fun w x => lremPost m ⟨t, q, L⟩ s g (yBoo w x) ∧ ∀ ρ, w.den ρ = V.den ρ (.u (.c (.sb (hdB (yBoo w x).b))))) := by
  unfold T_lremove
  obtain ⟨l1, l2⟩ := lhas_spec h h1 h2
  rw [sat_req]
  refine ⟨l1, ?_⟩
  by_cases hx : (s, g) ∈ hsL L
  rotate_left
  · have : lhasV m ((t : Int) + 1) s g = false := by
      cases e : lhasV m ((t : Int) + 1) s g with
      | false => rfl
      | true => exact absurd (l2.1 e) hx
    rw [this, brT (by rfl)]
    exact ⟨.inl ⟨hx, rfl, rfl⟩, fun ρ => rfl⟩
  obtain ⟨k1, k2, k3⟩ := hd_okL h.hd
  rw [l2.2 hx, brF (by rfl), brT (nz_p t), brT (nz_p t), brT k1]
  obtain ⟨x, hx1, hx2⟩ := List.mem_map.1 hx
  simp only [Prod.mk.injEq] at hx2
  obtain ⟨rfl, rfl⟩ := hx2
  simp only [h.pc, h.hit hx1, vP_pv (show (0 : Int) ≤ (x.1 : Int) + 1 by omega)]
  rw [sat_req]
  refine ⟨⟨keyed29, h.okm, okKey29 h1 h2, by simp [okU, okC, isP_pv]⟩, ?_⟩
  rw [brT (nz_p t), brT (nz_p t), brT k1, sat_req]
  refine ⟨⟨keyed29, h.okm, okKey29 h1 h2⟩, ?_⟩
  obtain ⟨A, B, rfl⟩ := List.append_of_mem hx1
  obtain ⟨es, k, m1, m2, m3⟩ := h.mp
  have hnn : ∀ y ∈ nds (A ++ x :: B), 0 ≤ y.1 := by
    intro y hy
    obtain ⟨z, _, rfl⟩ := List.mem_map.1 hy
    simp only; omega
  have hnod : ((nds (A ++ x :: B)).map (·.1)).Nodup := by
    have e : (nds (A ++ x :: B)).map (·.1) = ((A ++ x :: B).map (·.1)).map fun a : Nat => ((a : Int) + 1) := by unfold nds; rw [List.map_map, List.map_map]; rfl
    rw [e]
    refine List.Pairwise.map _ (fun a b hab => ?_) h.nd
    intro e; exact hab (by omega)
  obtain ⟨i, hi, hE⟩ := m2.del hnod hnn (j := A.length) (p := (x.1 : Int) + 1) (s := x.2.1) (g := x.2.2) (by unfold nds; simp)
  rw [nds_erase] at hE
  have hil := (efind_lt hi).2
  rw [sat_letm, mdel_at m1 hi]
  have hEl : (es.eraseIdxIfInBounds i).toList = es.toList.eraseIdx i := by simp
  have hsz : (es.eraseIdxIfInBounds i).size = (A ++ B).length := by
    have : (es.eraseIdxIfInBounds i).toList.length = (es.toList.eraseIdx i).length := by rw [hEl]
    rw [List.length_eraseIdx_of_lt (by omega)] at this
    simp only [Array.length_toList] at this
    rw [this, m3]; simp
  rw [← hEl] at hE
  have htq := h.tq
  have htL := h.t_no
  have hqL := h.q_no
  generalize hM1 : alO m q (.map (es.eraseIdxIfInBounds i) k) = M1
  have o1 : ∀ c, c ≠ q → M1 c = m c := fun c hc => by rw [← hM1, alO_ne _ hc]
  have q1 : M1 q = some (.map (es.eraseIdxIfInBounds i) k) := by rw [← hM1, alO_self]
  have t1 : M1 t = some (hdO q (hdA (A ++ x :: B) 0) (laA 0 (A ++ x :: B))) := by rw [o1 t htq]; exact h.hd
  have hch : Ch M1 0 (A ++ x :: B) 0 := Ch_congr (fun c hc => o1 c (by rintro rfl; exact hqL hc)) h.ch
  have hxL : x.1 ∈ (A ++ x :: B).map (·.1) := by simp
  have hxq : x.1 ≠ q := fun e => hqL (e ▸ hxL)
  have hxt : x.1 ≠ t := fun e => htL (e ▸ hxL)
  have x1 := hch.at'
  rw [Ch_app] at hch
  obtain ⟨j1, j2, j3⟩ := nd_okL x1
  obtain ⟨g1, g2, _⟩ := nd_gP x1 (hdA_nn (Int.le_refl 0)) (laA_nn (Int.le_refl 0))
  rw [brT (nz_p _), brT (nz_p _), brT j2, brT (cmp_zero _ _), g1, g2]
  have fin : ∀ M2 : Mem, (T_lrem2 M2 ((t : Int) + 1) ((x.1 : Int) + 1)).sat (isMemo fun w y => w = .u (.c (.lb true)) ∧ DL y t q (A ++ B) ∧ keepD t q (A ++ x :: B) m y) →
      (T_lrem2 M2 ((t : Int) + 1) ((x.1 : Int) + 1)).sat (isMemo fun w y => lremPost m ⟨t, q, A ++ x :: B⟩ x.2.1 x.2.2 (yBoo w y) ∧ ∀ ρ, w.den ρ = V.den ρ (.u (.c (.sb (hdB (yBoo w y).b))))) := fun M2 hM => by
    refine sat_mono (fun l hl => ?_) hM
    cases l with
    | memo w y =>
      obtain ⟨rfl, d1, d2⟩ := hl
      exact ⟨.inr ⟨A, x, B, rfl, rfl, rfl, rfl, d1, d2⟩, fun ρ => rfl⟩
    | _ => exact hl.elim
  have hf1 : ∀ c, m c ≠ none → ¬ dlD t q (A ++ x :: B) c → M1 c = m c := fun c hc hd => o1 c fun e => hd (.inr (.inl e))
  rcases List.eq_nil_or_concat A with e | ⟨A', y, e⟩
  · subst e
    have hl0 : laA 0 ([] : LN) = 0 := rfl
    rw [hl0, brT (by rfl), brT (nz_p _), brT (nz_p _), brT j1, brT (nz_p _), brT (nz_p _), brT (hd_okS t1).1, sat_letm, (hd_wr t1 _).1]
    refine fin _ (lrem2_walk (es := es.eraseIdxIfInBounds i) (k := k) ?_ hE hsz ?_ trivial ?_ ?_ h.nd htq htL hqL fun c hc hd => ?_)
    · rw [alO_ne _ (Ne.symm htq)]; exact q1
    · rw [alO_self]; rfl
    · rw [alO_ne _ hxt]; exact x1
    · refine Ch_congr (fun c hc => alO_ne _ ?_) hch.2.2
      rintro rfl; exact htL (by simp only [List.nil_append, List.map_cons, List.mem_cons]; exact .inr hc)
    · rw [alO_ne _ (fun e => hd (.inl e))]; exact hf1 c hc hd
  · rw [List.concat_eq_append] at e
    subst e
    have hyL : y.1 ∈ (A' ++ [y] ++ x :: B).map (·.1) := by simp
    have hyq : y.1 ≠ q := fun e => hqL (e ▸ hyL)
    have hyt : y.1 ≠ t := fun e => htL (e ▸ hyL)
    have hla : laA 0 (A' ++ [y]) = (y.1 : Int) + 1 := laA_snoc A' y 0
    have hnd := h.nd
    rw [List.map_append, List.map_append, List.map_cons, List.nodup_append, List.nodup_append, List.nodup_cons] at hnd
    obtain ⟨⟨n1, n2, n3⟩, ⟨n4, n5⟩, n6⟩ := hnd
    have hxy : x.1 ≠ y.1 := fun e => n6 y.1 (by simp) x.1 (by simp) e.symm
    have hchA := hch.1
    rw [Ch_app] at hchA
    have y1 := hchA.2.1
    rw [hla, brF (pz_p _), brT (nz_p _), brT (nz_p _), brT j2, brT (nz_p _), brT (nz_p _), brT j1, brT (nz_p _), brT (nz_p _), brT (nd_okS y1).1, sat_letm, (nd_wr y1 _).1]
    refine fin _ (lrem2_walk (es := es.eraseIdxIfInBounds i) (k := k) ?_ hE hsz ?_ ?_ ?_ ?_ h.nd htq htL hqL fun c hc hd => ?_)
    · rw [alO_ne _ (Ne.symm hyq)]; exact q1
    · rw [alO_ne _ (Ne.symm hyt), t1]
      congr 2
      rw [hdA_app, hdA_app, hdA_app, hdA_app]; cases A' <;> rfl
    · rw [Ch_app]
      refine ⟨Ch_congr (fun c hc => alO_ne _ (by rintro rfl; exact n3 _ hc _ (by simp) rfl)) hchA.1, alO_self _ _ _, trivial⟩
    · rw [alO_ne _ hxy]; exact x1
    · have := hch.2.2
      refine Ch_congr (fun c hc => alO_ne _ ?_) this
      rintro rfl
      exact n6 y.1 (by simp) y.1 (List.mem_cons_of_mem _ hc) rfl
    · rw [alO_ne (a := y.1) (b := c) _ (fun e => hd (.inr (.inr (e ▸ hyL))))]; exact hf1 c hc hd
def lremoveP (m : Mem) (t hs hg : Int) : Prop := ∃ G : DG, G.is m t ∧ inI hs ∧ inU hg
def lremoveQ (m : Mem) (t hs hg : Int) (y : Vars) : Prop := ∀ G : DG, (G.is m t ∧ inI hs ∧ inU hg) → lremPost m G hs hg y
def s_lremove : Sum := memSum 65 fun m a => match a with | [a0, a1] => (match ptrOf a0, hanOf a1 with | some t, some (hs, hg) => some ⟨lremoveP m t hs hg, lremoveQ m t hs hg, fun y => .u (.c (.sb (hdB y.b)))⟩ | _, _ => none) | _ => none
theorem t_lremove (m : Mem) (t : Int) (hs hg : Int) : runm Try.prog [s_lhas] (drawx Try.prog [s_lhas]) 300 65 [.u (.c (.np t 0)), .u (.agg [.si .i64 hs, .si .u64 hg])] m [142, 140, 137] = T_lremove m t hs hg := by kernel_rfl
theorem s_lremove_ok : SumOK Try.prog s_lremove := by
  refine memSum_ok ⟨_, Try.func65, by kernel_rfl⟩ fun m args ms h hp hw ρ w hm => ?_
  split at h
  · split at h
    · rename_i a0 a1 _ _ t hs hg h0 h1
      cases h
      refine mm_ghostY nameOK (okc s_lhas_ok okn) (dOK (okc s_lhas_ok okn)) 300 _ m _ (t_lremove m t hs hg) yBoo hp (fun G hG => ?_) ρ w hm (by simp only [List.map_cons, List.map_nil, ptrOf_den h0, hanOf_den h1])
      obtain ⟨⟨rfl, g1⟩, g2, g3⟩ := hG
      refine sat_mono (fun l hl => ?_) (lremove_walk g1 g2 g3)
      cases l with
      | memo v x => exact ⟨hl.1, by unfold yBoo; split <;> rfl, hl.2⟩
      | _ => exact hl.elim
    · cases h
  · cases h
end Go.Proofs.Ytnlohongffpkpaa.T16
end

section
/- Layer 15: All: a range over a list's iterator. A text of the session's own, after the kit's worked walks of such iterators. -/
namespace Go.Proofs.Ytnlohongffpkpaa.T16
open Go Go.RowKit Go.Shelf Go.Proofs.Ytnlohongffpkpaa.Sx Go.Proofs
set_option linter.unusedVariables false
set_option linter.unusedSimpArgs false

attribute [local go_sem] Oper.semAt_some

/-- a chain lies in the heap, below a border -/
def IsL (n₀ : Nat) (W : World) : Option Addr → List (Int × Int) → Prop
  | p, [] => p = none
  | p, x :: xs => ∃ (b : Nat) (q : Option Addr), p = some ⟨b, 0, none⟩ ∧ b < n₀ ∧ W.cell? ⟨b, 0, none⟩ = some (.int .i64 x.1) ∧ W.cell? ⟨b, 1, none⟩ = some (.int .u64 x.2) ∧ W.cell? ⟨b, 2, none⟩ = some (.pointer q) ∧ IsL n₀ W q xs
theorem IsL.below {n₀ : Nat} {A B : World} (h : Below n₀ A B) : ∀ {p : Option Addr} {xs : List (Int × Int)}, IsL n₀ A p xs → IsL n₀ B p xs
  | _, [], hl => hl
  | _, _ :: _, ⟨b, q, hp, hb, h0, h1, h2, hr⟩ => ⟨b, q, hp, hb, (h.cell (p := ⟨b, 0, none⟩) hb).trans h0, (h.cell (p := ⟨b, 1, none⟩) hb).trans h1, (h.cell (p := ⟨b, 2, none⟩) hb).trans h2, IsL.below h hr⟩
theorem IsL.unique {n₀ : Nat} {W : World} : ∀ {p : Option Addr} {xs ys : List (Int × Int)}, IsL n₀ W p xs → IsL n₀ W p ys → xs = ys
  | _, [], [], _, _ => rfl
  | _, [], _ :: _, h, ⟨_, _, hp, _⟩ => by rw [h] at hp; cases hp
  | _, _ :: _, [], ⟨_, _, hp, _⟩, h => by rw [h] at hp; cases hp
  | _, x :: xs, y :: ys, ⟨b, q, hp, _, h0, h1, h2, hr⟩, ⟨b', q', hp', _, h0', h1', h2', hr'⟩ => by
    rw [hp] at hp'; cases hp'
    rw [h0] at h0'; rw [h1] at h1'; rw [h2] at h2'
    simp only [Option.some.injEq, Value.int.injEq, true_and, Value.pointer.injEq] at h0' h1' h2'
    subst h2'
    rw [IsL.unique hr hr', Prod.ext h0' h1']
open Classical in
noncomputable def leftL (n₀ : Nat) (W : World) (v : Value) : Nat :=
  if h : ∃ r : Option Addr × List (Int × Int), v = .pointer r.1 ∧ IsL n₀ W r.1 r.2 then (Classical.choose h).2.length else 0
theorem leftL_eq {n₀ : Nat} {W : World} {q : Option Addr} {xs : List (Int × Int)} (h : IsL n₀ W q xs) : leftL n₀ W (.pointer q) = xs.length := by
  have hex : ∃ r : Option Addr × List (Int × Int), Value.pointer q = .pointer r.1 ∧ IsL n₀ W r.1 r.2 := ⟨(q, xs), rfl, h⟩
  unfold leftL
  rw [dif_pos hex]
  obtain ⟨e, hl⟩ := Classical.choose_spec hex
  have e' : q = (Classical.choose hex).1 := by simpa using e
  rw [← e'] at hl
  rw [IsL.unique hl h]
set_option maxHeartbeats 1000000 in
theorem lend_in (F : Fence) (n : Nat) (h87 : F.fn 87) (hro : F.round = none) (tl : Nat) (p0 : Option Addr) (w : World) (hc : w.cell? ⟨tl, 1, none⟩ = some (.pointer p0)) :
    CallsIn F n Try.prog 87 #[.pointer (some ⟨tl, 0, none⟩), .bool true] w fun e w' => e = .returned (.pointer p0) ∧ w' = w := by
  refine callsIn_of_wp Try.func87 rfl h87 ?_ hro
  simp only [Try.ntmps87, List.size_toArray, List.length_cons, List.length_nil, Nat.reduceAdd, Nat.reduceSub, Array.replicate_succ, Array.replicate_zero, List.push_toArray, List.append_toArray, List.nil_append, List.cons_append]
  gi_wp2
  go_ret
  exact ⟨rfl, rfl⟩
set_option maxRecDepth 100000 in
set_option maxHeartbeats 2000000 in
theorem leach1_in (F : Fence) (n : Nat) (h130 : F.fn 130) (h87 : F.fn 87) (hro : F.round = none) (hn : 1 ≤ n) (l Bn n₀ tl : Nat) (p0 : Option Addr) (xs : List (Int × Int)) (J Jx : List (Int × Int) → World → Prop)
    (hY : ∀ pre x W, J pre W → pre.length < xs.length → YieldAt F (n - 1) Try.prog l #[hV x] W fun e W' =>
      (e = .returned (.bool true) ∧ J (pre ++ [x]) W' ∧ Below n₀ W W') ∨ (e = .returned (.bool false) ∧ Jx (pre ++ [x]) W'))
    (W : World) (hBn : W.cell? ⟨Bn, 0, none⟩ = some (.pointer (some ⟨tl, 0, none⟩))) (htl : tl < n₀) (hc1 : W.cell? ⟨tl, 1, none⟩ = some (.pointer p0)) (hL : IsL n₀ W p0 xs) (h0 : J [] W) :
    CallsIn F n Try.prog 130 #[.func (.yield l) #[] #[], .pointer (some ⟨Bn, 0, none⟩)] W fun e W' => (∃ v, e = .returned v) ∧
      ((∃ ys, ys = xs ∧ J ys W') ∨ (∃ pre, pre <+: xs ∧ Jx pre W')) := by
  refine callsIn_of_wp Try.func130 rfl h130 ?_ hro
  simp only [Try.ntmps130, List.size_toArray, List.length_cons, List.length_nil, Nat.reduceAdd, Nat.reduceSub, Array.replicate_succ, Array.replicate_zero, List.push_toArray, List.append_toArray, List.nil_append, List.cons_append]
  gi_wp2_with (gi_at_call 87; refine (lend_in F (n - 1) h87 hro tl p0 _ hc1).mono ?_; rintro e w' ⟨rfl, rfl⟩)
  gi_loopw [3] (fun p wr => ∃ (pre rest : List (Int × Int)) (q : Option Addr), p = .pointer q ∧ xs = pre ++ rest ∧ IsL n₀ wr q rest ∧ J pre wr)
    (fun p wr => leftL n₀ wr p)
  case atStart =>
    exact ⟨[], xs, p0, rfl, rfl, hL, h0⟩
  case round =>
    obtain ⟨pre, rest, q, rfl, hx, hl, hJs⟩ := hrel
    cases rest with
    | nil =>
      obtain rfl : q = none := hl
      gi_wp2
      go_end0
      exact ⟨⟨_, rfl⟩, .inl ⟨pre, by simp [hx], hJs⟩⟩
    | cons x rest =>
      have hl' := hl
      obtain ⟨b, q', rfl, hb, hv, hg, hq, hr⟩ := hl
      obtain ⟨fn, tmps, assign, body, hy, hR⟩ := hY pre x wr hJs (by rw [hx]; simp)
      gi_wp2
      refine hR.mono ?_
      rintro e W3 (⟨rfl, hJ3, hk3⟩ | ⟨rfl, hJx3⟩)
      · have hq3 : W3.cell? ⟨b, 2, none⟩ = some (.pointer q') := (hk3.cell (p := ⟨b, 2, none⟩) hb).trans hq
        gi_wp2
        go_roundw
        case rel => exact ⟨pre ++ [x], rest, q', rfl, by simp [hx], hr.below hk3, hJ3⟩
        case measure => rw [leftL_eq (hr.below hk3), leftL_eq hl']; simp
      · gi_wp2
        refine bodyPost_ret (results_none rfl _ _ _) rfl ?_
        exact ⟨⟨_, rfl⟩, .inr ⟨pre ++ [x], ⟨rest, by simp [hx]⟩, hJx3⟩⟩
set_option maxHeartbeats 1000000 in
theorem leach_in (F : Fence) (n : Nat) (h129 : F.fn 129) (hro : F.round = none) (p0 : Option Addr) (w : World) :
    CallsIn F n Try.prog 129 #[.pointer p0] w fun e w' => e = .returned (.func (.func 130) #[] #[.pointer (some ⟨w.heap.size, 0, none⟩)]) ∧ w' = w.alloc (.cells #[.pointer p0] 112) := by
  refine callsIn_of_wp Try.func129 rfl h129 ?_ hro
  simp only [Try.ntmps129, List.size_toArray, List.length_cons, List.length_nil, Nat.reduceAdd, Nat.reduceSub, Array.replicate_succ, Array.replicate_zero, List.push_toArray, List.append_toArray, List.nil_append, List.cons_append]
  gi_wp2
  go_ret
  exact ⟨rfl, rfl⟩
theorem results_cell {fn : Func} {x : Tmp} {t : TypeId} {tmps : Array Value} {P : Program} {w : World} {a : Addr} {v : Value} (h : fn.results = #[.cell x t]) (hx : tmps.getD x undef = .pointer (some a)) (hz : tagg P t = some false) (hc : w.cell? a = some v) : (results fn tmps).run P w = .ok v w := by
  have e : ([ResultVar.cell x t].mapM (resOne tmps) : Sem (List Value)).run P w = .ok [v] w := by
    simp only [List.mapM_cons, List.mapM_nil, Sem.run_bind, resOne, hx, asAddr, Sem.run_pure, Result.andThen_ok, loadVar, run_isAgg hz]
    rw [if_neg (by simp), Sx.run_load hc]
    simp
  simp only [results_eq, Array.mapM_eq_mapM_toList, Sem.run_bind, Sem.run_map, h]
  rw [e]
  rfl
theorem lall_loop {F : Fence} (hd : F.depth = none) {n : Nat} (h130 : F.fn 130) (h87 : F.fn 87) (hro : F.round = none) (h1 : 2 ≤ n) {xs : List (Int × Int)} {tl : Nat} {p0 : Option Addr} {w w2 : World} {A B : Code} {Q : Exit → Act → World → Prop} {act : Act}
    (hev : act.eval (Operand.tmp 5) = .func (.func 130) #[] #[.pointer (some ⟨w.heap.size + 1, 0, none⟩)]) (htl : tl < w.heap.size) (hc1 : w.cell? ⟨tl, 1, none⟩ = some (.pointer p0)) (hT : IsL w.heap.size w p0 xs) (hs2 : w2.heap.size = w.heap.size + 2) (hb2 : Below w.heap.size w w2)
    (hbox : w2.heap[w.heap.size]? = some (.cells #[.slice none 0 0] 35 (0, 0))) (hpt : w2.cell? ⟨w.heap.size + 1, 0, none⟩ = some (.pointer (some ⟨tl, 0, none⟩)))
    (hround : ∀ (lo : Loop) (pre : List (Int × Int)) (x : Int × Int) (v : Value) (W : World), lo.state = .ready → lo.pending = none → AllI w lo pre v W → pre.length < xs.length →
      A.wpIn (F.inRound (w.heap.size + 3)) (n - 1 - 1) Try.prog (Exit.then (fun a₁ w₁ => ∃ w₂, (Instr.beginRound (w.heap.size + 3)).run Try.prog w₁ = .ok () w₂ ∧ B.wpIn (F.inRound (w.heap.size + 3)) (n - 1 - 1) Try.prog (roundPost Try.prog (w.heap.size + 3)
        (fun e W' => e = .returned (.bool true) ∧ (∃ v', AllI w lo (pre ++ [x]) v' W') ∧ W.heap.size ≤ W'.heap.size)) a₁ w₂) (fun _ _ _ => False)) { tmps := act.tmps.setIfInBounds 6 (hV x), defers := [] } W)
    (hdone : ∀ (lo : Loop) (v : Value) (W : World), AllI w lo xs v W → Q .normal { act with defers := { target := .collected (w.heap.size + 2), args := #[] } :: act.defers } W) :
    (Code.rangeFunc (Operand.tmp 5) #[6] A B).wpIn F n Try.prog Q act w2 := by
  refine wpIn_rangeFunc ?_
  intro fn hfn
  rw [hro]
  obtain ⟨lo, hlo⟩ : ∃ lo : Loop, { state := .ready, pending := none, fn := fn, tmps := act.tmps, params := #[6], assign := A, body := B, defers := w2.heap.size } = lo := ⟨_, rfl⟩
  have l1 : lo.state = .ready := by rw [← hlo]
  have l2 : lo.pending = none := by rw [← hlo]
  have hent := run_enterLoop_outer (P := Try.prog) (w := w2) fn act.tmps #[6] A B
  rw [hlo] at hent
  obtain ⟨W1, hW1⟩ : ∃ W1, (w2.alloc (.deferred (some []))).alloc (.loop lo) = W1 := ⟨_, rfl⟩
  rw [hW1] at hent
  have hb1 : Below w.heap.size w W1 := by rw [← hW1]; exact (hb2.alloc (by omega) _).alloc (by simp; omega) _
  have hI1 : AllI w lo [] (.slice none 0 0) W1 := by
    refine ⟨?_, World.ownsRow_nil _ _ _ _, hb1, ?_, ?_⟩
    · rw [← hW1]; exact (Below.heap_alloc _ _ _ (by simp; omega)).trans ((Below.heap_alloc _ _ _ (by omega)).trans hbox)
    · rw [← hW1]; have := World.alloc_heap_new (w2.alloc (.deferred (some []))) (.loop lo); rwa [World.size_alloc, hs2] at this
    · rw [← hW1]; have := World.alloc_heap_new w2 (.deferred (some [])); rw [hs2] at this; exact (Below.heap_alloc _ _ _ (by simp; omega)).trans this
  have hpt1 : W1.cell? ⟨w.heap.size + 1, 0, none⟩ = some (.pointer (some ⟨tl, 0, none⟩)) := by
    rw [← hW1]; exact (World.cell?_of_block (Below.heap_alloc _ _ _ (by simp; omega))).trans ((World.cell?_of_block (Below.heap_alloc _ _ _ (by simp; omega))).trans hpt)
  rw [hs2] at hent
  refine ⟨w.heap.size + 2 + 1, [{ target := .collected (w.heap.size + 2), args := #[] }], W1, { target := .fn (.func 130) #[.pointer (some ⟨w.heap.size + 1, 0, none⟩)], args := #[.func (.yield (w.heap.size + 2 + 1)) #[] #[]] }, W1, 130,
    #[.func (.yield (w.heap.size + 2 + 1)) #[] #[], .pointer (some ⟨w.heap.size + 1, 0, none⟩)], W1, hent, ?_, ?_, ?_, fun _ => (by omega), ?_⟩
  · simp only [resolve, hev]
    simp [go_sem]
  · intro f' hf'; simp [Target.leads] at hf'; subst hf'; exact h130
  · have eg := enters_of Try.func130 (by kernel_rfl) rfl
    simp [invoke, go_sem, eg]
  · refine (leach1_in F (n - 1) h130 h87 hro (by omega) (w.heap.size + 3) (w.heap.size + 1) w.heap.size tl p0 xs (fun pre W => ∃ v, AllI w lo pre v W) (fun _ _ => False) ?_ W1 hpt1 htl ((hb1.cell (p := ⟨tl, 1, none⟩) htl).trans hc1) (hT.below hb1) ⟨_, hI1⟩).mono ?_
    · rintro pre x W ⟨v, hI⟩ hlen
      have hy := run_yield (P := Try.prog) (args := #[hV x]) hI.loop (by rw [← hlo]; rfl)
      have e1 : lo.fn = fn := by rw [← hlo]
      have e2 : lo.assign = A := by rw [← hlo]
      have e3 : lo.body = B := by rw [← hlo]
      have e4 : (lo.params.zip #[hV x]).foldl (fun tmps (t, a) => tmps.setIfInBounds t a) lo.tmps = act.tmps.setIfInBounds 6 (hV x) := by rw [← hlo]; simp
      rw [e1, e2, e3, e4] at hy
      refine ⟨fn, _, A, B, hy, (roundIn_of_wpIn hfn (hround lo pre x v W l1 l2 hI hlen)).mono ?_⟩
      rintro e W' ⟨rfl, ⟨v', hI'⟩, hsz⟩
      exact .inl ⟨rfl, ⟨v', hI'⟩, ⟨hI'.below.os.trans hI.below.os.symm, hI'.below.tape.trans hI.below.tape.symm, hI'.below.output.trans hI.below.output.symm, hsz, fun k hk => (hI'.below.block k hk).trans (hI.below.block k hk).symm⟩⟩
    · rintro e W2 ⟨⟨v0, rfl⟩, (⟨xs, rfl, v, hI⟩ | ⟨pre, _, h⟩)⟩
      · have hend := run_endLoop (P := Try.prog) hI.loop (by rw [l1]; simp)
        rw [l2] at hend
        exact ⟨none, _, hend, hdone _ v _ (hI.put _)⟩
      · exact h.elim
set_option maxRecDepth 100000 in
set_option maxHeartbeats 4000000 in
theorem lall_in (F : Fence) (hd : F.depth = none) (n : Nat) (h127 : F.fn 127) (h129 : F.fn 129) (h130 : F.fn 130) (h87 : F.fn 87) (hro : F.round = none) (hn : 3 ≤ n) (a : Nat) (p0 : Option Addr) (xs : List (Int × Int)) (w : World) (ha : a < w.heap.size) (hc : w.cell? ⟨a, 1, none⟩ = some (.pointer p0)) (hT : IsL w.heap.size w p0 xs) (hlen : xs.length < 1099511627776) :
    CallsIn F n Try.prog 127 #[.pointer (some ⟨a, 0, none⟩)] w fun e w' => ∃ v, e = .returned v ∧ w'.ownsRow w.heap.size 29 2 v xs.length (hCells xs) ∧ Below w.heap.size w w' := by
  have h1 : 1 ≤ n := by omega
  obtain ⟨i0, z0, hi0, hz0, hz1, hz2, hz3⟩ := infoB_of (P := Try.prog) (t := 29) (sz := 2) (by_ := 16) (by kernel_rfl)
  refine callsIn_of_wp_marks Try.func127 rfl h127 ?_ hro
  simp only [Try.ntmps127, List.size_toArray, List.length_cons, List.length_nil, Nat.reduceAdd, Nat.reduceSub, Array.replicate_succ, Array.replicate_zero, List.push_toArray, List.append_toArray, List.nil_append, List.cons_append]
  gi_wp2_with (gi_at_call 129; refine (leach_in F (n - 1) h129 hro _ _).mono ?_; rintro e w' ⟨rfl, rfl⟩)
  refine lall_loop hd h130 h87 hro (by omega) (xs := xs) (w := w) (by rfl) ha hc hT (by simp) (((Below.refl _ w).alloc (Nat.le_refl _) _).alloc (by simp) _) ?box ?pt ?round ?done
  case box => exact (Below.heap_alloc _ _ _ (by simp)).trans (World.alloc_heap_new w _)
  case pt =>
    have := World.alloc_heap_new (w.alloc (Obj.cells #[Value.slice none 0 0] 35)) (.cells #[Value.pointer (some ⟨a, 0, none⟩)] 112)
    rw [World.size_alloc] at this
    exact (cell_of_box this).1
  case done =>
    intro lo v W hI
    obtain ⟨hc3, hf3⟩ := cell_of_box hI.box
    have lt : ∀ {W : World} {k : Nat} {o : Obj}, W.heap[k]? = some o → k < W.heap.size := fun h => (Array.getElem?_eq_some_iff.1 h).1
    have hset : ∀ k, k ≠ w.heap.size → (W.setCell ⟨w.heap.size, 0, none⟩ v).heap[k]? = W.heap[k]? := fun k hk => by simp [World.setCell, Array.getElem?_modify, Ne.symm hk]
    have hgs : W.grownBy (W.setCell ⟨w.heap.size, 0, none⟩ v) (some w.heap.size) := ⟨rfl, rfl, rfl, by simp [World.setCell], fun k _ hk => hset k (fun e => hk (by rw [e]))⟩
    have hI' : AllI w lo xs v (W.setCell ⟨w.heap.size, 0, none⟩ v) := by
      refine ⟨?_, ?_, ?_, (hset _ (by omega)).trans hI.loop, (hset _ (by omega)).trans hI.df⟩
      · simp [World.setCell, Array.getElem?_modify, hI.box]
      · exact hI.row.kept hgs (row_ne hI.row hI.box (fun cur e => by cases e))
      · exact hI.below.grown hgs hI.below.size (fun k e => by cases e; exact Nat.le_refl _)
    obtain ⟨a', n', c', hv⟩ : ∃ a' n' c', v = .slice a' n' c' := by
      rcases hI.row.2 with ⟨e, _⟩ | ⟨g', cap', _, e, _⟩ <;> exact ⟨_, _, _, e⟩
    have hc4 : (W.setCell ⟨w.heap.size, 0, none⟩ v).cell? ⟨w.heap.size, 0, none⟩ = some v := (cell_of_box hI'.box).1
    have hg := grownBy_putObj' (W.setCell ⟨w.heap.size, 0, none⟩ v) (w.heap.size + 2) (.deferred none)
    have hc5 : ((W.setCell ⟨w.heap.size, 0, none⟩ v).putObj (w.heap.size + 2) (.deferred none)).cell? ⟨w.heap.size, 0, none⟩ = some v := by
      have h5 : ((W.setCell ⟨w.heap.size, 0, none⟩ v).putObj (w.heap.size + 2) (.deferred none)).heap[w.heap.size]? = some (.cells #[v] 35 (0, 0)) := (World.putObj_heap_other (by omega)).trans hI'.box
      exact (cell_of_box h5).1
    have hrow := hI'.row.kept hg (row_ne hI'.row hI'.df (fun cur e => by cases e))
    have hbel := hI'.below.grown hg hI'.below.size (fun k e => by cases e; omega)
    have hdf := run_takeDeferred (P := Try.prog) hI'.df
    subst hv
    gi_wp2
    refine ⟨by simp, .inl ⟨_, _, rfl, hdf, ?_⟩⟩
    exact ⟨_, results_cell rfl rfl (by kernel_rfl) hc5, _, rfl, hrow, hbel⟩
  case round =>
    intro lo pre x v W l1 l2 hI hlen
    gi_wp2
    have hIa : AllI w lo pre v (W.alloc (.cells #[.int .i64 x.1, .int .u64 x.2] 29)) := hI.turn (World.grownBy_alloc W _ none) (fun k e => by cases e) (by cases v.ownBlock <;> simp)
    refine ⟨_, run_beginRound hIa.loop l1, ?_⟩
    have hIb := hIa.put { lo with state := .busy }
    have hbW : ((W.alloc (.cells #[.int .i64 x.1, .int .u64 x.2] 29)).putObj (w.heap.size + 3) (.loop { lo with state := .busy })).heap[W.heap.size]? = some (.cells #[.int .i64 x.1, .int .u64 x.2] 29 (0, 0)) := by
      have := (Array.getElem?_eq_some_iff.1 hI.loop).1
      exact (World.putObj_heap_other (by omega)).trans (World.alloc_heap_new W _)
    have hsW : ((W.alloc (.cells #[.int .i64 x.1, .int .u64 x.2] 29)).putObj (w.heap.size + 3) (.loop { lo with state := .busy })).heap.size = W.heap.size + 1 := by simp
    generalize (W.alloc (.cells #[.int .i64 x.1, .int .u64 x.2] 29)).putObj (w.heap.size + 3) (.loop { lo with state := .busy }) = W2 at hIb hbW hsW
    obtain ⟨hc2, hf2⟩ := cell_of_box hIb.box
    have hq0 : W2.cell? ⟨W.heap.size, 0, none⟩ = some (.int .i64 x.1) := by simp [World.cell?, hbW]
    have hq1 : W2.cell? ⟨W.heap.size, 1, none⟩ = some (.int .u64 x.2) := by simp [World.cell?, hbW]
    have hIc : AllI w { lo with state := .busy } pre v (W2.alloc (.cells #[.int .i64 x.1, .int .u64 x.2] 29)) := hIb.turn (World.grownBy_alloc W2 _ none) (fun k e => by cases e) (by cases v.ownBlock <;> simp)
    have hnew : ∀ (j : Nat) (u : Value), [Value.int .i64 x.1, Value.int .u64 x.2][j]? = some u → (W2.alloc (.cells #[.int .i64 x.1, .int .u64 x.2] 29)).cell? ((⟨W.heap.size + 1, 0, none⟩ : Addr).add j) = some u := by
      intro j u hu
      have hh := World.alloc_heap_new W2 (.cells #[.int .i64 x.1, .int .u64 x.2] 29)
      rw [hsW] at hh
      have t0 : (⟨W.heap.size + 1, 0, none⟩ : Addr).add 0 = ⟨W.heap.size + 1, 0, none⟩ := by simp [Addr.add]
      have t1 : (⟨W.heap.size + 1, 0, none⟩ : Addr).add 1 = ⟨W.heap.size + 1, 1, none⟩ := by simp [Addr.add]
      rcases j with _ | _ | j
      · simp only [List.getElem?_cons_zero] at hu; cases hu; rw [t0]; unfold World.cell?; rw [hh]; rfl
      · simp only [List.getElem?_cons_succ, List.getElem?_cons_zero] at hu; cases hu; rw [show (0 + 1) = 1 from rfl, t1]; unfold World.cell?; rw [hh]; rfl
      · simp at hu
    have hfin : ∀ v' w3, w3.ownsRow w.heap.size 29 2 v' (pre.length + 1) (hCells pre ++ [Value.int .i64 x.1, Value.int .u64 x.2]) → (W2.alloc (.cells #[.int .i64 x.1, .int .u64 x.2] 29)).grownBy w3 v.ownBlock →
        w3.heap[w.heap.size]? = some (.cells #[v] 35 (0, 0)) ∧ (∃ v1, v1 = v' ∧ AllI w { lo with state := .busy } (pre ++ [x]) v1 (w3.setCell ⟨w.heap.size, 0, none⟩ v')) ∧ W.heap.size ≤ (w3.setCell ⟨w.heap.size, 0, none⟩ v').heap.size := by
      intro v' w3 ho hg
      have lt : ∀ {W : World} {k : Nat} {o : Obj}, W.heap[k]? = some o → k < W.heap.size := fun h => (Array.getElem?_eq_some_iff.1 h).1
      have hkeep : ∀ {k : Nat} {o : Obj}, (W2.alloc (.cells #[.int .i64 x.1, .int .u64 x.2] 29)).heap[k]? = some o → (∀ cur, o ≠ .cells cur 29 (0, 0)) → w3.heap[k]? = some o := fun hk hno =>
        (hg.block _ (lt hk) fun e => by
          rcases row_ne hIc.row hk hno with e' | e'
          · rw [e'] at e; cases e
          · exact e' e.symm).trans hk
      have hb3 := hkeep hIc.box (fun cur e => by cases e)
      have hl3 := hkeep hIc.loop (fun cur e => by cases e)
      have hd3 := hkeep hIc.df (fun cur e => by cases e)
      have hI3 : AllI w { lo with state := .busy } (pre ++ [x]) v' (w3.setCell ⟨w.heap.size, 0, none⟩ v') := by
        have hset : ∀ k, k ≠ w.heap.size → (w3.setCell ⟨w.heap.size, 0, none⟩ v').heap[k]? = w3.heap[k]? := fun k hk => by simp [World.setCell, Array.getElem?_modify, Ne.symm hk]
        have hgs : w3.grownBy (w3.setCell ⟨w.heap.size, 0, none⟩ v') (some w.heap.size) := ⟨rfl, rfl, rfl, by simp [World.setCell], fun k _ hk => hset k (fun e => hk (by rw [e]))⟩
        refine ⟨?_, ?_, ?_, (hset _ (by omega)).trans hl3, (hset _ (by omega)).trans hd3⟩
        · simp [World.setCell, Array.getElem?_modify, hb3]
        · have hr : w3.ownsRow w.heap.size 29 2 v' (pre ++ [x]).length (hCells (pre ++ [x])) := by rw [hCells_snoc, List.length_append]; exact ho
          exact hr.kept hgs (row_ne hr hb3 (fun cur e => by cases e))
        · have := hIc.below.grown hg hIc.below.size (fun k e => (hIc.row.lt k e).1)
          exact this.grown hgs this.size (fun k e => by cases e; exact Nat.le_refl _)
      refine ⟨hb3, ⟨_, rfl, hI3⟩, ?_⟩
      have e1 := hg.size
      have e2 : (w3.setCell ⟨w.heap.size, 0, none⟩ v').heap.size = w3.heap.size := by simp [World.setCell]
      rw [e2]
      simp only [World.size_alloc] at e1
      omega
    gi_wp2_with (first
      | (gi_at_builtin; refine wpListIn_append_own _ rfl _ _ 35 rfl w.heap.size 29 i0 z0 2 16 Try.underlying35 hi0 hz0 hz1 hz2 hz3 (by decide) v pre.length (hCells pre) rfl hIc.row ⟨W.heap.size + 1, 0, none⟩ 1 1 [.int .i64 x.1, .int .u64 x.2] rfl rfl hnew (by simp [Value.oneCell']) (by simp only [maxLen]; omega) (by omega) (by have := hIc.below.size; omega) ?_; intro v' w3 hown' hg3 hnil3
         obtain ⟨hb3, ⟨v1, hv1, hI4⟩, hsz4⟩ := hfin v' w3 hown' hg3
         obtain ⟨hc3, hf3⟩ := cell_of_box hb3
         obtain ⟨g', cap', rfl⟩ : ∃ g' cap', v' = .slice (some ⟨g', 0, none⟩) (pre.length + 1) cap' := by
           rcases hown'.2 with ⟨_, h0⟩ | ⟨g', cap', _, h', _⟩
           · exact absurd h0 (by omega)
           · exact ⟨g', cap', h'⟩))
    subst hv1
    have hI5 := hI4.put { lo with state := .ready, pending := none }
    have elo : ({ lo with state := .ready, pending := none } : Loop) = lo := by cases lo; simp_all
    rw [elo] at hI5
    refine ⟨_, _, (run_endRound none hI4.loop).trans (congrArg (fun r => Result.ok (Value.bool true) (World.putObj _ (w.heap.size + 3) (.loop r))) elo), rfl, ⟨_, hI5⟩, ?_⟩
    exact Nat.le_trans hsz4 (grownBy_putObj' _ (w.heap.size + 3) (.loop lo)).size
end Go.Proofs.Ytnlohongffpkpaa.T16
end

section
/- Layer 15: All's summary; one is taken from an end; a new list. A text of the session's own. -/
namespace Go.Proofs.Ytnlohongffpkpaa.T16
open Go Go.RowKit Go.Proofs.Ytnlohongffpkpaa.Sx Go.Proofs
set_option linter.unusedVariables false
set_option linter.unusedSimpArgs false

def pO (p : Int) : Option Addr := match p.toNat with | 0 => none | a + 1 => some ⟨a, 0, none⟩
theorem pv_pO (p : Int) : pv p 0 = .pointer (pO p) := by unfold pv pO; split <;> (rename_i e; simp [e])
theorem pO_succ (a : Nat) : pO ((a : Int) + 1) = some ⟨a, 0, none⟩ := by unfold pO; rw [show ((a : Int) + 1).toNat = a + 1 by omega]
theorem isL_of {m : Mem} {w : World} (hm : ∀ a o, m a = some o → w.heap[a]? = some o) : ∀ {L : LN} {f : Int}, Ch m f L 0 → IsL w.heap.size w (pO (hdA L 0)) (hsL L)
  | [], _, _ => rfl
  | x :: r, f, h => by
    have hh := hm _ _ h.1
    refine ⟨x.1, pO (hdA r 0), pO_succ _, (Array.getElem?_eq_some_iff.1 hh).1, ?_, ?_, ?_, isL_of hm h.2⟩
    · unfold World.cell?; rw [hh]; rfl
    · unfold World.cell?; rw [hh]; rfl
    · unfold World.cell?; rw [hh, ← pv_pO]; rfl
theorem lall_calls (a : Nat) (p0 : Option Addr) (xs : List (Int × Int)) (w : World) (ha : a < w.heap.size) (hc : w.cell? ⟨a, 1, none⟩ = some (.pointer p0)) (hT : IsL w.heap.size w p0 xs) (hlen : xs.length < 1099511627776) :
    Calls Try.prog 127 #[.pointer (some ⟨a, 0, none⟩)] w fun e w' => ∃ v, e = .returned v ∧ w'.ownsRow w.heap.size 29 2 v xs.length (hCells xs) ∧ Below w.heap.size w w' :=
  callsIn_wide.1 (lall_in Fence.wide rfl 3 trivial trivial trivial trivial rfl (Nat.le_refl _) a p0 xs w ha hc hT hlen)
theorem hsL_len (L : LN) : (hsL L).length = L.length := by simp [hsL]
theorem lall_pure (m : Mem) (t q : Nat) (L : LN) (h : DL m t q L) (hsz : L.length < 1099511627776) (w : World) (hw : ∀ a o, m a = some o → w.heap[a]? = some o) :
    Calls Try.prog 127 #[pv ((t : Int) + 1) 0] w fun e w' => ∃ v m', e = .returned v ∧ rowOf m (hsL L) v m' ∧ MemTo m m' w w' := by
  have ht := hw t _ h.hd
  have hlt := (Array.getElem?_eq_some_iff.1 ht).1
  have hc : w.cell? ⟨t, 1, none⟩ = some (.pointer (pO (hdA L 0))) := by
    unfold World.cell?; rw [ht, ← pv_pO]; rfl
  have ltm : ∀ a o, m a = some o → a < w.heap.size := fun a o h => (Array.getElem?_eq_some_iff.1 (hw a o h)).1
  rw [pv_succ t 0]
  refine (lall_calls t _ _ w hlt hc (isL_of hw h.ch) (by rw [hsL_len]; exact hsz)).mono ?_
  rintro e w' ⟨v, rfl, hrow, hb⟩
  rcases hrow.2 with ⟨rfl, h0⟩ | ⟨g, cap, cur, rfl, hg0, hg, h1, h2, h3, h4⟩
  · exact ⟨_, m, rfl, .inl ⟨List.eq_nil_of_length_eq_zero h0, rfl, rfl⟩, ⟨hb.os, hb.tape, hb.output, hb.size, fun a o h => (hb.block a (ltm a o h)).trans (hw a o h), fun k hk _ => hb.block k hk, fun a o h => .inl (by rw [h]; simp)⟩⟩
  · have hgn : m g = none := by
      cases h : m g with
      | none => rfl
      | some o => have := ltm g o h; omega
    refine ⟨_, alO m g (.cells cur 29 (0, 0)), rfl, .inr ⟨g, cap, cur, rfl, hgn, rfl, h1, h3, h4⟩, ⟨hb.os, hb.tape, hb.output, hb.size, fun a o h => ?_, fun k hk _ => hb.block k hk, fun a o h => ?_⟩⟩
    · unfold alO at h
      by_cases e : a = g
      · rw [if_pos e] at h; cases h; subst e; exact hg
      · rw [if_neg e] at h; exact (hb.block a (ltm a o h)).trans (hw a o h)
    · unfold alO at h
      by_cases e : a = g
      · subst e; exact .inr hg0
      · rw [if_neg e] at h; exact .inl (by rw [h]; simp)
def lallP (m : Mem) (t : Int) : Prop := ∃ G : DG, G.is m t ∧ G.L.length < 1099511627776
def lallQ (m : Mem) (t : Int) (y : Vars) : Prop := ∀ G : DG, (G.is m t ∧ G.L.length < 1099511627776) → rowOf m (hsL G.L) (hdV y.v) y.m
def s_lall : Sum := memSum 127 fun m a => match a with | [a0] => (match ptrOf a0 with | some t => some ⟨lallP m t, lallQ m t, fun y => .u (.c (.sv (hdV y.v)))⟩ | _ => none) | _ => none
theorem s_lall_ok : SumOK Try.prog s_lall := by
  refine memSum_ok ⟨_, Try.func127, by kernel_rfl⟩ fun m args ms h hp hwf ρ w hm => ?_
  split at h
  · split at h
    · rename_i a0 _ t h0
      cases h
      obtain ⟨⟨t0, q, L⟩, ⟨e1, e2⟩, e3⟩ := hp
      simp only at e1 e2 e3
      have hv : (List.map (V.den ρ) [a0]).toArray = #[pv ((t0 : Int) + 1) 0] := by
        rw [List.map_cons, List.map_nil, ptrOf_den h0, e1]; rfl
      rw [hv]
      refine (lall_pure m t0 q L e2 e3 w hm).mono ?_
      rintro e w' ⟨v, m', rfl, hr, hM⟩
      refine ⟨⟨[], [], [v], m'⟩, ?_, ?_, hM⟩
      · rintro ⟨t1, q1, L1⟩ ⟨⟨g1, g2⟩, g3⟩
        simp only at g1 g2 g3
        have et : t1 = t0 := by omega
        subst et
        have hT : hsL L1 = hsL L := by
          have i1 := isL_of hm e2.ch
          have i2 := isL_of hm g2.ch
          have hh : pO (hdA L 0) = pO (hdA L1 0) := by rw [← e2.g1, ← g2.g1]
          rw [hh] at i1
          exact IsL.unique i2 i1
        show rowOf m (hsL L1) v m'
        rw [hT]; exact hr
      · rcases hr with ⟨_, rfl, _⟩ | ⟨g, cap, cur, rfl, _⟩ <;> rfl
    · cases h
  · cases h
/-! handles are once -/
theorem DL.hinj {m : Mem} {t q : Nat} {L : LN} (h : DL m t q L) {i j : Nat} {x : Int × Int} (hi : (hsL L)[i]? = some x) (hj : (hsL L)[j]? = some x) : i = j := by
  obtain ⟨es, k, _, he, _⟩ := h.mp
  unfold hsL at hi hj
  rw [List.getElem?_map] at hi hj
  obtain ⟨u, hu, hux⟩ := Option.map_eq_some_iff.1 hi
  obtain ⟨v, hv, hvx⟩ := Option.map_eq_some_iff.1 hj
  obtain ⟨e, h1, hk, hw⟩ := he.fro _ (nds_mem (List.mem_of_getElem? hu))
  obtain ⟨e', h1', hk', hw'⟩ := he.fro _ (nds_mem (List.mem_of_getElem? hv))
  have hkk : e.key = e'.key := by
    rw [← hvx] at hux
    simp only [Prod.mk.injEq] at hux
    rw [hk, hk']
    simp only [hux.1, hux.2]
  have hee : e = e' := by
    obtain ⟨a, ha⟩ := List.getElem?_of_mem h1
    obtain ⟨c, hc⟩ := List.getElem?_of_mem h1'
    have hac : a = c := by
      rcases Nat.lt_trichotomy a c with h2 | h2 | h2
      · have := List.pairwise_iff_getElem.1 he.ap a c (List.getElem?_eq_some_iff.1 ha).1 (List.getElem?_eq_some_iff.1 hc).1 h2
        rw [(List.getElem?_eq_some_iff.1 ha).2, (List.getElem?_eq_some_iff.1 hc).2] at this
        exact absurd hkk this
      · exact h2
      · have := List.pairwise_iff_getElem.1 he.ap c a (List.getElem?_eq_some_iff.1 hc).1 (List.getElem?_eq_some_iff.1 ha).1 h2
        rw [(List.getElem?_eq_some_iff.1 ha).2, (List.getElem?_eq_some_iff.1 hc).2] at this
        exact absurd hkk.symm this
    subst hac
    rw [ha] at hc; cases hc; rfl
  subst hee
  have hp := pv_inj (by simp only; omega) (by simp only; omega) (hw.symm.trans hw')
  simp only at hp
  have hi' : (L.map (·.1))[i]? = some u.1 := by simp [hu]
  have hj' : (L.map (·.1))[j]? = some u.1 := by simp [hv]; omega
  exact (List.getElem?_inj (List.getElem?_eq_some_iff.1 hi').1 h.nd).1 (hi'.trans hj'.symm)
theorem hsL_app (A B : LN) : hsL (A ++ B) = hsL A ++ hsL B := by simp [hsL]
theorem hsL_cons (x : Nat × Int × Int) (B : LN) : hsL (x :: B) = (x.2.1, x.2.2) :: hsL B := rfl
theorem DL.split {m : Mem} {t q : Nat} {L A B : LN} {x : Nat × Int × Int} (h : DL m t q L) (e : L = A ++ x :: B) {j : Nat} (hj : (hsL L)[j]? = some (x.2.1, x.2.2)) : A.length = j ∧ hsL (A ++ B) = (hsL L).eraseIdx j := by
  subst e
  have hA : (hsL (A ++ x :: B))[A.length]? = some (x.2.1, x.2.2) := by
    rw [hsL_app, List.getElem?_append_right (by rw [hsL_len]; exact Nat.le_refl _), hsL_len, Nat.sub_self]; rfl
  obtain rfl := h.hinj hA hj
  refine ⟨rfl, ?_⟩
  rw [hsL_app, hsL_app, hsL_cons, List.eraseIdx_append_of_length_le (by rw [hsL_len]; exact Nat.le_refl _), hsL_len, Nat.sub_self, List.eraseIdx_cons_zero]
/-! one is taken from an end -/
def T_lpop (m : Mem) (t : Int) (o : Bool) : Tr := (.req (lpeekP m t o) (.any (lpeekQ m t o) (fun y0 => (.br (hdB y0.2) (.req (lremoveP y0.4 t (hdI y0.1) (hdI (tlI y0.1))) (.any (lremoveQ y0.4 t (hdI y0.1) (hdI (tlI y0.1))) (fun y1 => (.leaf (.memo (.tup [(.agg [(.si .i64 (hdI y0.1)), (.si .u64 (hdI (tlI y0.1)))]), (.c (.sb (hdB y0.2)))]) y1.4))))) (.leaf (.memo (.tup [(.agg [(.si .i64 (hdI y0.1)), (.si .u64 (hdI (tlI y0.1)))]), (.c (.sb (hdB y0.2)))]) y0.4))))))
def atEnd : Bool → LN → LN → Prop
  | true, A, _ => A = []
  | false, _, B => B = []
def lpopPost (m : Mem) (G : DG) (o : Bool) (y : Vars) : Prop :=
  (G.L = [] ∧ y.i = [0, 0] ∧ y.b = [false] ∧ y.m = m) ∨
  (∃ A x B, G.L = A ++ x :: B ∧ atEnd o A B ∧ y.i = [x.2.1, x.2.2] ∧ y.b = [true] ∧ DL y.m G.t G.q (A ++ B) ∧ keepD G.t G.q G.L m y.m)
theorem DL.rng {m : Mem} {t q : Nat} {L : LN} (h : DL m t q L) {x : Nat × Int × Int} (hx : x ∈ L) : inI x.2.1 ∧ inU x.2.2 := by
  obtain ⟨es, k, _, he, _⟩ := h.mp
  exact he.rng _ (nds_mem hx)
theorem lpop_walk {m : Mem} {t q : Nat} {L : LN} (h : DL m t q L) (o : Bool) :
    (T_lpop m ((t : Int) + 1) o).sat (isMemo fun w x => lpopPost m ⟨t, q, L⟩ o (yOf w x) ∧ ∀ ρ, w.den ρ = (retHB (yOf w x)).den ρ) := by
  unfold T_lpop
  have hG : (DG.mk t q L).is m ((t : Int) + 1) := ⟨rfl, h⟩
  rw [sat_req]
  refine ⟨⟨some _, hG⟩, ?_⟩
  rw [sat_any]
  rintro ⟨yi, yb, yv, ym⟩ hy
  obtain ⟨hy2, hm⟩ := hy (some _) hG
  simp only [DG.hs] at hm hy2
  clear hy
  subst hm
  rcases hy2 with ⟨x, e1, e2, e3⟩ | ⟨e1, e2, e3⟩
  · simp only at e2 e3
    subst e2 e3
    have hsplit : ∃ A u B, L = A ++ u :: B ∧ (u.2.1, u.2.2) = x ∧ atEnd o A B := by
      cases o with
      | true =>
        cases L with
        | nil => cases e1
        | cons u B => exact ⟨[], u, B, rfl, by simpa [endH, hsL] using e1, rfl⟩
      | false =>
        rcases List.eq_nil_or_concat L with e | ⟨A, u, e⟩
        · subst e; cases e1
        · rw [List.concat_eq_append] at e
          subst e
          exact ⟨A, u, [], rfl, by simpa [endH, hsL] using e1, rfl⟩
    obtain ⟨A, u, B, hL, rfl, hAB⟩ := hsplit
    have huL : u ∈ L := by rw [hL]; simp
    obtain ⟨r1, r2⟩ := h.rng huL
    have hG2 : (DG.mk t q L).is ym ((t : Int) + 1) ∧ inI u.2.1 ∧ inU u.2.2 := ⟨hG, r1, r2⟩
    simp only [hdI, tlI, hdB]
    rw [sat_brT, sat_req]
    refine ⟨⟨_, hG2⟩, ?_⟩
    rw [sat_any]
    rintro ⟨zi, zb, zv, zm⟩ hz
    have hz := hz _ hG2
    refine ⟨?_, fun ρ => rfl⟩
    have huh : (u.2.1, u.2.2) ∈ hsL L := List.mem_map.2 ⟨u, huL, rfl⟩
    rcases hz with ⟨c1, _⟩ | ⟨A', u', B', c1, c2, c3, c4, c5, c6⟩
    · exact absurd huh c1
    · simp only at c1 c4 c5 c6
      have hj : (hsL L)[A.length]? = some (u.2.1, u.2.2) := by
        rw [hL, hsL_app, List.getElem?_append_right (by rw [hsL_len]; exact Nat.le_refl _), hsL_len, Nat.sub_self]; rfl
      obtain ⟨d1, _⟩ := h.split c1 (j := A.length) (by rw [c2, c3]; exact hj)
      have hLL : A' ++ u' :: B' = A ++ u :: B := c1.symm.trans hL
      obtain ⟨rfl, hr⟩ := List.append_inj hLL d1
      simp only [List.cons.injEq] at hr
      obtain ⟨rfl, rfl⟩ := hr
      exact .inr ⟨A', u', B', hL, hAB, rfl, rfl, c5, c6⟩
  · simp only at e2 e3
    subst e2 e3
    have hL : L = [] := by
      cases L with
      | nil => rfl
      | cons u B =>
        exfalso
        cases o with
        | true => simp [endH, hsL] at e1
        | false => simp [endH, hsL] at e1
    simp only [hdB]
    rw [sat_brF]
    exact ⟨.inl ⟨hL, rfl, rfl, rfl⟩, fun ρ => rfl⟩
theorem lpop_walk0 (m : Mem) (o : Bool) :
    (T_lpop m 0 o).sat (isMemo fun w x => ((yOf w x).i = [0, 0] ∧ (yOf w x).b = [false] ∧ (yOf w x).m = m) ∧ ∀ ρ, w.den ρ = (retHB (yOf w x)).den ρ) := by
  unfold T_lpop
  rw [sat_req]
  refine ⟨⟨none, rfl⟩, ?_⟩
  rw [sat_any]
  rintro ⟨yi, yb, yv, ym⟩ hy
  obtain ⟨hy2, hm⟩ := hy none rfl
  simp only at hm hy2
  subst hm
  rcases hy2 with ⟨x, e1, e2, e3⟩ | ⟨e1, e2, e3⟩
  · cases o <;> cases e1
  · simp only at e2 e3
    subst e2 e3
    simp only [hdB]
    rw [sat_brF]
    exact ⟨⟨rfl, rfl, rfl⟩, fun ρ => rfl⟩
def lpopN (m : Mem) (o : Bool) (y : Vars) : Option DG → Prop
  | none => y.i = [0, 0] ∧ y.b = [false] ∧ y.m = m
  | some G => lpopPost m G o y
def lpopP (m : Mem) (t : Int) (o : Bool) : Prop := ∃ G : Option DG, DG.isN m t G
def lpopQ (m : Mem) (t : Int) (o : Bool) (y : Vars) : Prop := ∀ G : Option DG, DG.isN m t G → lpopN m o y G
def s_lpop : Sum := memSum 63 fun m a => match a with | [a0, a1] => (match ptrOf a0, booOf a1 with | some t, some o => some ⟨lpopP m t o, lpopQ m t o, fun y => .tup [.agg [.si .i64 (hdI y.i), .si .u64 (hdI (tlI y.i))], .c (.sb (hdB y.b))]⟩ | _, _ => none) | _ => none
theorem t_lpop (m : Mem) (t : Int) (o : Bool) : runm Try.prog [s_lpeek, s_lremove] (drawx Try.prog [s_lpeek, s_lremove]) 300 63 [.u (.c (.np t 0)), .u (.c (.sb o))] m [142, 140, 137] = T_lpop m t o := by kernel_rfl
theorem s_lpop_ok : SumOK Try.prog s_lpop := by
  refine memSum_ok ⟨_, Try.func63, by kernel_rfl⟩ fun m args ms h hp hw ρ w hm => ?_
  split at h
  · split at h
    · rename_i a0 a1 _ _ t o h0 h1
      cases h
      refine mm_ghost nameOK (okc s_lpeek_ok (okc s_lremove_ok okn)) (dOK (okc s_lpeek_ok (okc s_lremove_ok okn))) 300 _ m _ (t_lpop m t o) hp (fun G hG => ?_) ρ w hm (by simp only [List.map_cons, List.map_nil, ptrOf_den h0, booOf_den h1])
      have key : (T_lpop m t o).sat (isMemo fun w x => lpopN m o (yOf w x) G ∧ ∀ ρ, w.den ρ = (retHB (yOf w x)).den ρ) := by
        cases G with
        | none => cases hG; exact lpop_walk0 m o
        | some G => obtain ⟨rfl, g1⟩ := hG; exact lpop_walk g1 o
      refine sat_mono (fun l hl => ?_) key
      cases l with
      | memo v x => exact ⟨hl.1, yOf_m _ _, hl.2⟩
      | _ => exact hl.elim
    · cases h
  · cases h
/-! a new one -/
def T_lnew (m : Mem)  : Tr := (.any (newMQ m) (fun y0 => (.any (newQ y0.4 (.mk [(pl (hdV y0.3)), (.pointer (.none)), (.pointer (.none))]) 140) (fun y1 => (.leaf (.memo (.u (.c (.np (pI y1.1) 0))) y1.4))))))
def lnewP (m : Mem) : Prop := True
def lnewQ (m : Mem) (y : Vars) : Prop := ∃ t q : Nat, y.i = [(t : Int) + 1] ∧ m t = none ∧ m q = none ∧ DL y.m t q [] ∧ ∀ c, m c ≠ none → y.m c = m c
def s_lnew : Sum := memSum 59 fun m a => match a with | [] => some ⟨lnewP m, lnewQ m, fun y => .u (.c (.np (hdI y.i) 0))⟩ | _ => none
theorem t_lnew (m : Mem)  : runm Try.prog [] (drawx Try.prog []) 300 59 [] m [142, 140, 137] = T_lnew m  := by kernel_rfl
theorem s_lnew_ok : SumOK Try.prog s_lnew := by
  refine memSum_ok ⟨_, Try.func59, by kernel_rfl⟩ fun m args ms h hp hw ρ w hm => ?_
  split at h
  · cases h
    refine (mm_ghost nameOK okn (dOK okn) 300 _ m _ (t_lnew m) (G := Unit) (pre := fun _ => True) (post := fun _ y => lnewQ m y) (ret := fun y => .u (.c (.np (hdI y.i) 0))) ⟨(), trivial⟩ (fun _ _ => ?_) ρ w hm (by simp only [List.map_nil])).mono ?_
    · unfold T_lnew
      rw [sat_any]
      rintro ⟨yi, yb, yv, ym⟩ ⟨q, h1, h2, h3⟩
      simp only at h2 h3
      subst h2 h3
      rw [sat_any]
      rintro ⟨zi, zb, zv, zm⟩ ⟨t, g1, g2, g3⟩
      simp only at g1 g2 g3
      subst g1
      have e1 : alM (alO m q (.map #[] 0)) ((t : Int) + 1) (.mk [(pl (hdV [Value.map (some q)])), (.pointer (.none)), (.pointer (.none))]) 140 = alO (alO m q (.map #[] 0)) t (hdO q 0 0) := alM_alO _ t _ 140
      rw [e1] at g3
      subst g3
      have htq : t ≠ q := by rintro rfl; rw [alO_self] at g2; cases g2
      have htn : m t = none := by rw [alO_ne _ htq] at g2; exact g2
      refine ⟨⟨t, q, rfl, htn, h1, ⟨alO_self _ _ _, ⟨#[], 0, ?_, ⟨List.Pairwise.nil, (fun _ h => by cases h), (fun _ h => by cases h), (fun _ h => by cases h)⟩, rfl⟩, trivial, List.nodup_nil⟩, fun c hc => ?_⟩, rfl, fun ρ => rfl⟩
      · show alO _ _ _ q = _
        rw [alO_ne _ (Ne.symm htq), alO_self]
      · show alO _ _ _ c = _
        rw [alO_ne _ (by rintro rfl; exact hc htn), alO_ne _ (by rintro rfl; exact hc h1)]
    · rintro e w' ⟨y, h1, h2, h3⟩
      exact ⟨y, h1 () trivial, h2, h3⟩
  · cases h
end Go.Proofs.Ytnlohongffpkpaa.T16
end

section
/- Layer 17: keys of several whole numbers; maps in the memory as functions. A text of the session's own. -/
namespace Go.Proofs.Ytnlohongffpkpaa.T16
open Go Go.RowKit Go.Proofs.Ytnlohongffpkpaa.Sx Go.Proofs
set_option linter.unusedVariables false
set_option linter.unusedSimpArgs false

/-! keys of whole numbers -/
abbrev KI := List (IntKind × Int)
def kVals (l : KI) : List Value := l.map fun x => .int x.1 x.2
def kLits (l : KI) : List Lit := l.map fun x => .int x.1 x.2
def kWf (l : KI) : Prop := ∀ x ∈ l, (Lit.int x.1 x.2).wf = true
def fldKs (P : Program) (f : TypeId → Option (List IntKind)) : Nat → List Field → Option (List IntKind)
  | _, [] => some []
  | o, x :: r => match x.name != "_" && Nat.beq x.offset o, f x.type with
    | true, some ks => (match Nat.beq (P.cellsOf x.type) ks.length, fldKs P f (o + ks.length) r with | true, some rest => some (ks ++ rest) | _, _ => none)
    | _, _ => none
def kKinds (P : Program) : Nat → TypeId → Option (List IntKind)
  | 0, _ => none
  | d + 1, t => match P.underlying t with
    | some (.int q) => some [q]
    | some (.struct fs) => (match fldKs P (kKinds P d) 0 fs.toList with
      | some ks => (match Nat.beq (P.cellsOf t) ks.length with | true => some ks | false => none)
      | none => none)
    | _ => none
theorem kVals_app (a b : KI) : kVals (a ++ b) = kVals a ++ kVals b := by simp [kVals]
theorem kLits_app (a b : KI) : kLits (a ++ b) = kLits a ++ kLits b := by simp [kLits]
theorem kVals_len (a : KI) : (kVals a).length = a.length := by simp [kVals]
theorem fldKs_names {P : Program} {f : TypeId → Option (List IntKind)} : ∀ {fs : List Field} {o : Nat} {ks : List IntKind}, fldKs P f o fs = some ks → fs.all (·.name != "_") = true
  | [], _, _, _ => rfl
  | x :: r, o, ks, h => by
    simp only [fldKs] at h
    split at h
    · rename_i hx hf
      split at h
      · rename_i h1 h2
        rw [Bool.and_eq_true] at hx
        rw [List.all_cons, hx.1, fldKs_names h2]; rfl
      · cases h
    · cases h
theorem flds_mapM {P : Program} {f : TypeId → Option (List IntKind)} {g : TypeId → List Value → Option (List Lit)}
    (hg : ∀ t ks, f t = some ks → ∀ ls : KI, ls.map (·.1) = ks → kWf ls → g t (kVals ls) = some (kLits ls)) :
    ∀ (fs : List Field) (o : Nat) (ks : List IntKind), fldKs P f o fs = some ks → ∀ (pre : List Value) (ls : KI), pre.length = o → ls.map (·.1) = ks → kWf ls →
      (fs.mapM fun x => g x.type (((pre ++ kVals ls).drop x.offset).take (P.cellsOf x.type))).map List.flatten = some (kLits ls)
  | [], o, ks, h, pre, ls, hp, hl, hw => by
    cases h
    have : ls = [] := by simpa using hl
    subst this
    rfl
  | x :: r, o, ks, h, pre, ls, hp, hl, hw => by
    simp only [fldKs] at h
    split at h
    · rename_i ks1 hx hf
      split at h
      · rename_i rest h1 h2
        cases h
        rw [Bool.and_eq_true] at hx
        have ho := Nat.eq_of_beq_eq_true hx.2
        have hc := Nat.eq_of_beq_eq_true h1
        obtain ⟨l1, l2, rfl, e1, e2⟩ := List.map_eq_append_iff.1 hl
        have hlen : l1.length = ks1.length := by rw [← e1]; simp
        have hcut : ((pre ++ kVals (l1 ++ l2)).drop x.offset).take (P.cellsOf x.type) = kVals l1 := by
          rw [ho, hc, ← hp, List.drop_left, kVals_app, ← hlen, ← kVals_len l1, List.take_left]
        have ih := flds_mapM hg r (o + ks1.length) rest h2 (pre ++ kVals l1) l2 (by rw [List.length_append, kVals_len, hp, hlen]) e2 (fun y hy => hw y (List.mem_append_right _ hy))
        rw [List.append_assoc, ← kVals_app] at ih
        rw [List.mapM_cons, hcut, hg _ _ hf l1 e1 (fun y hy => hw y (List.mem_append_left _ hy))]
        obtain ⟨ls', hls, hfl⟩ := Option.map_eq_some_iff.1 ih
        rw [hls]
        simp [kLits_app, hfl]
      · cases h
    · cases h
theorem keyLits_of {P : Program} : ∀ (d : Nat) (t : TypeId) (ks : List IntKind), kKinds P d t = some ks → ∀ (e : Nat) (ls : KI), ls.map (·.1) = ks → kWf ls → P.keyLits (d + e) t (kVals ls) = some (kLits ls)
  | 0, _, _, h, _, _, _, _ => by cases h
  | d + 1, t, ks, h, e, ls, hl, hw => by
    simp only [kKinds] at h
    rw [show d + 1 + e = (d + e) + 1 by omega]
    unfold Program.keyLits
    split at h
    · rename_i q hu
      cases h
      obtain ⟨x, rfl, hx⟩ : ∃ x, ls = [x] ∧ x.1 = q := by
        cases ls with
        | nil => cases hl
        | cons x r =>
          simp only [List.map_cons, List.cons.injEq, List.map_eq_nil_iff] at hl
          exact ⟨x, by rw [hl.2], hl.1⟩
      have := hw x (by simp)
      simp [hu, kVals, kLits, hx] at this ⊢
      exact this
    · rename_i fs hu
      split at h
      · rename_i ks' hf
        split at h
        · rename_i hc
          cases h
          have hc := Nat.eq_of_beq_eq_true hc
          have hn := fldKs_names hf
          have := flds_mapM (g := fun t cs => P.keyLits (d + e) t cs) (fun t ks h ls hl hw => keyLits_of d t ks h e ls hl hw) fs.toList 0 ks hf [] ls rfl hl hw
          rw [List.nil_append] at this
          have hlen : (kVals ls).length = P.cellsOf t := by rw [hc, ← hl]; simp [kVals]
          have hn' : fs.all (·.name != "_") = true := by rw [← hn, Array.all_toList]
          simp only [hu]
          rw [if_pos ⟨hlen, hn'⟩]
          exact this
        · cases h
      · cases h
    · cases h
theorem okKey_ks {P : Program} {t : TypeId} {ks : List IntKind} {d : Nat} (h : kKinds P d t = some ks) (hd : d ≤ P.types.size + 1) (hst : (match P.underlying t with | some (.struct _) => true | _ => false) = true) (hk : P.keyType t = true)
    {ls : KI} (hl : ls.map (·.1) = ks) (hw : kWf ls) : okKey P t (.agg (.mk (kVals ls))) := by
  refine ⟨?_, ?_⟩
  · unfold Go.keyOf
    cases hu : P.underlying t with
    | none => rw [hu] at hst; cases hst
    | some u =>
      cases u with
      | struct fs =>
        have hc : (kVals ls).length = P.cellsOf t := by
          cases d with
          | zero => cases h
          | succ d =>
            simp only [kKinds, hu] at h
            split at h
            · split at h
              · rename_i hc
                cases h
                rw [Nat.eq_of_beq_eq_true hc, ← hl]; simp [kVals]
              · cases h
            · cases h
        have hfm : Value.formed P t (.agg (.mk (kVals ls))) = true := by simp [Value.formed, hu, hc]
        obtain ⟨e, he⟩ : ∃ e, P.types.size + 1 = d + e := ⟨P.types.size + 1 - d, by omega⟩
        simp only
        rw [if_pos (by rw [hk, hfm]; rfl), he]
        have := keyLits_of d t ks h e ls hl hw
        simp only [Value.cells]
        rw [this]
        exact ⟨_, rfl⟩
      | _ => rw [hu] at hst; cases hst
  · simp only [kSmp, kVals]
    simp [smp]
theorem wf_i64 {s : Int} (h1 : inI s) : (Lit.int .i64 s).wf = true := by unfold inI at h1; have e1 : IntKind.min .i64 = -9223372036854775808 := rfl; have e2 : IntKind.max .i64 = 9223372036854775807 := rfl; simp only [Lit.wf, e1, e2, Bool.and_eq_true, decide_eq_true_eq]; omega
theorem wf_u64 {g : Int} (h2 : inU g) : (Lit.int .u64 g).wf = true := by unfold inU at h2; have e1 : IntKind.min .u64 = 0 := rfl; have e2 : IntKind.max .u64 = 18446744073709551615 := rfl; simp only [Lit.wf, e1, e2, Bool.and_eq_true, decide_eq_true_eq]; omega
abbrev Pl := Int × Int × Int
abbrev Hn := Int × Int
def okP' (p : Pl) : Prop := inI p.1 ∧ inI p.2.1 ∧ inI p.2.2
def okH (h : Hn) : Prop := inI h.1 ∧ inU h.2
abbrev pKey (p : Pl) : Value := .agg (.mk [(.int .i64 p.1), (.int .i64 p.2.1), (.int .i64 p.2.2)])
abbrev kKey (h : Hn) (n : Int) : Value := .agg (.mk [(.int .i64 h.1), (.int .u64 h.2), (.int .i64 n)])
abbrev sKey (p : Pl) (h : Hn) : Value := .agg (.mk [(.int .i64 p.1), (.int .i64 p.2.1), (.int .i64 p.2.2), (.int .i64 h.1), (.int .u64 h.2)])
theorem keyed59 : Go.Maps.Keyed Try.prog 59 := Go.Maps.Keyed.of_law (deep_law_laid (by kernel_rfl) (m := 4) (by omega) (of_decide_eq_true (by kernel_rfl)) (by kernel_rfl) (by kernel_rfl))
theorem keyed121 : Go.Maps.Keyed Try.prog 121 := Go.Maps.Keyed.of_law (deep_law_laid (by kernel_rfl) (m := 4) (by omega) (of_decide_eq_true (by kernel_rfl)) (by kernel_rfl) (by kernel_rfl))
theorem keyed126 : Go.Maps.Keyed Try.prog 126 := Go.Maps.Keyed.of_law (deep_law_laid (by kernel_rfl) (m := 4) (by omega) (of_decide_eq_true (by kernel_rfl)) (by kernel_rfl) (by kernel_rfl))
theorem okKey59 {p : Pl} (h : okP' p) : okKey Try.prog 59 (pKey p) :=
  okKey_ks (d := 4) (ks := [.i64, .i64, .i64]) (ls := [(.i64, p.1), (.i64, p.2.1), (.i64, p.2.2)]) (by kernel_rfl) (Nat.le_of_ble_eq_true (by kernel_rfl)) (by kernel_rfl) (by kernel_rfl) rfl (fun x hx => by
    simp only [List.mem_cons, List.not_mem_nil, or_false] at hx
    rcases hx with rfl | rfl | rfl
    · exact wf_i64 h.1
    · exact wf_i64 h.2.1
    · exact wf_i64 h.2.2)
theorem okKey121 {h : Hn} {n : Int} (h1 : okH h) (h2 : inI n) : okKey Try.prog 121 (kKey h n) :=
  okKey_ks (d := 4) (ks := [.i64, .u64, .i64]) (ls := [(.i64, h.1), (.u64, h.2), (.i64, n)]) (by kernel_rfl) (Nat.le_of_ble_eq_true (by kernel_rfl)) (by kernel_rfl) (by kernel_rfl) rfl (fun x hx => by
    simp only [List.mem_cons, List.not_mem_nil, or_false] at hx
    rcases hx with rfl | rfl | rfl
    · exact wf_i64 h1.1
    · exact wf_u64 h1.2
    · exact wf_i64 h2)
theorem okKey126 {p : Pl} {h : Hn} (h1 : okP' p) (h2 : okH h) : okKey Try.prog 126 (sKey p h) :=
  okKey_ks (d := 4) (ks := [.i64, .i64, .i64, .i64, .u64]) (ls := [(.i64, p.1), (.i64, p.2.1), (.i64, p.2.2), (.i64, h.1), (.u64, h.2)]) (by kernel_rfl) (Nat.le_of_ble_eq_true (by kernel_rfl)) (by kernel_rfl) (by kernel_rfl) rfl (fun x hx => by
    simp only [List.mem_cons, List.not_mem_nil, or_false] at hx
    rcases hx with rfl | rfl | rfl | rfl | rfl
    · exact wf_i64 h1.1
    · exact wf_i64 h1.2.1
    · exact wf_i64 h1.2.2
    · exact wf_i64 h2.1
    · exact wf_u64 h2.2)
theorem pKey_inj {p q : Pl} (h : pKey p = pKey q) : p = q := by
  unfold pKey at h
  obtain ⟨a, b, c⟩ := p; obtain ⟨x, y, z⟩ := q
  simpa using h
theorem kKey_inj {h h' : Hn} {n n' : Int} (e : kKey h n = kKey h' n') : h = h' ∧ n = n' := by
  unfold kKey at e
  obtain ⟨a, b⟩ := h; obtain ⟨x, y⟩ := h'
  simp at e
  obtain ⟨rfl, rfl, rfl⟩ := e
  exact ⟨rfl, rfl⟩
theorem sKey_inj {p p' : Pl} {h h' : Hn} (e : sKey p h = sKey p' h') : p = p' ∧ h = h' := by
  unfold sKey at e
  obtain ⟨a, b⟩ := h; obtain ⟨x, y⟩ := h'
  obtain ⟨p1, p2, p3⟩ := p; obtain ⟨q1, q2, q3⟩ := p'
  simp at e
  obtain ⟨rfl, rfl, rfl, rfl, rfl⟩ := e
  exact ⟨rfl, rfl⟩

/-! maps as functions -/
/-- a map's block -/
def isMap (kt : TypeId) (m : Mem) (q : Nat) : Prop := ∃ es c, m q = some (.map es c) ∧ (∀ e ∈ es.toList, ∃ l, keyOf Try.prog kt e.key = some l) ∧ es.toList.Pairwise (fun a b => a.key ≠ b.key) ∧ MapKept.Stamped es c
section
variable {kt : TypeId} {m m' : Mem} {q : Nat} {k k' x : Value}
theorem isMap.okM (h : isMap kt m q) : okM Try.prog kt m (.map (some q)) := by
  obtain ⟨es, c, h1, h2, h3, _⟩ := h
  exact .inr ⟨q, es, c, rfl, h1, h2, h3⟩
theorem isMap.congr (h : isMap kt m q) (e : m' q = m q) : isMap kt m' q := by
  obtain ⟨es, c, h1, h2, h3, h4⟩ := h
  exact ⟨es, c, e.trans h1, h2, h3, h4⟩
theorem mlook_congr (e : m' q = m q) (k : Value) : mlook m' (.map (some q)) k = mlook m (.map (some q)) k := by
  simp only [mlook, mpE, e]
theorem isMap.there (h : isMap kt m q) : m q ≠ none := by
  obtain ⟨es, c, h1, _⟩ := h
  rw [h1]; simp
theorem mput_oth (v : Value) {a : Nat} (h : a ≠ q) : mput m (.map (some q)) k v a = m a := if_neg h
theorem mdel_oth {a : Nat} (h : a ≠ q) : mdel m (.map (some q)) k a = m a := if_neg h
theorem efind_split {k : Value} (hk : kSmp k = true) : ∀ {es : List MapEntry} {i0 j : Nat} {v : Value}, efind k es i0 = some (j, v) → ∃ A e B, es = A ++ e :: B ∧ A.length + i0 = j ∧ e.key = k ∧ e.val = v ∧ ∀ a ∈ A, a.key ≠ k
  | [], _, _, _, h => by cases h
  | e :: r, i0, j, v, h => by
    simp only [efind] at h
    split at h
    · rename_i hb
      cases h
      exact ⟨[], e, r, rfl, by simp, ((kEq_iff hk).1 hb).symm, rfl, by simp⟩
    · rename_i hb
      obtain ⟨A, e', B, h1, h2, h3, h4, h5⟩ := efind_split hk h
      refine ⟨e :: A, e', B, by rw [h1]; rfl, by simp only [List.length_cons]; omega, h3, h4, fun a ha => ?_⟩
      simp only [List.mem_cons] at ha
      rcases ha with rfl | ha
      · intro he
        rw [(kEq_iff hk).2 he.symm] at hb; cases hb
      · exact h5 a ha
/-- what a list of entries has at a key -/
theorem efind_val {k : Value} (hk : kSmp k = true) {es : List MapEntry} (hd : es.Pairwise fun a b => a.key ≠ b.key) (v : Value) : (efind k es 0).map (·.2) = some v ↔ ∃ e ∈ es, e.key = k ∧ e.val = v := by
  constructor
  · intro h
    obtain ⟨q, h1, h2⟩ := Option.map_eq_some_iff.1 h
    obtain ⟨A, e, B, h3, _, h4, h5, _⟩ := efind_split hk (j := q.1) (v := q.2) h1
    exact ⟨e, by rw [h3]; simp, h4, h5.trans h2⟩
  · rintro ⟨e, he, h1, h2⟩
    obtain ⟨j, hj⟩ := List.getElem?_of_mem he
    rw [efind_some hk hd hj h1, ← h2]; rfl
theorem isMap.look (h : isMap kt m q) (hk : kSmp k = true) (v : Value) : mlook m (.map (some q)) k = some v ↔ ∃ es c, m q = some (.map es c) ∧ ∃ e ∈ es.toList, e.key = k ∧ e.val = v := by
  obtain ⟨es, c, h1, h2, h3, _⟩ := h
  have : mpE m (.map (some q)) = es.toList := by simp [mpE, h1]
  unfold mlook
  rw [this, efind_val hk h3]
  constructor
  · exact fun h => ⟨es, c, h1, h⟩
  · rintro ⟨es', c', h4, h5⟩
    rw [h1] at h4; cases h4
    exact h5
theorem opt_ext {a b : Option Value} (h : ∀ v, a = some v ↔ b = some v) : a = b := by
  cases a with
  | none => cases b with
    | none => rfl
    | some y => exact absurd ((h y).2 rfl) (by simp)
  | some x => exact ((h x).1 rfl).symm
theorem isMap.put (h : isMap kt m q) (hk : okKey Try.prog kt k) (x : Value) : isMap kt (mput m (.map (some q)) k x) q ∧ mlook (mput m (.map (some q)) k x) (.map (some q)) k = some x ∧
    ∀ k', kSmp k' = true → k' ≠ k → mlook (mput m (.map (some q)) k x) (.map (some q)) k' = mlook m (.map (some q)) k' := by
  have h0 := h
  obtain ⟨es, c, h1, h2, h3, hst⟩ := h
  have hs := hk.2
  have hat : mput m (.map (some q)) k x q = some (esPut k x c es) := by
    simp only [mput, mchg, if_true, h1]
  cases hf : efind k es.toList 0 with
  | none =>
    have hp : mput m (.map (some q)) k x q = some (.map (es.push { key := k, val := x, born := c }) (c + 1)) := by rw [hat]; simp only [esPut, hf]
    have hno : ∀ e ∈ es.toList, e.key ≠ k := by
      intro e he hek
      have := (efind_val hs h3 e.val).2 ⟨e, he, hek, rfl⟩
      rw [hf] at this; cases this
    have hm : isMap kt (mput m (.map (some q)) k x) q := by
      refine ⟨_, _, hp, fun e he => ?_, ?_⟩
      · rw [Array.toList_push, List.mem_append, List.mem_singleton] at he
        rcases he with he | rfl
        · exact h2 e he
        · exact hk.1
      · rw [Array.toList_push, List.pairwise_append]
        refine ⟨⟨h3, List.pairwise_singleton _ _, fun a ha b hb => ?_⟩, MapKept.stamped_push hst hno⟩
        rw [List.mem_singleton] at hb
        subst hb
        exact hno a ha
    refine ⟨hm, (hm.look hs x).2 ⟨_, _, hp, ⟨k, x, c⟩, by simp, rfl, rfl⟩, fun k' hk' hne => opt_ext fun v => ?_⟩
    rw [hm.look hk', h0.look hk']
    constructor
    · rintro ⟨es', c', g1, e, g2, g3, g4⟩
      rw [hp] at g1; cases g1
      rw [Array.toList_push, List.mem_append, List.mem_singleton] at g2
      rcases g2 with g2 | rfl
      · exact ⟨es, c, h1, e, g2, g3, g4⟩
      · exact absurd g3.symm hne
    · rintro ⟨es', c', g1, e, g2, g3, g4⟩
      rw [h1] at g1; cases g1
      exact ⟨_, _, hp, e, by simp [Array.mem_toList_iff.1 g2], g3, g4⟩
  | some r =>
    obtain ⟨j, v0⟩ := r
    obtain ⟨A, e0, B, g1, g2, g3, g4, g5⟩ := efind_split hs hf
    have hp : mput m (.map (some q)) k x q = some (.map (es.modify j fun e => { e with key := k, val := x }) c) := by rw [hat]; simp only [esPut, hf]
    have hl : (es.modify j fun e => { e with key := k, val := x }).toList = A ++ { e0 with key := k, val := x } :: B := by
      rw [Array.toList_modify, g1, List.modify_eq_take_cons_drop (by simp; omega)]
      have : j = A.length := by omega
      subst this
      simp
    have hpw : (A ++ { e0 with key := k, val := x } :: B).Pairwise (fun a b => a.key ≠ b.key) := by
      rw [g1] at h3
      rw [List.pairwise_append, List.pairwise_cons] at h3 ⊢
      refine ⟨h3.1, ⟨fun b hb => ?_, h3.2.1.2⟩, fun a ha b hb => ?_⟩
      · have := h3.2.1.1 b hb; rw [g3] at this; exact this
      · rw [List.mem_cons] at hb
        rcases hb with rfl | hb
        · exact g5 a ha
        · exact h3.2.2 a ha b (List.mem_cons_of_mem _ hb)
    have hm : isMap kt (mput m (.map (some q)) k x) q := by
      refine ⟨_, _, hp, fun e he => ?_, by rw [hl]; exact hpw, MapKept.stamped_modify hst j _ (fun _ _ => rfl) (fun e he hj => ?_)⟩
      rotate_left
      · have e1 : es.toList[j]? = some e := by simpa using hj
        have e2 : j = A.length := by omega
        rw [g1, e2, List.getElem?_append_right (Nat.le_refl _), Nat.sub_self, List.getElem?_cons_zero] at e1
        cases e1
        exact g3.symm
      rw [hl, List.mem_append, List.mem_cons] at he
      rcases he with he | rfl | he
      · exact h2 e (by rw [g1]; simp [he])
      · exact hk.1
      · exact h2 e (by rw [g1]; simp [he])
    refine ⟨hm, (hm.look hs x).2 ⟨_, _, hp, { e0 with key := k, val := x }, by rw [hl]; simp, rfl, rfl⟩, fun k' hk' hne => opt_ext fun v => ?_⟩
    rw [hm.look hk', h0.look hk']
    constructor
    · rintro ⟨es', c', i1, e, i2, i3, i4⟩
      rw [hp] at i1; cases i1
      rw [hl, List.mem_append, List.mem_cons] at i2
      rcases i2 with i2 | rfl | i2
      · exact ⟨es, c, h1, e, by rw [g1]; simp [i2], i3, i4⟩
      · exact absurd i3.symm hne
      · exact ⟨es, c, h1, e, by rw [g1]; simp [i2], i3, i4⟩
    · rintro ⟨es', c', i1, e, i2, i3, i4⟩
      rw [h1] at i1; cases i1
      rw [g1, List.mem_append, List.mem_cons] at i2
      refine ⟨_, _, hp, e, ?_, i3, i4⟩
      rw [hl, List.mem_append, List.mem_cons]
      rcases i2 with i2 | rfl | i2
      · exact .inl i2
      · exact absurd (i3.symm.trans g3) hne
      · exact .inr (.inr i2)
theorem isMap.del (h : isMap kt m q) (hk : okKey Try.prog kt k) : isMap kt (mdel m (.map (some q)) k) q ∧ mlook (mdel m (.map (some q)) k) (.map (some q)) k = none ∧
    ∀ k', kSmp k' = true → k' ≠ k → mlook (mdel m (.map (some q)) k) (.map (some q)) k' = mlook m (.map (some q)) k' := by
  have h0 := h
  obtain ⟨es, c, h1, h2, h3, hst⟩ := h
  have hs := hk.2
  have hat : mdel m (.map (some q)) k q = some (esDel k c es) := by
    simp only [mdel, mchg, if_true, h1]
  cases hf : efind k es.toList 0 with
  | none =>
    have hp : mdel m (.map (some q)) k q = some (.map es c) := by rw [hat]; simp only [esDel, hf]
    have hq : mdel m (.map (some q)) k q = m q := hp.trans h1.symm
    refine ⟨h0.congr hq, ?_, fun k' _ _ => mlook_congr hq k'⟩
    rw [mlook_congr hq]
    have : mpE m (.map (some q)) = es.toList := by simp [mpE, h1]
    unfold mlook
    rw [this, hf]; rfl
  | some r =>
    obtain ⟨j, v0⟩ := r
    obtain ⟨A, e0, B, g1, g2, g3, g4, g5⟩ := efind_split hs hf
    have hp : mdel m (.map (some q)) k q = some (.map (es.eraseIdxIfInBounds j) c) := by rw [hat]; simp only [esDel, hf]
    have hl : (es.eraseIdxIfInBounds j).toList = A ++ B := by
      have : (es.eraseIdxIfInBounds j).toList = es.toList.eraseIdx j := by simp
      rw [this, g1]
      have : j = A.length := by omega
      subst this
      rw [List.eraseIdx_append_of_length_le (Nat.le_refl _)]
      simp
    have h3' := h3
    rw [g1, List.pairwise_append, List.pairwise_cons] at h3'
    have hm : isMap kt (mdel m (.map (some q)) k) q := by
      refine ⟨_, _, hp, fun e he => ?_, ?_⟩
      · rw [hl, List.mem_append] at he
        rcases he with he | he
        · exact h2 e (by rw [g1]; simp [he])
        · exact h2 e (by rw [g1]; simp [he])
      · rw [hl, List.pairwise_append]
        exact ⟨⟨h3'.1, h3'.2.1.2, fun a ha b hb => h3'.2.2 a ha b (List.mem_cons_of_mem _ hb)⟩, MapKept.stamped_erase hst j⟩
    have hno : ∀ e ∈ A ++ B, e.key ≠ k := by
      intro e he hek
      rw [List.mem_append] at he
      rcases he with he | he
      · exact g5 e he hek
      · exact h3'.2.1.1 e he (g3.trans hek.symm)
    refine ⟨hm, ?_, fun k' hk' hne => opt_ext fun v => ?_⟩
    · cases hv : mlook (mdel m (.map (some q)) k) (.map (some q)) k with
      | none => rfl
      | some v =>
        obtain ⟨es', c', i1, e, i2, i3, i4⟩ := (hm.look hs v).1 hv
        rw [hp] at i1; cases i1
        rw [hl] at i2
        exact absurd i3 (hno e i2)
    rw [hm.look hk', h0.look hk']
    constructor
    · rintro ⟨es', c', i1, e, i2, i3, i4⟩
      rw [hp] at i1; cases i1
      rw [hl, List.mem_append] at i2
      exact ⟨es, c, h1, e, by rw [g1, List.mem_append, List.mem_cons]; exact i2.imp id .inr, i3, i4⟩
    · rintro ⟨es', c', i1, e, i2, i3, i4⟩
      rw [h1] at i1; cases i1
      rw [g1, List.mem_append, List.mem_cons] at i2
      refine ⟨_, _, hp, e, ?_, i3, i4⟩
      rw [hl, List.mem_append]
      rcases i2 with i2 | rfl | i2
      · exact .inl i2
      · exact absurd (i3.symm.trans g3) hne
      · exact .inr i2
end
end Go.Proofs.Ytnlohongffpkpaa.T16
end

section
/- Layer 17: what is at a place: a list, or a tree, by the raw memory. A text of the session's own. -/
namespace Go.Proofs.Ytnlohongffpkpaa.T16
open Go Go.RowKit Go.Proofs.Ytnlohongffpkpaa.Sx Go.Proofs
set_option linter.unusedVariables false
set_option linter.unusedSimpArgs false

structure Str where
  tree : Bool
  t : Nat
  D : Nat → Prop
  hs : List Hn
def tsD (S : TS) (a : Nat) : Prop := a = S.t ∨ a = S.q ∨ S.H ((a : Int) + 1) ≠ none
def InL (X : Str) (m : Mem) : Prop := ∃ q L, DL m X.t q L ∧ (∀ a, X.D a ↔ dlD X.t q L a) ∧ X.hs = hsL L
def InT (X : Str) (m : Mem) : Prop := ∃ (S : TS) (t : T) (n : Nat), S.mem m = m ∧ Tre S t n ∧ X.t = S.t ∧ (∀ a, X.D a ↔ tsD S a) ∧ X.hs = hans t
def Str.In (X : Str) (m : Mem) : Prop := (X.tree = false ∧ InL X m) ∨ (X.tree = true ∧ InT X m)
theorem Str.In.l {X : Str} {m : Mem} (h : X.In m) (ht : X.tree = false) : InL X m := by
  rcases h with h | h
  · exact h.2
  · rw [ht] at h; cases h.1
theorem Str.In.tr {X : Str} {m : Mem} (h : X.In m) (ht : X.tree = true) : InT X m := by
  rcases h with h | h
  · rw [ht] at h; cases h.1
  · exact h.2
theorem ts_in {S : TS} {a : Nat} (h : tsD S a) (m m' : Mem) : S.mem m a = S.mem m' a := by
  unfold TS.mem
  by_cases h1 : a = S.t
  · simp [h1]
  · by_cases h2 : a = S.q
    · rw [if_neg h1, if_pos h2, if_neg h1, if_pos h2]
    · rw [if_neg h1, if_neg h2, if_neg h1, if_neg h2]
      have h3 : S.H ((a : Int) + 1) ≠ none := by
        rcases h with h | h | h
        · exact absurd h h1
        · exact absurd h h2
        · exact h
      cases e : S.H ((a : Int) + 1) with
      | none => exact absurd e h3
      | some d => rfl
theorem ts_out {S : TS} {a : Nat} (h : ¬ tsD S a) (m : Mem) : S.mem m a = m a := by
  unfold TS.mem
  have h1 : a ≠ S.t := fun e => h (.inl e)
  have h2 : a ≠ S.q := fun e => h (.inr (.inl e))
  have h3 : S.H ((a : Int) + 1) = none := by
    cases e : S.H ((a : Int) + 1) with
    | none => rfl
    | some d => exact absurd (.inr (.inr (by rw [e]; simp))) h
  simp [h1, h2, h3]
theorem ts_there {S : TS} {a : Nat} (h : tsD S a) (m : Mem) : S.mem m a ≠ none := by
  unfold TS.mem
  by_cases h1 : a = S.t
  · simp [h1]
  · by_cases h2 : a = S.q
    · rw [if_neg h1, if_pos h2]; simp
    · rw [if_neg h1, if_neg h2]
      rcases h with h | h | h
      · exact absurd h h1
      · exact absurd h h2
      · cases e : S.H ((a : Int) + 1) with
        | none => exact absurd e h
        | some d => simp
theorem ts_idem (S : TS) (m : Mem) : S.mem (S.mem m) = S.mem m := by
  funext a
  by_cases h : tsD S a
  · exact ts_in h _ _
  · exact ts_out h _
theorem Str.In.congr {X : Str} {m m' : Mem} (h : X.In m) (hm : ∀ a, X.D a → m' a = m a) : X.In m' := by
  rcases h with ⟨ht, q, L, h1, h2, h3⟩ | ⟨ht, S, t, n, h1, h2, h3, h4, h5⟩
  · exact .inl ⟨ht, q, L, h1.congr fun a ha => hm a ((h2 a).2 ha), h2, h3⟩
  · refine .inr ⟨ht, S, t, n, ?_, h2, h3, h4, h5⟩
    funext a
    by_cases h : tsD S a
    · rw [ts_in h m' m, h1]; exact (hm a ((h4 a).2 h)).symm
    · exact ts_out h _
theorem Str.In.there {X : Str} {m : Mem} (h : X.In m) {a : Nat} (ha : X.D a) : m a ≠ none := by
  rcases h with ⟨ht, q, L, h1, h2, h3⟩ | ⟨ht, S, t, n, h1, h2, h3, h4, h5⟩
  · exact h1.there ((h2 a).1 ha)
  · rw [← h1]; exact ts_there ((h4 a).1 ha) m
theorem Str.In.rng {X : Str} {m : Mem} (h : X.In m) {k : Hn} (hk : k ∈ X.hs) : okH k := by
  rcases h with ⟨ht, q, L, h1, h2, h3⟩ | ⟨ht, S, t, n, h1, h2, h3, h4, h5⟩
  · rw [h3] at hk
    obtain ⟨x, hx, rfl⟩ := List.mem_map.1 hk
    exact h1.rng hx
  · rw [h5] at hk; exact h2.rng hk
theorem nodup_of {α : Type} {l : List α} (h : ∀ (i j : Nat) (x : α), l[i]? = some x → l[j]? = some x → i = j) : l.Nodup := by
  rw [List.nodup_iff_pairwise_ne, List.pairwise_iff_getElem]
  intro i j hi hj hij e
  have := h i j l[i] (List.getElem?_eq_getElem hi) (by rw [e]; exact List.getElem?_eq_getElem hj)
  omega
theorem Str.In.nodup {X : Str} {m : Mem} (h : X.In m) : X.hs.Nodup := by
  rcases h with ⟨ht, q, L, h1, h2, h3⟩ | ⟨ht, S, t, n, h1, h2, h3, h4, h5⟩
  · rw [h3]; exact nodup_of fun i j x hi hj => h1.hinj hi hj
  · rw [h5]; exact nodup_of fun i j x hi hj => h2.inj hi hj
def putE {α : Type} (o : Bool) (x : α) (L : List α) : List α := match o with | true => x :: L | false => L ++ [x]
/-- .. changed by one of its own calls -/
structure Str.to (X X' : Str) (m m' : Mem) : Prop where
  in' : X'.In m'
  tree : X'.tree = X.tree
  t : X'.t = X.t
  dom : ∀ a, X'.D a → X.D a ∨ m a = none
  keep : ∀ a, m a ≠ none → ¬ X.D a → m' a = m a
theorem erase_mid {A B : List Hn} {k : Hn} (h : (A ++ k :: B).Nodup) : (A ++ k :: B).erase k = A ++ B := by
  rw [List.nodup_append] at h
  rw [List.erase_append_right _ (fun hk => h.2.2 k hk k (by simp) rfl), List.erase_cons_head]
theorem eraseIdx_erase {l : List Hn} (h : l.Nodup) {j : Nat} {k : Hn} (hj : l[j]? = some k) : l.eraseIdx j = l.erase k := by
  obtain ⟨A, B, e, hl⟩ : ∃ A B, l = A ++ k :: B ∧ A.length = j := by
    refine ⟨l.take j, l.drop (j + 1), ?_, ?_⟩
    · have hlt := (List.getElem?_eq_some_iff.1 hj).1
      have hk := (List.getElem?_eq_some_iff.1 hj).2
      rw [← hk]
      simp
    · rw [List.length_take]; have := (List.getElem?_eq_some_iff.1 hj).1; omega
  subst e
  rw [erase_mid h, ← hl, List.eraseIdx_append_of_length_le (Nat.le_refl _)]
  simp
section
variable {X : Str} {m : Mem}
theorem Str.push (h : X.In m) (ht : X.tree = false) {k : Hn} (hk : okH k) (o : Bool) : lpushP m ((X.t : Int) + 1) k.1 k.2 o ∧
    ∀ y, lpushQ m ((X.t : Int) + 1) k.1 k.2 o y → (k ∈ X.hs ∧ y.i = [7] ∧ y.m = m) ∨ (k ∉ X.hs ∧ y.i = [0] ∧ ∃ X', X.to X' m y.m ∧ X'.hs = putE o k X.hs) := by
  obtain ⟨q, L, h1, h2, h3⟩ := h.l ht
  have hG : (DG.mk X.t q L).is m ((X.t : Int) + 1) ∧ inI k.1 ∧ inU k.2 := ⟨⟨rfl, h1⟩, hk.1, hk.2⟩
  refine ⟨⟨_, hG⟩, fun y hy => ?_⟩
  rcases hy _ hG with ⟨a1, a2, a3⟩ | ⟨a1, a2, a, a3, a4, a5⟩
  · exact .inl ⟨by rw [h3]; exact a1, a2, a3⟩
  · simp only at a1 a4 a5
    refine .inr ⟨by rw [h3]; exact a1, a2, ⟨false, X.t, dlD X.t q (putE o (a, k.1, k.2) L), putE o k X.hs⟩, ⟨.inl ⟨rfl, q, putE o (a, k.1, k.2) L, a4, fun _ => Iff.rfl, ?_⟩, ht.symm, rfl, fun b hb => ?_, fun b hb hd => ?_⟩, rfl⟩
    · rw [h3]; cases o <;> simp [hsL, putE]
    · have : dlD X.t q L b ∨ b = a := by
        cases o <;> simp only [dlD, putE, List.map_cons, List.map_append, List.mem_cons, List.mem_append, List.map_nil, List.not_mem_nil, or_false] at hb ⊢
        · rcases hb with hb | hb | hb | hb
          · exact .inl (.inl hb)
          · exact .inl (.inr (.inl hb))
          · exact .inl (.inr (.inr hb))
          · exact .inr hb
        · rcases hb with hb | hb | hb | hb
          · exact .inl (.inl hb)
          · exact .inl (.inr (.inl hb))
          · exact .inr hb
          · exact .inl (.inr (.inr hb))
      rcases this with hb | rfl
      · exact .inl ((h2 b).2 hb)
      · exact .inr a3
    · exact a5 b hb fun e => hd ((h2 b).2 e)
theorem lto {q : Nat} {L A B : LN} {x : Nat × Int × Int} {m' : Mem} (h : X.In m) (ht : X.tree = false) (h2 : ∀ a, X.D a ↔ dlD X.t q L a) (h3 : X.hs = hsL L) (hL : L = A ++ x :: B) (hd : DL m' X.t q (A ++ B)) (hk : keepD X.t q L m m') :
    ∃ X', X.to X' m m' ∧ X'.hs = X.hs.erase (x.2.1, x.2.2) := by
  refine ⟨⟨false, X.t, dlD X.t q (A ++ B), hsL (A ++ B)⟩, ⟨.inl ⟨rfl, q, _, hd, fun _ => Iff.rfl, rfl⟩, ht.symm, rfl, fun b hb => .inl ((h2 b).2 ?_), fun b hb hn => hk b hb fun e => hn ((h2 b).2 e)⟩, ?_⟩
  · rcases hb with hb | hb | hb
    · exact .inl hb
    · exact .inr (.inl hb)
    · refine .inr (.inr ?_)
      rw [hL, List.map_append, List.mem_append, List.map_cons, List.mem_cons]
      rw [List.map_append, List.mem_append] at hb
      exact hb.imp id .inr
  · have hn := h.nodup
    show hsL (A ++ B) = _
    have e : X.hs = hsL A ++ (x.2.1, x.2.2) :: hsL B := by rw [h3, hL, hsL_app, hsL_cons]
    rw [e] at hn ⊢
    rw [erase_mid hn, hsL_app]
theorem Str.pop (h : X.In m) (ht : X.tree = false) (o : Bool) : lpopP m ((X.t : Int) + 1) o ∧
    ∀ y, lpopQ m ((X.t : Int) + 1) o y → (X.hs = [] ∧ y.i = [0, 0] ∧ y.b = [false] ∧ y.m = m) ∨ (∃ k, endH X.hs o = some k ∧ y.i = [k.1, k.2] ∧ y.b = [true] ∧ ∃ X', X.to X' m y.m ∧ X'.hs = X.hs.erase k) := by
  obtain ⟨q, L, h1, h2, h3⟩ := h.l ht
  have hG : DG.isN m ((X.t : Int) + 1) (some (DG.mk X.t q L)) := ⟨rfl, h1⟩
  refine ⟨⟨_, hG⟩, fun y hy => ?_⟩
  rcases hy _ hG with ⟨a1, a2, a3, a4⟩ | ⟨A, x, B, a1, a2, a3, a4, a5, a6⟩
  · simp only at a1
    exact .inl ⟨by rw [h3, a1]; rfl, a2, a3, a4⟩
  · simp only at a1
    refine .inr ⟨(x.2.1, x.2.2), ?_, a3, a4, lto h ht h2 h3 a1 a5 a6⟩
    rw [h3, a1, hsL_app, hsL_cons]
    cases o with
    | true => cases a2; rfl
    | false => cases a2; simp [endH, hsL]
theorem Str.lrem (h : X.In m) (ht : X.tree = false) {k : Hn} (hk : okH k) : lremoveP m ((X.t : Int) + 1) k.1 k.2 ∧
    ∀ y, lremoveQ m ((X.t : Int) + 1) k.1 k.2 y → (k ∉ X.hs ∧ y.m = m) ∨ (k ∈ X.hs ∧ ∃ X', X.to X' m y.m ∧ X'.hs = X.hs.erase k) := by
  obtain ⟨q, L, h1, h2, h3⟩ := h.l ht
  have hG : (DG.mk X.t q L).is m ((X.t : Int) + 1) ∧ inI k.1 ∧ inU k.2 := ⟨⟨rfl, h1⟩, hk.1, hk.2⟩
  refine ⟨⟨_, hG⟩, fun y hy => ?_⟩
  rcases hy _ hG with ⟨a1, a2, a3⟩ | ⟨A, x, B, a1, a2, a3, a4, a5, a6⟩
  · exact .inl ⟨by rw [h3]; exact a1, a3⟩
  · simp only at a1 a5 a6
    have ek : k = (x.2.1, x.2.2) := by rw [a2, a3]
    refine .inr ⟨?_, ?_⟩
    · rw [h3, a1, hsL_app, hsL_cons, ek]; simp
    · rw [ek]; exact lto h ht h2 h3 a1 a5 a6
theorem tto {S S' : TS} {t' : T} {n' : Nat} {m' : Mem} (ht : X.tree = true) (h1 : S.mem m = m) (h3 : X.t = S.t) (h4 : ∀ a, X.D a ↔ tsD S a) (e1 : m' = S'.mem m) (e2 : S'.t = S.t) (e3 : Tre S' t' n') (hd : ∀ a, tsD S' a → tsD S a ∨ m a = none) :
    ∃ X', X.to X' m m' ∧ X'.hs = hans t' := by
  refine ⟨⟨true, S'.t, tsD S', hans t'⟩, ⟨.inr ⟨rfl, S', t', n', by rw [e1]; exact ts_idem _ _, e3, rfl, fun _ => Iff.rfl, rfl⟩, ht.symm, e2.trans h3.symm, fun a ha => (hd a ha).imp (h4 a).2 id, fun a ha hn => ?_⟩, rfl⟩
  rw [e1]
  refine ts_out (fun hs => ?_) m
  rcases hd a hs with h | h
  · exact hn ((h4 a).2 h)
  · exact ha h
theorem Str.ins (h : X.In m) (ht : X.tree = true) (hsz : X.hs.length + 1 < 1152921504606846976) {k : Hn} (hk : okH k) (i : Int) : insertP m ((X.t : Int) + 1) i k.1 k.2 ∧
    ∀ y, insertQ m ((X.t : Int) + 1) i k.1 k.2 y → ((i < 0 ∨ (X.hs.length : Int) < i) ∧ y.i = [2] ∧ y.m = m) ∨ (0 ≤ i ∧ i ≤ X.hs.length ∧ k ∈ X.hs ∧ y.i = [7] ∧ y.m = m) ∨
      (0 ≤ i ∧ i ≤ X.hs.length ∧ k ∉ X.hs ∧ y.i = [0] ∧ ∃ X', X.to X' m y.m ∧ X'.hs = X.hs.take i.toNat ++ k :: X.hs.drop i.toNat) := by
  obtain ⟨S, t, n, h1, h2, h3, h4, h5⟩ := h.tr ht
  have hlen : X.hs.length = (nodes t).length := by rw [h5]; simp [hans]
  have hG : (TG.mk S m t n).is m ((X.t : Int) + 1) ∧ t.size + 1 < 1152921504606846976 ∧ inI k.1 ∧ inU k.2 := ⟨⟨h1.symm, by rw [h3]; rfl, h2⟩, by rw [hlen, len_nodes] at hsz; exact hsz, hk.1, hk.2⟩
  refine ⟨⟨_, hG⟩, fun y hy => ?_⟩
  have hmem : (∃ x ∈ nodes t, x.2.1 = k.1 ∧ x.2.2 = k.2) ↔ k ∈ X.hs := by
    rw [h5, hans, List.mem_map]
    constructor
    · rintro ⟨x, hx, e1, e2⟩; exact ⟨x, hx, by rw [e1, e2]⟩
    · rintro ⟨x, hx, rfl⟩; exact ⟨x, hx, rfl, rfl⟩
  rcases hy _ hG with ⟨a1, a2, a3⟩ | ⟨a1, a2, a3, a4, a5⟩ | ⟨a1, a2, a3, a4, S', t', n', a, b1, b2, b3, b4, b5, b6, b7⟩
  · exact .inl ⟨by rw [hlen]; exact a1, a2, a3.trans h1⟩
  · exact .inr (.inl ⟨a1, by rw [hlen]; exact a2, hmem.1 a3, a4, a5.trans h1⟩)
  · refine .inr (.inr ⟨a1, by rw [hlen]; exact a2, fun hk => ?_, a4, ?_⟩)
    · obtain ⟨x, hx, e1, e2⟩ := hmem.2 hk
      exact a3 x hx ⟨e1, e2⟩
    · simp only at b1 b2 b3 b4 b5 b6 b7
      rw [h1] at b6
      obtain ⟨X', c1, c2⟩ := tto (S' := S') ht h1 h3 h4 b1 b2 b4 (fun c hc => by
        rcases hc with hc | hc | hc
        · exact .inl (.inl (hc.trans b2))
        · exact .inl (.inr (.inl (hc.trans b3)))
        · by_cases e : c = a
          · subst e; exact .inr b6
          · refine .inl (.inr (.inr fun hn => hc ((b7 _).2 ⟨hn, by omega⟩))))
      refine ⟨X', c1, ?_⟩
      rw [c2, hans, b5, h5, hans]
      simp [List.map_take, List.map_drop]
theorem Str.trem (h : X.In m) (ht : X.tree = true) {k : Hn} (hk : okH k) : removeP m ((X.t : Int) + 1) k.1 k.2 ∧
    ∀ y, removeQ m ((X.t : Int) + 1) k.1 k.2 y → (k ∉ X.hs ∧ y.m = m) ∨ (k ∈ X.hs ∧ ∃ X', X.to X' m y.m ∧ X'.hs = X.hs.erase k) := by
  obtain ⟨S, t, n, h1, h2, h3, h4, h5⟩ := h.tr ht
  have hG : (TG.mk S m t n).is m ((X.t : Int) + 1) ∧ inI k.1 ∧ inU k.2 := ⟨⟨h1.symm, by rw [h3]; rfl, h2⟩, hk.1, hk.2⟩
  refine ⟨⟨_, hG⟩, fun y hy => ?_⟩
  rcases hy _ hG with ⟨j, a1, a2, a3, S', t', n', b1, b2, b3, b4, b5, b6⟩ | ⟨a1, a2, a3, a4⟩
  · simp only at a1 b1 b2 b3 b4 b5 b6
    refine .inr ⟨by rw [h5]; exact List.mem_of_getElem? a1, ?_⟩
    obtain ⟨X', c1, c2⟩ := tto (S' := S') ht h1 h3 h4 b1 b2 b4 (fun c hc => by
      rcases hc with hc | hc | hc
      · exact .inl (.inl (hc.trans b2))
      · exact .inl (.inr (.inl (hc.trans b3)))
      · exact .inl (.inr (.inr fun hn => hc ((b6 _).2 hn))))
    refine ⟨X', c1, ?_⟩
    have hn := h.nodup
    rw [h5] at hn
    rw [c2, b5, h5, eraseIdx_erase hn a1]
  · simp only at a1 a4
    exact .inl ⟨fun hk => a1 k (by rw [← h5]; exact hk) rfl, a4.trans h1⟩
theorem Str.lnew {y : Vars} (h : lnewQ m y) : ∃ X : Str, y.i = [(X.t : Int) + 1] ∧ X.In y.m ∧ X.tree = false ∧ X.hs = [] ∧ (∀ a, X.D a → m a = none) ∧ ∀ a, m a ≠ none → y.m a = m a := by
  obtain ⟨t, q, a1, a2, a3, a4, a5⟩ := h
  refine ⟨⟨false, t, dlD t q [], []⟩, a1, .inl ⟨rfl, q, [], a4, fun _ => Iff.rfl, rfl⟩, rfl, rfl, fun a ha => ?_, a5⟩
  rcases ha with rfl | rfl | ha
  · exact a2
  · exact a3
  · cases ha
theorem Str.tnew {y : Vars} (h : freshQ m y) : ∃ X : Str, y.i = [(X.t : Int) + 1] ∧ X.In y.m ∧ X.tree = true ∧ X.hs = [] ∧ (∀ a, X.D a → m a = none) ∧ ∀ a, m a ≠ none → y.m a = m a := by
  obtain ⟨S, a1, a2, a3, a4, a5, a6⟩ := h
  refine ⟨⟨true, S.t, tsD S, []⟩, a1, .inr ⟨rfl, S, .nil, 0, by rw [a2]; exact ts_idem _ _, a3, rfl, fun _ => Iff.rfl, rfl⟩, rfl, rfl, fun a ha => ?_, fun a ha => ?_⟩
  · rcases ha with rfl | rfl | ha
    · exact a4
    · exact a5
    · exact absurd (a6 _) ha
  · rw [a2]
    refine ts_out (fun hd => ?_) m
    rcases hd with rfl | rfl | hd
    · exact ha a4
    · exact ha a5
    · exact hd (a6 _)
theorem Str.llen (h : X.In m) (ht : X.tree = false) : llenOK m ((X.t : Int) + 1) ∧ llenV m ((X.t : Int) + 1) = X.hs.length := by
  obtain ⟨q, L, h1, h2, h3⟩ := h.l ht
  have := llen_spec h1
  rw [h3, hsL_len]; exact this
theorem Str.tlen (h : X.In m) (ht : X.tree = true) : lenOK m ((X.t : Int) + 1) ∧ lenV m ((X.t : Int) + 1) = X.hs.length := by
  obtain ⟨S, t, n, h1, h2, h3, h4, h5⟩ := h.tr ht
  have := len_spec (b := m) h2.at'
  rw [h1] at this
  rw [h5, len_hans, h3]; exact this
theorem Str.lall (h : X.In m) (ht : X.tree = false) (hsz : X.hs.length < 1099511627776) : lallP m ((X.t : Int) + 1) ∧ ∀ y, lallQ m ((X.t : Int) + 1) y → rowOf m X.hs (hdV y.v) y.m := by
  obtain ⟨q, L, h1, h2, h3⟩ := h.l ht
  have hG : (DG.mk X.t q L).is m ((X.t : Int) + 1) ∧ L.length < 1099511627776 := ⟨⟨rfl, h1⟩, by rw [h3, hsL_len] at hsz; exact hsz⟩
  refine ⟨⟨_, hG⟩, fun y hy => ?_⟩
  rw [h3]; exact hy _ hG
theorem Str.tall (h : X.In m) (ht : X.tree = true) (hsz : X.hs.length < 1099511627776) : allP m ((X.t : Int) + 1) ∧ ∀ y, allQ m ((X.t : Int) + 1) y → rowOf m X.hs (hdV y.v) y.m := by
  obtain ⟨S, t, n, h1, h2, h3, h4, h5⟩ := h.tr ht
  have hG : (TG.mk S m t n).is m ((X.t : Int) + 1) ∧ t.size < 1099511627776 := ⟨⟨h1.symm, by rw [h3]; rfl, h2⟩, by rw [h5, len_hans] at hsz; exact hsz⟩
  refine ⟨⟨_, hG⟩, fun y hy => ?_⟩
  rw [h5]; exact hy _ hG
theorem Str.tat (h : X.In m) (ht : X.tree = true) {i : Nat} {k : Hn} (hi : X.hs[i]? = some k) : atP m ((X.t : Int) + 1) i ∧ ∀ y, atQ m ((X.t : Int) + 1) i y → y.m = m ∧ y.i = [k.1, k.2] ∧ y.b = [true] := by
  obtain ⟨S, t, n, h1, h2, h3, h4, h5⟩ := h.tr ht
  have hG : (TG.mk S m t n).is m ((X.t : Int) + 1) := ⟨h1.symm, by rw [h3]; rfl, h2⟩
  refine ⟨⟨_, hG⟩, fun y hy => ?_⟩
  obtain ⟨a1, a2⟩ := hy _ hG
  rw [h5] at hi
  exact ⟨a2, at_ok a1 hi⟩
end
end Go.Proofs.Ytnlohongffpkpaa.T16
end

section
/- Layer 17: a graph in the memory; its readers; what comes, what goes. A text of the session's own. -/
namespace Go.Proofs.Ytnlohongffpkpaa.T16
open Go Go.RowKit Go.Proofs.Ytnlohongffpkpaa.Sx Go.Proofs
set_option linter.unusedVariables false
set_option linter.unusedSimpArgs false

/-! what a call is handed, and tells -/
def iOf : C → Option Int
  | .li .i64 n => some n
  | .si .i64 n => some n
  | _ => none
def plaOf : V → Option (Int × Int × Int)
  | .u (.agg [a, b, c]) => (match iOf a, iOf b, iOf c with | some x, some y, some z => some (x, y, z) | _, _, _ => none)
  | _ => none
theorem iOf_den {c : C} {n : Int} (h : iOf c = some n) (ρ : Nat → Nat) : c.den ρ = .int .i64 n := by
  unfold iOf at h
  split at h
  · cases h; rfl
  · cases h; rfl
  · cases h
theorem plaOf_den {v : V} {x y z : Int} (h : plaOf v = some (x, y, z)) (ρ : Nat → Nat) : v.den ρ = V.den ρ (.u (.agg [.si .i64 x, .si .i64 y, .si .i64 z])) := by
  unfold plaOf at h
  split at h
  · rename_i a b c
    split at h
    · rename_i h1 h2 h3
      cases h
      simp only [V.den, U.den, dens, List.map_cons, List.map_nil, iOf_den h1, iOf_den h2, iOf_den h3]
      rfl
    · cases h
  · cases h
theorem svOf_den2 {v : V} {x : Value} (h : svOf v = some x) (ρ : Nat → Nat) : v.den ρ = V.den ρ (.u (.c (.sv x))) := by
  unfold svOf at h
  split at h
  · rename_i u
    cases h
    show pl u = pl (pl u)
    cases u <;> rfl
  · cases h; rfl
  · cases h
def vU8 : V → Int
  | .u (.c (.li .u8 n)) => n
  | .u (.c (.si .u8 n)) => n
  | _ => 0
def vPB : V → Int × Int × Int × Bool
  | .tup [.agg [a, b, c], .c d] => (cI a, cI b, cI c, cB d)
  | _ => (0, 0, 0, false)
/-- nothing new, no loop -/
def flatP : Tr → Prop
  | .leaf _ => True
  | .br _ t e => flatP t ∧ flatP e
  | .req _ t => flatP t
  | .letm m f => flatP (f m)
  | .no _ => True
  | _ => False
theorem flat_spec {p : V → Mem → Prop} : ∀ {T : Tr}, flatP T → T.sat (isMemo p) → okP T ∧ p (outV T) (outM T)
  | .leaf (.memo _ _), _, h => ⟨trivial, h⟩
  | .leaf (.ret _ _ _), _, h => h.elim
  | .leaf (.out _ _), _, h => h.elim
  | .leaf (.val _), _, h => h.elim
  | .leaf (.again _), _, h => h.elim
  | .leaf (.up _), _, h => h.elim
  | .br b t e, hf, h => by
    cases b
    · have := flat_spec (T := e) hf.2 (h.2 rfl)
      exact ⟨⟨(fun e => by cases e), fun _ => this.1⟩, this.2⟩
    · have := flat_spec (T := t) hf.1 (h.1 rfl)
      exact ⟨⟨fun _ => this.1, (fun e => by cases e)⟩, this.2⟩
  | .req q t, hf, h => by
    have := flat_spec (T := t) hf h.2
    exact ⟨⟨h.1, this.1⟩, this.2⟩
  | .letm m f, hf, h => flat_spec (T := f m) hf h
  | .any _ _, hf, _ => hf.elim
  | .lp _ _, hf, _ => hf.elim
  | .no _, _, h => h.elim
def T_made (m : Mem) (t : Int) : Tr := (.br (cmpOK m t 0) (.br (bNot (peq t 0)) (.br (nzp t) (.br (nzp t) (.br (okL m t 0 [(.raw (.map (.none)))]) (.br (isMpV (pl (mcell m t 0))) (.leaf (.memo (.u (.c (.sb (bNot (isNilM (pl (mcell m t 0))))))) m)) (.no 109)) (.no 70)) (.no 76)) (.no 75)) (.leaf (.memo (.u (.c (.lb false))) m))) (.no 78))
theorem t_made (m : Mem) (t : Int) : runm Try.prog [] (drawx Try.prog []) 300 57 [.u (.c (.np t 0))] m [98, 92, 95, 142, 140, 137, 111, 107, 108, 109] = T_made m t := by kernel_rfl
def madeOK (m : Mem) (t : Int) : Prop := okP (T_made m t)
def madeV (m : Mem) (t : Int) : Bool := vBool (outV (T_made m t))
theorem made_all (m : Mem) (t : Int) : allL (fun v m' => m' = m ∧ ∀ ρ, V.den ρ v = V.den ρ (.u (.c (.sb (vBool v))))) (T_made m t) := by
  simp only [T_made, allL]
  repeat' (first | exact fun _ => rfl | exact fun _ => trivial | exact trivial | rfl | constructor)
def s_made : Sum := rdSum 57 fun m a => match a with | [a0] => (match ptrOf a0 with | some t => some (madeOK m t, .u (.c (.sb (madeV m t)))) | _ => none) | _ => none
theorem s_made_ok : SumOK Try.prog s_made := by
  refine rdSum_ok ⟨_, Try.func57, by kernel_rfl⟩ fun m args pre v h hp hw ρ w hm => ?_
  split at h
  · split at h
    · rename_i a0 _  t h0
      cases h
      exact dm_calls nameOK okn (dOK okn) 300 _ m _ (t_made m t) hp (allL_out (made_all m t) hp).1 ρ ((allL_out (made_all m t) hp).2 ρ) w hm (by simp only [List.map_cons, List.map_nil, ptrOf_den h0])
    · cases h
  · cases h
def T_listed (m : Mem) (t : Int) (pm ps pa : Int) : Tr := (.br (nzp t) (.br (nzp t) (.br (okL m t 0 [(.raw (.map (.none)))]) (.req ((Go.Maps.Keyed Try.prog 59) ∧ ((okM Try.prog 59 m (pl (mcell m t 0))) ∧ ((okKey Try.prog 59 (.agg (.mk [(.int .i64 pm), (.int .i64 ps), (.int .i64 pa)]))) ∧ (((okU (.c (.raw .nilIface)) (lkZ m (pl (mcell m t 0)) (.agg (.mk [(.int .i64 pm), (.int .i64 ps), (.int .i64 pa)])) .nilIface)) : Bool) = true)))) (.br (isIfV (pl (lkZ m (pl (mcell m t 0)) (.agg (.mk [(.int .i64 pm), (.int .i64 ps), (.int .i64 pa)])) .nilIface))) (.leaf (.memo (.u (.c (.np (ifP 112 (pl (lkZ m (pl (mcell m t 0)) (.agg (.mk [(.int .i64 pm), (.int .i64 ps), (.int .i64 pa)])) .nilIface))) 0))) m)) (.no 130))) (.no 70)) (.no 76)) (.no 75))
theorem t_listed (m : Mem) (t : Int) (pm ps pa : Int) : runm Try.prog [] (drawx Try.prog []) 300 58 [.u (.c (.np t 0)), .u (.agg [.si .i64 pm, .si .i64 ps, .si .i64 pa])] m [98, 92, 95, 142, 140, 137, 111, 107, 108, 109] = T_listed m t pm ps pa := by kernel_rfl
def listedOK (m : Mem) (t : Int) (pm ps pa : Int) : Prop := okP (T_listed m t pm ps pa)
def listedV (m : Mem) (t : Int) (pm ps pa : Int) : Int := vPtr (outV (T_listed m t pm ps pa))
theorem listed_all (m : Mem) (t : Int) (pm ps pa : Int) : allL (fun v m' => m' = m ∧ ∀ ρ, V.den ρ v = V.den ρ (.u (.c (.np (vPtr v) 0)))) (T_listed m t pm ps pa) := by
  simp only [T_listed, allL]
  repeat' (first | exact fun _ => rfl | exact fun _ => trivial | exact trivial | rfl | constructor)
def s_listed : Sum := rdSum 58 fun m a => match a with | [a0, a1] => (match ptrOf a0, plaOf a1 with | some t, some (pm, ps, pa) => some (listedOK m t pm ps pa, .u (.c (.np (listedV m t pm ps pa) 0))) | _, _ => none) | _ => none
theorem s_listed_ok : SumOK Try.prog s_listed := by
  refine rdSum_ok ⟨_, Try.func58, by kernel_rfl⟩ fun m args pre v h hp hw ρ w hm => ?_
  split at h
  · split at h
    · rename_i a0 a1 _ _  t pm ps pa h0 h1
      cases h
      exact dm_calls nameOK okn (dOK okn) 300 _ m _ (t_listed m t pm ps pa) hp (allL_out (listed_all m t pm ps pa) hp).1 ρ ((allL_out (listed_all m t pm ps pa) hp).2 ρ) w hm (by simp only [List.map_cons, List.map_nil, ptrOf_den h0, plaOf_den h1])
    · cases h
  · cases h
def T_treed (m : Mem) (t : Int) (pm ps pa : Int) : Tr := (.br (nzp t) (.br (nzp t) (.br (okL m t 0 [(.raw (.map (.none)))]) (.req ((Go.Maps.Keyed Try.prog 59) ∧ ((okM Try.prog 59 m (pl (mcell m t 0))) ∧ ((okKey Try.prog 59 (.agg (.mk [(.int .i64 pm), (.int .i64 ps), (.int .i64 pa)]))) ∧ (((okU (.c (.raw .nilIface)) (lkZ m (pl (mcell m t 0)) (.agg (.mk [(.int .i64 pm), (.int .i64 ps), (.int .i64 pa)])) .nilIface)) : Bool) = true)))) (.br (isIfV (pl (lkZ m (pl (mcell m t 0)) (.agg (.mk [(.int .i64 pm), (.int .i64 ps), (.int .i64 pa)])) .nilIface))) (.leaf (.memo (.u (.c (.np (ifP 24 (pl (lkZ m (pl (mcell m t 0)) (.agg (.mk [(.int .i64 pm), (.int .i64 ps), (.int .i64 pa)])) .nilIface))) 0))) m)) (.no 130))) (.no 70)) (.no 76)) (.no 75))
theorem t_treed (m : Mem) (t : Int) (pm ps pa : Int) : runm Try.prog [] (drawx Try.prog []) 300 62 [.u (.c (.np t 0)), .u (.agg [.si .i64 pm, .si .i64 ps, .si .i64 pa])] m [98, 92, 95, 142, 140, 137, 111, 107, 108, 109] = T_treed m t pm ps pa := by kernel_rfl
def treedOK (m : Mem) (t : Int) (pm ps pa : Int) : Prop := okP (T_treed m t pm ps pa)
def treedV (m : Mem) (t : Int) (pm ps pa : Int) : Int := vPtr (outV (T_treed m t pm ps pa))
theorem treed_all (m : Mem) (t : Int) (pm ps pa : Int) : allL (fun v m' => m' = m ∧ ∀ ρ, V.den ρ v = V.den ρ (.u (.c (.np (vPtr v) 0)))) (T_treed m t pm ps pa) := by
  simp only [T_treed, allL]
  repeat' (first | exact fun _ => rfl | exact fun _ => trivial | exact trivial | rfl | constructor)
def s_treed : Sum := rdSum 62 fun m a => match a with | [a0, a1] => (match ptrOf a0, plaOf a1 with | some t, some (pm, ps, pa) => some (treedOK m t pm ps pa, .u (.c (.np (treedV m t pm ps pa) 0))) | _, _ => none) | _ => none
theorem s_treed_ok : SumOK Try.prog s_treed := by
  refine rdSum_ok ⟨_, Try.func62, by kernel_rfl⟩ fun m args pre v h hp hw ρ w hm => ?_
  split at h
  · split at h
    · rename_i a0 a1 _ _  t pm ps pa h0 h1
      cases h
      exact dm_calls nameOK okn (dOK okn) 300 _ m _ (t_treed m t pm ps pa) hp (allL_out (treed_all m t pm ps pa) hp).1 ρ ((allL_out (treed_all m t pm ps pa) hp).2 ρ) w hm (by simp only [List.map_cons, List.map_nil, ptrOf_den h0, plaOf_den h1])
    · cases h
  · cases h
def T_may (m : Mem) (t : Int) (pm ps pa : Int) (hs hg : Int) (n : Int) (f : Bool) : Tr := (.req (madeOK m t) (.br (bNot (madeV m t)) (.leaf (.memo (.u (.c (.li .i64 1))) m)) (.br (nzp t) (.br (nzp t) (.br (okL m t 1 [(.raw (.map (.none)))]) (.req ((Go.Maps.Keyed Try.prog 121) ∧ ((okM Try.prog 121 m (pl (mcell m t 1))) ∧ ((okKey Try.prog 121 (.agg (.mk [(.int .i64 hs), (.int .u64 hg), (.int .i64 n)]))) ∧ (((okU (.agg [(.li .i64 0), (.li .i64 0), (.li .i64 0)]) (lkZ m (pl (mcell m t 1)) (.agg (.mk [(.int .i64 hs), (.int .u64 hg), (.int .i64 n)])) (.agg (.mk [(.int .i64 0), (.int .i64 0), (.int .i64 0)])))) : Bool) = true)))) (.br (nzp t) (.br (nzp t) (.br (okL m t 2 [(.raw (.map (.none)))]) (.req ((Go.Maps.Keyed Try.prog 126) ∧ ((okM Try.prog 126 m (pl (mcell m t 2))) ∧ ((okKey Try.prog 126 (.agg (.mk [(.int .i64 pm), (.int .i64 ps), (.int .i64 pa), (.int .i64 hs), (.int .u64 hg)]))) ∧ (((okU (.c (.li .i64 0)) (lkZ m (pl (mcell m t 2)) (.agg (.mk [(.int .i64 pm), (.int .i64 ps), (.int .i64 pa), (.int .i64 hs), (.int .u64 hg)])) (.int .i64 0))) : Bool) = true)))) (.br (mhas m (pl (mcell m t 1)) (.agg (.mk [(.int .i64 hs), (.int .u64 hg), (.int .i64 n)]))) (.leaf (.memo (.u (.c (.li .i64 7))) m)) (.br (nzp t) (.br (nzp t) (.br (okL m t 0 [(.raw (.map (.none)))]) (.req ((Go.Maps.Keyed Try.prog 59) ∧ ((okM Try.prog 59 m (pl (mcell m t 0))) ∧ ((okKey Try.prog 59 (.agg (.mk [(.int .i64 pm), (.int .i64 ps), (.int .i64 pa)]))) ∧ (((okU (.c (.raw .nilIface)) (lkZ m (pl (mcell m t 0)) (.agg (.mk [(.int .i64 pm), (.int .i64 ps), (.int .i64 pa)])) .nilIface)) : Bool) = true)))) (.br (isIfV (pl (lkZ m (pl (mcell m t 0)) (.agg (.mk [(.int .i64 pm), (.int .i64 ps), (.int .i64 pa)])) .nilIface))) (.br (bNot (isNilIf (pl (lkZ m (pl (mcell m t 0)) (.agg (.mk [(.int .i64 pm), (.int .i64 ps), (.int .i64 pa)])) .nilIface)))) (.br (bNot f) (.leaf (.memo (.u (.c (.li .i64 3))) m)) (.br (mhas m (pl (mcell m t 2)) (.agg (.mk [(.int .i64 pm), (.int .i64 ps), (.int .i64 pa), (.int .i64 hs), (.int .u64 hg)]))) (.leaf (.memo (.u (.c (.li .i64 3))) m)) (.leaf (.memo (.u (.c (.li .i64 0))) m)))) (.br (mhas m (pl (mcell m t 2)) (.agg (.mk [(.int .i64 pm), (.int .i64 ps), (.int .i64 pa), (.int .i64 hs), (.int .u64 hg)]))) (.leaf (.memo (.u (.c (.li .i64 3))) m)) (.leaf (.memo (.u (.c (.li .i64 0))) m)))) (.no 109))) (.no 70)) (.no 76)) (.no 75)))) (.no 70)) (.no 76)) (.no 75))) (.no 70)) (.no 76)) (.no 75))))
theorem t_may (m : Mem) (t : Int) (pm ps pa : Int) (hs hg : Int) (n : Int) (f : Bool) : runm Try.prog [s_made] (drawx Try.prog [s_made]) 300 56 [.u (.c (.np t 0)), .u (.agg [.si .i64 pm, .si .i64 ps, .si .i64 pa]), .u (.agg [.si .i64 hs, .si .u64 hg]), .u (.c (.si .i64 n)), .u (.c (.sb f))] m [98, 92, 95, 142, 140, 137, 111, 107, 108, 109] = T_may m t pm ps pa hs hg n f := by kernel_rfl
def mayOK (m : Mem) (t : Int) (pm ps pa : Int) (hs hg : Int) (n : Int) (f : Bool) : Prop := okP (T_may m t pm ps pa hs hg n f)
def mayV (m : Mem) (t : Int) (pm ps pa : Int) (hs hg : Int) (n : Int) (f : Bool) : Int := vInt (outV (T_may m t pm ps pa hs hg n f))
theorem may_all (m : Mem) (t : Int) (pm ps pa : Int) (hs hg : Int) (n : Int) (f : Bool) : allL (fun v m' => m' = m ∧ ∀ ρ, V.den ρ v = V.den ρ (.u (.c (.si .i64 (vInt v))))) (T_may m t pm ps pa hs hg n f) := by
  simp only [T_may, allL]
  repeat' (first | exact fun _ => rfl | exact fun _ => trivial | exact trivial | rfl | constructor)
def s_may : Sum := rdSum 56 fun m a => match a with | [a0, a1, a2, a3, a4] => (match ptrOf a0, plaOf a1, hanOf a2, intOf a3, booOf a4 with | some t, some (pm, ps, pa), some (hs, hg), some n, some f => some (mayOK m t pm ps pa hs hg n f, .u (.c (.si .i64 (mayV m t pm ps pa hs hg n f)))) | _, _, _, _, _ => none) | _ => none
theorem s_may_ok : SumOK Try.prog s_may := by
  refine rdSum_ok ⟨_, Try.func56, by kernel_rfl⟩ fun m args pre v h hp hw ρ w hm => ?_
  split at h
  · split at h
    · rename_i a0 a1 a2 a3 a4 _ _ _ _ _  t pm ps pa hs hg n f h0 h1 h2 h3 h4
      cases h
      exact dm_calls nameOK (okc s_made_ok okn) (dOK (okc s_made_ok okn)) 300 _ m _ (t_may m t pm ps pa hs hg n f) hp (allL_out (may_all m t pm ps pa hs hg n f) hp).1 ρ ((allL_out (may_all m t pm ps pa hs hg n f) hp).2 ρ) w hm (by simp only [List.map_cons, List.map_nil, ptrOf_den h0, plaOf_den h1, hanOf_den h2, intOf_den h3, booOf_den h4])
    · cases h
  · cases h
def T_gin (m : Mem) (t : Int) (hs hg : Int) (n : Int) : Tr := (.br (cmpOK m t 0) (.br (peq t 0) (.leaf (.memo (.tup [(.agg [(.li .i64 0), (.li .i64 0), (.li .i64 0)]), (.c (.lb false))]) m)) (.br (nzp t) (.br (nzp t) (.br (okL m t 1 [(.raw (.map (.none)))]) (.req ((Go.Maps.Keyed Try.prog 121) ∧ ((okM Try.prog 121 m (pl (mcell m t 1))) ∧ ((okKey Try.prog 121 (.agg (.mk [(.int .i64 hs), (.int .u64 hg), (.int .i64 n)]))) ∧ (((okU (.agg [(.li .i64 0), (.li .i64 0), (.li .i64 0)]) (lkZ m (pl (mcell m t 1)) (.agg (.mk [(.int .i64 hs), (.int .u64 hg), (.int .i64 n)])) (.agg (.mk [(.int .i64 0), (.int .i64 0), (.int .i64 0)])))) : Bool) = true)))) (.leaf (.memo (.tup [(.agg [(.si .i64 (vI (cellAt (lkZ m (pl (mcell m t 1)) (.agg (.mk [(.int .i64 hs), (.int .u64 hg), (.int .i64 n)])) (.agg (.mk [(.int .i64 0), (.int .i64 0), (.int .i64 0)]))) 0))), (.si .i64 (vI (cellAt (lkZ m (pl (mcell m t 1)) (.agg (.mk [(.int .i64 hs), (.int .u64 hg), (.int .i64 n)])) (.agg (.mk [(.int .i64 0), (.int .i64 0), (.int .i64 0)]))) 1))), (.si .i64 (vI (cellAt (lkZ m (pl (mcell m t 1)) (.agg (.mk [(.int .i64 hs), (.int .u64 hg), (.int .i64 n)])) (.agg (.mk [(.int .i64 0), (.int .i64 0), (.int .i64 0)]))) 2)))]), (.c (.sb (mhas m (pl (mcell m t 1)) (.agg (.mk [(.int .i64 hs), (.int .u64 hg), (.int .i64 n)])))))]) m))) (.no 70)) (.no 76)) (.no 75))) (.no 78))
theorem t_gin (m : Mem) (t : Int) (hs hg : Int) (n : Int) : runm Try.prog [] (drawx Try.prog []) 300 39 [.u (.c (.np t 0)), .u (.agg [.si .i64 hs, .si .u64 hg]), .u (.c (.si .i64 n))] m [98, 92, 95, 142, 140, 137, 111, 107, 108, 109] = T_gin m t hs hg n := by kernel_rfl
def ginOK (m : Mem) (t : Int) (hs hg : Int) (n : Int) : Prop := okP (T_gin m t hs hg n)
def ginV (m : Mem) (t : Int) (hs hg : Int) (n : Int) : Int × Int × Int × Bool := vPB (outV (T_gin m t hs hg n))
theorem gin_all (m : Mem) (t : Int) (hs hg : Int) (n : Int) : allL (fun v m' => m' = m ∧ ∀ ρ, V.den ρ v = V.den ρ (.tup [.agg [.si .i64 (vPB v).1, .si .i64 (vPB v).2.1, .si .i64 (vPB v).2.2.1], .c (.sb (vPB v).2.2.2)])) (T_gin m t hs hg n) := by
  simp only [T_gin, allL]
  repeat' (first | exact fun _ => rfl | exact fun _ => trivial | exact trivial | rfl | constructor)
def s_gin : Sum := rdSum 39 fun m a => match a with | [a0, a1, a2] => (match ptrOf a0, hanOf a1, intOf a2 with | some t, some (hs, hg), some n => some (ginOK m t hs hg n, .tup [.agg [.si .i64 (ginV m t hs hg n).1, .si .i64 (ginV m t hs hg n).2.1, .si .i64 (ginV m t hs hg n).2.2.1], .c (.sb (ginV m t hs hg n).2.2.2)]) | _, _, _ => none) | _ => none
theorem s_gin_ok : SumOK Try.prog s_gin := by
  refine rdSum_ok ⟨_, Try.func39, by kernel_rfl⟩ fun m args pre v h hp hw ρ w hm => ?_
  split at h
  · split at h
    · rename_i a0 a1 a2 _ _ _  t hs hg n h0 h1 h2
      cases h
      exact dm_calls nameOK okn (dOK okn) 300 _ m _ (t_gin m t hs hg n) hp (allL_out (gin_all m t hs hg n) hp).1 ρ ((allL_out (gin_all m t hs hg n) hp).2 ρ) w hm (by simp only [List.map_cons, List.map_nil, ptrOf_den h0, hanOf_den h1, intOf_den h2])
    · cases h
  · cases h
def T_comes (m : Mem) (t : Int) (pm ps pa : Int) (hs hg : Int) (n : Int) (r : Value) : Tr := (.br (nzp t) (.br (nzp t) (.br (okL m t 0 [(.raw (.map (.none)))]) (.req ((Go.Maps.Keyed Try.prog 59) ∧ ((okM Try.prog 59 m (pl (mcell m t 0))) ∧ ((((isNilM (pl (mcell m t 0))) : Bool) = false) ∧ (okKey Try.prog 59 (.agg (.mk [(.int .i64 pm), (.int .i64 ps), (.int .i64 pa)])))))) (.letm (mput m (pl (mcell m t 0)) (.agg (.mk [(.int .i64 pm), (.int .i64 ps), (.int .i64 pa)])) (pl r)) (fun m1 => (.br (nzp t) (.br (nzp t) (.br (okL m1 t 1 [(.raw (.map (.none)))]) (.req ((Go.Maps.Keyed Try.prog 121) ∧ ((okM Try.prog 121 m1 (pl (mcell m1 t 1))) ∧ ((((isNilM (pl (mcell m1 t 1))) : Bool) = false) ∧ (okKey Try.prog 121 (.agg (.mk [(.int .i64 hs), (.int .u64 hg), (.int .i64 n)])))))) (.letm (mput m1 (pl (mcell m1 t 1)) (.agg (.mk [(.int .i64 hs), (.int .u64 hg), (.int .i64 n)])) (.agg (.mk [(.int .i64 pm), (.int .i64 ps), (.int .i64 pa)]))) (fun m2 => (.br (nzp t) (.br (nzp t) (.br (okL m2 t 2 [(.raw (.map (.none)))]) (.req ((Go.Maps.Keyed Try.prog 126) ∧ ((okM Try.prog 126 m2 (pl (mcell m2 t 2))) ∧ ((((isNilM (pl (mcell m2 t 2))) : Bool) = false) ∧ (okKey Try.prog 126 (.agg (.mk [(.int .i64 pm), (.int .i64 ps), (.int .i64 pa), (.int .i64 hs), (.int .u64 hg)])))))) (.letm (mput m2 (pl (mcell m2 t 2)) (.agg (.mk [(.int .i64 pm), (.int .i64 ps), (.int .i64 pa), (.int .i64 hs), (.int .u64 hg)])) (.int .i64 n)) (fun m3 => (.leaf (.memo (.tup []) m3))))) (.no 70)) (.no 76)) (.no 75))))) (.no 70)) (.no 76)) (.no 75))))) (.no 70)) (.no 76)) (.no 75))
theorem t_comes (m : Mem) (t : Int) (pm ps pa : Int) (hs hg : Int) (n : Int) (r : Value) : runm Try.prog [] (drawx Try.prog []) 300 61 [.u (.c (.np t 0)), .u (.agg [.si .i64 pm, .si .i64 ps, .si .i64 pa]), .u (.agg [.si .i64 hs, .si .u64 hg]), .u (.c (.si .i64 n)), .u (.c (.sv r))] m [98, 92, 95, 142, 140, 137, 111, 107, 108, 109] = T_comes m t pm ps pa hs hg n r := by kernel_rfl
def comesOK (m : Mem) (t : Int) (pm ps pa : Int) (hs hg : Int) (n : Int) (r : Value) : Prop := okP (T_comes m t pm ps pa hs hg n r)
def comesM (m : Mem) (t : Int) (pm ps pa : Int) (hs hg : Int) (n : Int) (r : Value) : Mem := outM (T_comes m t pm ps pa hs hg n r)
theorem comes_all (m : Mem) (t : Int) (pm ps pa : Int) (hs hg : Int) (n : Int) (r : Value) : allL (fun v m' => ∀ ρ, V.den ρ v = V.den ρ (.tup [])) (T_comes m t pm ps pa hs hg n r) := by
  simp only [T_comes, allL]
  repeat' (first | exact fun _ => rfl | exact fun _ => trivial | exact trivial | rfl | constructor)
def s_comes : Sum := dmSum 61 fun m a => match a with | [a0, a1, a2, a3, a4] => (match ptrOf a0, plaOf a1, hanOf a2, intOf a3, svOf a4 with | some t, some (pm, ps, pa), some (hs, hg), some n, some r => some (comesOK m t pm ps pa hs hg n r, comesM m t pm ps pa hs hg n r, .tup []) | _, _, _, _, _ => none) | _ => none
theorem s_comes_ok : SumOK Try.prog s_comes := by
  refine dmSum_ok ⟨_, Try.func61, by kernel_rfl⟩ fun m args pre M v h hp hw ρ w hm => ?_
  split at h
  · split at h
    · rename_i a0 a1 a2 a3 a4 _ _ _ _ _  t pm ps pa hs hg n r h0 h1 h2 h3 h4
      cases h
      exact dm_calls nameOK okn (dOK okn) 300 _ m _ (t_comes m t pm ps pa hs hg n r) hp rfl ρ ((allL_out (comes_all m t pm ps pa hs hg n r) hp) ρ) w hm (by simp only [List.map_cons, List.map_nil, ptrOf_den h0, plaOf_den h1, hanOf_den h2, intOf_den h3, svOf_den2 h4])
    · cases h
  · cases h
def T_goes (m : Mem) (t : Int) (pm ps pa : Int) (hs hg : Int) : Tr := (.br (nzp t) (.br (nzp t) (.br (okL m t 1 [(.raw (.map (.none)))]) (.br (nzp t) (.br (nzp t) (.br (okL m t 2 [(.raw (.map (.none)))]) (.req ((Go.Maps.Keyed Try.prog 126) ∧ ((okM Try.prog 126 m (pl (mcell m t 2))) ∧ ((okKey Try.prog 126 (.agg (.mk [(.int .i64 pm), (.int .i64 ps), (.int .i64 pa), (.int .i64 hs), (.int .u64 hg)]))) ∧ (((okU (.c (.li .i64 0)) (lkZ m (pl (mcell m t 2)) (.agg (.mk [(.int .i64 pm), (.int .i64 ps), (.int .i64 pa), (.int .i64 hs), (.int .u64 hg)])) (.int .i64 0))) : Bool) = true)))) (.req ((Go.Maps.Keyed Try.prog 121) ∧ ((okM Try.prog 121 m (pl (mcell m t 1))) ∧ (okKey Try.prog 121 (.agg (.mk [(.int .i64 hs), (.int .u64 hg), (.int .i64 (vI (lkZ m (pl (mcell m t 2)) (.agg (.mk [(.int .i64 pm), (.int .i64 ps), (.int .i64 pa), (.int .i64 hs), (.int .u64 hg)])) (.int .i64 0))))]))))) (.letm (mdel m (pl (mcell m t 1)) (.agg (.mk [(.int .i64 hs), (.int .u64 hg), (.int .i64 (vI (lkZ m (pl (mcell m t 2)) (.agg (.mk [(.int .i64 pm), (.int .i64 ps), (.int .i64 pa), (.int .i64 hs), (.int .u64 hg)])) (.int .i64 0))))]))) (fun m1 => (.br (nzp t) (.br (nzp t) (.br (okL m1 t 2 [(.raw (.map (.none)))]) (.req ((Go.Maps.Keyed Try.prog 126) ∧ ((okM Try.prog 126 m1 (pl (mcell m1 t 2))) ∧ (okKey Try.prog 126 (.agg (.mk [(.int .i64 pm), (.int .i64 ps), (.int .i64 pa), (.int .i64 hs), (.int .u64 hg)]))))) (.letm (mdel m1 (pl (mcell m1 t 2)) (.agg (.mk [(.int .i64 pm), (.int .i64 ps), (.int .i64 pa), (.int .i64 hs), (.int .u64 hg)]))) (fun m2 => (.br (nzp t) (.br (nzp t) (.br (okL m2 t 0 [(.raw (.map (.none)))]) (.req ((Go.Maps.Keyed Try.prog 59) ∧ ((okM Try.prog 59 m2 (pl (mcell m2 t 0))) ∧ ((okKey Try.prog 59 (.agg (.mk [(.int .i64 pm), (.int .i64 ps), (.int .i64 pa)]))) ∧ (((okU (.c (.raw .nilIface)) (lkZ m2 (pl (mcell m2 t 0)) (.agg (.mk [(.int .i64 pm), (.int .i64 ps), (.int .i64 pa)])) .nilIface)) : Bool) = true)))) (.br (isIfV (pl (lkZ m2 (pl (mcell m2 t 0)) (.agg (.mk [(.int .i64 pm), (.int .i64 ps), (.int .i64 pa)])) .nilIface))) (.br (ifIs 112 (pl (lkZ m2 (pl (mcell m2 t 0)) (.agg (.mk [(.int .i64 pm), (.int .i64 ps), (.int .i64 pa)])) .nilIface))) (.req (llenOK m2 (ifP 112 (pl (lkZ m2 (pl (mcell m2 t 0)) (.agg (.mk [(.int .i64 pm), (.int .i64 ps), (.int .i64 pa)])) .nilIface)))) (.br (iEq (llenV m2 (ifP 112 (pl (lkZ m2 (pl (mcell m2 t 0)) (.agg (.mk [(.int .i64 pm), (.int .i64 ps), (.int .i64 pa)])) .nilIface)))) 0) (.br (nzp t) (.br (nzp t) (.br (okL m2 t 0 [(.raw (.map (.none)))]) (.req ((Go.Maps.Keyed Try.prog 59) ∧ ((okM Try.prog 59 m2 (pl (mcell m2 t 0))) ∧ (okKey Try.prog 59 (.agg (.mk [(.int .i64 pm), (.int .i64 ps), (.int .i64 pa)]))))) (.letm (mdel m2 (pl (mcell m2 t 0)) (.agg (.mk [(.int .i64 pm), (.int .i64 ps), (.int .i64 pa)]))) (fun m3 => (.leaf (.memo (.tup []) m3))))) (.no 70)) (.no 76)) (.no 75)) (.leaf (.memo (.tup []) m2)))) (.br (ifIs 24 (pl (lkZ m2 (pl (mcell m2 t 0)) (.agg (.mk [(.int .i64 pm), (.int .i64 ps), (.int .i64 pa)])) .nilIface))) (.req (lenOK m2 (ifP 24 (pl (lkZ m2 (pl (mcell m2 t 0)) (.agg (.mk [(.int .i64 pm), (.int .i64 ps), (.int .i64 pa)])) .nilIface)))) (.br (iEq (lenV m2 (ifP 24 (pl (lkZ m2 (pl (mcell m2 t 0)) (.agg (.mk [(.int .i64 pm), (.int .i64 ps), (.int .i64 pa)])) .nilIface)))) 0) (.br (nzp t) (.br (nzp t) (.br (okL m2 t 0 [(.raw (.map (.none)))]) (.req ((Go.Maps.Keyed Try.prog 59) ∧ ((okM Try.prog 59 m2 (pl (mcell m2 t 0))) ∧ (okKey Try.prog 59 (.agg (.mk [(.int .i64 pm), (.int .i64 ps), (.int .i64 pa)]))))) (.letm (mdel m2 (pl (mcell m2 t 0)) (.agg (.mk [(.int .i64 pm), (.int .i64 ps), (.int .i64 pa)]))) (fun m3 => (.leaf (.memo (.tup []) m3))))) (.no 70)) (.no 76)) (.no 75)) (.leaf (.memo (.tup []) m2)))) (.no 37))) (.no 38))) (.no 70)) (.no 76)) (.no 75))))) (.no 70)) (.no 76)) (.no 75)))))) (.no 70)) (.no 76)) (.no 75)) (.no 70)) (.no 76)) (.no 75))
theorem t_goes (m : Mem) (t : Int) (pm ps pa : Int) (hs hg : Int) : runm Try.prog [s_len, s_llen] (drawx Try.prog [s_len, s_llen]) 300 64 [.u (.c (.np t 0)), .u (.agg [.si .i64 pm, .si .i64 ps, .si .i64 pa]), .u (.agg [.si .i64 hs, .si .u64 hg])] m [98, 92, 95, 142, 140, 137, 111, 107, 108, 109] = T_goes m t pm ps pa hs hg := by kernel_rfl
def goesOK (m : Mem) (t : Int) (pm ps pa : Int) (hs hg : Int) : Prop := okP (T_goes m t pm ps pa hs hg)
def goesM (m : Mem) (t : Int) (pm ps pa : Int) (hs hg : Int) : Mem := outM (T_goes m t pm ps pa hs hg)
theorem goes_all (m : Mem) (t : Int) (pm ps pa : Int) (hs hg : Int) : allL (fun v m' => ∀ ρ, V.den ρ v = V.den ρ (.tup [])) (T_goes m t pm ps pa hs hg) := by
  simp only [T_goes, allL]
  repeat' (first | exact fun _ => rfl | exact fun _ => trivial | exact trivial | rfl | constructor)
def s_goes : Sum := dmSum 64 fun m a => match a with | [a0, a1, a2] => (match ptrOf a0, plaOf a1, hanOf a2 with | some t, some (pm, ps, pa), some (hs, hg) => some (goesOK m t pm ps pa hs hg, goesM m t pm ps pa hs hg, .tup []) | _, _, _ => none) | _ => none
theorem s_goes_ok : SumOK Try.prog s_goes := by
  refine dmSum_ok ⟨_, Try.func64, by kernel_rfl⟩ fun m args pre M v h hp hw ρ w hm => ?_
  split at h
  · split at h
    · rename_i a0 a1 a2 _ _ _  t pm ps pa hs hg h0 h1 h2
      cases h
      exact dm_calls nameOK (okc s_len_ok (okc s_llen_ok okn)) (dOK (okc s_len_ok (okc s_llen_ok okn))) 300 _ m _ (t_goes m t pm ps pa hs hg) hp rfl ρ ((allL_out (goes_all m t pm ps pa hs hg) hp) ρ) w hm (by simp only [List.map_cons, List.map_nil, ptrOf_den h0, plaOf_den h1, hanOf_den h2])
    · cases h
  · cases h
def T_glen (m : Mem) (t : Int) (pm ps pa : Int) : Tr := (.req (madeOK m t) (.br (bNot (madeV m t)) (.leaf (.memo (.u (.c (.li .i64 0))) m)) (.br (nzp t) (.br (nzp t) (.br (okL m t 0 [(.raw (.map (.none)))]) (.req ((Go.Maps.Keyed Try.prog 59) ∧ ((okM Try.prog 59 m (pl (mcell m t 0))) ∧ ((okKey Try.prog 59 (.agg (.mk [(.int .i64 pm), (.int .i64 ps), (.int .i64 pa)]))) ∧ (((okU (.c (.raw .nilIface)) (lkZ m (pl (mcell m t 0)) (.agg (.mk [(.int .i64 pm), (.int .i64 ps), (.int .i64 pa)])) .nilIface)) : Bool) = true)))) (.br (isIfV (pl (lkZ m (pl (mcell m t 0)) (.agg (.mk [(.int .i64 pm), (.int .i64 ps), (.int .i64 pa)])) .nilIface))) (.br (isNilIf (pl (lkZ m (pl (mcell m t 0)) (.agg (.mk [(.int .i64 pm), (.int .i64 ps), (.int .i64 pa)])) .nilIface))) (.leaf (.memo (.u (.c (.li .i64 0))) m)) (.br (nzp t) (.br (nzp t) (.br (okL m t 0 [(.raw (.map (.none)))]) (.req ((Go.Maps.Keyed Try.prog 59) ∧ ((okM Try.prog 59 m (pl (mcell m t 0))) ∧ ((okKey Try.prog 59 (.agg (.mk [(.int .i64 pm), (.int .i64 ps), (.int .i64 pa)]))) ∧ (((okU (.c (.raw .nilIface)) (lkZ m (pl (mcell m t 0)) (.agg (.mk [(.int .i64 pm), (.int .i64 ps), (.int .i64 pa)])) .nilIface)) : Bool) = true)))) (.br (isIfV (pl (lkZ m (pl (mcell m t 0)) (.agg (.mk [(.int .i64 pm), (.int .i64 ps), (.int .i64 pa)])) .nilIface))) (.br (ifIs 112 (pl (lkZ m (pl (mcell m t 0)) (.agg (.mk [(.int .i64 pm), (.int .i64 ps), (.int .i64 pa)])) .nilIface))) (.req (llenOK m (ifP 112 (pl (lkZ m (pl (mcell m t 0)) (.agg (.mk [(.int .i64 pm), (.int .i64 ps), (.int .i64 pa)])) .nilIface)))) (.leaf (.memo (.u (.c (.si .i64 (llenV m (ifP 112 (pl (lkZ m (pl (mcell m t 0)) (.agg (.mk [(.int .i64 pm), (.int .i64 ps), (.int .i64 pa)])) .nilIface))))))) m))) (.br (ifIs 24 (pl (lkZ m (pl (mcell m t 0)) (.agg (.mk [(.int .i64 pm), (.int .i64 ps), (.int .i64 pa)])) .nilIface))) (.req (lenOK m (ifP 24 (pl (lkZ m (pl (mcell m t 0)) (.agg (.mk [(.int .i64 pm), (.int .i64 ps), (.int .i64 pa)])) .nilIface)))) (.leaf (.memo (.u (.c (.si .i64 (lenV m (ifP 24 (pl (lkZ m (pl (mcell m t 0)) (.agg (.mk [(.int .i64 pm), (.int .i64 ps), (.int .i64 pa)])) .nilIface))))))) m))) (.no 37))) (.no 38))) (.no 70)) (.no 76)) (.no 75))) (.no 109))) (.no 70)) (.no 76)) (.no 75))))
theorem t_glen (m : Mem) (t : Int) (pm ps pa : Int) : runm Try.prog [s_made, s_len, s_llen] (drawx Try.prog [s_made, s_len, s_llen]) 300 35 [.u (.c (.np t 0)), .u (.agg [.si .i64 pm, .si .i64 ps, .si .i64 pa])] m [98, 92, 95, 142, 140, 137, 111, 107, 108, 109] = T_glen m t pm ps pa := by kernel_rfl
def glenOK (m : Mem) (t : Int) (pm ps pa : Int) : Prop := okP (T_glen m t pm ps pa)
def glenV (m : Mem) (t : Int) (pm ps pa : Int) : Int := vInt (outV (T_glen m t pm ps pa))
theorem glen_all (m : Mem) (t : Int) (pm ps pa : Int) : allL (fun v m' => m' = m ∧ ∀ ρ, V.den ρ v = V.den ρ (.u (.c (.si .i64 (vInt v))))) (T_glen m t pm ps pa) := by
  simp only [T_glen, allL]
  repeat' (first | exact fun _ => rfl | exact fun _ => trivial | exact trivial | rfl | constructor)
def s_glen : Sum := rdSum 35 fun m a => match a with | [a0, a1] => (match ptrOf a0, plaOf a1 with | some t, some (pm, ps, pa) => some (glenOK m t pm ps pa, .u (.c (.si .i64 (glenV m t pm ps pa)))) | _, _ => none) | _ => none
theorem s_glen_ok : SumOK Try.prog s_glen := by
  refine rdSum_ok ⟨_, Try.func35, by kernel_rfl⟩ fun m args pre v h hp hw ρ w hm => ?_
  split at h
  · split at h
    · rename_i a0 a1 _ _  t pm ps pa h0 h1
      cases h
      exact dm_calls nameOK (okc s_made_ok (okc s_len_ok (okc s_llen_ok okn))) (dOK (okc s_made_ok (okc s_len_ok (okc s_llen_ok okn)))) 300 _ m _ (t_glen m t pm ps pa) hp (allL_out (glen_all m t pm ps pa) hp).1 ρ ((allL_out (glen_all m t pm ps pa) hp).2 ρ) w hm (by simp only [List.map_cons, List.map_nil, ptrOf_den h0, plaOf_den h1])
    · cases h
  · cases h
def T_gkind (m : Mem) (t : Int) (pm ps pa : Int) : Tr := (.req (glenOK m t pm ps pa) (.br (iEq (glenV m t pm ps pa) 0) (.leaf (.memo (.u (.c (.li .u8 0))) m)) (.req (listedOK m t pm ps pa) (.br (cmpOK m (listedV m t pm ps pa) 0) (.br (bNot (peq (listedV m t pm ps pa) 0)) (.leaf (.memo (.u (.c (.li .u8 1))) m)) (.leaf (.memo (.u (.c (.li .u8 2))) m))) (.no 78)))))
theorem t_gkind (m : Mem) (t : Int) (pm ps pa : Int) : runm Try.prog [s_glen, s_listed] (drawx Try.prog [s_glen, s_listed]) 300 36 [.u (.c (.np t 0)), .u (.agg [.si .i64 pm, .si .i64 ps, .si .i64 pa])] m [98, 92, 95, 142, 140, 137, 111, 107, 108, 109] = T_gkind m t pm ps pa := by kernel_rfl
def gkindOK (m : Mem) (t : Int) (pm ps pa : Int) : Prop := okP (T_gkind m t pm ps pa)
def gkindV (m : Mem) (t : Int) (pm ps pa : Int) : Int := vU8 (outV (T_gkind m t pm ps pa))
theorem gkind_all (m : Mem) (t : Int) (pm ps pa : Int) : allL (fun v m' => m' = m ∧ ∀ ρ, V.den ρ v = V.den ρ (.u (.c (.si .u8 (vU8 v))))) (T_gkind m t pm ps pa) := by
  simp only [T_gkind, allL]
  repeat' (first | exact fun _ => rfl | exact fun _ => trivial | exact trivial | rfl | constructor)
def s_gkind : Sum := rdSum 36 fun m a => match a with | [a0, a1] => (match ptrOf a0, plaOf a1 with | some t, some (pm, ps, pa) => some (gkindOK m t pm ps pa, .u (.c (.si .u8 (gkindV m t pm ps pa)))) | _, _ => none) | _ => none
theorem s_gkind_ok : SumOK Try.prog s_gkind := by
  refine rdSum_ok ⟨_, Try.func36, by kernel_rfl⟩ fun m args pre v h hp hw ρ w hm => ?_
  split at h
  · split at h
    · rename_i a0 a1 _ _  t pm ps pa h0 h1
      cases h
      exact dm_calls nameOK (okc s_glen_ok (okc s_listed_ok okn)) (dOK (okc s_glen_ok (okc s_listed_ok okn))) 300 _ m _ (t_gkind m t pm ps pa) hp (allL_out (gkind_all m t pm ps pa) hp).1 ρ ((allL_out (gkind_all m t pm ps pa) hp).2 ρ) w hm (by simp only [List.map_cons, List.map_nil, ptrOf_den h0, plaOf_den h1])
    · cases h
  · cases h

/-! a graph -/
structure GG where
  g : Nat
  mr : Nat
  mi : Nat
  mb : Nat
  R : Pl → Option Str
  N : Pl → Hn → Option Int
  I : Hn → Int → Option Pl
def gO (mr mi mb : Nat) : Obj := .cells #[.map (some mr), .map (some mi), .map (some mb)] 111 (0, 0)
def Str.ifv (X : Str) : Value := match X.tree with | false => mkIf 112 ((X.t : Int) + 1) | true => mkIf 24 ((X.t : Int) + 1)
/-- its maps -/
structure GM (G : GG) (m : Mem) : Prop where
  hd : m G.g = some (gO G.mr G.mi G.mb)
  kr : isMap 59 m G.mr
  ki : isMap 121 m G.mi
  kb : isMap 126 m G.mb
  lr : ∀ p, okP' p → mlook m (.map (some G.mr)) (pKey p) = (G.R p).map Str.ifv
  li : ∀ h n, okH h → inI n → mlook m (.map (some G.mi)) (kKey h n) = (G.I h n).map pKey
  lb : ∀ p h, okP' p → okH h → mlook m (.map (some G.mb)) (sKey p h) = (G.N p h).map fun n => .int .i64 n
  d1 : G.mr ≠ G.mi
  d2 : G.mr ≠ G.mb
  d3 : G.mi ≠ G.mb
structure GG.is (G : GG) (m : Mem) : Prop extends GM G m where
  st : ∀ p X, G.R p = some X → X.In m ∧ X.hs ≠ [] ∧ okP' p
  ap : ∀ p q X Y, G.R p = some X → G.R q = some Y → p ≠ q → ∀ a, X.D a → ¬ Y.D a
  own : ∀ p X, G.R p = some X → ∀ a, X.D a → a ≠ G.g ∧ a ≠ G.mr ∧ a ≠ G.mi ∧ a ≠ G.mb
  nh : ∀ p h, (G.N p h).isSome = true ↔ ∃ X, G.R p = some X ∧ h ∈ X.hs
  nr : ∀ p h n, G.N p h = some n → inI n
  nu : ∀ h n p, G.I h n = some p ↔ G.N p h = some n
def gMap (G : GG) (a : Nat) : Prop := a = G.g ∨ a = G.mr ∨ a = G.mi ∨ a = G.mb
theorem GM.congr {G : GG} {m m' : Mem} (h : GM G m) (hm : ∀ a, gMap G a → m' a = m a) : GM G m' := by
  have hg := hm G.g (.inl rfl)
  have hr := hm G.mr (.inr (.inl rfl))
  have hi := hm G.mi (.inr (.inr (.inl rfl)))
  have hb := hm G.mb (.inr (.inr (.inr rfl)))
  exact ⟨hg.trans h.hd, h.kr.congr hr, h.ki.congr hi, h.kb.congr hb, fun p hp => (mlook_congr hr _).trans (h.lr p hp), fun k n hk hn => (mlook_congr hi _).trans (h.li k n hk hn), fun p k hp hk => (mlook_congr hb _).trans (h.lb p k hp hk), h.d1, h.d2, h.d3⟩
theorem GM.there {G : GG} {m : Mem} (h : GM G m) {a : Nat} (ha : gMap G a) : m a ≠ none := by
  rcases ha with rfl | rfl | rfl | rfl
  · rw [h.hd]; simp
  · exact h.kr.there
  · exact h.ki.there
  · exact h.kb.there
theorem GM.gne {G : GG} {m : Mem} (h : GM G m) : G.g ≠ G.mr ∧ G.g ≠ G.mi ∧ G.g ≠ G.mb := by
  refine ⟨fun e => ?_, fun e => ?_, fun e => ?_⟩
  · obtain ⟨es, c, h1, _⟩ := h.kr; rw [← e, h.hd] at h1; cases h1
  · obtain ⟨es, c, h1, _⟩ := h.ki; rw [← e, h.hd] at h1; cases h1
  · obtain ⟨es, c, h1, _⟩ := h.kb; rw [← e, h.hd] at h1; cases h1
def rv : Option Str → Value
  | none => .nilIface
  | some X => X.ifv
def lP : Option Str → Int
  | none => 0
  | some X => match X.tree with | false => (X.t : Int) + 1 | true => 0
def tP : Option Str → Int
  | none => 0
  | some X => match X.tree with | true => (X.t : Int) + 1 | false => 0
theorem mkIf_eq (T t : Nat) : mkIf T ((t : Int) + 1) = .iface T (.pointer (some ⟨t, 0, none⟩)) := by unfold mkIf; rw [pv_succ]
theorem rv_ok (r : Option Str) : okU (.c (.raw .nilIface)) (rv r) = true ∧ isIfV (pl (rv r)) = true ∧ ifP 112 (pl (rv r)) = lP r ∧ ifP 24 (pl (rv r)) = tP r ∧ isNilIf (pl (rv r)) = r.isNone := by
  cases r with
  | none => exact ⟨rfl, rfl, rfl, rfl, rfl⟩
  | some X =>
    simp only [rv, Str.ifv, lP, tP]
    cases X.tree <;> simp only [mkIf_eq]
    · exact ⟨rfl, rfl, rfl, rfl, rfl⟩
    · exact ⟨rfl, rfl, rfl, rfl, rfl⟩
section
variable {G : GG} {m : Mem}
theorem GM.okL (h : GM G m) : okL m ((G.g : Int) + 1) 0 [.raw (.map none)] = true ∧ okL m ((G.g : Int) + 1) 1 [.raw (.map none)] = true ∧ okL m ((G.g : Int) + 1) 2 [.raw (.map none)] = true := by
  unfold Sx.okL; rw [mget_of h.hd]
  exact ⟨rfl, rfl, rfl⟩
theorem GM.c0 (h : GM G m) : pl (mcell m ((G.g : Int) + 1) 0) = .map (some G.mr) := by unfold mcell; rw [mget_of h.hd]; rfl
theorem GM.c1 (h : GM G m) : pl (mcell m ((G.g : Int) + 1) 1) = .map (some G.mi) := by unfold mcell; rw [mget_of h.hd]; rfl
theorem GM.c2 (h : GM G m) : pl (mcell m ((G.g : Int) + 1) 2) = .map (some G.mb) := by unfold mcell; rw [mget_of h.hd]; rfl
theorem GM.lkR (h : GM G m) {a b c : Int} (hp : okP' (a, b, c)) : lkZ m (.map (some G.mr)) (.agg (.mk [(.int .i64 a), (.int .i64 b), (.int .i64 c)])) .nilIface = rv (G.R (a, b, c)) := by
  unfold lkZ
  rw [show mlook m (.map (some G.mr)) (.agg (.mk [(.int .i64 a), (.int .i64 b), (.int .i64 c)])) = _ from h.lr (a, b, c) hp]
  cases G.R (a, b, c) <;> rfl
theorem GM.rq (h : GM G m) {a b c : Int} (hp : okP' (a, b, c)) : Go.Maps.Keyed Try.prog 59 ∧ okM Try.prog 59 m (.map (some G.mr)) ∧ okKey Try.prog 59 (.agg (.mk [(.int .i64 a), (.int .i64 b), (.int .i64 c)])) ∧ ((okU (.c (.raw .nilIface)) (rv (G.R (a, b, c)))) : Bool) = true :=
  ⟨keyed59, h.kr.okM, okKey59 (p := (a, b, c)) hp, (rv_ok _).1⟩
def zP : Value := .agg (.mk [(.int .i64 0), (.int .i64 0), (.int .i64 0)])
def iV : Option Pl → Value
  | none => zP
  | some p => pKey p
theorem GM.lkI (h : GM G m) {a b n : Int} (hk : okH (a, b)) (hn : inI n) : lkZ m (.map (some G.mi)) (.agg (.mk [(.int .i64 a), (.int .u64 b), (.int .i64 n)])) (.agg (.mk [(.int .i64 0), (.int .i64 0), (.int .i64 0)])) = iV (G.I (a, b) n) ∧
    mhas m (.map (some G.mi)) (.agg (.mk [(.int .i64 a), (.int .u64 b), (.int .i64 n)])) = (G.I (a, b) n).isSome := by
  unfold lkZ mhas
  rw [show mlook m (.map (some G.mi)) (.agg (.mk [(.int .i64 a), (.int .u64 b), (.int .i64 n)])) = _ from h.li (a, b) n hk hn]
  cases G.I (a, b) n <;> exact ⟨rfl, rfl⟩
theorem GM.iq (h : GM G m) {a b n : Int} (hk : okH (a, b)) (hn : inI n) : Go.Maps.Keyed Try.prog 121 ∧ okM Try.prog 121 m (.map (some G.mi)) ∧ okKey Try.prog 121 (.agg (.mk [(.int .i64 a), (.int .u64 b), (.int .i64 n)])) ∧ ((okU (.agg [(.li .i64 0), (.li .i64 0), (.li .i64 0)]) (iV (G.I (a, b) n))) : Bool) = true :=
  ⟨keyed121, h.ki.okM, okKey121 (h := (a, b)) hk hn, by cases G.I (a, b) n <;> rfl⟩
def nV : Option Int → Value
  | none => .int .i64 0
  | some n => .int .i64 n
theorem GM.lkN (h : GM G m) {a b c k l : Int} (hp : okP' (a, b, c)) (hk : okH (k, l)) : lkZ m (.map (some G.mb)) (.agg (.mk [(.int .i64 a), (.int .i64 b), (.int .i64 c), (.int .i64 k), (.int .u64 l)])) (.int .i64 0) = nV (G.N (a, b, c) (k, l)) ∧
    mhas m (.map (some G.mb)) (.agg (.mk [(.int .i64 a), (.int .i64 b), (.int .i64 c), (.int .i64 k), (.int .u64 l)])) = (G.N (a, b, c) (k, l)).isSome := by
  unfold lkZ mhas
  rw [show mlook m (.map (some G.mb)) (.agg (.mk [(.int .i64 a), (.int .i64 b), (.int .i64 c), (.int .i64 k), (.int .u64 l)])) = _ from h.lb (a, b, c) (k, l) hp hk]
  cases G.N (a, b, c) (k, l) <;> exact ⟨rfl, rfl⟩
theorem GM.nq (h : GM G m) {a b c k l : Int} (hp : okP' (a, b, c)) (hk : okH (k, l)) : Go.Maps.Keyed Try.prog 126 ∧ okM Try.prog 126 m (.map (some G.mb)) ∧ okKey Try.prog 126 (.agg (.mk [(.int .i64 a), (.int .i64 b), (.int .i64 c), (.int .i64 k), (.int .u64 l)])) ∧ ((okU (.c (.li .i64 0)) (nV (G.N (a, b, c) (k, l)))) : Bool) = true :=
  ⟨keyed126, h.kb.okM, okKey126 (p := (a, b, c)) (h := (k, l)) hp hk, by cases G.N (a, b, c) (k, l) <;> rfl⟩

theorem made_spec (h : GM G m) : madeOK m ((G.g : Int) + 1) ∧ madeV m ((G.g : Int) + 1) = true := by
  refine flat_spec (p := fun v x => vBool v = true) (by simp [T_made, flatP]) ?_
  unfold T_made
  rw [brT (cmp_zero _ _), brT (by rw [pz_p]; rfl), brT (nz_p _), brT (nz_p _), brT h.okL.1, h.c0, brT (by rfl)]
  rfl
theorem listed_spec (h : GM G m) {a b c : Int} (hp : okP' (a, b, c)) : listedOK m ((G.g : Int) + 1) a b c ∧ listedV m ((G.g : Int) + 1) a b c = lP (G.R (a, b, c)) := by
  refine flat_spec (p := fun v x => vPtr v = lP (G.R (a, b, c))) (by simp [T_listed, flatP]) ?_
  unfold T_listed
  rw [brT (nz_p _), brT (nz_p _), brT h.okL.1, h.c0, h.lkR hp, sat_req]
  refine ⟨h.rq hp, ?_⟩
  obtain ⟨r1, r2, r3, r4, r5⟩ := rv_ok (G.R (a, b, c))
  rw [brT r2, r3]
  rfl
theorem treed_spec (h : GM G m) {a b c : Int} (hp : okP' (a, b, c)) : treedOK m ((G.g : Int) + 1) a b c ∧ treedV m ((G.g : Int) + 1) a b c = tP (G.R (a, b, c)) := by
  refine flat_spec (p := fun v x => vPtr v = tP (G.R (a, b, c))) (by simp [T_treed, flatP]) ?_
  unfold T_treed
  rw [brT (nz_p _), brT (nz_p _), brT h.okL.1, h.c0, h.lkR hp, sat_req]
  refine ⟨h.rq hp, ?_⟩
  obtain ⟨r1, r2, r3, r4, r5⟩ := rv_ok (G.R (a, b, c))
  rw [brT r2, r4]
  rfl
def mayE (G : GG) (p : Pl) (k : Hn) (n : Int) (f : Bool) : Int :=
  match (G.I k n).isSome with
  | true => 7
  | false => match ((G.R p).isSome && !f) || (G.N p k).isSome with
    | true => 3
    | false => 0
theorem may_spec (h : GM G m) {a b c k l n : Int} (hp : okP' (a, b, c)) (hk : okH (k, l)) (hn : inI n) (f : Bool) : mayOK m ((G.g : Int) + 1) a b c k l n f ∧ mayV m ((G.g : Int) + 1) a b c k l n f = mayE G (a, b, c) (k, l) n f := by
  refine flat_spec (p := fun v x => vInt v = mayE G (a, b, c) (k, l) n f) (by simp [T_may, flatP]) ?_
  unfold T_may
  obtain ⟨m1, m2⟩ := made_spec h
  obtain ⟨i1, i2⟩ := h.lkI hk hn
  obtain ⟨n1, n2⟩ := h.lkN hp hk
  obtain ⟨r1, r2, r3, r4, r5⟩ := rv_ok (G.R (a, b, c))
  rw [sat_req, m2]
  refine ⟨m1, ?_⟩
  rw [brF (by rfl), brT (nz_p _), brT (nz_p _), brT h.okL.2.1, h.c1, i1, i2, sat_req]
  refine ⟨h.iq hk hn, ?_⟩
  rw [brT (nz_p _), brT (nz_p _), brT h.okL.2.2, h.c2, n1, n2, sat_req]
  refine ⟨h.nq hp hk, ?_⟩
  unfold mayE
  cases (G.I (k, l) n).isSome with
  | true => rw [sat_brT]; rfl
  | false =>
    rw [sat_brF, brT (nz_p _), brT (nz_p _), brT h.okL.1, h.c0, h.lkR hp, sat_req]
    refine ⟨h.rq hp, ?_⟩
    rw [brT r2, r5]
    cases G.R (a, b, c) <;> cases f <;> cases (G.N (a, b, c) (k, l)).isSome <;> simp [bNot, Tr.sat, isMemo, vInt, intOf]
def gin4 : Option Pl → Int × Int × Int × Bool
  | none => (0, 0, 0, false)
  | some p => (p.1, p.2.1, p.2.2, true)
theorem gin_spec (h : GM G m) {k l n : Int} (hk : okH (k, l)) (hn : inI n) : ginOK m ((G.g : Int) + 1) k l n ∧ ginV m ((G.g : Int) + 1) k l n = gin4 (G.I (k, l) n) := by
  refine flat_spec (p := fun v x => vPB v = gin4 (G.I (k, l) n)) (by simp [T_gin, flatP]) ?_
  unfold T_gin
  obtain ⟨i1, i2⟩ := h.lkI hk hn
  rw [brT (cmp_zero _ _), brF (pz_p _), brT (nz_p _), brT (nz_p _), brT h.okL.2.1, h.c1, i1, i2, sat_req]
  refine ⟨h.iq hk hn, ?_⟩
  cases G.I (k, l) n <;> rfl
theorem comes_spec (h : GM G m) {a b c k l n : Int} (hp : okP' (a, b, c)) (hk : okH (k, l)) (hn : inI n) (r : Value) : comesOK m ((G.g : Int) + 1) a b c k l n r ∧
    comesM m ((G.g : Int) + 1) a b c k l n r = mput (mput (mput m (.map (some G.mr)) (pKey (a, b, c)) (pl r)) (.map (some G.mi)) (kKey (k, l) n) (pKey (a, b, c))) (.map (some G.mb)) (sKey (a, b, c) (k, l)) (.int .i64 n) := by
  refine flat_spec (p := fun v x => x = _) (by simp [T_comes, flatP]) ?_
  obtain ⟨g1, g2, g3⟩ := h.gne
  unfold T_comes
  rw [brT (nz_p _), brT (nz_p _), brT h.okL.1, h.c0, sat_req]
  refine ⟨⟨keyed59, h.kr.okM, rfl, okKey59 (p := (a, b, c)) hp⟩, ?_⟩
  rw [sat_letm]
  have e1 : mput m (.map (some G.mr)) (pKey (a, b, c)) (pl r) G.g = m G.g := mput_oth _ g1
  have k1 : isMap 121 (mput m (.map (some G.mr)) (pKey (a, b, c)) (pl r)) G.mi := h.ki.congr (mput_oth _ (Ne.symm h.d1))
  have hd1 : mput m (.map (some G.mr)) (pKey (a, b, c)) (pl r) G.g = some (gO G.mr G.mi G.mb) := e1.trans h.hd
  have o1 : okL (mput m (.map (some G.mr)) (pKey (a, b, c)) (pl r)) ((G.g : Int) + 1) 1 [.raw (.map none)] = true := by unfold Sx.okL; rw [mget_of hd1]; rfl
  have c1 : pl (mcell (mput m (.map (some G.mr)) (pKey (a, b, c)) (pl r)) ((G.g : Int) + 1) 1) = .map (some G.mi) := by unfold mcell; rw [mget_of hd1]; rfl
  rw [brT (nz_p _), brT (nz_p _), brT o1]
  simp only [c1]
  rw [sat_req]
  refine ⟨⟨keyed121, k1.okM, rfl, okKey121 (h := (k, l)) hk hn⟩, ?_⟩
  rw [sat_letm]
  generalize hM : mput m (.map (some G.mr)) (pKey (a, b, c)) (pl r) = M at k1 hd1
  have hMb : M G.mb = m G.mb := by rw [← hM]; exact mput_oth _ (Ne.symm h.d2)
  have hd2 : mput M (.map (some G.mi)) (kKey (k, l) n) (pKey (a, b, c)) G.g = some (gO G.mr G.mi G.mb) := (mput_oth _ g2).trans hd1
  have k2 : isMap 126 (mput M (.map (some G.mi)) (kKey (k, l) n) (pKey (a, b, c))) G.mb := h.kb.congr ((mput_oth _ (Ne.symm h.d3)).trans hMb)
  have o2 : okL (mput M (.map (some G.mi)) (kKey (k, l) n) (pKey (a, b, c))) ((G.g : Int) + 1) 2 [.raw (.map none)] = true := by unfold Sx.okL; rw [mget_of hd2]; rfl
  have c2 : pl (mcell (mput M (.map (some G.mi)) (kKey (k, l) n) (pKey (a, b, c))) ((G.g : Int) + 1) 2) = .map (some G.mb) := by unfold mcell; rw [mget_of hd2]; rfl
  rw [brT (nz_p _), brT (nz_p _), brT o2]
  simp only [c2]
  rw [sat_req]
  refine ⟨⟨keyed126, k2.okM, rfl, okKey126 (p := (a, b, c)) (h := (k, l)) hp hk⟩, ?_⟩
  rfl
end
end Go.Proofs.Ytnlohongffpkpaa.T16
end

section
/- Layer 17: a graph changed: what comes, what goes; how many, of what kind. A text of the session's own. -/
namespace Go.Proofs.Ytnlohongffpkpaa.T16
open Go Go.RowKit Go.Proofs.Ytnlohongffpkpaa.Sx Go.Proofs
set_option linter.unusedVariables false
set_option linter.unusedSimpArgs false

def upd1 {α : Type} (f : Pl → α) (p : Pl) (x : α) : Pl → α := fun q => if q = p then x else f q
def updN {α : Type} (f : Pl → Hn → α) (p : Pl) (k : Hn) (x : α) : Pl → Hn → α := fun q h => if q = p ∧ h = k then x else f q h
def updI {α : Type} (f : Hn → Int → α) (k : Hn) (n : Int) (x : α) : Hn → Int → α := fun h j => if h = k ∧ j = n then x else f h j
section
variable {G : GG} {m : Mem}
theorem GM.putR (h : GM G m) {p : Pl} (hp : okP' p) (X : Str) : GM { G with R := upd1 G.R p (some X) } (mput m (.map (some G.mr)) (pKey p) X.ifv) := by
  obtain ⟨g1, g2, g3⟩ := h.gne
  obtain ⟨a1, a2, a3⟩ := h.kr.put (okKey59 hp) X.ifv
  refine ⟨(mput_oth _ g1).trans h.hd, a1, h.ki.congr (mput_oth _ (Ne.symm h.d1)), h.kb.congr (mput_oth _ (Ne.symm h.d2)), fun q hq => ?_, fun k n hk hn => (mlook_congr (mput_oth _ (Ne.symm h.d1)) _).trans (h.li k n hk hn), fun p k hp hk => (mlook_congr (mput_oth _ (Ne.symm h.d2)) _).trans (h.lb p k hp hk), h.d1, h.d2, h.d3⟩
  simp only [upd1]
  by_cases e : q = p
  · subst e; rw [if_pos rfl]; exact a2
  · rw [if_neg e]
    exact (a3 _ (okKey59 hq).2 fun e2 => e (pKey_inj e2)).trans (h.lr q hq)
theorem GM.delR (h : GM G m) {p : Pl} (hp : okP' p) : GM { G with R := upd1 G.R p none } (mdel m (.map (some G.mr)) (pKey p)) := by
  obtain ⟨g1, g2, g3⟩ := h.gne
  obtain ⟨a1, a2, a3⟩ := h.kr.del (okKey59 hp)
  refine ⟨(mdel_oth g1).trans h.hd, a1, h.ki.congr (mdel_oth (Ne.symm h.d1)), h.kb.congr (mdel_oth (Ne.symm h.d2)), fun q hq => ?_, fun k n hk hn => (mlook_congr (mdel_oth (Ne.symm h.d1)) _).trans (h.li k n hk hn), fun p k hp hk => (mlook_congr (mdel_oth (Ne.symm h.d2)) _).trans (h.lb p k hp hk), h.d1, h.d2, h.d3⟩
  simp only [upd1]
  by_cases e : q = p
  · subst e; rw [if_pos rfl]; exact a2
  · rw [if_neg e]
    exact (a3 _ (okKey59 hq).2 fun e2 => e (pKey_inj e2)).trans (h.lr q hq)
theorem GM.putI (h : GM G m) {k : Hn} {n : Int} (hk : okH k) (hn : inI n) (p : Pl) : GM { G with I := updI G.I k n (some p) } (mput m (.map (some G.mi)) (kKey k n) (pKey p)) := by
  obtain ⟨g1, g2, g3⟩ := h.gne
  obtain ⟨a1, a2, a3⟩ := h.ki.put (okKey121 hk hn) (pKey p)
  refine ⟨(mput_oth _ g2).trans h.hd, h.kr.congr (mput_oth _ h.d1), a1, h.kb.congr (mput_oth _ (Ne.symm h.d3)), fun q hq => (mlook_congr (mput_oth _ h.d1) _).trans (h.lr q hq), fun k' n' hk' hn' => ?_, fun p k hp hk => (mlook_congr (mput_oth _ (Ne.symm h.d3)) _).trans (h.lb p k hp hk), h.d1, h.d2, h.d3⟩
  simp only [updI]
  by_cases e : k' = k ∧ n' = n
  · obtain ⟨rfl, rfl⟩ := e; rw [if_pos ⟨rfl, rfl⟩]; exact a2
  · rw [if_neg e]
    exact (a3 _ (okKey121 hk' hn').2 fun e2 => e (kKey_inj e2)).trans (h.li k' n' hk' hn')
theorem GM.delI (h : GM G m) {k : Hn} {n : Int} (hk : okH k) (hn : inI n) : GM { G with I := updI G.I k n none } (mdel m (.map (some G.mi)) (kKey k n)) := by
  obtain ⟨g1, g2, g3⟩ := h.gne
  obtain ⟨a1, a2, a3⟩ := h.ki.del (okKey121 hk hn)
  refine ⟨(mdel_oth g2).trans h.hd, h.kr.congr (mdel_oth h.d1), a1, h.kb.congr (mdel_oth (Ne.symm h.d3)), fun q hq => (mlook_congr (mdel_oth h.d1) _).trans (h.lr q hq), fun k' n' hk' hn' => ?_, fun p k hp hk => (mlook_congr (mdel_oth (Ne.symm h.d3)) _).trans (h.lb p k hp hk), h.d1, h.d2, h.d3⟩
  simp only [updI]
  by_cases e : k' = k ∧ n' = n
  · obtain ⟨rfl, rfl⟩ := e; rw [if_pos ⟨rfl, rfl⟩]; exact a2
  · rw [if_neg e]
    exact (a3 _ (okKey121 hk' hn').2 fun e2 => e (kKey_inj e2)).trans (h.li k' n' hk' hn')
theorem GM.putN (h : GM G m) {p : Pl} {k : Hn} (hp : okP' p) (hk : okH k) (n : Int) : GM { G with N := updN G.N p k (some n) } (mput m (.map (some G.mb)) (sKey p k) (.int .i64 n)) := by
  obtain ⟨g1, g2, g3⟩ := h.gne
  obtain ⟨a1, a2, a3⟩ := h.kb.put (okKey126 hp hk) (.int .i64 n)
  refine ⟨(mput_oth _ g3).trans h.hd, h.kr.congr (mput_oth _ h.d2), h.ki.congr (mput_oth _ h.d3), a1, fun q hq => (mlook_congr (mput_oth _ h.d2) _).trans (h.lr q hq), fun k' n' hk' hn' => (mlook_congr (mput_oth _ h.d3) _).trans (h.li k' n' hk' hn'), fun q k' hq hk' => ?_, h.d1, h.d2, h.d3⟩
  simp only [updN]
  by_cases e : q = p ∧ k' = k
  · obtain ⟨rfl, rfl⟩ := e; rw [if_pos ⟨rfl, rfl⟩]; exact a2
  · rw [if_neg e]
    exact (a3 _ (okKey126 hq hk').2 fun e2 => e (sKey_inj e2)).trans (h.lb q k' hq hk')
theorem GM.delN (h : GM G m) {p : Pl} {k : Hn} (hp : okP' p) (hk : okH k) : GM { G with N := updN G.N p k none } (mdel m (.map (some G.mb)) (sKey p k)) := by
  obtain ⟨g1, g2, g3⟩ := h.gne
  obtain ⟨a1, a2, a3⟩ := h.kb.del (okKey126 hp hk)
  refine ⟨(mdel_oth g3).trans h.hd, h.kr.congr (mdel_oth h.d2), h.ki.congr (mdel_oth h.d3), a1, fun q hq => (mlook_congr (mdel_oth h.d2) _).trans (h.lr q hq), fun k' n' hk' hn' => (mlook_congr (mdel_oth h.d3) _).trans (h.li k' n' hk' hn'), fun q k' hq hk' => ?_, h.d1, h.d2, h.d3⟩
  simp only [updN]
  by_cases e : q = p ∧ k' = k
  · obtain ⟨rfl, rfl⟩ := e; rw [if_pos ⟨rfl, rfl⟩]; exact a2
  · rw [if_neg e]
    exact (a3 _ (okKey126 hq hk').2 fun e2 => e (sKey_inj e2)).trans (h.lb q k' hq hk')
end
/-- whose a block is -/
def GG.dom (G : GG) (a : Nat) : Prop := gMap G a ∨ ∃ p X, G.R p = some X ∧ X.D a
/-- a graph changed by one of its calls -/
structure GG.to (G G' : GG) (m m' : Mem) : Prop where
  is' : G'.is m'
  g : G'.g = G.g
  dom : ∀ a, G'.dom a → G.dom a ∨ m a = none
  keep : ∀ a, m a ≠ none → ¬ G.dom a → m' a = m a
theorem GG.to.refl {G : GG} {m : Mem} (h : G.is m) : G.to G m m := ⟨h, rfl, fun _ h => .inl h, fun _ _ _ => rfl⟩
theorem GG.is.there {G : GG} {m : Mem} (h : G.is m) {a : Nat} (ha : G.dom a) : m a ≠ none := by
  rcases ha with ha | ⟨p, X, h1, h2⟩
  · exact h.toGM.there ha
  · exact (h.st p X h1).1.there h2
theorem GG.is.congr {G : GG} {m m' : Mem} (h : G.is m) (hm : ∀ a, G.dom a → m' a = m a) : G.is m' :=
  ⟨h.toGM.congr fun a ha => hm a (.inl ha), fun p X hX => ⟨(h.st p X hX).1.congr fun a ha => hm a (.inr ⟨p, X, hX, ha⟩), (h.st p X hX).2⟩, h.ap, h.own, h.nh, h.nr, h.nu⟩
/-- in the midst of a call: the structure is changed, the maps are not -/
structure GG.mid (G : GG) (m0 m1 : Mem) (p : Pl) (X' : Str) : Prop where
  is : G.is m0
  in' : X'.In m1
  keep : ∀ a, m0 a ≠ none → (∀ X, G.R p = some X → ¬ X.D a) → m1 a = m0 a
  dom : ∀ a, X'.D a → (∃ X, G.R p = some X ∧ X.D a) ∨ m0 a = none
section
variable {G : GG} {m0 m1 : Mem} {p : Pl} {X' : Str}
theorem GG.is.mid_to (h : G.is m0) {X : Str} (hX : G.R p = some X) (ht : X.to X' m0 m1) : G.mid m0 m1 p X' :=
  ⟨h, ht.in', fun a ha hn => ht.keep a ha (hn X hX), fun a ha => (ht.dom a ha).imp (fun hd => ⟨X, hX, hd⟩) id⟩
theorem GG.mid.gm (h : G.mid m0 m1 p X') : GM G m1 :=
  h.is.toGM.congr fun a ha => h.keep a (h.is.toGM.there ha) fun X hX hd => by
    obtain ⟨o1, o2, o3, o4⟩ := h.is.own p X hX a hd
    rcases ha with rfl | rfl | rfl | rfl
    · exact o1 rfl
    · exact o2 rfl
    · exact o3 rfl
    · exact o4 rfl
theorem GG.mid.own (h : G.mid m0 m1 p X') {a : Nat} (ha : X'.D a) : ¬ gMap G a := by
  intro hm
  rcases h.dom a ha with ⟨X, hX, hd⟩ | hn
  · obtain ⟨o1, o2, o3, o4⟩ := h.is.own p X hX a hd
    rcases hm with rfl | rfl | rfl | rfl
    · exact o1 rfl
    · exact o2 rfl
    · exact o3 rfl
    · exact o4 rfl
  · exact h.is.toGM.there hm hn
theorem GG.mid.oth (h : G.mid m0 m1 p X') {q : Pl} {Y : Str} (hq : q ≠ p) (hY : G.R q = some Y) : Y.In m1 ∧ ∀ a, X'.D a → ¬ Y.D a := by
  have hin := (h.is.st q Y hY).1
  refine ⟨hin.congr fun a ha => h.keep a (hin.there ha) fun X hX hd => h.is.ap p q X Y hX hY (Ne.symm hq) a hd ha, fun a ha hd => ?_⟩
  rcases h.dom a ha with ⟨X, hX, hx⟩ | hn
  · exact h.is.ap p q X Y hX hY (Ne.symm hq) a hx hd
  · exact hin.there hd hn
theorem GG.mid.fin (h : G.mid m0 m1 p X') {G' : GG} {m3 : Mem} (h3 : GM G' m3) (eg : G'.g = G.g ∧ G'.mr = G.mr ∧ G'.mi = G.mi ∧ G'.mb = G.mb) {r : Option Str} (hR : G'.R = upd1 G.R p r) (hr : ∀ Y, r = some Y → Y = X' ∧ X'.hs ≠ [])
    (hp : okP' p) (hk : ∀ a, ¬ gMap G a → m3 a = m1 a) (nh : ∀ p h, (G'.N p h).isSome = true ↔ ∃ X, G'.R p = some X ∧ h ∈ X.hs) (nr : ∀ p h n, G'.N p h = some n → inI n) (nu : ∀ h n p, G'.I h n = some p ↔ G'.N p h = some n) : G.to G' m0 m3 := by
  obtain ⟨e1, e2, e3, e4⟩ := eg
  have hmap : ∀ a, gMap G' a ↔ gMap G a := fun a => by unfold gMap; rw [e1, e2, e3, e4]
  have row : ∀ q Y, G'.R q = some Y → (q = p ∧ Y = X' ∧ X'.hs ≠ []) ∨ (q ≠ p ∧ G.R q = some Y) := by
    intro q Y hY
    rw [hR] at hY
    simp only [upd1] at hY
    by_cases e : q = p
    · rw [if_pos e] at hY
      obtain ⟨rfl, g⟩ := hr Y hY
      exact .inl ⟨e, rfl, g⟩
    · rw [if_neg e] at hY; exact .inr ⟨e, hY⟩
  have hin : X'.In m3 := h.in'.congr fun a ha => hk a (h.own ha)
  have ownY : ∀ q Y, G.R q = some Y → ∀ a, Y.D a → ¬ gMap G a := fun q Y hY a ha hm => by
    obtain ⟨o1, o2, o3, o4⟩ := h.is.own q Y hY a ha
    rcases hm with rfl | rfl | rfl | rfl
    · exact o1 rfl
    · exact o2 rfl
    · exact o3 rfl
    · exact o4 rfl
  refine ⟨⟨h3, fun q Y hY => ?_, fun q q' Y Y' hY hY' hne a ha => ?_, fun q Y hY a ha => ?_, nh, nr, nu⟩, e1, fun a ha => ?_, fun a ha hd => ?_⟩
  · rcases row q Y hY with ⟨rfl, rfl, hne⟩ | ⟨hq, hY⟩
    · exact ⟨hin, hne, hp⟩
    · obtain ⟨s1, s2⟩ := h.is.st q Y hY
      exact ⟨(h.oth hq hY).1.congr fun a ha => hk a (ownY q Y hY a ha), s2⟩
  · rcases row q Y hY with ⟨rfl, rfl, _⟩ | ⟨hq, hY⟩
    · rcases row q' Y' hY' with ⟨rfl, rfl, _⟩ | ⟨hq', hY'⟩
      · exact absurd rfl hne
      · exact (h.oth hq' hY').2 a ha
    · rcases row q' Y' hY' with ⟨rfl, rfl, _⟩ | ⟨hq', hY'⟩
      · exact fun hb => (h.oth hq hY).2 a hb ha
      · exact h.is.ap q q' Y Y' hY hY' hne a ha
  · have hn : ¬ gMap G' a := by
      rw [hmap]
      rcases row q Y hY with ⟨rfl, rfl, _⟩ | ⟨hq, hY⟩
      · exact h.own ha
      · exact ownY q Y hY a ha
    exact ⟨fun e => hn (.inl e), fun e => hn (.inr (.inl e)), fun e => hn (.inr (.inr (.inl e))), fun e => hn (.inr (.inr (.inr e)))⟩
  · rcases ha with ha | ⟨q, Y, hY, hd⟩
    · exact .inl (.inl ((hmap a).1 ha))
    · rcases row q Y hY with ⟨rfl, rfl, _⟩ | ⟨hq, hY⟩
      · rcases h.dom a hd with ⟨X, hX, hx⟩ | hn
        · exact .inl (.inr ⟨_, X, hX, hx⟩)
        · exact .inr hn
      · exact .inl (.inr ⟨q, Y, hY, hd⟩)
  · have h1 : ¬ gMap G a := fun e => hd (.inl e)
    rw [hk a h1]
    exact h.keep a ha fun X hX hx => hd (.inr ⟨p, X, hX, hx⟩)
/-- a node comes -/
theorem GG.mid.comes (h : G.mid m0 m1 p X') (hp : okP' p) {k : Hn} {n : Int} (hk : okH k) (hn : inI n) (hI : G.I k n = none) (hN : G.N p k = none) (hne : X'.hs ≠ []) (hhs : ∀ j, j ∈ X'.hs ↔ j = k ∨ ∃ X, G.R p = some X ∧ j ∈ X.hs) :
    comesOK m1 ((G.g : Int) + 1) p.1 p.2.1 p.2.2 k.1 k.2 n X'.ifv ∧ G.to ⟨G.g, G.mr, G.mi, G.mb, upd1 G.R p (some X'), updN G.N p k (some n), updI G.I k n (some p)⟩ m0 (comesM m1 ((G.g : Int) + 1) p.1 p.2.1 p.2.2 k.1 k.2 n X'.ifv) := by
  obtain ⟨pa, pb, pc⟩ := p
  obtain ⟨k1, k2⟩ := k
  obtain ⟨c1, c2⟩ := comes_spec h.gm (a := pa) (b := pb) (c := pc) hp (k := k1) (l := k2) hk hn X'.ifv
  refine ⟨c1, ?_⟩
  have hpl : pl X'.ifv = X'.ifv := by unfold Str.ifv; cases X'.tree <;> rfl
  rw [hpl] at c2
  show G.to _ m0 (comesM m1 ((G.g : Int) + 1) pa pb pc k1 k2 n X'.ifv)
  rw [c2]
  have t1 := h.gm.putR hp X'
  have t2 := t1.putI hk hn (pa, pb, pc)
  have t3 := t2.putN hp hk n
  refine h.fin (r := some X') t3 ⟨rfl, rfl, rfl, rfl⟩ rfl (fun Y hY => ?_) hp (fun a ha => ?_) (fun q j => ?_) (fun q j n' hj => ?_) (fun j n' q => ?_)
  · cases hY; exact ⟨rfl, hne⟩
  · have a1 : a ≠ G.mr := fun e => ha (.inr (.inl e))
    have a2 : a ≠ G.mi := fun e => ha (.inr (.inr (.inl e)))
    have a3 : a ≠ G.mb := fun e => ha (.inr (.inr (.inr e)))
    rw [mput_oth _ a3, mput_oth _ a2, mput_oth _ a1]
  · simp only [updN, upd1]
    by_cases e : q = (pa, pb, pc)
    · subst e
      rw [if_pos rfl]
      by_cases e2 : j = (k1, k2)
      · subst e2
        rw [if_pos ⟨rfl, rfl⟩]
        exact ⟨fun _ => ⟨X', rfl, (hhs _).2 (.inl rfl)⟩, fun _ => rfl⟩
      · rw [if_neg (fun h => e2 h.2), h.is.nh]
        constructor
        · intro hx; exact ⟨X', rfl, (hhs _).2 (.inr hx)⟩
        · rintro ⟨Y, hY, hj⟩
          cases hY
          rcases (hhs _).1 hj with h | h
          · exact absurd h e2
          · exact h
    · rw [if_neg e, if_neg (fun h => e h.1)]
      exact h.is.nh q j
  · simp only [updN] at hj
    split at hj
    · cases hj; exact hn
    · exact h.is.nr q j n' hj
  · simp only [updN, updI]
    by_cases e : j = (k1, k2)
    · subst e
      by_cases e2 : n' = n
      · subst e2
        rw [if_pos ⟨rfl, rfl⟩]
        by_cases e3 : q = (pa, pb, pc)
        · subst e3; rw [if_pos ⟨rfl, rfl⟩]; simp
        · rw [if_neg (fun h => e3 h.1), ← h.is.nu, hI]
          constructor
          · intro hh; cases hh; exact absurd rfl e3
          · intro hh; cases hh
      · rw [if_neg (fun h => e2 h.2), h.is.nu]
        by_cases e3 : q = (pa, pb, pc)
        · subst e3; rw [if_pos ⟨rfl, rfl⟩, hN]
          constructor
          · intro hh; cases hh
          · intro hh; cases hh; exact absurd rfl e2
        · rw [if_neg (fun h => e3 h.1)]
    · rw [if_neg (fun h => e h.1), if_neg (fun h => e h.2)]
      exact h.is.nu j n' q
end
def goneR (X : Str) : Option Str := match X.hs with | [] => none | _ :: _ => some X
section
variable {G : GG} {m0 m1 : Mem} {p : Pl} {X X' : Str}
/-- a node goes -/
theorem GG.mid.goes (h : G.mid m0 m1 p X') (hX : G.R p = some X) (ht : X'.tree = X.tree) (ha : X'.t = X.t) {k : Hn} {n : Int} (hk : okH k) (hN : G.N p k = some n) (hhs : X'.hs = X.hs.erase k) :
    goesOK m1 ((G.g : Int) + 1) p.1 p.2.1 p.2.2 k.1 k.2 ∧ G.to ⟨G.g, G.mr, G.mi, G.mb, upd1 G.R p (goneR X'), updN G.N p k none, updI G.I k n none⟩ m0 (goesM m1 ((G.g : Int) + 1) p.1 p.2.1 p.2.2 k.1 k.2) := by
  have hp : okP' p := (h.is.st p X hX).2.2
  have hnd := (h.is.st p X hX).1.nodup
  have hn : inI n := h.is.nr p k n hN
  obtain ⟨pa, pb, pc⟩ := p
  obtain ⟨k1, k2⟩ := k
  have hg := h.gm
  have t1 := hg.delI hk hn
  have t2 := t1.delN hp hk
  have t3 := t2.delR hp
  have hM2 : ∀ a, ¬ gMap G a → mdel (mdel m1 (.map (some G.mi)) (kKey (k1, k2) n)) (.map (some G.mb)) (sKey (pa, pb, pc) (k1, k2)) a = m1 a := fun a ha => by
    rw [mdel_oth (fun e => ha (.inr (.inr (.inr e)))), mdel_oth (fun e => ha (.inr (.inr (.inl e))))]
  have hin2 : X'.In (mdel (mdel m1 (.map (some G.mi)) (kKey (k1, k2) n)) (.map (some G.mb)) (sKey (pa, pb, pc) (k1, k2))) := h.in'.congr fun a ha => hM2 a (h.own ha)
  have hres : G.to ⟨G.g, G.mr, G.mi, G.mb, upd1 G.R (pa, pb, pc) (goneR X'), updN G.N (pa, pb, pc) (k1, k2) none, updI G.I (k1, k2) n none⟩ m0
      (match X'.hs with | [] => mdel (mdel (mdel m1 (.map (some G.mi)) (kKey (k1, k2) n)) (.map (some G.mb)) (sKey (pa, pb, pc) (k1, k2))) (.map (some G.mr)) (pKey (pa, pb, pc)) | _ :: _ => mdel (mdel m1 (.map (some G.mi)) (kKey (k1, k2) n)) (.map (some G.mb)) (sKey (pa, pb, pc) (k1, k2))) := by
    have hmem : ∀ j, j ∈ X'.hs ↔ j ≠ (k1, k2) ∧ j ∈ X.hs := fun j => by rw [hhs]; exact hnd.mem_erase_iff
    refine h.fin (r := goneR X') ?_ ⟨rfl, rfl, rfl, rfl⟩ rfl (fun Y hY => ?_) hp (fun a ha => ?_) (fun q j => ?_) (fun q j n' hj => ?_) (fun j n' q => ?_)
    · unfold goneR
      cases he : X'.hs with
      | nil => exact t3
      | cons x r =>
        have hsame : upd1 G.R (pa, pb, pc) (some X') (pa, pb, pc) = some X' := if_pos rfl
        refine ⟨t2.hd, t2.kr, t2.ki, t2.kb, fun q hq => ?_, t2.li, t2.lb, t2.d1, t2.d2, t2.d3⟩
        refine (t2.lr q hq).trans ?_
        show (G.R q).map Str.ifv = (upd1 G.R (pa, pb, pc) (some X') q).map Str.ifv
        simp only [upd1]
        by_cases e : q = (pa, pb, pc)
        · subst e
          rw [if_pos rfl, hX]
          simp only [Option.map_some, Str.ifv, ht, ha]
        · rw [if_neg e]
    · unfold goneR at hY
      split at hY
      · cases hY
      · rename_i x r he
        cases hY
        exact ⟨rfl, by rw [he]; simp⟩
    · have a1 : a ≠ G.mr := fun e => ha (.inr (.inl e))
      cases he : X'.hs with
      | nil => exact (mdel_oth a1).trans (hM2 a ha)
      | cons x r => exact hM2 a ha
    · simp only [updN, upd1]
      by_cases e : q = (pa, pb, pc)
      · subst e
        rw [if_pos rfl]
        have key : (∃ Y, goneR X' = some Y ∧ j ∈ Y.hs) ↔ j ∈ X'.hs := by
          unfold goneR
          cases he : X'.hs with
          | nil => simp
          | cons x r => simp [he]
        rw [key, hmem]
        by_cases e2 : j = (k1, k2)
        · subst e2; rw [if_pos ⟨rfl, rfl⟩]; simp
        · rw [if_neg (fun h => e2 h.2), h.is.nh, hX]
          constructor
          · rintro ⟨Y, hY, hj⟩; cases hY; exact ⟨e2, hj⟩
          · rintro ⟨_, hj⟩; exact ⟨X, rfl, hj⟩
      · rw [if_neg e, if_neg (fun h => e h.1)]
        exact h.is.nh q j
    · simp only [updN] at hj
      split at hj
      · cases hj
      · exact h.is.nr q j n' hj
    · simp only [updN, updI]
      by_cases e : j = (k1, k2)
      · subst e
        by_cases e3 : q = (pa, pb, pc)
        · subst e3
          rw [if_pos (c := (pa, pb, pc) = (pa, pb, pc) ∧ (k1, k2) = (k1, k2)) ⟨rfl, rfl⟩]
          by_cases e2 : n' = n
          · rw [if_pos ⟨rfl, e2⟩]; simp
          · rw [if_neg (fun h => e2 h.2), h.is.nu, hN]
            constructor
            · intro hh; cases hh; exact absurd rfl e2
            · intro hh; cases hh
        · rw [if_neg (c := q = (pa, pb, pc) ∧ _) (fun h => e3 h.1), ← h.is.nu]
          by_cases e2 : n' = n
          · subst e2
            rw [if_pos ⟨rfl, rfl⟩]
            constructor
            · intro hh; cases hh
            · intro hh
              have := (h.is.nu (k1, k2) n' (pa, pb, pc)).2 hN
              rw [hh] at this; cases this; exact absurd rfl e3
          · rw [if_neg (fun h => e2 h.2)]
      · rw [if_neg (fun h => e h.1), if_neg (fun h => e h.2)]
        exact h.is.nu j n' q
  suffices hs : goesOK m1 ((G.g : Int) + 1) pa pb pc k1 k2 ∧ goesM m1 ((G.g : Int) + 1) pa pb pc k1 k2 = (match X'.hs with | [] => mdel (mdel (mdel m1 (.map (some G.mi)) (kKey (k1, k2) n)) (.map (some G.mb)) (sKey (pa, pb, pc) (k1, k2))) (.map (some G.mr)) (pKey (pa, pb, pc)) | _ :: _ => mdel (mdel m1 (.map (some G.mi)) (kKey (k1, k2) n)) (.map (some G.mb)) (sKey (pa, pb, pc) (k1, k2))) by
    refine ⟨hs.1, ?_⟩
    show G.to _ m0 (goesM m1 ((G.g : Int) + 1) pa pb pc k1 k2)
    rw [hs.2]; exact hres
  clear hres
  refine flat_spec (p := fun v x => x = _) (by simp [T_goes, flatP]) ?_
  unfold T_goes
  obtain ⟨n1, n2⟩ := hg.lkN hp hk
  rw [hN] at n1
  have hvI : vI (nV (some n)) = n := rfl
  rw [brT (nz_p _), brT (nz_p _), brT hg.okL.2.1, brT (nz_p _), brT (nz_p _), brT hg.okL.2.2]
  simp only [hg.c1, hg.c2, n1, hvI]
  rw [sat_req]
  refine ⟨⟨keyed126, hg.kb.okM, okKey126 (p := (pa, pb, pc)) (h := (k1, k2)) hp hk, rfl⟩, ?_⟩
  rw [sat_req]
  refine ⟨⟨keyed121, hg.ki.okM, okKey121 (h := (k1, k2)) hk hn⟩, ?_⟩
  rw [sat_letm, brT (nz_p _), brT (nz_p _), brT t1.okL.2.2]
  simp only [show pl (mcell (mdel m1 (.map (some G.mi)) (.agg (.mk [(.int .i64 k1), (.int .u64 k2), (.int .i64 n)]))) ((G.g : Int) + 1) 2) = .map (some G.mb) from t1.c2]
  rw [sat_req]
  refine ⟨⟨keyed126, t1.kb.okM, okKey126 (p := (pa, pb, pc)) (h := (k1, k2)) hp hk⟩, ?_⟩
  rw [sat_letm, brT (nz_p _), brT (nz_p _), brT t2.okL.1]
  have l2 := t2.lkR (a := pa) (b := pb) (c := pc) hp
  have q2 := t2.rq (a := pa) (b := pb) (c := pc) hp
  have c2 := t2.c0
  have hkr := t2.kr
  simp only at l2 q2 c2 hkr
  rw [hX] at l2 q2
  generalize mdel (mdel m1 (.map (some G.mi)) (kKey (k1, k2) n)) (.map (some G.mb)) (sKey (pa, pb, pc) (k1, k2)) = M2 at *
  simp only [c2, l2]
  rw [sat_req]
  refine ⟨q2, ?_⟩
  obtain ⟨r1, r2, r3, r4, r5⟩ := rv_ok (some X)
  rw [brT r2]
  have okL2 := t2.okL.1
  have hlen0 : iEq (X'.hs.length : Int) 0 = X'.hs.isEmpty := by cases X'.hs <;> simp [iEq]; omega
  cases htr : X.tree with
  | false =>
    have hif : ifIs 112 (pl (rv (some X))) = true := by simp only [rv, Str.ifv, htr, mkIf_eq]; rfl
    obtain ⟨s1, s2⟩ := Str.llen hin2 (ht.trans htr)
    have e3 : ifP 112 (pl (rv (some X))) = (X'.t : Int) + 1 := by rw [r3]; simp [lP, htr, ha]
    rw [brT hif, e3, sat_req, s2, hlen0]
    refine ⟨s1, ?_⟩
    cases he : X'.hs with
    | nil =>
      rw [brT (by rfl), brT (nz_p _), brT (nz_p _), brT okL2, sat_req]
      refine ⟨⟨keyed59, hkr.okM, okKey59 (p := (pa, pb, pc)) hp⟩, ?_⟩
      rfl
    | cons x r => rw [brF (by rfl)]; rfl
  | true =>
    have hif : ifIs 112 (pl (rv (some X))) = false := by simp only [rv, Str.ifv, htr, mkIf_eq]; rfl
    have hif2 : ifIs 24 (pl (rv (some X))) = true := by simp only [rv, Str.ifv, htr, mkIf_eq]; rfl
    obtain ⟨s1, s2⟩ := Str.tlen hin2 (ht.trans htr)
    have e3 : ifP 24 (pl (rv (some X))) = (X'.t : Int) + 1 := by rw [r4]; simp [tP, htr, ha]
    rw [brF hif, brT hif2, e3, sat_req, s2, hlen0]
    refine ⟨s1, ?_⟩
    cases he : X'.hs with
    | nil =>
      rw [brT (by rfl), brT (nz_p _), brT (nz_p _), brT okL2, sat_req]
      refine ⟨⟨keyed59, hkr.okM, okKey59 (p := (pa, pb, pc)) hp⟩, ?_⟩
      rfl
    | cons x r => rw [brF (by rfl)]; rfl
end
/-! how many, of what kind -/
def hsO (r : Option Str) : List Hn := match r with | none => [] | some X => X.hs
def kindO (r : Option Str) : Int := match r with | none => 0 | some X => match X.tree with | false => 1 | true => 2
section
variable {G : GG} {m : Mem}
theorem glen_spec (h : G.is m) {a b c : Int} (hp : okP' (a, b, c)) : glenOK m ((G.g : Int) + 1) a b c ∧ glenV m ((G.g : Int) + 1) a b c = (hsO (G.R (a, b, c))).length := by
  refine flat_spec (p := fun v x => vInt v = _) (by simp [T_glen, flatP]) ?_
  unfold T_glen
  have hg := h.toGM
  obtain ⟨m1, m2⟩ := made_spec hg
  obtain ⟨r1, r2, r3, r4, r5⟩ := rv_ok (G.R (a, b, c))
  rw [sat_req, m2]
  refine ⟨m1, ?_⟩
  rw [brF (by rfl), brT (nz_p _), brT (nz_p _), brT hg.okL.1]
  simp only [hg.c0, hg.lkR hp]
  rw [sat_req]
  refine ⟨hg.rq hp, ?_⟩
  rw [brT r2, r5]
  cases hX : G.R (a, b, c) with
  | none => rw [brT (by rfl)]; rfl
  | some X =>
    rw [← hX]
    rw [brF (by rw [hX]; rfl), brT (nz_p _), brT (nz_p _), brT hg.okL.1, sat_req]
    refine ⟨hg.rq hp, ?_⟩
    rw [brT r2, r3, r4, hX]
    have hin := (h.st _ X hX).1
    cases htr : X.tree with
    | false =>
      have hif : ifIs 112 (pl (rv (some X))) = true := by simp only [rv, Str.ifv, htr, mkIf_eq]; rfl
      obtain ⟨s1, s2⟩ := Str.llen hin htr
      have e3 : lP (some X) = (X.t : Int) + 1 := by simp [lP, htr]
      rw [brT hif, e3, sat_req, s2]
      exact ⟨s1, rfl⟩
    | true =>
      have hif : ifIs 112 (pl (rv (some X))) = false := by simp only [rv, Str.ifv, htr, mkIf_eq]; rfl
      have hif2 : ifIs 24 (pl (rv (some X))) = true := by simp only [rv, Str.ifv, htr, mkIf_eq]; rfl
      obtain ⟨s1, s2⟩ := Str.tlen hin htr
      have e3 : tP (some X) = (X.t : Int) + 1 := by simp [tP, htr]
      rw [brF hif, brT hif2, e3, sat_req, s2]
      exact ⟨s1, rfl⟩
end
end Go.Proofs.Ytnlohongffpkpaa.T16
end
