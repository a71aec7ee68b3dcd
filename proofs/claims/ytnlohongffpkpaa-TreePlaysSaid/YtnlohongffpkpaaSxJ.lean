/- The symbolic executor: the operations of a region that come in whatever order, walked in the text's. A text of the session's own. -/
import Derived.Test.YtnlohongffpkpaaSxI
namespace Go.Proofs.Ytnlohongffpkpaa.Sx
open Go Go.RowKit

abbrev Al := List (Tmp × Blk)

def allocOp : Op → Bool
  | .alloc _ => true
  | _ => false

def srcIdx : List Oper → Tmp → Option Nat
  | [], _ => none
  | o :: l, t => match o.dst with
    | some d => (match Nat.beq d t with | true => some 0 | false => match srcIdx l t with | some j => some (j + 1) | none => none)
    | none => match srcIdx l t with | some j => some (j + 1) | none => none

/-- a store into what was there: at an address that no operation of the region has made anew -/
def isLate (l : List Oper) (o : Oper) : Bool :=
  o.guard.isNone && o.dst.isNone && match o.op with
    | .store _ x _ => (match x with
      | .tmp d => (match srcIdx l d with | some j => (match l[j]? with | some p => !allocOp p.op | none => false) | none => true)
      | _ => true)
    | _ => false

def alIdx : Al → Tmp → Option Nat
  | [], _ => none
  | p :: r, d => match Nat.beq p.1 d with | true => some 0 | false => (match alIdx r d with | some q => some (q + 1) | none => none)

theorem alIdx_get : ∀ {al : Al} {d : Tmp} {q : Nat}, alIdx al d = some q → ∃ b, al[q]? = some (d, b)
  | [], _, _, h => by cases h
  | p :: r, d, q, h => by
    simp only [alIdx] at h
    split at h
    · rename_i e
      cases h
      have e := Nat.eq_of_beq_eq_true e
      obtain ⟨p1, p2⟩ := p
      exact ⟨p2, by subst e; rfl⟩
    · split at h
      · rename_i q' hq
        cases h
        obtain ⟨b, hb⟩ := alIdx_get hq
        exact ⟨b, by simpa using hb⟩
      · cases h

def Tr.bindV : Tr → (V → Tr) → Tr
  | .leaf (.val v), k => k v
  | .leaf _, _ => .no 60
  | .br b t e, k => .br b (t.bindV k) (e.bindV k)
  | .no n, _ => .no n
  | .req p t, k => .req p (t.bindV k)
  | .any _ _, _ => .no 61
  | .letm m f, k => .letm m fun x => (f x).bindV k
  | .lp _ _, _ => .no 61

/-- A call by the callee's own text, which writes nothing that was there. -/
def runC (P : Program) (ih : Nat → Code → St → K → Tr) (f : FuncId) (args : List V) (hp : Hp) (n : Nat) : Tr :=
  kO (P.funcs[f]?) fun fn => kO fn.body fun c =>
    match Nat.ble args.length fn.ntmps, args.all (V.wf n) with
    | true, true => ih fn.ntmps c { tm := number 0 args, hp := ⟨hp.c, hp.m, n, hp.x, false, hp.mt⟩, n := n } fun e σ' =>
      match e with
      | .exit _ => .no 31
      | _ => kO (resV P σ' fn.results.toList) fun r => .leaf (.val r)
    | _, _ => .no 33

def frontop (P : Program) (S : List Sum) (ih : Nat → Code → St → K → Tr) (o : Oper) (al : Al) (σ : St) (k : Al → St → Tr) : Tr :=
  match o.op with
  | .alloc t => kO (tzero P t) fun u => match u.cells.all C.plain, u.cells.all (C.wf 0), o.dst with
    | true, true, some d => k (al ++ [(d, (u.cells, t))]) σ
    | _, _, _ => .no 80
  | .store t x y => (match x, ev σ y, o.dst, o.guard with
    | .tmp d, .u u, none, none => kO (alIdx al d) fun q => kO (al[q]?) fun b => kO (tsz P t) fun sz =>
      match Nat.beq sz u.cells.length, Nat.beq b.2.1.length u.cells.length, u.cells.all C.plain, u.cells.all (C.wf 0) with
      | true, true, true, true => k (al.set q (d, (u.cells, b.2.2))) σ
      | _, _, _, _ => .no 88
    | _, _, _, _ => .no 89)
  | .call c => match c.callee with
    | .value x => kO (calleeOf σ x) fun q => match lookS S q.1 with
      | some s => (match s.rd with
        | some rd => (match q.2 with
          | [] => kO (rd σ.hp.x (evs σ c.args.toList)) fun r => (match (evs σ c.args.toList).all (V.wf 0), r.2.wf 0 with
            | true, true => .req r.1 (k al (σ.put o.dst r.2))
            | _, _ => .no 90)
          | _ => .no 84)
        | none => match q.2 with
        | [] => kS (match s.ext, s.hp, s.bx with | false, none, none => s.s (evs σ c.args.toList) | _, _, _ => none) fun r => match r.wf 0 with | true => k al (σ.put o.dst r) | false => .no 83
        | _ => .no 84)
      | none => (runC P ih q.1 (evs σ c.args.toList ++ q.2.map ptrC) σ.hp σ.n).bindV fun r => match r.wf σ.n with | true => k al (σ.put o.dst r) | false => .no 83
    | .builtin b => (match isLen b with
      | true => .no 85
      | false => kO (builtinC b (evs σ c.args.toList)) fun v => k al (σ.put o.dst v))
    | _ => .no 86
  | op => match pureOp op with | true => opX P op σ fun v σ' => k al (σ'.put o.dst v) | false => .no 87

def frontx (P : Program) (S : List Sum) (ih : Nat → Code → St → K → Tr) (N : Nat) (ops : Array Oper) (L : List Oper) : List Oper → Al → St → (Al → St → Tr) → Tr
  | [], al, σ, k => k al σ
  | o :: rest, al, σ, k =>
    match okDst N o.dst with
    | false => .no 40
    | true => match isLate L o with
    | true => frontx P S ih N ops L rest al σ k
    | false =>
      match o.guard with
      | none => frontop P S ih o al σ fun al' σ' => frontx P S ih N ops L rest al' σ' k
      | some (j, want) =>
        match guardTmp ops j with
        | none => .no 41
        | some t =>
          match Nat.blt t N with
          | false => .no 42
          | true => match look σ.tm t with
            | .u (.c (.lb b)) => (match b == want with
              | true => frontop P S ih o al σ fun al' σ' => frontx P S ih N ops L rest al' σ' k
              | false => frontx P S ih N ops L rest al (σ.put o.dst (.tup [])) k)
            | .u (.c (.sb b)) => .br b
                (let σ1 := retell σ (.tmp t) true
                 match true == want with
                 | true => frontop P S ih o al σ1 fun al' σ' => frontx P S ih N ops L rest al' σ' k
                 | false => frontx P S ih N ops L rest al (σ1.put o.dst (.tup [])) k)
                (let σ1 := retell σ (.tmp t) false
                 match false == want with
                 | true => frontop P S ih o al σ1 fun al' σ' => frontx P S ih N ops L rest al' σ' k
                 | false => frontx P S ih N ops L rest al (σ1.put o.dst (.tup [])) k)
            | .tup [] => frontx P S ih N ops L rest al (σ.put o.dst (.tup [])) k
            | _ => .no 43

/-- What an operation came to in the text's order. -/
inductive Ent where
  | run (x : V)
  | skip
  | al (q : Nat)
  | st (q : Nat) (u : U)
  | late

def Ent.isL : Ent → Bool
  | .late => true
  | _ => false

def storeOp : Op → Bool
  | .store _ _ _ => true
  | _ => false

section
variable {P : Program} {S : List Sum} {W : World} {n0 : NL} {ρ0 : Nat → Nat} {N : Nat} {ρ : Nat → Nat} {R : Leaf → Prop} {ops : Array Oper} {L : List Oper} {hp : Hp} {n : Nat}

/-- In every world that holds the local heap it comes to x, and what was there stays. -/
def StabR (P : Program) (W : World) (n0 : NL) (ρ0 ρ : Nat → Nat) (hp : Hp) (n : Nat) (s : Sem Next) (x : Value) : Prop :=
  ∀ w, HInv W n0 ρ0 ρ hp n w → s.run P w = .ok (.value x) w ∨ ∃ f args, s.run P w = .ok (.enter f args) w ∧ Calls P f args w fun e w' => e = .returned x ∧ Below w.heap.size w w'

def StepP (P : Program) (ops : Array Oper) (W : World) (n0 : NL) (ρ0 : Nat → Nat) (N : Nat) (ρ : Nat → Nat) (hp : Hp) (n : Nat) (o : Oper) (al : Al) (σ : St) (f : Ent) (al1 : Al) (σ1 : St) : Prop :=
  match f with
  | .run x => al1 = al ∧ x.wf n = true ∧ (∀ t, (look σ1.tm t).den ρ = if o.dst = some t then x.den ρ else (look σ.tm t).den ρ) ∧
      Region.wanted o (yielded ops (virt N ρ σ).tmps) = true ∧ StabR P W n0 ρ0 ρ hp n (execOp (virt N ρ σ).eval o) (x.den ρ) ∧ storeOp o.op = false
  | .skip => al1 = al ∧ (∀ t, (look σ1.tm t).den ρ = if o.dst = some t then undef else (look σ.tm t).den ρ) ∧ Region.wanted o (yielded ops (virt N ρ σ).tmps) = false ∧ o.guard.isSome = true
  | .al q => (q = al.length ∧ allocOp o.op = true) ∧ (∀ t, (look σ1.tm t).den ρ = (look σ.tm t).den ρ) ∧ Region.wanted o (yielded ops (virt N ρ σ).tmps) = true ∧
      ∃ d cs ty, o.dst = some d ∧ al1 = al ++ [(d, (cs, ty))] ∧ cs.all (C.wf 0) = true ∧
        ∀ (a : Act) (w : World), (execOp a.eval o).run P w = .ok (.value (.pointer (some ⟨w.heap.size, 0, none⟩))) (w.alloc (.cells (dens ρ cs) ty))
  | .st q u => (∃ d cs0 ty, al[q]? = some (d, (cs0, ty)) ∧ al1 = al.set q (d, (u.cells, ty)) ∧ cs0.length = u.cells.length ∧ ∃ t y, o.op = .store t (.tmp d) y ∧ (virt N ρ σ).eval y = u.den ρ ∧ tsz P t = some u.cells.length) ∧
      (∀ t, (look σ1.tm t).den ρ = (look σ.tm t).den ρ) ∧ Region.wanted o (yielded ops (virt N ρ σ).tmps) = true ∧ o.dst = none ∧ o.guard = none ∧ u.cells.all C.plain = true ∧ u.cells.all (C.wf 0) = true
  | .late => al1 = al ∧ (∀ t, (look σ1.tm t).den ρ = (look σ.tm t).den ρ) ∧ o.dst = none ∧ o.guard = none

def PathP (P : Program) (ops : Array Oper) (L : List Oper) (W : World) (n0 : NL) (ρ0 : Nat → Nat) (N : Nat) (ρ : Nat → Nat) (hp : Hp) (n : Nat) : List Oper → Al → St → List Ent → Al → St → Prop
  | [], al, σ, [], al', σ' => al' = al ∧ σ' = σ
  | o :: l, al, σ, f :: fs, al', σ' => ∃ al1 σ1, StepP P ops W n0 ρ0 N ρ hp n o al σ f al1 σ1 ∧ f.isL = isLate L o ∧ PathP P ops L W n0 ρ0 N ρ hp n l al1 σ1 fs al' σ'
  | _, _, _, _, _, _ => False

theorem look_put (σ : St) (d : Option Tmp) (v : V) (t : Tmp) : look (σ.put d v).tm t = if d = some t then v else look σ.tm t := by
  cases d with
  | none => simp [St.put]
  | some d =>
    simp only [St.put, look]
    by_cases e : d = t
    · subst e; simp
    · rw [Nat.beq_eq_false_iff.2 e]; simp [e]

theorem put_hp (σ : St) (d : Option Tmp) (v : V) : (σ.put d v).hp = σ.hp ∧ (σ.put d v).n = σ.n := by
  unfold St.put; split <;> exact ⟨rfl, rfl⟩

theorem TM.put {σ : St} (h : TM N ρ σ) {d : Option Tmp} {v : V} (hd : okDst N d = true) (hv : v.wf σ.n = true) : TM N ρ (σ.put d v) := by
  refine ⟨fun q hq => ?_, fun t ht => ?_⟩
  · rw [(put_hp σ d v).2]
    cases d with
    | none => exact h.1 q hq
    | some d =>
      simp only [St.put, List.mem_cons] at hq
      rcases hq with rfl | hq
      · exact hv
      · exact h.1 q hq
  · rw [look_put, if_neg]
    · exact h.2 t ht
    · intro e
      have := okDst_lt (N := N) hd t e
      exact absurd (Nat.lt_of_lt_of_le this ht) (Nat.lt_irrefl _)

theorem virt_get (σ : St) {t : Nat} (ht : t < N) : (virt N ρ σ).tmps[t]? = some ((look σ.tm t).den ρ) := by
  simp [virt, ht]

theorem yielded_virt {σ : St} {j t : Nat} (hg : guardTmp ops j = some t) (ht : t < N) : yielded ops (virt N ρ σ).tmps j = match (look σ.tm t).den ρ with | .bool b => some b | _ => none := by
  have h1 : (ops[j]?).bind (·.dst) = some t := by
    unfold guardTmp at hg
    split at hg
    · rename_i o ho; rw [ho]; exact hg
    · cases hg
  unfold yielded
  rw [h1]
  simp only [Option.bind_some, virt_get σ ht]
  cases (look σ.tm t).den ρ <;> rfl

theorem bindV_sat {k : V → Tr} : ∀ {T : Tr}, (T.bindV k).sat R → ∃ v, T.sat (fun l => l = .val v) ∧ (k v).sat R
  | .leaf (.val v), h => ⟨v, rfl, h⟩
  | .leaf (.ret _ _ _), h => h.elim
  | .leaf (.out _ _), h => h.elim
  | .leaf (.again _), h => h.elim
  | .leaf (.memo _ _), h => h.elim
  | .leaf (.up _), h => h.elim
  | .br b t e, h => by
    cases hb : b with
    | true =>
      obtain ⟨v, h1, h2⟩ := bindV_sat (h.1 hb)
      exact ⟨v, ⟨fun _ => h1, fun e => by cases e⟩, h2⟩
    | false =>
      obtain ⟨v, h1, h2⟩ := bindV_sat (h.2 hb)
      exact ⟨v, ⟨(fun e => by cases e), fun _ => h1⟩, h2⟩
  | .no _, h => h.elim
  | .req p t, h => by
    obtain ⟨v, h1, h2⟩ := bindV_sat h.2
    exact ⟨v, ⟨h.1, h1⟩, h2⟩
  | .any _ _, h => h.elim
  | .letm m f, h => bindV_sat (T := f m) h
  | .lp _ _, h => h.elim

theorem runC_sound {ih : Nat → Code → St → K → Tr} (hih : Snd P ih) {f : FuncId} {args : List V} {v : V} (h : (runC P ih f args hp n).sat (fun l => l = .val v)) (hv : v.wf n = true) :
    (∃ fn, P.funcs[f]? = some fn ∧ fn.body.isSome = true) ∧ ∀ w, HInv W n0 ρ0 ρ hp n w → Calls P f (args.map (V.den ρ)).toArray w fun e w' => e = .returned (v.den ρ) ∧ Below w.heap.size w w' := by
  unfold runC at h
  obtain ⟨fn, hfn, hs⟩ := kO_sat h
  obtain ⟨c, hc, hs⟩ := kO_sat hs
  refine ⟨⟨fn, hfn, by rw [hc]; rfl⟩, ?_⟩
  · intro w hH
    split at hs
    · rename_i hl hw
      have hl' := Nat.le_of_ble_eq_true hl
      have hH0 : HInv w ⟨n, n, noM⟩ ρ ρ ⟨hp.c, hp.m, n, hp.x, false, hp.mt⟩ n w :=
        ⟨hH.lt, hH.inj, hH.blk, Nat.le_refl _, Ext.refl _ _, (fun i h1 h2 => absurd h2 (Nat.not_lt.2 h1)), rfl, rfl, rfl, Nat.le_refl _, fun _ _ _ _ => rfl, hH.mblk, rfl, hH.mem.sub, hH.mem.sep, fun e => by cases e⟩
      have hI' := Inv.enter (σ := { tm := [], hp := ⟨hp.c, hp.m, n, hp.x, false, hp.mt⟩, n := n }) (ρ := ρ) hH0 args fn.ntmps hl' hw
      refine calls_of_wp hfn hc ?_
      refine hih w ⟨n, n, noM⟩ ρ fn.ntmps _ c _ _ ρ _ w _ hI' hs ?_
      intro e σ' ρ' a' w' hI2 hE hle hk
      have fin : (kO (resV P σ' fn.results.toList) fun r => Tr.leaf (.val r)).sat (fun l => l = .val v) →
          a'.defers = [] ∧ ∃ x, (results fn a'.tmps).run P w' = .ok x w' ∧ Ending.returned x = .returned (v.den ρ) ∧ Below w.heap.size w w' := by
        intro hk
        obtain ⟨r, hr, hk⟩ := kO_sat hk
        · cases hk
          refine ⟨hI2.defers, _, resV_den hI2 hr, ?_, ⟨hI2.H.os, hI2.H.tape, hI2.H.output, hI2.H.size, fun k hk => hI2.H.far k hk rfl fun i h1 h2 => absurd h2 (Nat.not_lt.2 h1)⟩⟩
          rw [V.den_ext hE v hv]
      cases e with
      | normal => exact fin hk
      | ret => exact fin hk
      | exit id => exact hk.elim
    · exact hs.elim

theorem frontop_path (hN : NameOK P) (hS : ∀ q ∈ S, SumOK P q) {ih : Nat → Code → St → K → Tr} (hih : Snd P ih) {w0 : World} (h0 : HInv W n0 ρ0 ρ hp n w0) {o : Oper} {al : Al} {σ : St} {k : Al → St → Tr} (e1 : σ.hp = hp) (e2 : σ.n = n) (hT : TM N ρ σ) (hd : okDst N o.dst = true)
    (hw : Region.wanted o (yielded ops (virt N ρ σ).tmps) = true) (h : (frontop P S ih o al σ k).sat R) :
    ∃ f al1 σ1, (k al1 σ1).sat R ∧ σ1.hp = hp ∧ σ1.n = n ∧ TM N ρ σ1 ∧ f.isL = false ∧ StepP P ops W n0 ρ0 N ρ hp n o al σ f al1 σ1 := by
  subst e1; subst e2
  have hI0 := virt_inv hT h0
  have hT' := hT
  have fin : storeOp o.op = false → ∀ x : V, x.wf σ.n = true → (k al (σ.put o.dst x)).sat R → StabR P W n0 ρ0 ρ σ.hp σ.n (execOp (virt N ρ σ).eval o) (x.den ρ) →
      ∃ f al1 σ1, (k al1 σ1).sat R ∧ σ1.hp = σ.hp ∧ σ1.n = σ.n ∧ TM N ρ σ1 ∧ f.isL = false ∧ StepP P ops W n0 ρ0 N ρ σ.hp σ.n o al σ f al1 σ1 := by
    intro hso x hx hs hst
    refine ⟨.run x, al, σ.put o.dst x, hs, (put_hp _ _ _).1, (put_hp _ _ _).2, hT.put hd hx, rfl, rfl, hx, fun t => ?_, hw, hst, hso⟩
    rw [look_put]
    split <;> rfl
  unfold frontop at h
  split at h
  · rename_i t hop
    obtain ⟨u, hu, hs⟩ := kO_sat h
    split at hs
    · rename_i d hp1 hw1 hd1
      refine ⟨.al al.length, _, σ, hs, rfl, rfl, hT, rfl, ⟨rfl, by rw [hop]; rfl⟩, fun t => rfl, hw, d, u.cells, t, hd1, rfl, hw1, fun a w => ?_⟩
      unfold execOp
      rw [hop]
      refine run_v (s := Instr.alloc t true (.tuple #[])) ?_
      simp only [Instr.alloc, Sem.run_bind, run_zeroValue hu ρ, Result.andThen_ok, newVar, newRow, U.den_cells ρ u (plain_of_all hp1), run_newObj, Sem.run_pure]
      simp [World.alloc_eq]
    · exact hs.elim
  · rename_i t x y hop
    split at h
    · rename_i d u hy hdst hg
      obtain ⟨q, hq, hs1⟩ := kO_sat h
      obtain ⟨b, hb, hs2⟩ := kO_sat hs1
      obtain ⟨sz, hz, hs3⟩ := kO_sat hs2
      split at hs3
      · rename_i c1 c2 c3 c4
        have c1 := Nat.eq_of_beq_eq_true c1
        have c2 := Nat.eq_of_beq_eq_true c2
        obtain ⟨b', hb'⟩ := alIdx_get hq
        rw [hb] at hb'
        cases hb'
        obtain ⟨cs0, ty⟩ := b'
        refine ⟨.st q u, _, σ, hs3, rfl, rfl, hT, rfl, ⟨d, cs0, ty, hb, rfl, c2, t, y, hop, ?_, by rw [hz, c1]⟩, fun t => rfl, hw, hdst, hg, c3, c4⟩
        rw [ev_den hI0 y, hy]; rfl
      · exact hs3.elim
    · exact h.elim
  · rename_i c hop
    have hso : storeOp o.op = false := by rw [hop]; rfl
    split at h
    · rename_i x hcal
      obtain ⟨q, hq, hs⟩ := kO_sat h
      obtain ⟨f, cs⟩ := q
      split at hs
      case h_2 =>
        obtain ⟨r, hT, hs⟩ := bindV_sat hs
        split at hs
        · rename_i hrw
          have hq0 := hq
          unfold calleeOf at hq0
          split at hq0
          · rename_i f' cs' hx
            cases hq0
            obtain ⟨⟨fn, hfn, hbody⟩, hcalls⟩ := runC_sound (W := W) (n0 := n0) (ρ0 := ρ0) (ρ := ρ) hih hT hrw
            refine fin hso r hrw hs fun w hH => .inr ⟨f, _, ?_, hcalls w hH⟩
            have hI := virt_inv hT' hH
            have hdx : (virt N ρ σ).eval x = .func (.func f) #[] (cs.map (ptrV ρ)).toArray := by rw [ev_den hI x, hx]; rfl
            have hargs : c.args.map (virt N ρ σ).eval ++ (cs.map (ptrV ρ)).toArray = ((evs σ c.args.toList ++ cs.map ptrC).map (V.den ρ)).toArray := by
              apply Array.ext'
              rw [Array.toList_append, Array.toList_map, evs_den hI, List.map_append, ptrC_den]
            unfold execOp
            rw [hop]
            simp only [Sem.run_bind, resolve, hcal, hdx, Deferred.ofValue, Sem.run_pure, Result.andThen_ok, invoke, Array.empty_append]
            rw [hargs]
            exact run_callFunc hN hfn hbody _ _
          · cases hq0
        · exact hs.elim
      rename_i s hs1
      replace hs1 : lookS S f = some s := hs1
      split at hs
      · rename_i rd hrd
        split at hs
        · rename_i hcs
          replace hcs : cs = [] := hcs
          subst hcs
          obtain ⟨r, hr, hs⟩ := kO_sat hs
          split at hs
          · rename_i haw hrw
            obtain ⟨hpre, hs⟩ := hs
            obtain ⟨hmem, hf⟩ := lookS_mem hs1
            replace hf : s.f = f := hf
            obtain ⟨⟨fn, hfn, hbody⟩, hrd2⟩ := (hS s hmem).1.2.1 rd hrd
            rw [hf] at hfn
            refine fin hso r.2 (V.wf_mono (Nat.zero_le _) r.2 hrw) hs fun w hH => .inr ?_
            have hI := virt_inv hT hH
            have hc := hrd2 σ.hp.x _ r.1 r.2 ρ w hr hpre haw hH.mem.sub
            rw [hf] at hc
            unfold calleeOf at hq
            split at hq
            · rename_i f' cs' hx
              cases hq
              have hdx : (virt N ρ σ).eval x = .func (.func f) #[] #[] := by rw [ev_den hI x, hx]; rfl
              have hargs : c.args.map (virt N ρ σ).eval = ((evs σ c.args.toList).map (V.den ρ)).toArray := by
                apply Array.ext'
                rw [Array.toList_map, evs_den hI]
              refine ⟨f, _, ?_, hc⟩
              unfold execOp
              rw [hop]
              simp only [Sem.run_bind, resolve, hcal, hdx, Deferred.ofValue, Sem.run_pure, Result.andThen_ok, invoke, Array.empty_append, Array.append_empty]
              rw [hargs]
              exact run_callFunc hN hfn hbody _ _
            · cases hq
          · exact hs.elim
        · exact hs.elim
      split at hs
      · rename_i hcs
        replace hcs : cs = [] := hcs
        subst hcs
        obtain ⟨bs, r, hr, hbs, hs⟩ := kS_sat hs
        obtain ⟨hmem, hf⟩ := lookS_mem hs1
        replace hf : s.f = f := hf
        split at hs
        · rename_i hrw
          refine fin hso r (V.wf_mono (Nat.zero_le _) r hrw) hs fun w hH => .inr ?_
          have hI := virt_inv hT hH
          have hext : s.ext = false ∧ s.hp = none ∧ s.bx = none ∧ s.s (evs σ c.args.toList) = some (bs, r) := by
            cases he : s.ext
            · cases hh : s.hp
              · cases hb : s.bx
                · rw [he, hh, hb] at hr; exact ⟨rfl, rfl, rfl, hr⟩
                · rw [he, hh, hb] at hr; cases hr
              · rw [he, hh] at hr; cases hr
            · rw [he] at hr; cases hr
          replace hr := hext.2.2.2
          obtain ⟨_, hSm⟩ := (hS s hmem).2.resolve_left (fun ⟨ty, x, _⟩ => by rw [hext.2.2.1] at x; cases x)
          obtain ⟨_, hSm⟩ := hSm.resolve_left (fun ⟨ty, x, _⟩ => by rw [hext.2.1] at x; cases x)
          obtain ⟨_, ⟨fn, hfn, hbody⟩, hcalls⟩ := hSm.resolve_left (fun x => by rw [hext.1] at x; cases x.1)
          rw [hf] at hfn hcalls
          unfold calleeOf at hq
          split at hq
          · rename_i f' cs' hx
            cases hq
            have hdx : (virt N ρ σ).eval x = .func (.func f) #[] #[] := by rw [ev_den hI x, hx]; rfl
            have hargs : c.args.map (virt N ρ σ).eval = ((evs σ c.args.toList).map (V.den ρ)).toArray := by
              apply Array.ext'
              rw [Array.toList_map, evs_den hI]
            refine ⟨f, _, ?_, hcalls (evs σ c.args.toList) bs r ρ w hr hbs⟩
            unfold execOp
            rw [hop]
            simp only [Sem.run_bind, resolve, hcal, hdx, Deferred.ofValue, Sem.run_pure, Result.andThen_ok, invoke, Array.empty_append, Array.append_empty]
            rw [hargs]
            exact run_callFunc hN hfn hbody _ _
          · cases hq
        · exact hs.elim
      · exact hs.elim
    · rename_i b hcal
      split at h
      · exact h.elim
      · rename_i hlen
        obtain ⟨v, hv, hs⟩ := kO_sat h
        have hl : b ≠ .len := by intro e; subst e; cases hlen
        have hb := fun w ks => builtinC_sound (P := P) hv hl c.argTypes o.type ks ρ w
        refine fin hso v ((hb w0 #[]).2 _) hs fun w hH => .inl ?_
        have hI := virt_inv hT hH
        have hargs : c.args.map (virt N ρ σ).eval = ((evs σ c.args.toList).map (V.den ρ)).toArray := by
          apply Array.ext'
          rw [Array.toList_map, evs_den hI]
        unfold execOp
        rw [hop]
        simp only [Sem.run_bind, resolve, hcal, Sem.run_pure, Result.andThen_ok, invoke]
        rw [hargs]
        exact (hb w _).1
    · exact h.elim
  · split at h
    · rename_i hpure
      obtain ⟨v, σ', g1, g2, hs, hv⟩ := opXA_sound (W := W) (n0 := n0) (ρ0 := ρ0) (N := N) (ρ := ρ) hpure h
      obtain ⟨hI', hvw, _⟩ := hv _ _ hI0
      have hT' := hI'.TM
      have same : ∀ t, (look σ'.tm t).den ρ = (look σ.tm t).den ρ := fun t => by rw [← hI'.tm t, ← hI0.tm t]
      refine ⟨.run v, al, σ'.put o.dst v, hs, by rw [(put_hp _ _ _).1, g1], by rw [(put_hp _ _ _).2, g2], hT'.put hd (by rw [g2]; exact hvw), rfl, rfl, hvw, fun t => ?_, hw, fun w hH => .inl (hv _ _ (virt_inv hT hH)).2.2, by cases ho : o.op <;> first | rfl | (rw [ho] at hpure; cases hpure)⟩
      rw [look_put]
      split
      · rfl
      · exact same t
    · exact h.elim

theorem frontx_path (hN : NameOK P) (hS : ∀ q ∈ S, SumOK P q) {ih : Nat → Code → St → K → Tr} (hih : Snd P ih) {w0 : World} (h0 : HInv W n0 ρ0 ρ hp n w0) {k : Al → St → Tr} : ∀ (l : List Oper) (al : Al) (σ : St), σ.hp = hp → σ.n = n → TM N ρ σ →
    (frontx P S ih N ops L l al σ k).sat R → ∃ fs al' σ', (k al' σ').sat R ∧ σ'.hp = hp ∧ σ'.n = n ∧ TM N ρ σ' ∧ PathP P ops L W n0 ρ0 N ρ hp n l al σ fs al' σ' := by
  intro l
  induction l with
  | nil => intro al σ e1 e2 hT h; exact ⟨[], al, σ, h, e1, e2, hT, rfl, rfl⟩
  | cons o l ihl =>
    intro al σ e1 e2 hT h
    simp only [frontx] at h
    split at h
    · exact h.elim
    · rename_i hd
      split at h
      · rename_i hL
        obtain ⟨fs, al', σ', b1, b2, b3, b4, b5⟩ := ihl al σ e1 e2 hT h
        have hL' := hL
        simp only [isLate, Bool.and_eq_true, Option.isNone_iff_eq_none] at hL'
        exact ⟨.late :: fs, al', σ', b1, b2, b3, b4, al, σ, ⟨rfl, fun _ => rfl, hL'.1.2, hL'.1.1⟩, hL.symm, b5⟩
      rename_i hL
      have run : ∀ σ1 : St, σ1.hp = hp → σ1.n = n → TM N ρ σ1 → (∀ t, (look σ1.tm t).den ρ = (look σ.tm t).den ρ) → Region.wanted o (yielded ops (virt N ρ σ).tmps) = true →
          (frontop P S ih o al σ1 fun al' σ' => frontx P S ih N ops L l al' σ' k).sat R → ∃ fs al' σ', (k al' σ').sat R ∧ σ'.hp = hp ∧ σ'.n = n ∧ TM N ρ σ' ∧ PathP P ops L W n0 ρ0 N ρ hp n (o :: l) al σ fs al' σ' := by
        intro σ1 g1 g2 hT1 hsame hw hs
        have hv : virt N ρ σ1 = virt N ρ σ := by simp only [virt, hsame]
        obtain ⟨f, al1, σ2, hs2, a1, a2, a3, aL, hstep⟩ := frontop_path (ops := ops) hN hS hih h0 g1 g2 hT1 hd (by rw [hv]; exact hw) hs
        obtain ⟨fs, al', σ', b1, b2, b3, b4, b5⟩ := ihl al1 σ2 a1 a2 a3 hs2
        refine ⟨f :: fs, al', σ', b1, b2, b3, b4, al1, σ2, ?_, aL.trans hL.symm, b5⟩
        unfold StepP at hstep ⊢
        cases f with
        | run x => simp only [hv, hsame] at hstep; exact hstep
        | skip => simp only [hv, hsame] at hstep; exact hstep
        | al q => simp only [hv, hsame] at hstep; exact hstep
        | st q u => simp only [hv, hsame] at hstep; exact hstep
        | late => cases aL
      have skip : ∀ σ1 : St, σ1.hp = hp → σ1.n = n → TM N ρ σ1 → (∀ t, (look σ1.tm t).den ρ = (look σ.tm t).den ρ) → Region.wanted o (yielded ops (virt N ρ σ).tmps) = false →
          o.guard.isSome = true → (frontx P S ih N ops L l al (σ1.put o.dst (.tup [])) k).sat R → ∃ fs al' σ', (k al' σ').sat R ∧ σ'.hp = hp ∧ σ'.n = n ∧ TM N ρ σ' ∧ PathP P ops L W n0 ρ0 N ρ hp n (o :: l) al σ fs al' σ' := by
        intro σ1 g1 g2 hT1 hsame hw hgs hs
        obtain ⟨fs, al', σ', b1, b2, b3, b4, b5⟩ := ihl al _ (by rw [(put_hp _ _ _).1]; exact g1) (by rw [(put_hp _ _ _).2]; exact g2) (hT1.put hd rfl) hs
        refine ⟨.skip :: fs, al', σ', b1, b2, b3, b4, al, _, ⟨rfl, fun t => ?_, hw, hgs⟩, hL.symm, b5⟩
        rw [look_put]
        split
        · rfl
        · exact hsame t
      split at h
      · rename_i hg
        exact run σ e1 e2 hT (fun _ => rfl) (by simp [Region.wanted, hg]) h
      · rename_i j want hg
        split at h
        · exact h.elim
        · rename_i t hgt
          split at h
          · exact h.elim
          · rename_i ht
            have ht' : t < N := by simpa using ht
            have hy := yielded_virt (ρ := ρ) (σ := σ) hgt ht'
            split at h
            · rename_i b hb
              rw [hb] at hy
              replace hy : yielded ops (virt N ρ σ).tmps j = some b := hy
              split at h
              · rename_i hbw
                exact run σ e1 e2 hT (fun _ => rfl) (by simp only [Region.wanted, hg, hy]; simpa using hbw) h
              · rename_i hbw
                exact skip σ e1 e2 hT (fun _ => rfl) (by simp only [Region.wanted, hg, hy]; simpa using hbw) (by rw [hg]; rfl) h
            · rename_i b hb
              rw [hb] at hy
              replace hy : yielded ops (virt N ρ σ).tmps j = some b := hy
              have fin : ∀ c : Bool, b = c → (match c == want with
                  | true => frontop P S ih o al (retell σ (.tmp t) c) fun al' σ' => frontx P S ih N ops L l al' σ' k
                  | false => frontx P S ih N ops L l al ((retell σ (.tmp t) c).put o.dst (.tup [])) k).sat R →
                  ∃ fs al' σ', (k al' σ').sat R ∧ σ'.hp = hp ∧ σ'.n = n ∧ TM N ρ σ' ∧ PathP P ops L W n0 ρ0 N ρ hp n (o :: l) al σ fs al' σ' := by
                intro c hc hs
                subst hc
                have hT1 : TM N ρ (retell σ (.tmp t) b) := by
                  refine ⟨fun q hq => ?_, fun u hu => ?_⟩
                  · simp only [retell, List.mem_cons] at hq
                    rcases hq with rfl | hq
                    · rfl
                    · exact hT.1 q hq
                  · simp only [retell, look]
                    rw [Nat.beq_eq_false_iff.2 (Nat.ne_of_lt (Nat.lt_of_lt_of_le ht' hu))]
                    exact hT.2 u hu
                have hsame : ∀ u, (look (retell σ (.tmp t) b).tm u).den ρ = (look σ.tm u).den ρ := by
                  intro u
                  simp only [retell, look]
                  by_cases e : t = u
                  · subst e; simp only [Nat.beq_refl]; rw [hb]; rfl
                  · rw [Nat.beq_eq_false_iff.2 e]
                split at hs
                · rename_i hbw
                  exact run (retell σ (.tmp t) b) e1 e2 hT1 hsame (by simp only [Region.wanted, hg, hy]; simpa using hbw) hs
                · rename_i hbw
                  exact skip (retell σ (.tmp t) b) e1 e2 hT1 hsame (by simp only [Region.wanted, hg, hy]; simpa using hbw) (by rw [hg]; rfl) hs
              obtain ⟨h1, h2⟩ := h
              cases hbb : b with
              | true => exact fin true hbb (h1 hbb)
              | false => exact fin false hbb (h2 hbb)
            · rename_i hb
              rw [hb] at hy
              replace hy : yielded ops (virt N ρ σ).tmps j = none := hy
              exact skip σ e1 e2 hT (fun _ => rfl) (by simp [Region.wanted, hg, hy]) (by rw [hg]; rfl) h
            · exact h.elim

end
end Go.Proofs.Ytnlohongffpkpaa.Sx
