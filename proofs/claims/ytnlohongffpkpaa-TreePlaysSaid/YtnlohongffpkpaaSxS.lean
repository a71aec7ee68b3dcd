/- The symbolic executor: calls over the memory. A text of the session's own. -/
import Derived.Test.YtnlohongffpkpaaSxR
namespace Go.Proofs.Ytnlohongffpkpaa.Sx
open Go Go.RowKit

/-- A call over a memory. -/
def runm (P : Program) (S : List Sum) (D : DrawX) (fuel : Nat) (f : FuncId) (args : List V) (m : Mem) (mt : List Nat) : Tr :=
  kO (P.funcs[f]?) fun fn => kO fn.body fun c =>
    match Nat.ble args.length fn.ntmps, args.all (V.wf 0) with
    | true, true => ex P S D fuel fn.ntmps c { tm := number 0 args, hp := ⟨[], [], 0, m, true, mt⟩, n := 0 } fun e σ' =>
      match e with
      | .exit _ => .no 31
      | _ => kO (resV P σ' fn.results.toList) fun r => match r.wf 0, σ'.hp.wr with | true, true => .leaf (.memo r σ'.hp.x) | _, _ => .no 32
    | _, _ => .no 33
def isMemo (p : V → Mem → Prop) : Leaf → Prop
  | .memo v x => p v x
  | _ => False

variable {P : Program} {S : List Sum}

theorem memo_sound (hN : NameOK P) (hS : ∀ q ∈ S, SumOK P q) {D : DrawX} (hD : DSnd P D) (fuel : Nat) {f : Nat} (args : List V) (m : Mem) (mt : List Nat) {T : Tr} (hT : runm P S D fuel f args m mt = T) {p : V → Mem → Prop}
    (h : T.sat (isMemo p)) (ρ : Nat → Nat) (w : World) (hm : ∀ a o, m a = some o → w.heap[a]? = some o) :
    Calls P f (args.map (V.den ρ)).toArray w fun e w' => ∃ v x, p v x ∧ e = .returned (v.den ρ) ∧ MemTo m x w w' := by
  subst hT
  unfold runm at h
  obtain ⟨fn, hfn, hs⟩ := kO_sat h
  obtain ⟨c, hc, hs⟩ := kO_sat hs
  split at hs
  · rename_i hl hw
    have hl' := Nat.le_of_ble_eq_true hl
    have hH0 : HInv w ⟨0, 0, m⟩ (fun _ => 0) (fun _ => 0) ⟨[], [], 0, m, true, mt⟩ 0 w :=
      ⟨fun i hi => by omega, fun i j hi => by omega, (fun i b h => by cases h), Nat.le_refl _, Ext.refl _ _, fun i _ hi => by omega, rfl, rfl, rfl, Nat.le_refl _, fun _ _ _ _ => rfl, (fun i m hm => by cases hm), rfl,
        ⟨hm, fun _ _ _ i hi => by omega, fun _ a o (e : m a = some o) => .inl (by show m a ≠ none; rw [e]; simp)⟩⟩
    have hI' := Inv.enter (σ := { tm := [], hp := ⟨[], [], 0, m, true, mt⟩, n := 0 }) (ρ := fun _ => 0) hH0 args fn.ntmps hl' hw
    have e0 : ∀ ρ', args.map (V.den ρ') = args.map (V.den ρ) := fun ρ' => by
      simp only [List.all_eq_true] at hw
      exact List.map_congr_left fun v hv => V.den_ext (n := 0) (fun i hi => by omega) v (hw v hv)
    rw [← e0 (fun _ => 0)]
    refine calls_of_wp hfn hc ?_
    refine ex_sound hN hS hD fuel w ⟨0, 0, m⟩ (fun _ => 0) fn.ntmps _ c _ _ _ _ w _ hI' hs ?_
    intro e σ' ρ' a' w' hI2 hE hle hk
    have fin : (kO (resV P σ' fn.results.toList) fun r => match r.wf 0, σ'.hp.wr with | true, true => Tr.leaf (.memo r σ'.hp.x) | _, _ => .no 32).sat (isMemo p) →
        a'.defers = [] ∧ ∃ v, (results fn a'.tmps).run P w' = .ok v w' ∧ ∃ v' x, p v' x ∧ Ending.returned v = .returned (v'.den ρ) ∧ MemTo m x w w' := by
      intro hk
      obtain ⟨r, hr, hk⟩ := kO_sat hk
      split at hk
      · rename_i hwr hwm
        refine ⟨hI2.defers, _, resV_den hI2 hr, r, _, hk, ?_, ⟨hI2.H.os, hI2.H.tape, hI2.H.output, hI2.H.size, hI2.H.mem.sub, fun k hk hx => hI2.H.far k hk hx fun i _ hi => absurd hi (Nat.not_lt_zero _), hI2.H.mem.dom hwm⟩⟩
        rw [V.den_ext (n := 0) (ρ := ρ') (ρ' := ρ) (fun i hi => by omega) r hwr]
      · exact hk.elim
    cases e with
    | normal => exact fin hk
    | ret => exact fin hk
    | exit id => exact hk.elim
  · exact hs.elim

/-- A summary over the memory. -/
def memSum (f : FuncId) (mm : Mem → List V → Option MSum) : Sum := { f := f, s := fun _ => none, mm := some mm }
theorem memSum_ok {f : FuncId} {mm : Mem → List V → Option MSum} (hf : ∃ fn, P.funcs[f]? = some fn ∧ fn.body.isSome = true)
    (h : ∀ (m : Mem) (args : List V) (ms : MSum), mm m args = some ms → ms.pre → args.all (V.wf 0) = true → ∀ (ρ : Nat → Nat) (w : World), (∀ a o, m a = some o → w.heap[a]? = some o) →
      Calls P f (args.map (V.den ρ)).toArray w fun e w' => ∃ y, ms.post y ∧ e = .returned ((ms.ret y).den ρ) ∧ MemTo m y.m w w') : SumOK P (memSum f mm) := by
  refine ⟨⟨fun mm' e => ?_, (fun _ h => by cases h), (fun _ h => by cases h)⟩, .inr ⟨rfl, .inr ⟨rfl, .inr ⟨rfl, hf, fun args bs r ρ w hs hb => by cases hs⟩⟩⟩⟩
  cases e
  exact ⟨hf, fun m args ms ρ w h1 h2 h3 h4 => h m args ms h1 h2 h3 ρ w h4⟩

/-- A reader's summary. -/
def rdSum (f : FuncId) (rd : Mem → List V → Option (Prop × V)) : Sum := { f := f, s := fun _ => none, rd := some rd }
theorem rdSum_ok {f : FuncId} {rd : Mem → List V → Option (Prop × V)} (hf : ∃ fn, P.funcs[f]? = some fn ∧ fn.body.isSome = true)
    (h : ∀ (m : Mem) (args : List V) (pre : Prop) (v : V), rd m args = some (pre, v) → pre → args.all (V.wf 0) = true → ∀ (ρ : Nat → Nat) (w : World), (∀ a o, m a = some o → w.heap[a]? = some o) →
      Calls P f (args.map (V.den ρ)).toArray w fun e w' => e = .returned (v.den ρ) ∧ MemTo m m w w') : SumOK P (rdSum f rd) := by
  refine ⟨⟨(fun _ h => by cases h), fun rd' e => ?_, (fun _ h => by cases h)⟩, .inr ⟨rfl, .inr ⟨rfl, .inr ⟨rfl, hf, fun args bs r ρ w hs hb => by cases hs⟩⟩⟩⟩
  cases e
  refine ⟨hf, fun m args pre v ρ w h1 h2 h3 h4 => (h m args pre v h1 h2 h3 ρ w h4).mono ?_⟩
  rintro e w' ⟨rfl, g⟩
  refine ⟨rfl, ⟨g.os, g.tape, g.output, g.size, fun k hk => ?_⟩⟩
  cases hm : m k with
  | none => exact g.far k hk hm
  | some o => rw [g.sub k o hm, h4 k o hm]

/-- The summary of a function that comes to one memory. -/
def dmSum (f : FuncId) (dm : Mem → List V → Option (Prop × Mem × V)) : Sum := { f := f, s := fun _ => none, dm := some dm }
theorem dmSum_ok {f : FuncId} {dm : Mem → List V → Option (Prop × Mem × V)} (hf : ∃ fn, P.funcs[f]? = some fn ∧ fn.body.isSome = true)
    (h : ∀ (m : Mem) (args : List V) (pre : Prop) (M : Mem) (v : V), dm m args = some (pre, M, v) → pre → args.all (V.wf 0) = true → ∀ (ρ : Nat → Nat) (w : World), (∀ a o, m a = some o → w.heap[a]? = some o) →
      Calls P f (args.map (V.den ρ)).toArray w fun e w' => e = .returned (v.den ρ) ∧ MemTo m M w w') : SumOK P (dmSum f dm) := by
  refine ⟨⟨(fun _ h => by cases h), (fun _ h => by cases h), fun dm' e => ?_⟩, .inr ⟨rfl, .inr ⟨rfl, .inr ⟨rfl, hf, fun args bs r ρ w hs hb => by cases hs⟩⟩⟩⟩
  cases e
  exact ⟨hf, fun m args pre M v ρ w h1 h2 h3 h4 => h m args pre M v h1 h2 h3 ρ w h4⟩
end Go.Proofs.Ytnlohongffpkpaa.Sx
