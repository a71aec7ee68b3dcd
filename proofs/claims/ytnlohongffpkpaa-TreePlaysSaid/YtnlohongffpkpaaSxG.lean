/- The symbolic executor tells what the machine does: regions, calls, code. A text of the session's own. -/
import Derived.Test.YtnlohongffpkpaaSxF
namespace Go.Proofs.Ytnlohongffpkpaa.Sx
open Go Go.RowKit

def Snd (P : Program) (ih : Nat → Code → St → K → Tr) : Prop :=
  ∀ (W : World) (n0 : NL) (ρ0 : Nat → Nat) (N : Nat) (R : Leaf → Prop) (c : Code) (σ : St) (k : K) (ρ : Nat → Nat) (a : Act) (w : World) (Q : Exit → Act → World → Prop),
    Inv W n0 ρ0 N ρ σ a w → (ih N c σ k).sat R →
    (∀ e σ' ρ' a' w', Inv W n0 ρ0 N ρ' σ' a' w' → Ext σ.n ρ ρ' → σ.n ≤ σ'.n → (k e σ').sat R → Q e.to a' w') → c.wp P Q a w

def DSnd (P : Program) (D : DrawX) : Prop :=
  ∀ (ih : Nat → Code → St → K → Tr), Snd P ih → ∀ (W : World) (n0 : NL) (ρ0 : Nat → Nat) (N : Nat) (R : Leaf → Prop) (id : Nat) (ops : Array Oper) (σ : St) (k : St → Tr) (ρ : Nat → Nat) (a : Act) (w : World) (Q : Exit → Act → World → Prop),
    Inv W n0 ρ0 N ρ σ a w → (D.d ih N ops σ k).sat R →
    (∀ σ' ρ' a' w', Inv W n0 ρ0 N ρ' σ' a' w' → Ext σ.n ρ ρ' → σ.n ≤ σ'.n → (k σ').sat R → Q .normal a' w') → (Code.region id ops true).wp P Q a w

def NameOK (P : Program) : Prop := ∀ (f : Nat) (fn : Func), P.funcs[f]? = some fn → (fn.name == "runtime.NumGoroutine") = false

theorem nameOK_of {P : Program} (h : (P.funcs.all fun fn => !(fn.name == "runtime.NumGoroutine")) = true) : NameOK P := by
  intro f fn hf
  rw [Array.all_eq_true_iff_forall_mem] at h
  simpa using h fn (Array.mem_of_getElem? hf)

section
variable {P : Program} {S : List Sum} {W : World} {n0 : NL} {ρ0 : Nat → Nat} {N : Nat} {ρ : Nat → Nat} {σ : St} {a : Act} {w : World} {R : Leaf → Prop}

theorem brs_sat : ∀ {l : List Bool} {t : Tr}, (brs l t).sat R → (∀ b ∈ l, b = true) ∧ t.sat R
  | [], _, h => ⟨(fun _ hx => nomatch hx), h⟩
  | b :: l, t, h => by
    have hb : b = true := by
      cases e : b
      · exact (h.2 e).elim
      · rfl
    obtain ⟨h1, h2⟩ := brs_sat (h.1 hb)
    exact ⟨fun c hc => by
      rcases List.mem_cons.1 hc with rfl | hc
      · exact hb
      · exact h1 c hc, h2⟩

theorem kS_sat {o : Option (List Bool × V)} {k : V → Tr} (h : (kS o k).sat R) : ∃ bs x, o = some (bs, x) ∧ (∀ b ∈ bs, b = true) ∧ (k x).sat R := by
  unfold kS at h
  split at h
  · rename_i x
    obtain ⟨h1, h2⟩ := brs_sat h
    exact ⟨x.1, x.2, rfl, h1, h2⟩
  · exact h.elim

theorem lookS_mem {l : List Sum} {f : Nat} {q : Sum} (h : lookS l f = some q) : q ∈ l ∧ q.f = f := by
  induction l with
  | nil => cases h
  | cons p r ih =>
    simp only [lookS] at h
    split at h
    · rename_i e
      cases h
      exact ⟨by simp, Nat.eq_of_beq_eq_true e⟩
    · obtain ⟨h1, h2⟩ := ih h
      exact ⟨by simp [h1], h2⟩

theorem evs_den (hI : Inv W n0 ρ0 N ρ σ a w) (l : List Operand) : l.map a.eval = (evs σ l).map (V.den ρ) := by
  induction l with
  | nil => rfl
  | cons x r ih => simp [evs, ih, ev_den hI x]

theorem ptrC_den (ρ : Nat → Nat) (l : List (Nat × Nat)) : (l.map ptrC).map (V.den ρ) = l.map (ptrV ρ) := by
  simp only [List.map_map]; rfl

theorem look_number (args : List V) : ∀ (i t : Nat), i ≤ t → look (number i args) t = (args[t - i]?).getD (.tup []) := by
  induction args with
  | nil => intro i t _; simp [number, look]
  | cons v r ih =>
    intro i t hit
    simp only [number, look]
    by_cases e : i = t
    · subst e; simp
    · rw [Nat.beq_eq_false_iff.2 e]
      simp only
      rw [ih (i + 1) t (by omega), show t - i = (t - (i + 1)) + 1 by omega]
      simp

theorem number_mem (args : List V) : ∀ (i : Nat) (q : Nat × V), q ∈ number i args → q.2 ∈ args := by
  induction args with
  | nil => intro i q h; cases h
  | cons v r ih =>
    intro i q h
    simp only [number, List.mem_cons] at h
    rcases h with rfl | h
    · simp
    · simp [ih _ _ h]

/-- The callee's frame as it begins. -/
theorem Inv.enter (hI : HInv W n0 ρ0 ρ σ.hp σ.n w) (args : List V) (M : Nat) (hl : args.length ≤ M) (hw : args.all (V.wf σ.n) = true) :
    Inv W n0 ρ0 M ρ { tm := number 0 args, hp := σ.hp, n := σ.n } { tmps := (args.map (V.den ρ)).toArray ++ Array.replicate (M - (args.map (V.den ρ)).toArray.size) undef, defers := [] } w := by
  refine ⟨rfl, by simp; omega, ?_, ?_, hI⟩
  · intro t
    rw [look_number args 0 t (by omega), Nat.sub_zero]
    by_cases h : t < args.length
    · have h1 : args[t]? = some args[t] := by simp [h]
      rw [h1]
      simp [Array.getElem?_append, h]
    · have h1 : args[t]? = none := by simp; omega
      rw [h1]
      simp only [Option.getD_none]
      rw [Array.getD_eq_getD_getElem?, Array.getElem?_append]
      simp only [List.size_toArray, List.length_map, h, if_false]
      rw [Array.getElem?_replicate]
      split <;> rfl
  · intro q hq
    have := number_mem args 0 q hq
    simp only [List.all_eq_true] at hw
    exact hw _ this

def resOne (tmps : Array Value) : ResultVar → Sem Value
  | .tmp t => pure (tmps.getD t undef)
  | .cell x t => do loadVar t (← asAddr (tmps.getD x undef))

theorem results_eq (fn : Func) (tmps : Array Value) : results fn tmps = (do let vs ← fn.results.mapM (resOne tmps); pure (if h : vs.size = 1 then vs[0] else .tuple vs)) := by
  unfold results
  congr 1

theorem resC_den {r : ResultVar} {u : U} (hI : Inv W n0 ρ0 N ρ σ a w) (h : resC P σ r = some u) :
    (resOne a.tmps r).run P w = .ok (u.den ρ) w := by
  cases r with
  | tmp t =>
    simp only [resC] at h
    split at h
    · rename_i u' hu
      cases h
      simp only [resOne, Sem.run_pure]
      rw [hI.tm t, hu]; rfl
    · cases h
  | cell x t =>
    simp only [resC] at h
    split at h
    · rename_i id off hx
      split at h
      · rename_i b hb
        have hd : a.tmps.getD x undef = .pointer (some ⟨ρ id, off, none⟩) := by rw [hI.tm x, hx]; rfl
        simp only [resOne, hd, asAddr, Sem.run_bind, Sem.run_pure, Result.andThen_ok]
        exact run_loadVar hI.H hb h
      · cases h
    · cases h

theorem resCs_den (hI : Inv W n0 ρ0 N ρ σ a w) : ∀ (l : List ResultVar) (us : List U), resCs P σ l = some us →
    (l.mapM (resOne a.tmps) : Sem (List Value)).run P w = .ok (us.map (U.den ρ)) w := by
  intro l
  induction l with
  | nil => intro us h; simp only [resCs, Option.some.injEq] at h; subst h; simp
  | cons r l ih =>
    intro us h
    simp only [resCs] at h
    split at h
    · rename_i u us' h1 h2
      cases h
      have e := resC_den hI h1
      simp only [List.mapM_cons, Sem.run_bind]
      rw [e]
      simp only [Result.andThen_ok, ih _ h2, Sem.run_pure, List.map_cons]
    · cases h

theorem resV_den {fn : Func} {v : V} (hI : Inv W n0 ρ0 N ρ σ a w) (h : resV P σ fn.results.toList = some v) : (results fn a.tmps).run P w = .ok (v.den ρ) w := by
  unfold resV at h
  have key : ∀ us, resCs P σ fn.results.toList = some us → (results fn a.tmps).run P w = .ok (if h : (us.map (U.den ρ)).toArray.size = 1 then (us.map (U.den ρ)).toArray[0] else .tuple (us.map (U.den ρ)).toArray) w := by
    intro us hu
    have e := resCs_den hI _ _ hu
    simp only [results_eq, Array.mapM_eq_mapM_toList, Sem.run_bind, Sem.run_map]
    rw [e]
    simp only [Result.andThen_ok, Sem.run_pure]
  split at h
  · rename_i u hu
    cases h
    rw [key _ hu]
    rfl
  · rename_i us hne hu
    cases h
    rw [key _ hu]
    have hn : ¬ (us.map (U.den ρ)).toArray.size = 1 := by
      intro h1
      simp at h1
      match us, h1 with
      | [u], _ => exact hne u rfl
    rw [dif_neg hn]
    rfl
  · cases h

theorem Inv.finish (hI : Inv W n0 ρ0 N ρ σ a w) {ρ' : Nat → Nat} {hp : Hp} {n : Nat} {w' : World} (hE : Ext σ.n ρ ρ') (hn : σ.n ≤ n) (hH : HInv W n0 ρ0 ρ' hp n w') :
    Inv W n0 ρ0 N ρ' { tm := σ.tm, hp := hp, n := n } a w' := hI.later hE hn hH

/-- What holds behind an operation that was called by its summary, or by its text. -/
def NextS (W : World) (n0 : NL) (ρ0 : Nat → Nat) (N : Nat) (R : Leaf → Prop) (ρ : Nat → Nat) (σ : St) (a : Act) (k : V → St → Tr) (next : Value → World → Prop) : Prop :=
  ∀ v σ' ρ' w', Inv W n0 ρ0 N ρ' σ' a w' → Ext σ.n ρ ρ' → σ.n ≤ σ'.n → v.wf σ'.n = true → (k v σ').sat R → next (v.den ρ') w'

theorem HInv.touch {hp : Hp} {n : Nat} (h : HInv W n0 ρ0 ρ hp n w) {id : Nat} {b : Blk} (hb : lookH hp id = some b) (hlim : hp.lim ≤ id) {w' : World} (ht : Touch (ρ id) w w') {new : List C} {ty : Nat} (hn : new.all (C.wf 0) = true)
    (hw : w'.heap[ρ id]? = some (.cells (dens ρ new) ty (0, 0))) : HInv W n0 ρ0 ρ (hcons (id, (new, ty)) hp) n w' := by
  obtain ⟨hid, _, _⟩ := h.blk id b hb
  refine ⟨fun i hi => Nat.lt_of_lt_of_le (h.lt i hi) ht.size, h.inj, ?_, h.le, h.old, h.new, ht.os.trans h.os, ht.tape.trans h.tape, ht.output.trans h.output, Nat.le_trans h.size ht.size, ?_, ?_, h.lim, h.mem.keep fun a ha hf => ht.far a ha fun e => hf id hid e.symm⟩
  · intro i b' hi
    simp only [lookH_hcons, lookH_hnil] at hi
    by_cases e : id = i
    · subst e
      simp only [Nat.beq_refl] at hi
      cases hi
      refine ⟨hid, ?_, hw⟩
      simp only [List.all_eq_true] at hn ⊢
      exact fun x hx => C.wf_mono (Nat.zero_le _) x (hn x hx)
    · rw [Nat.beq_eq_false_iff.2 e] at hi
      obtain ⟨g1, g2, g3⟩ := h.blk i b' hi
      refine ⟨g1, g2, ?_⟩
      rw [ht.far (ρ i) (h.lt i g1) (fun x => e (h.inj i id g1 hid x).symm)]
      exact g3
  · intro k hk hx hne
    rw [ht.far k (Nat.lt_of_lt_of_le hk h.size) ?_]
    · exact h.far k hk hx hne
    · intro e
      by_cases hlt : id < n0.n
      · exact hne id (h.lim ▸ hlim) hlt (by rw [e]; exact (h.old id hlt).symm)
      · have := h.new id (by omega) hid
        omega
  · intro i m hm
    rw [lookM_hcons] at hm
    obtain ⟨g1, g2, g3⟩ := h.mblk i m hm
    refine ⟨g1, g2, ?_⟩
    rw [ht.far (ρ i) (h.lt i g1) (h.mne hb hm)]
    exact g3

theorem callx_sound (hS : ∀ q ∈ S, SumOK P q) {ih : Nat → Code → St → K → Tr} (hih : Snd P ih) {f : FuncId} {args : List V} {k : V → St → Tr} (hI : Inv W n0 ρ0 N ρ σ a w)
    (h : (callx P S ih f args σ k).sat R) {next : Value → World → Prop} (hn : NextS W n0 ρ0 N R ρ σ a k next) :
    ((∃ fn, P.funcs[f]? = some fn ∧ fn.body.isSome = true) ∧ ∀ R' : Ending → World → Prop, (∀ v w', next v w' → R' (.returned v) w') → Calls P f (args.map (V.den ρ)).toArray w R') ∨
    ∃ v, (callFunc f (args.map (V.den ρ)).toArray).run P w = .ok (.value v) w ∧ next v w := by
  unfold callx at h
  split at h
  · rename_i q hq
    obtain ⟨hmem, hf⟩ := lookS_mem hq
    split at h
    case h_1 =>
      rename_i ty hty
      have hH := (hS q hmem).2
      rcases hH with ⟨ty', e1, e2, h1, h2⟩ | ⟨e1, _⟩
      case inr => rw [hty] at e1; cases e1
      rw [hty] at e1
      cases e1
      rw [hf] at h1
      split at h
      · rename_i x off rest
        obtain ⟨bb, hbb, h0s⟩ := kO_sat h
        split at h0s
        · rename_i id hbbc
          obtain ⟨b, hb, h1s⟩ := kO_sat h0s
          obtain ⟨hb, hlim⟩ := lookW_spec hb
          obtain ⟨bs, r, hr, hbs, h2s⟩ := kS_sat h1s
          split at h2s
          · rename_i new u
            split at h2s
            · rename_i ho ht hnw huw hxi hxt0
              have ho := Nat.eq_of_beq_eq_true ho
              have ht := Nat.eq_of_beq_eq_true ht
              have hxi := Nat.beq_eq_false_iff.1 hxi
              have hxt := Nat.eq_of_beq_eq_true hxt0
              subst ho
              obtain ⟨bcs, bty⟩ := b
              obtain ⟨xcs, xty⟩ := bb
              dsimp only at ht hr hbbc hxt
              subst ht hbbc
              refine .inl ⟨h1, fun R' hR => ?_⟩
              obtain ⟨hid, _, hcell⟩ := hI.H.blk id _ hb
              obtain ⟨hxd, _, hxcell⟩ := hI.H.blk x _ hbb
              have hne : ρ x ≠ ρ id := fun e => hxi (hI.H.inj x id hxd hid e)
              rw [hxt] at hxcell
              have hc := h2 bcs rest bs new u ρ (ρ id) (ρ x) w hr hbs hcell hxcell hne
              rw [hf] at hc
              refine Calls.mono hc ?_
              rintro e w' ⟨rfl, htch, hnew⟩
              exact hR _ _ (hn (.u u) _ ρ w' (hI.later (Ext.refl _ _) (Nat.le_refl _) (hI.H.touch hb hlim htch hnw hnew)) (Ext.refl _ _) (Nat.le_refl _) (V.wf_mono (Nat.zero_le _) (.u u) huw) h2s)
            · exact h2s.elim
          · exact h2s.elim
        · exact h0s.elim
      · exact h.elim
    rename_i hbnone
    split at h
    case h_2 =>
      rename_i ty hty
      have hH := (hS q hmem).2
      rcases hH with ⟨ty', e1, _⟩ | ⟨_, hH⟩
      · rw [hbnone] at e1; cases e1
      rcases hH with ⟨ty', e1, e2, h1, h2⟩ | ⟨e1, _⟩
      case inr => rw [hty] at e1; cases e1
      rw [hty] at e1
      cases e1
      rw [hf] at h1
      split at h
      · rename_i id off rest
        obtain ⟨b, hb, h1s⟩ := kO_sat h
        obtain ⟨hb, hlim⟩ := lookW_spec hb
        obtain ⟨bs, r, hr, hbs, h2s⟩ := kS_sat h1s
        split at h2s
        · rename_i new u
          split at h2s
          · rename_i ho ht hnw huw
            have ho := Nat.eq_of_beq_eq_true ho
            have ht := Nat.eq_of_beq_eq_true ht
            subst ho
            obtain ⟨bcs, bty⟩ := b
            dsimp only at ht hr
            subst ht
            refine .inl ⟨h1, fun R' hR => ?_⟩
            obtain ⟨_, _, hcell⟩ := hI.H.blk id _ hb
            have hc := h2 bcs rest bs new u ρ (ρ id) w hr hbs hcell
            rw [hf] at hc
            refine Calls.mono hc ?_
            rintro e w' ⟨rfl, htch, hnew⟩
            exact hR _ _ (hn (.u u) _ ρ w' (hI.later (Ext.refl _ _) (Nat.le_refl _) (hI.H.touch hb hlim htch hnw hnew)) (Ext.refl _ _) (Nat.le_refl _) (V.wf_mono (Nat.zero_le _) (.u u) huw) h2s)
          · exact h2s.elim
        · exact h2s.elim
      · exact h.elim
    rename_i hnone
    obtain ⟨bs, r, hr, hbs, hs⟩ := kS_sat h
    split at hs
    · rename_i hw
      have hH := (hS q hmem).2
      rcases hH with ⟨ty', e1, _⟩ | ⟨_, hH⟩
      · rw [hbnone] at e1; cases e1
      rcases hH with ⟨ty', e1, _⟩ | ⟨_, hH⟩
      · rw [hnone] at e1; cases e1
      rcases hH with ⟨_, hx⟩ | ⟨_, h1, h2⟩
      · right
        have hx := hx args bs r ρ w hr hbs
        rw [hf] at hx
        exact ⟨_, hx, hn r σ ρ w hI (Ext.refl _ _) (Nat.le_refl _) (V.wf_mono (Nat.zero_le _) r hw) hs⟩
      rw [hf] at h1 h2
      refine .inl ⟨h1, fun R' hR => ?_⟩
      refine (h2 args bs r ρ w hr hbs).mono ?_
      rintro e w' ⟨rfl, hb⟩
      exact hR _ _ (hn r σ ρ w' (hI.later (Ext.refl _ _) (Nat.le_refl _) (hI.H.below hb)) (Ext.refl _ _) (Nat.le_refl _) (V.wf_mono (Nat.zero_le _) r hw) hs)
    · exact hs.elim
  · obtain ⟨fn, hfn, hs⟩ := kO_sat h
    obtain ⟨c, hc, hs⟩ := kO_sat hs
    refine .inl ⟨⟨fn, hfn, by rw [hc]; rfl⟩, fun R' hR => ?_⟩
    split at hs
    · rename_i hl hw
      have hl' := Nat.le_of_ble_eq_true hl
      have hI' := Inv.enter (ρ := ρ) hI.H args fn.ntmps hl' hw
      refine calls_of_wp hfn hc ?_
      refine hih W n0 ρ0 fn.ntmps R c _ _ ρ _ w _ hI' hs ?_
      intro e σ' ρ' a' w' hI2 hE hle hk
      have fin : (kO (resV P σ' fn.results.toList) fun r => match r.wf σ'.n with | true => k r { tm := σ.tm, hp := σ'.hp, n := σ'.n } | false => .no 32).sat R →
          a'.defers = [] ∧ ∃ v, (results fn a'.tmps).run P w' = .ok v w' ∧ R' (.returned v) w' := by
        intro hk
        obtain ⟨r, hr, hk⟩ := kO_sat hk
        split at hk
        · rename_i hwr
          exact ⟨hI2.defers, _, resV_den hI2 hr, hR _ _ (hn r _ ρ' w' (hI.later hE hle hI2.H) hE hle hwr hk)⟩
        · exact hk.elim
      cases e with
      | normal => exact fin hk
      | ret => exact fin hk
      | exit id => exact hk.elim
    · exact hs.elim

theorem callX_sound (hS : ∀ q ∈ S, SumOK P q) {ih : Nat → Code → St → K → Tr} (hih : Snd P ih) {f : FuncId} {args : List V} {k : V → St → Tr} (hI : Inv W n0 ρ0 N ρ σ a w)
    (h : (callX P S ih f args σ k).sat R) {next : Value → World → Prop} (hn : NextS W n0 ρ0 N R ρ σ a k next) :
    ((∃ fn, P.funcs[f]? = some fn ∧ fn.body.isSome = true) ∧ ∀ R' : Ending → World → Prop, (∀ v w', next v w' → R' (.returned v) w') → Calls P f (args.map (V.den ρ)).toArray w R') ∨
    ∃ v, (callFunc f (args.map (V.den ρ)).toArray).run P w = .ok (.value v) w ∧ next v w := by
  unfold callX at h
  split at h
  · rename_i q hq
    obtain ⟨hmem, hf⟩ := lookS_mem hq
    split at h
    · rename_i mm hmm
      obtain ⟨h1, h2⟩ := (hS q hmem).1.1 mm hmm
      rw [hf] at h1
      obtain ⟨ms, hms, hs⟩ := kO_sat h
      split at hs
      · rename_i hw hwr
        obtain ⟨hpre, hs⟩ := hs
        refine .inl ⟨h1, fun R' hR => ?_⟩
        have := h2 σ.hp.x args ms ρ w hms hpre hw hI.H.mem.sub
        rw [hf] at this
        refine this.mono ?_
        rintro e w' ⟨y, g1, rfl, g2⟩
        have hs := hs y g1
        dsimp only at hs
        split at hs
        · rename_i hrw
          exact hR _ _ (hn (ms.ret y) _ ρ w' (hI.later (Ext.refl _ _) (Nat.le_refl _) (hI.H.memTo hwr g2)) (Ext.refl _ _) (Nat.le_refl _) (V.wf_mono (Nat.zero_le _) _ hrw) hs)
        · exact hs.elim
      · exact hs.elim
    · split at h
      · rename_i rd hrd
        obtain ⟨h1, h2⟩ := (hS q hmem).1.2.1 rd hrd
        rw [hf] at h1
        obtain ⟨r, hr, hs⟩ := kO_sat h
        split at hs
        · rename_i hw hrw
          obtain ⟨hpre, hs⟩ := hs
          refine .inl ⟨h1, fun R' hR => ?_⟩
          have := h2 σ.hp.x args r.1 r.2 ρ w hr hpre hw hI.H.mem.sub
          rw [hf] at this
          refine this.mono ?_
          rintro e w' ⟨rfl, g2⟩
          exact hR _ _ (hn r.2 _ ρ w' (hI.later (Ext.refl _ _) (Nat.le_refl _) (hI.H.below g2)) (Ext.refl _ _) (Nat.le_refl _) (V.wf_mono (Nat.zero_le _) _ hrw) hs)
        · exact hs.elim
      · split at h
        · rename_i dm hdm
          obtain ⟨h1, h2⟩ := (hS q hmem).1.2.2 dm hdm
          rw [hf] at h1
          obtain ⟨r, hr, hs⟩ := kO_sat h
          split at hs
          · rename_i hw hrw hwr
            obtain ⟨hpre, hs⟩ := hs
            refine .inl ⟨h1, fun R' hR => ?_⟩
            have := h2 σ.hp.x args r.1 r.2.1 r.2.2 ρ w hr hpre hw hI.H.mem.sub
            rw [hf] at this
            refine this.mono ?_
            rintro e w' ⟨rfl, g2⟩
            exact hR _ _ (hn r.2.2 _ ρ w' (hI.later (Ext.refl _ _) (Nat.le_refl _) (hI.H.memTo hwr g2)) (Ext.refl _ _) (Nat.le_refl _) (V.wf_mono (Nat.zero_le _) _ hrw) hs)
          · exact hs.elim
        · exact callx_sound hS hih hI h hn
  · exact callx_sound hS hih hI h hn

theorem wp_enter {o : Oper} {f : FuncId} {args : Array Value} {next : Act → World → Prop} {Q : Exit → Act → World → Prop} (h : (execOp a.eval o).run P w = .ok (.enter f args) w)
    (hc : ∀ R' : Ending → World → Prop, (∀ v w', next (a.put o.dst v) w' → R' (.returned v) w') → Calls P f args w R') : o.wp P a w next Q := by
  simp only [Oper.wp, h, Oper.upon_enter]
  exact hc _ fun v w' hv => hv

theorem run_callFunc (hN : NameOK P) {f : FuncId} {fn : Func} (hf : P.funcs[f]? = some fn) (hb : fn.body.isSome = true) (args : Array Value) (w : World) : (callFunc f args).run P w = .ok (.enter f args) w := by
  have h1 := hN f fn hf
  have h1' : ¬ fn.name = "runtime.NumGoroutine" := by simpa using h1
  have h2 : ¬ fn.body = none := by intro e; rw [e] at hb; cases hb
  simp [callFunc, hf, h1', h2]

theorem builtinC_sound {b : Builtin} {args : List V} {v : V} (h : builtinC b args = some v) (hb : b ≠ .len) (ts : Array TypeId) (t : TypeId) (cs : Array Bool) (ρ : Nat → Nat) (w : World) :
    (builtin b ts t cs (args.map (V.den ρ)).toArray).run P w = .ok (.value (v.den ρ)) w ∧ ∀ n, v.wf n = true := by
  unfold builtinC at h
  split at h
  · split at h
    · rename_i lx kx nx ly ky ny hx hy
      cases h
      refine ⟨?_, fun n => mkI_wf _ _ _ n⟩
      simp only [List.map_cons, List.map_nil, V.den, U.den, C.int_den hx ρ, C.int_den hy ρ, mkI_den]
      simp [builtin, run_max_int2, iMax2]
    · cases h
  · split at h
    · rename_i lx kx nx ly ky ny hx hy
      cases h
      refine ⟨?_, fun n => mkI_wf _ _ _ n⟩
      simp only [List.map_cons, List.map_nil, V.den, U.den, C.int_den hx ρ, C.int_den hy ρ, mkI_den]
      simp [builtin, run_min_int2, iMin2]
    · cases h
  · exact absurd rfl hb
  · exact absurd rfl hb
  · cases h

theorem run_callMethod {t : TypeId} {name : String} {f : FuncId} (h : methC P t name = some f) (p : Option Addr) (args : Array Value) (w : World) :
    (callMethod (.iface t (.pointer p)) name args).run P w = (callFunc f (#[.pointer p] ++ args)).run P w := by
  unfold methC at h
  split at h
  · rename_i it e hi hu
    split at h
    · rename_i m hm
      split at h
      · rename_i g hpath hfun
        cases h
        have hm' : it.methods.find? (fun m => m.name == name) = some m := by rw [← Array.find?_toList]; exact hm
        have hp : m.path.toList = [] := hpath
        have hmeth : (method (P.types.size + Made.depth) t (.pointer p) name).run P w = .ok (f, .pointer p) w := by
          obtain ⟨n, hn⟩ : ∃ n, P.types.size + Made.depth = n + 1 := ⟨P.types.size + (Made.depth - 1), by simp [Made.depth]⟩
          rw [hn]
          simp only [method, Sem.run_bind, typeInfo, run_program, Result.andThen_ok, hi, Sem.run_pure, hm', hp, follow, hfun, receiverAt, run_underlying hu, Place.get]
        simp only [callMethod, Sem.run_bind, run_program, Result.andThen_ok, hmeth]
      · cases h
    · cases h
  · cases h

theorem opAny_sound (hN : NameOK P) (hS : ∀ q ∈ S, SumOK P q) {ih : Nat → Code → St → K → Tr} (hih : Snd P ih) {o : Oper} {k : V → St → Tr} {next : Act → World → Prop} {Q : Exit → Act → World → Prop}
    (hI : Inv W n0 ρ0 N ρ σ a w) (h : (opAny P S ih o σ k).sat R) (hn : NextS W n0 ρ0 N R ρ σ a k fun v w' => next (a.put o.dst v) w') : o.wp P a w next Q := by
  unfold opAny at h
  split at h
  · rename_i c hop
    split at h
    · rename_i x hcal
      obtain ⟨q, hq, hs⟩ := kO_sat h
      obtain ⟨f, cs⟩ := q
      unfold calleeOf at hq
      split at hq
      · rename_i f' cs' hx
        cases hq
        have hd : a.eval x = .func (.func f) #[] (cs.map (ptrV ρ)).toArray := by rw [ev_den hI x, hx]; rfl
        have hargs : c.args.map a.eval ++ (cs.map (ptrV ρ)).toArray = ((evs σ c.args.toList ++ cs.map ptrC).map (V.den ρ)).toArray := by
          apply Array.ext'
          rw [Array.toList_append, Array.toList_map, evs_den hI, List.map_append, ptrC_den]
        have hrun : (execOp a.eval o).run P w = (callFunc f ((evs σ c.args.toList ++ cs.map ptrC).map (V.den ρ)).toArray).run P w := by
          unfold execOp
          rw [hop]
          simp only [Sem.run_bind, resolve, hcal, hd, Deferred.ofValue, Sem.run_pure, Result.andThen_ok, invoke, Array.empty_append]
          rw [hargs]
        rcases callX_sound hS hih hI hs hn with ⟨⟨fn, hfn, hbody⟩, hcalls⟩ | ⟨v, hv, hnx⟩
        · refine wp_enter (f := f) (args := ((evs σ c.args.toList ++ cs.map ptrC).map (V.den ρ)).toArray) ?_ hcalls
          rw [hrun]
          exact run_callFunc hN hfn hbody _ _
        · simp only [Oper.wp, hrun, hv, Oper.upon_value]
          exact hnx
      · cases hq
    · rename_i b hcal
      obtain ⟨ks, hre⟩ : ∃ ks, (execOp a.eval o).run P w = (builtin b c.argTypes o.type ks (c.args.map a.eval)).run P w := by
        unfold execOp
        rw [hop]
        simp only [Sem.run_bind, resolve, hcal, Sem.run_pure, Result.andThen_ok, invoke]
        exact ⟨_, rfl⟩
      have hargs : c.args.map a.eval = ((evs σ c.args.toList).map (V.den ρ)).toArray := by
        apply Array.ext'
        rw [Array.toList_map, evs_den hI]
      have fin : ∀ v : V, (execOp a.eval o).run P w = .ok (.value (v.den ρ)) w → (∀ n, v.wf n = true) → (k v σ).sat R → o.wp P a w next Q := by
        intro v hr hw hs
        simp only [Oper.wp, hr, Oper.upon_value]
        exact hn v σ ρ w hI (Ext.refl _ _) (Nat.le_refl _) (hw _) hs
      split at h
      · split at h
        · rename_i hwfa
          obtain ⟨v, σ', ρ', w', g1, g2, g3, g4, g5, g6⟩ := bltM_sound hI hwfa h o.type ks
          have hr : (execOp a.eval o).run P w = .ok (.value (v.den ρ')) w' := by rw [hre, hargs]; exact g6
          simp only [Oper.wp, hr, Oper.upon_value]
          exact hn v σ' ρ' w' g1 g2 g3 g4 g5
        · exact h.elim
      split at h
      · rename_i hlen
        have hb : b = .len := by cases b <;> simp [isLen] at hlen <;> rfl
        subst hb
        split at h
        · rename_i t ht
          split at h
          · rename_i e hu
            obtain ⟨v, hv, hs⟩ := kO_sat h
            generalize hes : evs σ c.args.toList = es at hv hargs
            unfold builtinC at hv
            split at hv
            · rename_i hh; cases hh
            · rename_i hh; cases hh
            · rename_i id off n cap
              cases hv
              refine fin _ ?_ (fun n => rfl) hs
              rw [hre, hargs]
              have hts : c.argTypes = #[t] := by apply Array.ext'; simpa using ht
              simp [builtin, Builtin.len_, hts, run_underlying hu, V.den, U.den, C.den, goInt]
            · rename_i n cap
              cases hv
              refine fin _ ?_ (fun n => rfl) hs
              rw [hre, hargs]
              have hts : c.argTypes = #[t] := by apply Array.ext'; simpa using ht
              simp [builtin, Builtin.len_, hts, run_underlying hu, V.den, U.den, C.den, goInt]
            · cases hv
          · rename_i kt et hu
            obtain ⟨v, hv, hs⟩ := kO_sat h
            generalize hes : evs σ c.args.toList = es at hv hargs
            unfold lenM at hv
            split at hv
            · rename_i id
              split at hv
              · rename_i b hb
                cases hv
                obtain ⟨_, _, hbh⟩ := hI.H.mblk id b hb
                refine fin _ ?_ (fun n => rfl) hs
                rw [hre, hargs]
                have hts : c.argTypes = #[t] := by apply Array.ext'; simpa using ht
                have hsz : (mden ρ b.1).size = b.1.length := by simp [mden]
                simp [builtin, Builtin.len_, hts, run_underlying hu, V.den, U.den, C.den, goInt, MapKept.run_getObj_map hbh, hsz]
              · cases hv
            · cases hv
          · exact h.elim
        · exact h.elim
      · rename_i hlen
        split at h
        · rename_i hdel
          have hb : b = .delete := by cases b <;> simp [isDel] at hdel <;> rfl
          subst hb
          split at h
          · rename_i t r m x hts hxs
            obtain ⟨σ', hσ, hs⟩ := kO_sat h
            have hargs' : c.args.map a.eval = #[a.eval m, a.eval x] := by
              apply Array.ext'
              rw [Array.toList_map, hxs]
              rfl
            have hts' : c.argTypes[0]? = some t := by rw [← Array.getElem?_toList, hts]; rfl
            obtain ⟨w', e1, e2, e3⟩ := run_delS (ts := c.argTypes) (ty := o.type) hI hts' hσ
            have hr : (execOp a.eval o).run P w = .ok (.value (.tuple #[])) w' := by
              rw [hre, hargs']
              exact run_v (s := Builtin.delete_ c.argTypes o.type #[a.eval m, a.eval x]) e1
            simp only [Oper.wp, hr, Oper.upon_value]
            exact hn (.tup []) σ' ρ w' e2 (Ext.refl _ _) (Nat.le_of_eq e3.symm) rfl hs
          · exact h.elim
        obtain ⟨v, hv, hs⟩ := kO_sat h
        have hl : b ≠ .len := by intro e; subst e; cases hlen
        obtain ⟨e1, e2⟩ := builtinC_sound (P := P) hv hl c.argTypes o.type ks ρ w
        exact fin v (by rw [hre, hargs]; exact e1) e2 hs
    · rename_i r name hcal
      split at h
      · rename_i t id off hr
        obtain ⟨f, hf, hs⟩ := kO_sat h
        have hd : a.eval r = .iface t (.pointer (some ⟨ρ id, off, none⟩)) := by rw [ev_den hI r, hr]; rfl
        have hargs : #[Value.pointer (some ⟨ρ id, off, none⟩)] ++ c.args.map a.eval = ((V.u (.c (.ptr id off)) :: evs σ c.args.toList).map (V.den ρ)).toArray := by
          apply Array.ext'
          rw [Array.toList_append, Array.toList_map, evs_den hI]
          rfl
        have hrun : (execOp a.eval o).run P w = (callFunc f ((V.u (.c (.ptr id off)) :: evs σ c.args.toList).map (V.den ρ)).toArray).run P w := by
          unfold execOp
          rw [hop]
          simp only [Sem.run_bind, resolve, hcal, hd, Sem.run_pure, Result.andThen_ok, invoke]
          have e0 : (#[Value.iface t (.pointer (some ⟨ρ id, off, none⟩))] ++ c.args.map a.eval)[0]? = some (Value.iface t (.pointer (some ⟨ρ id, off, none⟩))) := by rw [Array.getElem?_append_left (by simp)]; rfl
          have e1 : (#[Value.iface t (.pointer (some ⟨ρ id, off, none⟩))] ++ c.args.map a.eval).extract 1 (#[Value.iface t (.pointer (some ⟨ρ id, off, none⟩))] ++ c.args.map a.eval).size = c.args.map a.eval := by
            generalize c.args.map a.eval = xs
            apply Array.ext'
            simp [List.extract_eq_take_drop]
          simp only [e0, e1]
          rw [run_callMethod hf, hargs]
        rcases callX_sound hS hih hI hs hn with ⟨⟨fn, hfn, hbody⟩, hcalls⟩ | ⟨v, hv, hnx⟩
        · refine wp_enter (f := f) (args := ((V.u (.c (.ptr id off)) :: evs σ c.args.toList).map (V.den ρ)).toArray) ?_ hcalls
          rw [hrun]
          exact run_callFunc hN hfn hbody _ _
        · simp only [Oper.wp, hrun, hv, Oper.upon_value]
          exact hnx
      · exact h.elim
  · rename_i hop
    obtain ⟨v, σ', ρ', w', h1, h2, h3, h4, h5, h6⟩ := opX_sound hI h
    rcases h6 with h6 | ⟨h6, rfl⟩
    · simp only [Oper.wp, h6, Oper.upon_value]
      exact hn v σ' ρ' w' h1 h2 h3 h4 h5
    · simp only [Oper.wp, h6, Oper.upon_skip]
      exact hn (.tup []) σ' ρ' w' h1 h2 h3 h4 h5

end
end Go.Proofs.Ytnlohongffpkpaa.Sx
