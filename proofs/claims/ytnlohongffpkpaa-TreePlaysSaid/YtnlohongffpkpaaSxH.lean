/- The symbolic executor tells what the machine does: whole code. A text of the session's own. -/
import Derived.Test.YtnlohongffpkpaaSxG
namespace Go.Proofs.Ytnlohongffpkpaa.Sx
open Go Go.RowKit

section
variable {P : Program} {S : List Sum} {W : World} {n0 : NL} {ρ0 : Nat → Nat} {N : Nat} {ρ : Nat → Nat} {σ : St} {a : Act} {w : World} {R : Leaf → Prop}

theorem okDst_lt {d : Option Tmp} (h : okDst N d = true) : ∀ d', d = some d' → d' < N := by
  intro d' e; subst e; simpa [okDst] using h

theorem yielded_of {ops : Array Oper} {j t : Nat} {b : Bool} (hI : Inv W n0 ρ0 N ρ σ a w) (hg : guardTmp ops j = some t) (ht : t < N) (hb : (look σ.tm t).den ρ = .bool b) : yielded ops a.tmps j = some b := by
  have h1 : (ops[j]?).bind (·.dst) = some t := by
    unfold guardTmp at hg
    split at hg
    · rename_i o ho; rw [ho]; exact hg
    · cases hg
  have h2 : a.tmps[t]? = some (.bool b) := by
    have e := hI.tm t
    rw [hb] at e
    have hlt : t < a.tmps.size := by rw [hI.sz]; exact ht
    rw [Array.getElem?_eq_getElem hlt]
    rw [Array.getD_eq_getD_getElem?, Array.getElem?_eq_getElem hlt] at e
    simpa using e
  simp [yielded, h1, h2]

theorem yielded_undef {ops : Array Oper} {j t : Nat} (hI : Inv W n0 ρ0 N ρ σ a w) (hg : guardTmp ops j = some t) (ht : t < N) (hb : (look σ.tm t).den ρ = .tuple #[]) : yielded ops a.tmps j = none := by
  have h1 : (ops[j]?).bind (·.dst) = some t := by
    unfold guardTmp at hg
    split at hg
    · rename_i o ho; rw [ho]; exact hg
    · cases hg
  have h2 : a.tmps[t]? = some (.tuple #[]) := by
    have e := hI.tm t
    rw [hb] at e
    have hlt : t < a.tmps.size := by rw [hI.sz]; exact ht
    rw [Array.getElem?_eq_getElem hlt]
    rw [Array.getD_eq_getD_getElem?, Array.getElem?_eq_getElem hlt] at e
    simpa using e
  simp [yielded, h1, h2]

def wpSeq (P : Program) (ops : Array Oper) (Q : Exit → Act → World → Prop) (Kc : Act → World → Prop) : List Oper → Act → World → Prop
  | [], a, w => Kc a w
  | o :: rest, a, w => if Region.wanted o (yielded ops a.tmps) then o.wp P a w (wpSeq P ops Q Kc rest) Q ∨ (o.asks P a w ∧ LetsOut Q) else wpSeq P ops Q Kc rest (a.put o.dst undef) w

theorem wpSeq_list {P : Program} {ops : Array Oper} {Q : Exit → Act → World → Prop} : ∀ (l : List Oper), wpSeq P ops Q (Q .normal) l = wpList P ops Q l
  | [] => rfl
  | o :: l => by
    funext a w
    simp only [wpSeq, wpList, wpSeq_list l]

theorem opsx_seq (hN : NameOK P) (hS : ∀ q ∈ S, SumOK P q) {ih : Nat → Code → St → K → Tr} (hih : Snd P ih) (ops : Array Oper) {k : St → Tr} {Q : Exit → Act → World → Prop} {Kc : Act → World → Prop} :
    ∀ (l : List Oper) (σ : St) (ρ : Nat → Nat) (a : Act) (w : World), Inv W n0 ρ0 N ρ σ a w → (opsx P S ih N ops l σ k).sat R →
      (∀ σ' ρ' a' w', Inv W n0 ρ0 N ρ' σ' a' w' → Ext σ.n ρ ρ' → σ.n ≤ σ'.n → (k σ').sat R → Kc a' w') → wpSeq P ops Q Kc l a w := by
  intro l
  induction l with
  | nil => intro σ ρ a w hI h hk; exact hk σ ρ a w hI (Ext.refl _ _) (Nat.le_refl _) h
  | cons o rest ihl =>
    intro σ ρ a w hI h hk
    simp only [opsx] at h
    split at h
    · exact h.elim
    · rename_i hd
      have hd' := okDst_lt hd
      have run : ∀ σ1 : St, Inv W n0 ρ0 N ρ σ1 a w → σ1.n = σ.n → Region.wanted o (yielded ops a.tmps) = true →
          (opAny P S ih o σ1 fun v σ' => opsx P S ih N ops rest (σ'.put o.dst v) k).sat R → wpSeq P ops Q Kc (o :: rest) a w := by
        intro σ1 hI1 hn hw hs
        unfold wpSeq
        rw [if_pos hw]
        refine .inl (opAny_sound hN hS hih hI1 hs ?_)
        intro v σ' ρ' w' hI' hE hle hv hs'
        have hp := hI'.put o.dst v hd' hv
        rw [hn] at hE hle
        have hn' : (σ'.put o.dst v).n = σ'.n := by unfold St.put; split <;> rfl
        exact ihl _ ρ' _ w' hp hs' fun σ2 ρ2 a2 w2 hI2 hE2 hle2 hk2 => hk σ2 ρ2 a2 w2 hI2 (hE.trans (by rw [hn']; exact hle) hE2) (by omega) hk2
      have skip : ∀ σ1 : St, Inv W n0 ρ0 N ρ σ1 a w → σ1.n = σ.n → Region.wanted o (yielded ops a.tmps) = false →
          (opsx P S ih N ops rest (σ1.put o.dst (.tup [])) k).sat R → wpSeq P ops Q Kc (o :: rest) a w := by
        intro σ1 hI1 hn hw hs
        unfold wpSeq
        rw [if_neg (by simp [hw])]
        have hp := hI1.put o.dst (.tup []) hd' rfl
        have hn' : (σ1.put o.dst (.tup [])).n = σ1.n := by unfold St.put; split <;> rfl
        exact ihl _ ρ _ w hp hs fun σ2 ρ2 a2 w2 hI2 hE2 hle2 hk2 => hk σ2 ρ2 a2 w2 hI2 (by rw [hn', hn] at hE2; exact hE2) (by omega) hk2
      split at h
      · rename_i hg
        exact run σ hI rfl (by simp [Region.wanted, hg]) h
      · rename_i j want hg
        split at h
        · exact h.elim
        · rename_i t hgt
          split at h
          · exact h.elim
          · rename_i ht
            have ht' : t < N := by simpa using ht
            split at h
            · rename_i b hb
              have hy := yielded_of hI hgt ht' (b := b) (by rw [hb]; rfl)
              split at h
              · rename_i hbw
                exact run σ hI rfl (by simp only [Region.wanted, hg, hy]; simpa using hbw) h
              · rename_i hbw
                exact skip σ hI rfl (by simp only [Region.wanted, hg, hy]; simpa using hbw) h
            · rename_i b hb
              have hy := yielded_of hI hgt ht' (b := b) (by rw [hb]; rfl)
              have fin : ∀ c : Bool, b = c → (match c == want with
                  | true => opAny P S ih o (retell σ (.tmp t) c) fun v σ' => opsx P S ih N ops rest (σ'.put o.dst v) k
                  | false => opsx P S ih N ops rest ((retell σ (.tmp t) c).put o.dst (.tup [])) k).sat R → wpSeq P ops Q Kc (o :: rest) a w := by
                intro c hc hs
                subst hc
                have hI1 : Inv W n0 ρ0 N ρ (retell σ (.tmp t) b) a w := hI.retell t _ rfl (by rw [hb]; rfl)
                split at hs
                · rename_i hbw
                  exact run _ hI1 rfl (by simp only [Region.wanted, hg, hy]; simpa using hbw) hs
                · rename_i hbw
                  exact skip _ hI1 rfl (by simp only [Region.wanted, hg, hy]; simpa using hbw) hs
              obtain ⟨h1, h2⟩ := h
              cases hbb : b with
              | true => exact fin true hbb (h1 hbb)
              | false => exact fin false hbb (h2 hbb)
            · rename_i hb
              have hy := yielded_undef hI hgt ht' (by rw [hb]; rfl)
              exact skip σ hI rfl (by simp [Region.wanted, hg, hy]) h
            · exact h.elim

theorem opsx_sound (hN : NameOK P) (hS : ∀ q ∈ S, SumOK P q) {ih : Nat → Code → St → K → Tr} (hih : Snd P ih) (ops : Array Oper) {k : St → Tr} {Q : Exit → Act → World → Prop} :
    ∀ (l : List Oper) (σ : St) (ρ : Nat → Nat) (a : Act) (w : World), Inv W n0 ρ0 N ρ σ a w → (opsx P S ih N ops l σ k).sat R →
      (∀ σ' ρ' a' w', Inv W n0 ρ0 N ρ' σ' a' w' → Ext σ.n ρ ρ' → σ.n ≤ σ'.n → (k σ').sat R → Q .normal a' w') → wpList P ops Q l a w := by
  intro l σ ρ a w hI h hk
  rw [← wpSeq_list]
  exact opsx_seq hN hS hih ops l σ ρ a w hI h hk

theorem loopx_sound {ih : Nat → Code → St → K → Tr} (hih : Snd P ih) (x : Code) {k : K} {Q : Exit → Act → World → Prop} : ∀ (m : Nat) (σ : St) (ρ : Nat → Nat) (a : Act) (w : World),
    Inv W n0 ρ0 N ρ σ a w → (loopx ih N x k m σ).sat R →
    (∀ e σ' ρ' a' w', Inv W n0 ρ0 N ρ' σ' a' w' → Ext σ.n ρ ρ' → σ.n ≤ σ'.n → (k e σ').sat R → Q e.to a' w') → Code.rounds P x Q m a w := by
  intro m
  induction m with
  | zero => intro σ ρ a w _ h _; exact h.elim
  | succ m ihm =>
    intro σ ρ a w hI h hk
    rw [rounds_succ]
    simp only [loopx] at h
    refine hih W n0 ρ0 N R x σ _ ρ a w _ hI h ?_
    intro e σ' ρ' a' w' h1 h2 h3 h4
    cases e with
    | normal => exact ihm σ' ρ' a' w' h1 h4 fun e2 σ2 ρ2 a2 w2 g1 g2 g3 g4 => hk e2 σ2 ρ2 a2 w2 g1 (h2.trans h3 g2) (by omega) g4
    | exit id => exact hk (.exit id) σ' ρ' a' w' h1 h2 h3 h4
    | ret => exact hk .ret σ' ρ' a' w' h1 h2 h3 h4

theorem samePtrs_eq : ∀ {l r : List (Nat × Nat)}, samePtrs l r = true → l = r
  | [], [], _ => rfl
  | (a, b) :: l, (c, d) :: r, h => by
    simp only [samePtrs, Bool.and_eq_true] at h
    obtain ⟨⟨h1, h2⟩, h3⟩ := h
    rw [Nat.eq_of_beq_eq_true h1, Nat.eq_of_beq_eq_true h2, samePtrs_eq h3]
theorem eqP_eq {c c' : C} (h : eqP c c' = true) : c = c' := by
  unfold eqP at h
  split at h
  all_goals first
    | rfl
    | (cases h; done)
    | rw [Nat.eq_of_beq_eq_true h]
    | (simp only [Bool.and_eq_true] at h
       first
         | (obtain ⟨⟨⟨h1, h2⟩, h3⟩, h4⟩ := h; rw [Nat.eq_of_beq_eq_true h1, Nat.eq_of_beq_eq_true h2, Nat.eq_of_beq_eq_true h3, Nat.eq_of_beq_eq_true h4])
         | (obtain ⟨⟨h1, h2⟩, h3⟩ := h; rw [Nat.eq_of_beq_eq_true h1, Nat.eq_of_beq_eq_true h2, Nat.eq_of_beq_eq_true h3])
         | (obtain ⟨h1, h2⟩ := h; rw [Nat.eq_of_beq_eq_true h1, samePtrs_eq h2])
         | (obtain ⟨h1, h2⟩ := h; rw [Nat.eq_of_beq_eq_true h1, Nat.eq_of_beq_eq_true h2]))
theorem pl_pl (v : Value) : pl (pl v) = pl v := by cases v <;> rfl
theorem cls_raw {v : Value} : clsC (.raw v) = .f ∨ clsC (.raw v) = .v v ∧ pl v = v := by
  unfold clsC
  split
  all_goals first
    | (rename_i e; cases e; done)
    | (rename_i e; cases e; exact .inr ⟨rfl, rfl⟩)
    | exact .inl rfl
theorem cls_v {c : C} {x : Value} (h : clsC c = .v x) (ρ : Nat → Nat) : c.den ρ = x ∧ pl x = x := by
  cases c with
  | raw v =>
    rcases cls_raw (v := v) with e | ⟨e, e2⟩
    · rw [e] at h; cases h
    · rw [e] at h; cases h; exact ⟨rfl, e2⟩
  | np p off => simp only [clsC] at h; split at h <;> cases h
  | sv v => cases h; exact ⟨rfl, pl_pl _⟩
  | _ => cases h
def nval : Option IntKind → Int → Value
  | some k, x => .int k x
  | none, x => pv x 0
theorem cls_n {c : C} {k : Option IntKind} {x : Int} (h : clsC c = .n k x) (ρ : Nat → Nat) : c.den ρ = nval k x := by
  cases c with
  | raw v =>
    rcases cls_raw (v := v) with e | ⟨e, e2⟩
    · rw [e] at h; cases h
    · rw [e] at h; cases h
  | np p off =>
    simp only [clsC] at h
    split at h
    · rename_i e; cases h; rw [Nat.eq_of_beq_eq_true e]; rfl
    · cases h
  | li k n => cases h; rfl
  | si k n => cases h; rfl
  | nilp => cases h; rfl
  | _ => cases h
theorem cls_t {c : C} {b : Bool} (h : clsC c = .t b) (ρ : Nat → Nat) : c.den ρ = .bool b := by
  cases c with
  | raw v =>
    rcases cls_raw (v := v) with e | ⟨e, e2⟩
    · rw [e] at h; cases h
    · rw [e] at h; cases h
  | np p off => simp only [clsC] at h; split at h <;> cases h
  | lb k => cases h; rfl
  | sb k => cases h; rfl
  | _ => cases h
theorem fitC_den {c c' : C} {a : Vars} (h : fitC c c' = some a) (r : Vars) (ρ : Nat → Nat) :
    (iC c (vcat a r)).den ρ = c'.den ρ ∧ rC c (vcat a r) = r ∧ ∀ n, c'.wf n = true → (iC c (vcat a r)).wf n = true := by
  unfold fitC at h
  split at h
  · rename_i k0 x0 k x hc hc'
    split at h
    · rename_i hk
      have hk := of_decide_eq_true hk
      subst hk
      cases h
      rw [cls_n hc' ρ]
      simp only [iC, rC, hc]
      cases k0 <;> exact ⟨rfl, rfl, fun _ _ => rfl⟩
    · cases h
  · rename_i b0 b hc hc'
    cases h
    rw [cls_t hc' ρ]
    simp only [iC, rC, hc]
    exact ⟨rfl, rfl, fun _ _ => rfl⟩
  · rename_i x0 x hc hc'
    cases h
    obtain ⟨e1, e2⟩ := cls_v hc' ρ
    rw [e1]
    simp only [iC, rC, hc]
    exact ⟨e2, rfl, fun _ _ => rfl⟩
  · rename_i hc hc'
    split at h
    · rename_i he
      have he := eqP_eq he
      cases h
      subst he
      have e1 : ∀ y, iC c y = c := fun y => by simp only [iC, hc]
      have e2 : ∀ y, rC c y = y := fun y => by simp only [rC, hc]
      rw [e1, e2]
      exact ⟨rfl, rfl, fun _ hw => hw⟩
    · cases h
  · cases h
theorem vcat_assoc (p q r : Vars) : vcat (vcat p q) r = vcat p (vcat q r) := by simp [vcat]
theorem vcat_nil (p : Vars) (m : Mem) : vcat p ⟨[], [], [], m⟩ = ⟨p.i, p.b, p.v, m⟩ := by simp [vcat]
theorem fitL_den (ρ : Nat → Nat) : ∀ {l l' : List C} {a : Vars}, fitL l l' = some a → ∀ (r : Vars),
    (iL l (vcat a r)).map (C.den ρ) = l'.map (C.den ρ) ∧ dL l (vcat a r) = r ∧ ∀ n, l'.all (C.wf n) = true → (iL l (vcat a r)).all (C.wf n) = true
  | [], [], a, h, r => by
    cases h
    exact ⟨rfl, rfl, fun _ _ => rfl⟩
  | c :: l, c' :: l', a, h, r => by
    simp only [fitL] at h
    split at h
    · rename_i p q hp hq
      cases h
      obtain ⟨h1, h2, h4⟩ := fitC_den hp (vcat q r) ρ
      obtain ⟨g1, g2, g4⟩ := fitL_den ρ hq r
      simp only [iL, dL, vcat_assoc, h2]
      refine ⟨by simp [h1, g1], g2, fun n hw => ?_⟩
      simp only [List.all_cons, Bool.and_eq_true] at hw ⊢
      exact ⟨h4 n hw.1, g4 n hw.2⟩
    · cases h
theorem fitS_den (ρ : Nat → Nat) : ∀ {l l' : List (List C)} {a : Vars}, fitS l l' = some a → ∀ (r : Vars),
    (iS l (vcat a r)).map (List.map (C.den ρ)) = l'.map (List.map (C.den ρ)) ∧ ∀ n, wfS n l' = true → wfS n (iS l (vcat a r)) = true
  | [], [], a, h, r => by
    cases h
    exact ⟨rfl, fun _ _ => rfl⟩
  | c :: l, c' :: l', a, h, r => by
    simp only [fitS] at h
    split at h
    · rename_i p q hp hq
      cases h
      obtain ⟨h1, h2, h4⟩ := fitL_den ρ hp (vcat q r)
      obtain ⟨g1, g4⟩ := fitS_den ρ hq r
      simp only [iS, vcat_assoc, h2]
      refine ⟨by simp [h1, g1], fun n hw => ?_⟩
      simp only [wfS, List.all_cons, Bool.and_eq_true] at hw ⊢
      exact ⟨h4 n hw.1, g4 n hw.2⟩
    · cases h

theorem look_append {l r : List (Nat × V)} {t : Nat} (h : ∀ q ∈ l, q.1 ≠ t) : look (l ++ r) t = look r t := by
  induction l with
  | nil => rfl
  | cons p l ih =>
    obtain ⟨i, v⟩ := p
    simp only [List.cons_append, look]
    rw [Nat.beq_eq_false_iff.2 (h (i, v) (by simp))]
    exact ih fun q hq => h q (by simp [hq])
theorem look_junk (j : Nat → Value) (t : Nat) : ∀ (l : List Nat), look (l.map fun t => (t, V.u (.c (.raw (j t))))) t = if t ∈ l then V.u (.c (.raw (j t))) else .tup []
  | [] => rfl
  | i :: l => by
    simp only [List.map_cons, look]
    by_cases e : i = t
    · subst e; simp
    · rw [Nat.beq_eq_false_iff.2 e]
      simp only [look_junk j t l, List.mem_cons, Ne.symm e, false_or]
theorem unitOf_den {σ' : St} {t : Tmp} {ag : Bool} {c c' : List C} (ρ : Nat → Nat) (hv : slotC σ' (.t t ag) = some c') (h : c.map (C.den ρ) = c'.map (C.den ρ)) : (unitOf ag c).den ρ = (look σ'.tm t).den ρ := by
  simp only [slotC] at hv
  split at hv
  · rename_i x hx
    cases hv
    rw [hx]
    cases c with
    | nil => cases h
    | cons y c =>
      cases c with
      | nil => simpa [unitOf, V.den, U.den] using h
      | cons z c => simp at h
  · rename_i xs hx
    cases hv
    rw [hx]
    have : unitOf true c = .u (.agg c) := by cases c with | nil => rfl | cons y c => cases c <;> rfl
    rw [this]
    simp only [V.den, U.den, dens, h]
  · cases hv
theorem unitOf_wf {n : Nat} {ag : Bool} {c : List C} (h : c.all (C.wf n) = true) : (unitOf ag c).wf n = true := by
  unfold unitOf
  split
  · simpa [V.wf, U.wf] using h
  · simpa [V.wf, U.wf] using h
theorem canT_look {σ' : St} (ρ : Nat → Nat) {r : List (Nat × V)} {t : Nat} (hr : (look r t).den ρ = (look σ'.tm t).den ρ) : ∀ {sl : List Slot} {cs cs' : List (List C)}, slotsC σ' sl = some cs' → cs.map (List.map (C.den ρ)) = cs'.map (List.map (C.den ρ)) →
    (look (canT sl cs ++ r) t).den ρ = (look σ'.tm t).den ρ
  | [], cs, cs', _, _ => by cases cs <;> exact hr
  | s :: sl, cs, cs', h, hm => by
    simp only [slotsC] at h
    split at h
    · rename_i c' l' hc hl
      cases h
      match cs, hm with
      | c :: cs, hm =>
        simp only [List.map_cons, List.cons.injEq] at hm
        cases s with
        | t t0 ag =>
          simp only [canT, List.cons_append, look]
          by_cases e : t0 = t
          · subst e
            simp only [Nat.beq_refl]
            exact unitOf_den ρ hc hm.1
          · rw [Nat.beq_eq_false_iff.2 e]
            exact canT_look ρ hr hl hm.2
        | b id ty => exact canT_look (sl := sl) ρ hr hl hm.2
    · cases h
theorem canT_wf {n : Nat} : ∀ {sl : List Slot} {cs : List (List C)}, wfS n cs = true → ∀ q ∈ canT sl cs, q.2.wf n = true
  | [], cs, _, q, hq => by cases cs <;> cases hq
  | s :: sl, [], _, q, hq => by cases s <;> cases hq
  | s :: sl, c :: cs, h, q, hq => by
    simp only [wfS, List.all_cons, Bool.and_eq_true] at h
    cases s with
    | t t0 ag =>
      simp only [canT, List.mem_cons] at hq
      rcases hq with rfl | hq
      · exact unitOf_wf h.1
      · exact canT_wf h.2 q hq
    | b id ty => exact canT_wf (sl := sl) h.2 q hq
theorem canH_m (kb : List (Nat × Blk)) (lim : Nat) (x : Mem) (wr : Bool) (mt : List Nat) : ∀ (sl : List Slot) (cs : List (List C)), (canH kb lim x wr mt sl cs).m = [] ∧ (canH kb lim x wr mt sl cs).lim = lim ∧ (canH kb lim x wr mt sl cs).x = x ∧ (canH kb lim x wr mt sl cs).wr = wr
  | [], cs => by cases cs <;> exact ⟨rfl, rfl, rfl, rfl⟩
  | s :: sl, [] => by cases s <;> exact ⟨rfl, rfl, rfl, rfl⟩
  | s :: sl, c :: cs => by cases s <;> exact canH_m kb lim x wr mt sl cs
theorem keptB_look {σ' : St} {i : Nat} {b : Blk} : ∀ {kb : List (Nat × Blk)}, isB' σ' kb → lookL kb i = some b → lookH σ'.hp i = some b ∧ (i, b) ∈ kb
  | [], _, h => by cases h
  | (j, c) :: r, hk, h => by
    simp only [lookL] at h
    split at h
    · rename_i e
      have e := Nat.eq_of_beq_eq_true e
      subst e
      cases h
      exact ⟨hk.1, by simp⟩
    · obtain ⟨g1, g2⟩ := keptB_look hk.2 h
      exact ⟨g1, by simp [g2]⟩
theorem kept_look {σ' : St} (ρ : Nat → Nat) {j : List (Nat × V)} {t : Nat} (hr : (look j t).den ρ = (look σ'.tm t).den ρ) : ∀ {kt : List (Nat × V)}, isT σ' kt → (look (kt ++ j) t).den ρ = (look σ'.tm t).den ρ
  | [], _ => hr
  | (i, v) :: r, h => by
    simp only [List.cons_append, look]
    by_cases e : i = t
    · subst e
      simp only [Nat.beq_refl]
      rw [show look σ'.tm i = v from h.1]
    · rw [Nat.beq_eq_false_iff.2 e]
      exact kept_look ρ hr h.2
theorem canH_look {σ' : St} (ρ : Nat → Nat) {kb : List (Nat × Blk)} {lim n : Nat} {x : Mem} {wr : Bool} {mt : List Nat} {i : Nat} {b : Blk} (hkb : isB' σ' kb) (hkw : ∀ q ∈ kb, q.1 < n ∧ q.2.1.all (C.wf n) = true) : ∀ {sl : List Slot} {cs cs' : List (List C)}, slotsC σ' sl = some cs' → cs.map (List.map (C.den ρ)) = cs'.map (List.map (C.den ρ)) → wfS n cs = true → (∀ id ty, Slot.b id ty ∈ sl → id < n) →
    lookH (canH kb lim x wr mt sl cs) i = some b → ∃ b', lookH σ'.hp i = some b' ∧ b'.2 = b.2 ∧ b.1.map (C.den ρ) = b'.1.map (C.den ρ) ∧ b.1.all (C.wf n) = true ∧ i < n
  | [], cs, cs', _, _, _, _, hb => by
    replace hb : lookL kb i = some b := by cases cs <;> exact hb
    obtain ⟨g1, g2⟩ := keptB_look hkb hb
    obtain ⟨g3, g4⟩ := hkw _ g2
    exact ⟨b, g1, rfl, rfl, g4, g3⟩
  | s :: sl, cs, cs', h, hm, hw, hlt, hb => by
    simp only [slotsC] at h
    split at h
    · rename_i c' l' hc hl
      cases h
      match cs, hm with
      | c :: cs, hm =>
        simp only [List.map_cons, List.cons.injEq] at hm
        simp only [wfS, List.all_cons, Bool.and_eq_true] at hw
        cases s with
        | t t0 ag => exact canH_look ρ hkb hkw hl hm.2 hw.2 (fun id ty hs => hlt id ty (by simp [hs])) hb
        | b id ty =>
          simp only [canH, lookH_hcons] at hb
          split at hb
          · rename_i e
            have e := Nat.eq_of_beq_eq_true e
            subst e
            cases hb
            simp only [slotC] at hc
            split at hc
            · rename_i b' hb'
              split at hc
              · rename_i hty
                cases hc
                exact ⟨b', hb', Nat.eq_of_beq_eq_true hty, hm.1, hw.1, hlt id ty (by simp)⟩
              · cases hc
            · cases hc
          · exact canH_look ρ hkb hkw hl hm.2 hw.2 (fun id ty hs => hlt id ty (by simp [hs])) hb
    · cases h
/-- What is kept is told at n. -/
structure KeptOK (n : Nat) (kt : Kept) : Prop where
  t : ∀ q ∈ kt.t, q.2.wf n = true
  b : ∀ q ∈ kt.b, q.1 < n ∧ q.2.1.all (C.wf n) = true
theorem canon_inv {σ' : St} {a' : Act} {w' : World} {n : Nat} {kt : Kept} {sl : List Slot} {cs cs' : List (List C)} (hI : Inv W n0 ρ0 N ρ σ' a' w') (hn : n ≤ σ'.n) (h0 : n0.n ≤ n) (hkt : isT σ' kt.t) (hkb : isB' σ' kt.b) (hk : KeptOK n kt) (hs : slotsC σ' sl = some cs') (hm : cs.map (List.map (C.den ρ)) = cs'.map (List.map (C.den ρ)))
    (hw : wfS n cs = true) (hlt : ∀ id ty, Slot.b id ty ∈ sl → id < n) {lim : Nat} {mt : List Nat} (hlim : lim = n0.l) : Inv W n0 ρ0 N ρ (canon N n lim σ'.hp.x σ'.hp.wr mt kt sl cs (fun t => a'.tmps.getD t undef)) a' w' := by
  refine ⟨hI.defers, hI.sz, fun t => ?_, fun q hq => ?_, ?_⟩
  · rw [hI.tm t]
    refine (canT_look ρ (kept_look ρ ?_ hkt) hs hm).symm
    rw [junk, look_junk, ← hI.tm t]
    split
    · rfl
    · rename_i hlt'
      have : a'.tmps.size ≤ t := by rw [hI.sz]; simpa using hlt'
      rw [Array.getD_eq_getD_getElem?, Array.getElem?_eq_none this]
      rfl
  · simp only [canon, junk, List.mem_append, List.mem_map] at hq
    rcases hq with hq | hq | ⟨t, _, rfl⟩
    · exact canT_wf hw q hq
    · exact hk.t q hq
    · rfl
  · obtain ⟨c1, c2, c3, c4⟩ := canH_m kt.b lim σ'.hp.x σ'.hp.wr mt sl cs
    refine ⟨fun i hi => hI.H.lt i (Nat.lt_of_lt_of_le hi hn), fun i j hi hj => hI.H.inj i j (Nat.lt_of_lt_of_le hi hn) (Nat.lt_of_lt_of_le hj hn), fun i b hb => ?_, h0, hI.H.old, fun i h1 h2 => hI.H.new i h1 (Nat.lt_of_lt_of_le h2 hn), hI.H.os, hI.H.tape, hI.H.output, hI.H.size, hI.H.far, fun i m hm' => ?_, c2.trans hlim, ?_⟩
    · obtain ⟨b', g1, g2, g3, g4, g5⟩ := canH_look ρ hkb hk.b hs hm hw hlt hb
      obtain ⟨_, _, g6⟩ := hI.H.blk i b' g1
      exact ⟨g5, g4, by rw [g6, g2, dens, dens, g3]⟩
    · replace hm' : lookL (canH kt.b lim σ'.hp.x σ'.hp.wr mt sl cs).m i = some m := hm'
      rw [c1] at hm'
      cases hm'
    · show MR W n0.x (canH kt.b lim σ'.hp.x σ'.hp.wr mt sl cs).wr (canH kt.b lim σ'.hp.x σ'.hp.wr mt sl cs).x ρ n w'
      rw [c3, c4]
      exact ⟨hI.H.mem.sub, fun a o e i hi => hI.H.mem.sep a o e i (Nat.lt_of_lt_of_le hi hn), hI.H.mem.dom⟩
theorem keptT_self (σ : St) : ∀ (l : List Tmp), isT σ (keptT σ l)
  | [] => trivial
  | t :: r => ⟨rfl, keptT_self σ r⟩
theorem keptB_self (σ : St) : ∀ (l : List Nat), isB' σ (keptB σ l)
  | [] => trivial
  | i :: r => by
    simp only [keptB]
    split
    · rename_i b hb; exact ⟨hb, keptB_self σ r⟩
    · exact keptB_self σ r
theorem keptT_wf {σ : St} {n : Nat} (h : ∀ q ∈ σ.tm, q.2.wf n = true) : ∀ (l : List Tmp) (q : Nat × V), q ∈ keptT σ l → q.2.wf n = true
  | [], q, hq => by cases hq
  | t :: r, q, hq => by
    simp only [keptT, List.mem_cons] at hq
    rcases hq with rfl | hq
    · exact look_wf h t
    · exact keptT_wf h r q hq
theorem keptB_mem {σ : St} : ∀ {l : List Nat} {q : Nat × Blk}, q ∈ keptB σ l → lookH σ.hp q.1 = some q.2
  | [], q, hq => by cases hq
  | i :: r, q, hq => by
    simp only [keptB] at hq
    split at hq
    · rename_i b hb
      rcases List.mem_cons.1 hq with rfl | hq
      · exact hb
      · exact keptB_mem hq
    · exact keptB_mem hq
theorem bSlots_mem {σ : St} {id ty : Nat} : ∀ {l : List Nat}, Slot.b id ty ∈ bSlots σ l → id ∈ l
  | [], h => by cases h
  | i :: l, h => by
    simp only [bSlots] at h
    split at h
    · rcases List.mem_cons.1 h with e | h
      · cases e; simp
      · exact List.mem_cons_of_mem _ (bSlots_mem h)
    · exact List.mem_cons_of_mem _ (bSlots_mem h)
theorem tSlots_nob {σ : St} {id ty : Nat} : ∀ {l : List Tmp} {ts : List Slot}, tSlots σ l = some ts → Slot.b id ty ∉ ts
  | [], ts, h => by cases h; simp
  | t :: l, ts, h => by
    simp only [tSlots] at h
    split at h
    · rename_i hl; cases h; simp [tSlots_nob hl]
    · rename_i hl; cases h; simp [tSlots_nob hl]
    · cases h

theorem bSlots_lt {σ : St} {id ty : Nat} : ∀ {l : List Nat}, Slot.b id ty ∈ bSlots σ l → ∃ b, lookH σ.hp id = some b
  | [], h => by cases h
  | i :: l, h => by
    simp only [bSlots] at h
    split at h
    · rename_i b hb
      rcases List.mem_cons.1 h with e | h
      · cases e; exact ⟨b, hb⟩
      · exact bSlots_lt h
    · exact bSlots_lt h
theorem lpx_sound {ih : Nat → Code → St → K → Tr} (hih : Snd P ih) {x : Code} {lt : LT} {k : K} {Q : Exit → Act → World → Prop} {σ : St} {ρ : Nat → Nat} {a : Act} {w : World}
    (hI : Inv W n0 ρ0 N ρ σ a w) (h : (lpx ih N x lt σ k).sat R)
    (hk : ∀ e σ' ρ' a' w', Inv W n0 ρ0 N ρ' σ' a' w' → Ext σ.n ρ ρ' → σ.n ≤ σ'.n → (k e σ').sat R → Q e.to a' w') : (Code.loop x).wp P Q a w := by
  unfold lpx at h
  obtain ⟨ts, hts, h⟩ := kO_sat h
  obtain ⟨cs, hcs, h⟩ := kO_sat h
  obtain ⟨q, hq, h⟩ := kO_sat h
  split at h
  case h_2 => exact h.elim
  rename_i hwf _
  obtain ⟨I, μ, hI0, hbody⟩ := h
  have hlt : ∀ id ty, Slot.b id ty ∈ ts ++ bSlots σ lt.bv → id < σ.n := by
    intro id ty hm
    rcases List.mem_append.1 hm with hm | hm
    · exact absurd hm (tSlots_nob hts)
    · obtain ⟨b, hb⟩ := bSlots_lt hm
      exact (hI.H.blk id b hb).1
  have hkept : KeptOK σ.n ⟨keptT σ lt.tk, keptB σ lt.bk⟩ := ⟨keptT_wf hI.tmwf lt.tk, fun q hq => ⟨(hI.H.blk _ _ (keptB_mem hq)).1, (hI.H.blk _ _ (keptB_mem hq)).2.1⟩⟩
  have key : ∀ (m : Nat) (y : Vars) (j : Nat → Value) (ρ' : Nat → Nat) (a' : Act) (w' : World), I y → μ y < m → Inv W n0 ρ0 N ρ' (canon N σ.n σ.hp.lim y.m σ.hp.wr σ.hp.mt ⟨keptT σ lt.tk, keptB σ lt.bk⟩ (ts ++ bSlots σ lt.bv) (iS cs y) j) a' w' → Ext σ.n ρ ρ' → Code.rounds P x Q m a' w' := by
    intro m
    induction m with
    | zero => intro y j ρ' a' w' _ hlt'; exact absurd hlt' (Nat.not_lt_zero _)
    | succ m ihm =>
      intro y j ρ' a' w' hIx hμ hInv hE
      rw [rounds_succ]
      refine hih W n0 ρ0 N _ x _ _ ρ' a' w' _ hInv (hbody y j hIx) ?_
      intro e σ2 ρ2 a2 w2 h1 h2 h3 h4
      have hE2 : Ext σ.n ρ ρ2 := hE.trans (Nat.le_refl _) h2
      cases e with
      | normal =>
        obtain ⟨cs2, hcs2, h4⟩ := kO_sat h4
        obtain ⟨q2, hq2, h4⟩ := kO_sat h4
        split at h4
        · rename_i hwf2 hwr
          replace hwr := beqB_eq hwr
          obtain ⟨⟨k1, k2⟩, g1, g2⟩ := h4
          replace k1 : isT σ2 (keptT σ lt.tk) := by rw [← k1]; exact keptT_self σ2 lt.tk
          replace k2 : isB' σ2 (keptB σ lt.bk) := by rw [← k2]; exact keptB_self σ2 lt.bk
          obtain ⟨f1, f2⟩ := fitS_den ρ2 hq2 ⟨[], [], [], σ2.hp.x⟩
          rw [vcat_nil] at f1 f2
          exact ihm ⟨q2.i, q2.b, q2.v, σ2.hp.x⟩ _ ρ2 a2 w2 g1 (by omega) (hwr ▸ canon_inv h1 h3 hI.H.le k1 k2 hkept hcs2 f1 (f2 _ hwf2) hlt hI.H.lim) hE2
        · exact h4.elim
      | exit id => exact hk (.exit id) σ2 ρ2 a2 w2 h1 hE2 h3 (mapL_sat (k (.exit id) σ2) .up _ h4)
      | ret => exact hk .ret σ2 ρ2 a2 w2 h1 hE2 h3 (mapL_sat (k .ret σ2) .up _ h4)
  obtain ⟨f1, f2⟩ := fitS_den ρ hq ⟨[], [], [], σ.hp.x⟩
  rw [vcat_nil] at f1 f2
  exact wp_loop_rounds (μ ⟨q.i, q.b, q.v, σ.hp.x⟩ + 1) (key _ ⟨q.i, q.b, q.v, σ.hp.x⟩ _ ρ a w hI0 (Nat.lt_succ_self _) (canon_inv hI (Nat.le_refl _) hI.H.le (keptT_self σ lt.tk) (keptB_self σ lt.bk) hkept hcs f1 (f2 _ hwf) hlt hI.H.lim) (Ext.refl _ _))

theorem slLt_lt {n : Nat} : ∀ {l : List Slot} {id ty : Nat}, slLt n l = true → Slot.b id ty ∈ l → id < n
  | [], _, _, _, h => by cases h
  | .t _ _ :: r, id, ty, hl, h => by
    rcases List.mem_cons.1 h with e | h
    · cases e
    · exact slLt_lt (l := r) hl h
  | .b i t :: r, id, ty, hl, h => by
    simp only [slLt, Bool.and_eq_true] at hl
    rcases List.mem_cons.1 h with e | h
    · cases e; have h1 := hl.1; rw [Nat.blt_eq] at h1; exact h1
    · exact slLt_lt hl.2 h
theorem cutx_sound {ih : Nat → Code → St → K → Tr} (hih : Snd P ih) {x y : Code} {c : CT} {k : K} {Q : Exit → Act → World → Prop} {σ : St} {ρ : Nat → Nat} {a : Act} {w : World}
    (hI : Inv W n0 ρ0 N ρ σ a w) (h : (cutx ih N x y c σ k).sat R)
    (hk : ∀ e σ' ρ' a' w', Inv W n0 ρ0 N ρ' σ' a' w' → Ext σ.n ρ ρ' → σ.n ≤ σ'.n → (k e σ').sat R → Q e.to a' w') : (Code.seq x y).wp P Q a w := by
  unfold cutx at h
  split at h
  case h_2 => exact h.elim
  rename_i hsl
  obtain ⟨I, μ, hI0, hbody⟩ := h
  have hA := (hbody _ (fun _ => undef) hI0).1 rfl
  have hkept : KeptOK (σ.n + c.d) ⟨keptT σ c.tk, keptB σ c.bk⟩ := by
    refine ⟨fun q hq => V.wf_mono (Nat.le_add_right _ _) _ (keptT_wf hI.tmwf c.tk q hq), fun q hq => ?_⟩
    obtain ⟨g1, g2, _⟩ := hI.H.blk _ _ (keptB_mem hq)
    refine ⟨Nat.lt_of_lt_of_le g1 (Nat.le_add_right _ _), ?_⟩
    simp only [List.all_eq_true] at g2 ⊢
    exact fun z hz => C.wf_mono (Nat.le_add_right _ _) z (g2 z hz)
  refine wp_seq (hih W n0 ρ0 N _ x σ _ ρ a w _ hI hA ?_)
  intro e σ2 ρ2 a2 w2 h1 h2 h3 h4
  cases e with
  | normal =>
    obtain ⟨cs2, hcs2, h4⟩ := kO_sat h4
    obtain ⟨q2, hq2, h4⟩ := kO_sat h4
    split at h4
    · rename_i hwf2 hwr hn
      replace hwr := beqB_eq hwr
      replace hn := Nat.le_of_ble_eq_true hn
      obtain ⟨⟨k1, k2⟩, g1, g2⟩ := h4
      replace k1 : isT σ2 (keptT σ c.tk) := by rw [← k1]; exact keptT_self σ2 c.tk
      replace k2 : isB' σ2 (keptB σ c.bk) := by rw [← k2]; exact keptB_self σ2 c.bk
      obtain ⟨f1, f2⟩ := fitS_den ρ2 hq2 ⟨[], [], [], σ2.hp.x⟩
      rw [vcat_nil] at f1 f2
      have hB := (hbody ⟨1 :: q2.i, q2.b, q2.v, σ2.hp.x⟩ (fun t => a2.tmps.getD t undef) g1).2 rfl
      have hinv := canon_inv (mt := σ.hp.mt) h1 hn (Nat.le_trans hI.H.le (Nat.le_add_right _ _)) k1 k2 hkept hcs2 f1 (f2 _ hwf2) (fun id ty hm => slLt_lt hsl hm) hI.H.lim
      rw [hwr] at hinv
      refine hih W n0 ρ0 N _ y _ _ ρ2 a2 w2 Q hinv hB ?_
      intro e3 σ3 ρ3 a3 w3 r1 r2 r3 r4
      have r3' : σ.n + c.d ≤ σ3.n := r3
      exact hk e3 σ3 ρ3 a3 w3 r1 (h2.trans (Nat.le_add_right _ c.d) r2) (by omega) (mapL_sat (k e3 σ3) .up _ r4)
    · exact h4.elim
  | exit id => exact hk (.exit id) σ2 ρ2 a2 w2 h1 h2 h3 (mapL_sat (k (.exit id) σ2) .up _ h4)
  | ret => exact hk .ret σ2 ρ2 a2 w2 h1 h2 h3 (mapL_sat (k .ret σ2) .up _ h4)

theorem codex_sound (hN : NameOK P) (hS : ∀ q ∈ S, SumOK P q) {D : DrawX} (hD : DSnd P D) {ih : Nat → Code → St → K → Tr} (hih : Snd P ih) : Snd P (codex P S D ih) := by
  intro W n0 ρ0 N R c σ k ρ a w Q hI h hk
  unfold codex at h
  split at h
  · exact wp_skip (hk .normal σ ρ a w hI (Ext.refl _ _) (Nat.le_refl _) h)
  · exact wp_label (hk .normal σ ρ a w hI (Ext.refl _ _) (Nat.le_refl _) h)
  · rename_i id ops draw
    split at h
    · exact wp_region_list (opsx_sound hN hS hih ops _ σ ρ a w hI h fun σ' ρ' a' w' h1 h2 h3 h4 => hk .normal σ' ρ' a' w' h1 h2 h3 h4)
    · exact hD ih hih W n0 ρ0 N R id ops σ _ ρ a w Q hI h fun σ' ρ' a' w' h1 h2 h3 h4 => hk .normal σ' ρ' a' w' h1 h2 h3 h4
  · rename_i x y
    split at h
    · exact cutx_sound hih hI h hk
    refine wp_seq (hih W n0 ρ0 N R x σ _ ρ a w _ hI h ?_)
    intro e σ' ρ' a' w' h1 h2 h3 h4
    cases e with
    | normal =>
      exact hih W n0 ρ0 N R y σ' k ρ' a' w' Q h1 h4 fun e2 σ2 ρ2 a2 w2 g1 g2 g3 g4 => hk e2 σ2 ρ2 a2 w2 g1 (h2.trans h3 g2) (by omega) g4
    | exit id => exact hk (.exit id) σ' ρ' a' w' h1 h2 h3 h4
    | ret => exact hk .ret σ' ρ' a' w' h1 h2 h3 h4
  · rename_i x t e
    obtain ⟨b, σ', hb, hI', _, en, hs⟩ := decB_sound hI h
    refine wp_cond hb ?_
    cases b
    · exact hih W n0 ρ0 N R e σ' k ρ a w Q hI' hs fun e2 σ2 ρ2 a2 w2 g1 g2 g3 g4 => hk e2 σ2 ρ2 a2 w2 g1 (by rw [← en]; exact g2) (by omega) g4
    · exact hih W n0 ρ0 N R t σ' k ρ a w Q hI' hs fun e2 σ2 ρ2 a2 w2 g1 g2 g3 g4 => hk e2 σ2 ρ2 a2 w2 g1 (by rw [← en]; exact g2) (by omega) g4
  · rename_i id x
    refine wp_block (hih W n0 ρ0 N R x σ _ ρ a w _ hI h ?_)
    intro e σ' ρ' a' w' h1 h2 h3 h4
    cases e with
    | normal => exact hk .normal σ' ρ' a' w' h1 h2 h3 h4
    | exit id' =>
      simp only at h4
      show Exit.inBlock id Q (.exit id') a' w'
      simp only [Exit.inBlock]
      split at h4
      · rename_i e; rw [if_pos (Nat.eq_of_beq_eq_true e)]; exact hk .normal σ' ρ' a' w' h1 h2 h3 h4
      · rename_i e; rw [if_neg (Nat.beq_eq_false_iff.1 e)]; exact hk (.exit id') σ' ρ' a' w' h1 h2 h3 h4
    | ret => exact hk .ret σ' ρ' a' w' h1 h2 h3 h4
  · rename_i x
    split at h
    · exact lpx_sound hih hI h hk
    refine wp_loop_rounds 5000 (loopx_sound hih x 5000 σ ρ a w hI h ?_)
    exact hk
  · rename_i id
    exact wp_exit (hk (.exit id) σ ρ a w hI (Ext.refl _ _) (Nat.le_refl _) h)
  · exact wp_ret (hk .ret σ ρ a w hI (Ext.refl _ _) (Nat.le_refl _) h)
  · rename_i x
    refine wp_scope_straight (hih W n0 ρ0 N R x σ k ρ a w _ hI h ?_)
    intro e σ' ρ' a' w' h1 h2 h3 h4
    have := hk e σ' ρ' a' w' h1 h2 h3 h4
    cases e <;> exact this
  · exact h.elim

theorem ex_sound (hN : NameOK P) (hS : ∀ q ∈ S, SumOK P q) {D : DrawX} (hD : DSnd P D) : ∀ n, Snd P (ex P S D n)
  | 0 => by intro W n0 ρ0 N R c σ k ρ a w Q _ h _; exact h.elim
  | n + 1 => codex_sound hN hS hD (ex_sound hN hS hD n)

/-- A whole call, from a local heap on. -/
def runx (P : Program) (S : List Sum) (D : DrawX) (fuel : Nat) (f : FuncId) (args : List V) (hp : Hp) (n : Nat) : Tr :=
  kO (P.funcs[f]?) fun fn => kO fn.body fun c =>
    match Nat.ble args.length fn.ntmps, args.all (V.wf n) with
    | true, true => ex P S D fuel fn.ntmps c { tm := number 0 args, hp := hp, n := n } fun e σ' =>
      match e with
      | .exit _ => .no 31
      | _ => kO (resV P σ' fn.results.toList) fun r => match r.wf σ'.n with
        | true => .leaf (.ret r σ'.hp σ'.n)
        | false => .no 32
    | _, _ => .no 33

theorem runx_sound (hN : NameOK P) (hS : ∀ q ∈ S, SumOK P q) {D : DrawX} (hD : DSnd P D) {fuel f : Nat} {args : List V} {hp : Hp} {n : Nat} (hH : HInv W n0 ρ0 ρ hp n w)
    (h : (runx P S D fuel f args hp n).sat R) :
    Calls P f (args.map (V.den ρ)).toArray w fun e w' => ∃ v hp' n' ρ', R (.ret v hp' n') ∧ e = .returned (v.den ρ') ∧ v.wf n' = true ∧ HInv W n0 ρ0 ρ' hp' n' w' ∧ Ext n ρ ρ' ∧ n ≤ n' := by
  unfold runx at h
  obtain ⟨fn, hfn, hs⟩ := kO_sat h
  obtain ⟨c, hc, hs⟩ := kO_sat hs
  split at hs
  · rename_i hl hw
    have hl' := Nat.le_of_ble_eq_true hl
    have hI' := Inv.enter (σ := { tm := [], hp := hp, n := n }) (ρ := ρ) hH args fn.ntmps hl' hw
    refine calls_of_wp hfn hc ?_
    refine ex_sound hN hS hD fuel W n0 ρ0 fn.ntmps R c _ _ ρ _ w _ hI' hs ?_
    intro e σ' ρ' a' w' hI2 hE hle hk
    have fin : (kO (resV P σ' fn.results.toList) fun r => match r.wf σ'.n with | true => Tr.leaf (.ret r σ'.hp σ'.n) | false => .no 32).sat R →
        a'.defers = [] ∧ ∃ v, (results fn a'.tmps).run P w' = .ok v w' ∧ ∃ v' hp' n' ρ', R (.ret v' hp' n') ∧ Ending.returned v = .returned (v'.den ρ') ∧ v'.wf n' = true ∧ HInv W n0 ρ0 ρ' hp' n' w' ∧ Ext n ρ ρ' ∧ n ≤ n' := by
      intro hk
      obtain ⟨r, hr, hk⟩ := kO_sat hk
      split at hk
      · rename_i hwr
        exact ⟨hI2.defers, _, resV_den hI2 hr, r, σ'.hp, σ'.n, ρ', hk, rfl, hwr, hI2.H, hE, hle⟩
      · exact hk.elim
    cases e with
    | normal => exact fin hk
    | ret => exact fin hk
    | exit id => exact hk.elim
  · exact hs.elim

theorem HInv.none (w : World) : HInv w ⟨0, 0, noM⟩ (fun _ => 0) (fun _ => 0) hnil 0 w := by
  refine ⟨fun i hi => by omega, fun i j hi => by omega, (fun i b h => by cases h), Nat.le_refl _, Ext.refl _ _, fun i _ hi => by omega, rfl, rfl, rfl, Nat.le_refl _, fun _ _ _ _ => rfl, (fun i m hm => by cases hm), rfl, MR.none _ _ _ _ _ _⟩

/-- A call without local pointers among its arguments: what it hands back. -/
def runp (P : Program) (S : List Sum) (D : DrawX) (fuel : Nat) (f : FuncId) (args : List V) : Tr :=
  kO (P.funcs[f]?) fun fn => kO fn.body fun c =>
    match Nat.ble args.length fn.ntmps, args.all (V.wf 0) with
    | true, true => ex P S D fuel fn.ntmps c { tm := number 0 args, hp := hnil, n := 0 } fun e σ' =>
      match e with
      | .exit _ => .no 31
      | _ => kO (resV P σ' fn.results.toList) fun r => match r.wf 0 with
        | true => .leaf (.val r)
        | false => .no 32
    | _, _ => .no 33

/-- What holds of all that a tree hands back. -/
def Tr.all (p : V → Prop) : Tr → Prop
  | .leaf (.val v) => p v
  | .leaf _ => False
  | .br b t e => (b = true → t.all p) ∧ (b = false → e.all p)
  | .no _ => False
  | .req q t => q ∧ t.all p
  | .any q f => ∀ x, q x → (f x).all p
  | .letm m f => (f m).all p
  | .lp x f => (Tr.lp x f).sat (fun l => match l with | .val v => p v | _ => False)

theorem Tr.all_sat {p : V → Prop} : ∀ {T : Tr}, T.all p → T.sat (fun l => match l with | .val v => p v | _ => False)
  | .leaf l, h => by cases l <;> first | exact h | exact h.elim
  | .br _ _ _, h => ⟨fun e => Tr.all_sat (h.1 e), fun e => Tr.all_sat (h.2 e)⟩
  | .no _, h => h.elim
  | .req _ t, h => ⟨h.1, Tr.all_sat h.2⟩
  | .any _ f, h => fun x hq => Tr.all_sat (h x hq)
  | .letm m f, h => Tr.all_sat (T := f m) h
  | .lp _ _, h => h

/-- A call without local pointers among its arguments: it leaves all that was. -/
theorem pure_sound (hN : NameOK P) (hS : ∀ q ∈ S, SumOK P q) {D : DrawX} (hD : DSnd P D) (fuel : Nat) {f : Nat} (args : List V) {T : Tr} (hT : runp P S D fuel f args = T) {p : V → Prop}
    (h : T.all p) (ρ : Nat → Nat) (w : World) :
    Calls P f (args.map (V.den ρ)).toArray w fun e w' => ∃ v, p v ∧ e = .returned (v.den ρ) ∧ Below w.heap.size w w' := by
  subst hT
  have h := Tr.all_sat h
  unfold runp at h
  obtain ⟨fn, hfn, hs⟩ := kO_sat h
  obtain ⟨c, hc, hs⟩ := kO_sat hs
  split at hs
  · rename_i hl hw
    have hl' := Nat.le_of_ble_eq_true hl
    have hI' := Inv.enter (σ := { tm := [], hp := hnil, n := 0 }) (ρ := fun _ => 0) (HInv.none w) args fn.ntmps hl' hw
    have e0 : ∀ ρ', args.map (V.den ρ') = args.map (V.den ρ) := fun ρ' => by
      simp only [List.all_eq_true] at hw
      exact List.map_congr_left fun v hv => V.den_ext (n := 0) (fun i hi => by omega) v (hw v hv)
    rw [← e0 (fun _ => 0)]
    refine calls_of_wp hfn hc ?_
    refine ex_sound hN hS hD fuel w ⟨0, 0, noM⟩ (fun _ => 0) fn.ntmps _ c _ _ _ _ w _ hI' hs ?_
    intro e σ' ρ' a' w' hI2 hE hle hk
    have fin : (kO (resV P σ' fn.results.toList) fun r => match r.wf 0 with | true => Tr.leaf (.val r) | false => .no 32).sat (fun l => match l with | .val v => p v | _ => False) →
        a'.defers = [] ∧ ∃ v, (results fn a'.tmps).run P w' = .ok v w' ∧ ∃ v', p v' ∧ Ending.returned v = .returned (v'.den ρ) ∧ Below w.heap.size w w' := by
      intro hk
      obtain ⟨r, hr, hk⟩ := kO_sat hk
      split at hk
      · rename_i hwr
        refine ⟨hI2.defers, _, resV_den hI2 hr, r, hk, ?_, ⟨hI2.H.os, hI2.H.tape, hI2.H.output, hI2.H.size, fun k hk => hI2.H.far k hk rfl fun i _ hi => absurd hi (Nat.not_lt_zero _)⟩⟩
        rw [V.den_ext (n := 0) (ρ := ρ') (ρ' := ρ) (fun i hi => by omega) r hwr]
      · exact hk.elim
    cases e with
    | normal => exact fin hk
    | ret => exact fin hk
    | exit id => exact hk.elim
  · exact hs.elim

/-- A call whose first argument is a pointer to a block of cells: what it hands back, and the cells behind it. -/
def runh (P : Program) (S : List Sum) (D : DrawX) (fuel : Nat) (f : FuncId) (cs : List C) (ty : Nat) (rest : List V) : Tr :=
  kO (P.funcs[f]?) fun fn => kO fn.body fun c =>
    match Nat.ble (rest.length + 1) fn.ntmps, rest.all (V.wf 0), cs.all (C.wf 0) with
    | true, true, true => ex P S D fuel fn.ntmps c { tm := number 0 (.u (.c (.ptr 0 0)) :: rest), hp := hcons (0, (cs, ty)) hnil, n := 1 } fun e σ' =>
      match e with
      | .exit _ => .no 31
      | _ => kO (resV P σ' fn.results.toList) fun r => kO (lookH σ'.hp 0) fun b =>
        match r with
        | .u u => (match u.wf 0, b.1.all (C.wf 0), Nat.beq b.2 ty with
          | true, true, true => .leaf (.val (.tup [.agg b.1, u]))
          | _, _, _ => .no 32)
        | _ => .no 34
    | _, _, _ => .no 33

theorem all_wf_mono {cs : List C} (h : cs.all (C.wf 0) = true) (n : Nat) : cs.all (C.wf n) = true := by
  simp only [List.all_eq_true] at h ⊢
  exact fun x hx => C.wf_mono (Nat.zero_le _) x (h x hx)

theorem heap_sound (hN : NameOK P) (hS : ∀ q ∈ S, SumOK P q) {D : DrawX} (hD : DSnd P D) (fuel : Nat) {f : Nat} (cs : List C) (ty : Nat) (rest : List V) {T : Tr} (hT : runh P S D fuel f cs ty rest = T) {p : V → Prop}
    (h : T.all p) (ρ : Nat → Nat) (b : Nat) (w : World) (hb : w.heap[b]? = some (.cells (dens ρ cs) ty (0, 0))) :
    Calls P f (.pointer (some ⟨b, 0, none⟩) :: rest.map (V.den ρ)).toArray w fun e w' => ∃ new u, p (.tup [.agg new, u]) ∧ e = .returned (u.den ρ) ∧ Touch b w w' ∧ w'.heap[b]? = some (.cells (dens ρ new) ty (0, 0)) := by
  subst hT
  have h := Tr.all_sat h
  unfold runh at h
  obtain ⟨fn, hfn, hs⟩ := kO_sat h
  obtain ⟨c, hc, hs⟩ := kO_sat hs
  split at hs
  · rename_i hl hw hcw
    have hl' := Nat.le_of_ble_eq_true hl
    have hlt : b < w.heap.size := by
      rcases Nat.lt_or_ge b w.heap.size with h1 | h1
      · exact h1
      · rw [Array.getElem?_eq_none h1] at hb; cases hb
    have e0 : ∀ ρ' : Nat → Nat, rest.map (V.den ρ') = rest.map (V.den ρ) := fun ρ' => by
      simp only [List.all_eq_true] at hw
      exact List.map_congr_left fun v hv => V.den_ext (n := 0) (fun i hi => by omega) v (hw v hv)
    have hH0 : HInv w ⟨1, 0, noM⟩ (fun _ => b) (fun _ => b) (hcons (0, (cs, ty)) hnil) 1 w := by
      refine ⟨fun _ _ => hlt, fun i j hi hj _ => by omega, ?_, Nat.le_refl _, Ext.refl _ _, (fun i h1 h2 => absurd h2 (Nat.not_lt.2 h1)), rfl, rfl, rfl, Nat.le_refl _, fun _ _ _ _ => rfl, (fun i m hm => by cases hm), rfl, MR.none _ _ _ _ _ _⟩
      intro i b' hi
      simp only [lookH_hcons, lookH_hnil] at hi
      split at hi
      · rename_i e
        cases hi
        refine ⟨by have := Nat.eq_of_beq_eq_true e; omega, all_wf_mono hcw 1, ?_⟩
        rw [dens_ext (n := 0) (ρ := ρ) (ρ' := fun _ => b) (fun i hi => by omega) cs hcw]
        exact hb
      · cases hi
    have hall : (V.u (.c (.ptr 0 0)) :: rest).all (V.wf 1) = true := by
      simp only [List.all_eq_true] at hw ⊢
      intro v hv
      rcases List.mem_cons.1 hv with rfl | hv
      · rfl
      · exact V.wf_mono (Nat.zero_le _) v (hw v hv)
    have hI' := Inv.enter (σ := { tm := [], hp := hcons (0, (cs, ty)) hnil, n := 1 }) (ρ := fun _ => b) hH0 (V.u (.c (.ptr 0 0)) :: rest) fn.ntmps (by simpa using hl') hall
    have eargs : (.pointer (some ⟨b, 0, none⟩) :: rest.map (V.den ρ)) = (V.u (.c (.ptr 0 0)) :: rest).map (V.den fun _ => b) := by
      rw [List.map_cons, e0 (fun _ => b)]; rfl
    rw [eargs]
    refine calls_of_wp hfn hc ?_
    refine ex_sound hN hS hD fuel w ⟨1, 0, noM⟩ (fun _ => b) fn.ntmps _ c _ _ _ _ w _ hI' hs ?_
    intro e σ' ρ' a' w' hI2 hE hle hk
    have fin : (kO (resV P σ' fn.results.toList) fun r => kO (lookH σ'.hp 0) fun b =>
        match r with
        | .u u => (match u.wf 0, b.1.all (C.wf 0), Nat.beq b.2 ty with
          | true, true, true => Tr.leaf (.val (.tup [.agg b.1, u]))
          | _, _, _ => .no 32)
        | _ => .no 34).sat (fun l => match l with | .val v => p v | _ => False) →
        a'.defers = [] ∧ ∃ v, (results fn a'.tmps).run P w' = .ok v w' ∧ ∃ new u, p (.tup [.agg new, u]) ∧ Ending.returned v = .returned (u.den ρ) ∧ Touch b w w' ∧ w'.heap[b]? = some (.cells (dens ρ new) ty (0, 0)) := by
      intro hk
      obtain ⟨r, hr, hk1⟩ := kO_sat hk
      obtain ⟨bl, hbl, hk2⟩ := kO_sat hk1
      split at hk2
      · rename_i u
        split at hk2
        · rename_i h1 h2 h3
          have h3 := Nat.eq_of_beq_eq_true h3
          obtain ⟨_, _, g3⟩ := hI2.H.blk 0 bl hbl
          have e1 : ρ' 0 = b := hE 0 (by show 0 < 1; omega)
          refine ⟨hI2.defers, _, resV_den hI2 hr, bl.1, u, hk2, ?_, ⟨hI2.H.os, hI2.H.tape, hI2.H.output, hI2.H.size, fun k hk hne => hI2.H.far k hk rfl fun i _ hi => Ne.symm hne⟩, ?_⟩
          · rw [V.den_ext (n := 0) (ρ := ρ) (ρ' := ρ') (fun i hi => by omega) (.u u) h1]; rfl
          · rw [e1, h3] at g3
            rw [g3, dens_ext (n := 0) (ρ := ρ) (ρ' := ρ') (fun i hi => by omega) bl.1 h2]
        · exact hk2.elim
      · exact hk2.elim
    cases e with
    | normal => exact fin hk
    | ret => exact fin hk
    | exit id => exact hk.elim
  · exact hs.elim

/-- A call whose first argument is a pointer to a variable that holds a pointer to a block of cells. -/
def runb (P : Program) (S : List Sum) (D : DrawX) (fuel : Nat) (f : FuncId) (cs : List C) (ty bty : Nat) (rest : List V) : Tr :=
  kO (P.funcs[f]?) fun fn => kO fn.body fun c =>
    match Nat.ble (rest.length + 1) fn.ntmps, rest.all (V.wf 0), cs.all (C.wf 0) with
    | true, true, true => ex P S D fuel fn.ntmps c { tm := number 0 (.u (.c (.ptr 1 0)) :: rest), hp := hcons (0, (cs, ty)) (hcons (1, ([.ptr 0 0], bty)) hnil), n := 2 } fun e σ' =>
      match e with
      | .exit _ => .no 31
      | _ => kO (resV P σ' fn.results.toList) fun r => kO (lookH σ'.hp 0) fun b => kO (lookH σ'.hp 1) fun bb =>
        match r, bb.1 with
        | .u u, [.ptr 0 0] => (match u.wf 0, b.1.all (C.wf 0), Nat.beq b.2 ty, Nat.beq bb.2 bty with
          | true, true, true, true => .leaf (.val (.tup [.agg b.1, u]))
          | _, _, _, _ => .no 32)
        | _, _ => .no 34
    | _, _, _ => .no 33


theorem box_sound (hN : NameOK P) (hS : ∀ q ∈ S, SumOK P q) {D : DrawX} (hD : DSnd P D) (fuel : Nat) {f : Nat} (cs : List C) (ty : Nat) (rest : List V) {T : Tr} {bty : Nat} (hT : runb P S D fuel f cs ty bty rest = T) {p : V → Prop}
    (h : T.all p) (ρ : Nat → Nat) (b x : Nat) (w : World) (hb : w.heap[b]? = some (.cells (dens ρ cs) ty (0, 0))) (hx : w.heap[x]? = some (.cells #[.pointer (some ⟨b, 0, none⟩)] bty (0, 0))) (hne : x ≠ b) :
    Calls P f (.pointer (some ⟨x, 0, none⟩) :: rest.map (V.den ρ)).toArray w fun e w' => ∃ new u, p (.tup [.agg new, u]) ∧ e = .returned (u.den ρ) ∧ Touch b w w' ∧ w'.heap[b]? = some (.cells (dens ρ new) ty (0, 0)) := by
  subst hT
  have h := Tr.all_sat h
  unfold runb at h
  obtain ⟨fn, hfn, hs⟩ := kO_sat h
  obtain ⟨c, hc, hs⟩ := kO_sat hs
  split at hs
  · rename_i hl hw hcw
    have hl' := Nat.le_of_ble_eq_true hl
    have hlt : b < w.heap.size := by
      rcases Nat.lt_or_ge b w.heap.size with h1 | h1
      · exact h1
      · rw [Array.getElem?_eq_none h1] at hb; cases hb
    have hltx : x < w.heap.size := by
      rcases Nat.lt_or_ge x w.heap.size with h1 | h1
      · exact h1
      · rw [Array.getElem?_eq_none h1] at hx; cases hx
    let r0 : Nat → Nat := fun i => if i = 0 then b else x
    have e0 : ∀ ρ' : Nat → Nat, rest.map (V.den ρ') = rest.map (V.den ρ) := fun ρ' => by
      simp only [List.all_eq_true] at hw
      exact List.map_congr_left fun v hv => V.den_ext (n := 0) (fun i hi => by omega) v (hw v hv)
    have hH0 : HInv w ⟨2, 0, noM⟩ r0 r0 (hcons (0, (cs, ty)) (hcons (1, ([.ptr 0 0], bty)) hnil)) 2 w := by
      refine ⟨?_, ?_, ?_, Nat.le_refl _, Ext.refl _ _, (fun i h1 h2 => absurd h2 (Nat.not_lt.2 h1)), rfl, rfl, rfl, Nat.le_refl _, fun _ _ _ _ => rfl, (fun i m hm => by cases hm), rfl, MR.none _ _ _ _ _ _⟩
      · intro i _
        show (if i = 0 then b else x) < _
        split <;> assumption
      · intro i j hi hj he
        replace he : (if i = 0 then b else x) = (if j = 0 then b else x) := he
        split at he <;> split at he
        · omega
        · exact absurd he.symm hne
        · exact absurd he hne
        · omega
      · intro i b' hi
        simp only [lookH_hcons, lookH_hnil] at hi
        split at hi
        · rename_i e
          cases hi
          have e := Nat.eq_of_beq_eq_true e
          subst e
          refine ⟨by omega, all_wf_mono hcw 2, ?_⟩
          rw [dens_ext (n := 0) (ρ := ρ) (ρ' := r0) (fun i hi => by omega) cs hcw]
          exact hb
        · split at hi
          · rename_i e
            cases hi
            have e := Nat.eq_of_beq_eq_true e
            subst e
            exact ⟨by omega, rfl, hx⟩
          · cases hi
    have hall : (V.u (.c (.ptr 1 0)) :: rest).all (V.wf 2) = true := by
      simp only [List.all_eq_true] at hw ⊢
      intro v hv
      rcases List.mem_cons.1 hv with rfl | hv
      · rfl
      · exact V.wf_mono (Nat.zero_le _) v (hw v hv)
    have hI' := Inv.enter (σ := { tm := [], hp := hcons (0, (cs, ty)) (hcons (1, ([.ptr 0 0], bty)) hnil), n := 2 }) (ρ := r0) hH0 (V.u (.c (.ptr 1 0)) :: rest) fn.ntmps (by simpa using hl') hall
    have eargs : (.pointer (some ⟨x, 0, none⟩) :: rest.map (V.den ρ)) = (V.u (.c (.ptr 1 0)) :: rest).map (V.den r0) := by
      rw [List.map_cons, e0 r0]; rfl
    rw [eargs]
    refine calls_of_wp hfn hc ?_
    refine ex_sound hN hS hD fuel w ⟨2, 0, noM⟩ r0 fn.ntmps _ c _ _ _ _ w _ hI' hs ?_
    intro e σ' ρ' a' w' hI2 hE hle hk
    have fin : (kO (resV P σ' fn.results.toList) fun r => kO (lookH σ'.hp 0) fun b => kO (lookH σ'.hp 1) fun bb =>
        match r, bb.1 with
        | .u u, [.ptr 0 0] => (match u.wf 0, b.1.all (C.wf 0), Nat.beq b.2 ty, Nat.beq bb.2 bty with
          | true, true, true, true => Tr.leaf (.val (.tup [.agg b.1, u]))
          | _, _, _, _ => .no 32)
        | _, _ => .no 34).sat (fun l => match l with | .val v => p v | _ => False) →
        a'.defers = [] ∧ ∃ v, (results fn a'.tmps).run P w' = .ok v w' ∧ ∃ new u, p (.tup [.agg new, u]) ∧ Ending.returned v = .returned (u.den ρ) ∧ Touch b w w' ∧ w'.heap[b]? = some (.cells (dens ρ new) ty (0, 0)) := by
      intro hk
      obtain ⟨r, hr, hk1⟩ := kO_sat hk
      obtain ⟨bl, hbl, hk0⟩ := kO_sat hk1
      obtain ⟨bb, hbb, hk2⟩ := kO_sat hk0
      split at hk2
      · rename_i u hbc
        split at hk2
        · rename_i h1 h2 h3 h4
          have h4 := Nat.eq_of_beq_eq_true h4
          obtain ⟨_, _, g4⟩ := hI2.H.blk 1 bb hbb
          have e2 : ρ' 1 = x := hE 1 (by show 1 < 2; omega)
          rw [e2, h4, hbc] at g4
          have e3 : ρ' 0 = b := hE 0 (by show 0 < 2; omega)
          have g4' : w'.heap[x]? = some (.cells #[.pointer (some ⟨b, 0, none⟩)] bty (0, 0)) := by rw [g4, ← e3]; rfl
          have h3 := Nat.eq_of_beq_eq_true h3
          obtain ⟨_, _, g3⟩ := hI2.H.blk 0 bl hbl
          have e1 : ρ' 0 = b := hE 0 (by show 0 < 2; omega)
          refine ⟨hI2.defers, _, resV_den hI2 hr, bl.1, u, hk2, ?_, ⟨hI2.H.os, hI2.H.tape, hI2.H.output, hI2.H.size, fun k hk hne => ?_⟩, ?_⟩
          · rw [V.den_ext (n := 0) (ρ := ρ) (ρ' := ρ') (fun i hi => by omega) (.u u) h1]; rfl
          · by_cases hkx : k = x
            · subst hkx; rw [g4', hx]
            · exact hI2.H.far k hk rfl fun i _ hi => by
                show (if i = 0 then b else x) ≠ k
                split
                · exact Ne.symm hne
                · exact Ne.symm hkx
          · rw [e1, h3] at g3
            rw [g3, dens_ext (n := 0) (ρ := ρ) (ρ' := ρ') (fun i hi => by omega) bl.1 h2]
        · exact hk2.elim
      · exact hk2.elim
    cases e with
    | normal => exact fin hk
    | ret => exact fin hk
    | exit id => exact hk.elim
  · exact hs.elim

def noDraw : DrawX := ⟨fun _ _ _ _ _ => .no 70, fun _ _ => none, fun _ _ _ => none⟩
theorem noDraw_sound (P : Program) : DSnd P noDraw := by
  intro ih _ W n0 ρ0 N R id ops σ k ρ a w Q _ h _
  exact h.elim

end
end Go.Proofs.Ytnlohongffpkpaa.Sx
