/- Where what is made of bounds may be (layer 5); the product's rounds. Plain Lean. A text of the session's own. -/
import Derived.Test.YtafpbibpahjnhaaGreatL05Q
import Derived.Test.YtafpbibpahjnhaaGreatL05H
namespace Go.Proofs.YtafpbibpahjnhaaGreat.L05
open Go Go.RowKit Go.Proofs.YtafpbibpahjnhaaGreat.Sx
set_option linter.unusedVariables false
section
variable {a b t : P2} {x y n : Int}
theorem tAdd_uu (ha : UU a) (hb : UU b) : UU (tAdd a b) := ⟨not_u (addU_u _ _) (or_u (or_u (xor_u (addU_u _ _) (addU_u _ _)) ha.2) hb.2), or_u (or_u (xor_u (addU_u _ _) (addU_u _ _)) ha.2) hb.2⟩
theorem tSub_uu (ha : UU a) (hb : UU b) : UU (tSub a b) := ⟨not_u (subU_u _ _) (or_u (or_u (xor_u (addU_u _ _) (subU_u _ _)) ha.2) hb.2), or_u (or_u (xor_u (addU_u _ _) (subU_u _ _)) ha.2) hb.2⟩
theorem tAnd_uu (ha : UU a) (hb : UU b) : UU (tAndM a b) := ⟨and_u ha.1 hb.1, not_u (and_u (or_u ha.1 ha.2) (or_u hb.1 hb.2)) (and_u ha.1 hb.1)⟩
theorem tOr_uu (ha : UU a) (hb : UU b) : UU (tOrM a b) := ⟨or_u ha.1 hb.1, not_u (or_u ha.2 hb.2) (or_u ha.1 hb.1)⟩
theorem tXor_uu (ha : UU a) (hb : UU b) : UU (tXorM a b) := ⟨not_u (xor_u ha.1 hb.1) (or_u ha.2 hb.2), or_u ha.2 hb.2⟩
theorem tShl_uu : UU (tShl a n) := ⟨shl_u _ _, shl_u _ _⟩
theorem tShr_uu (ha : UU a) : UU (tShr a n) := ⟨shr_u ha.1 _, shr_u ha.2 _⟩
theorem tSar_uu : UU (tSar a n) := ⟨iConv_u _, iConv_u _⟩
theorem mulAdd_uu (hb : UU b) (ht : UU t) : UU (mulAdd a b t) := by
  have z : isU 0 = true := by decide
  unfold mulAdd
  split
  · exact tAdd_uu ht ⟨z, hb.2⟩
  · exact tAdd_uu ht ⟨z, or_u hb.1 hb.2⟩
  · exact ht
theorem mulGo_uu : ∀ (f : Nat) {a b t : P2}, UU b → UU t → UU (mulGo f a b t)
  | 0, a, b, t, _, ht => ht
  | f + 1, a, b, t, hb, ht => by
    simp only [mulGo]
    split
    · exact ht
    · split
      · exact mulAdd_uu hb ht
      · exact mulGo_uu f tShl_uu (mulAdd_uu hb ht)
theorem tMul_uu (hb : UU b) : UU (tMul a b) := tAdd_uu (mulGo_uu 64 hb ⟨by decide, by decide⟩) ⟨mulU_u _ _, (by decide : isU 0 = true)⟩
theorem fits_uu (ha : UU a) : UU (fitsM a) := ww_uu (fits_ww ha)
theorem inner_ii : II (innerM a) := by have := inner_vv (a := a); unfold VV at this; unfold II; omega
theorem min_uu (hx : isU x = true) (hy : isU y = true) : isU (iMin2 x y) = true := by unfold iMin2; split <;> assumption
theorem max_uu (hx : isU x = true) (hy : isU y = true) : isU (iMax2 x y) = true := by unfold iMax2; split <;> assumption
end
theorem any_raw : Raw5 anyB := any_inv.raw
section
variable {a b : Bd} {c n : Int} {k : Bool}
theorem addB_raw (ha : Raw5 a) (hb : Raw5 b) : Raw5 (addB a b) := ⟨tAdd_uu ha.t hb.t, uAdd_uu ha.u hb.u, sAdd_ii ha.s hb.s, fits_uu ⟨addU_u _ _, addU_u _ _⟩, inner_ii⟩
theorem subB_raw (ha : Raw5 a) (hb : Raw5 b) : Raw5 (subB a b) := ⟨tSub_uu ha.t hb.t, uSub_uu ha.u hb.u, sSub_ii ha.s hb.s, fits_uu ⟨subU_u _ _, subU_u _ _⟩, inner_ii⟩
theorem mulB_raw (ha : Raw5 a) (hb : Raw5 b) : Raw5 (mulB a b) := ⟨tMul_uu hb.t, uMul_uu ha.u hb.u, any_raw.s, fits_uu ⟨mulU_u _ _, mulU_u _ _⟩, any_raw.v⟩
theorem divB_raw (ha : Raw5 a) (hb : Raw5 b) : Raw5 (divB a b) := ⟨any_raw.t, uDiv_uu ha.u hb.u, any_raw.s, any_raw.w, any_raw.v⟩
theorem modB_raw (ha : Raw5 a) (hb : Raw5 b) : Raw5 (modB a b) := ⟨any_raw.t, uMod_uu ha.u hb.u, any_raw.s, any_raw.w, any_raw.v⟩
theorem andB_raw (ha : Raw5 a) (hb : Raw5 b) : Raw5 (andB a b) := ⟨tAnd_uu ha.t hb.t, ⟨(by decide : isU 0 = true), min_uu ha.u.2 hb.u.2⟩, any_raw.s, ⟨(by decide : isU 0 = true), min_uu ha.w.2 hb.w.2⟩, any_raw.v⟩
theorem orB_raw (ha : Raw5 a) (hb : Raw5 b) : Raw5 (orB a b) := ⟨tOr_uu ha.t hb.t, ⟨max_uu ha.u.1 hb.u.1, any_raw.u.2⟩, any_raw.s, ⟨max_uu ha.w.1 hb.w.1, any_raw.w.2⟩, any_raw.v⟩
theorem xorB_raw (ha : Raw5 a) (hb : Raw5 b) : Raw5 (xorB a b) := ⟨tXor_uu ha.t hb.t, any_raw.u, any_raw.s, any_raw.w, any_raw.v⟩
theorem shlB_raw (ha : Raw5 a) : Raw5 (shlB a n) := ⟨tShl_uu, uShl_uu ha.u, any_raw.s, any_raw.w, any_raw.v⟩
theorem shrB_raw (ha : Raw5 a) : Raw5 (shrB a n) := ⟨tShr_uu ha.t, uShr_uu ha.u, any_raw.s, any_raw.w, any_raw.v⟩
theorem sarB_raw (ha : Raw5 a) : Raw5 (sarB a n) := ⟨tSar_uu, any_raw.u, sSar_ii ha.s, any_raw.w, any_raw.v⟩
theorem shrQ_raw (ha : Raw5 a) : Raw5 (shrQ a) := ⟨any_raw.t, ⟨(by decide : isU 0 = true), ha.u.2⟩, any_raw.s, any_raw.w, any_raw.v⟩
theorem sy_raw (ha : Raw5 a) : Raw5 (sync a) := (sync_ok ha).1.raw
theorem shiftB_raw (ha : Raw5 a) : Raw5 (shiftB c a n k) := by
  unfold shiftB
  cases k
  · dsimp only; split
    · exact sy_raw (shrQ_raw ha)
    · exact sy_raw any_raw
  · dsimp only; split
    · exact sy_raw (shlB_raw ha)
    · split
      · exact sy_raw (shrB_raw ha)
      · exact sy_raw (sarB_raw ha)
theorem longQ_raw (ha : Raw5 a) : Raw5 (longQ a) := ⟨⟨iConv_u _, iConv_u _⟩, any_raw.u, ha.v, any_raw.w, any_raw.v⟩
theorem longB_raw (ha : Raw5 a) : Raw5 (longB a) := sy_raw (longQ_raw ha)
theorem lowQ_raw (ha : Raw5 a) : Raw5 (lowQ a n) := ⟨lowN_uu ha.t _, any_raw.u, any_raw.s, any_raw.w, any_raw.v⟩
theorem lowQ32_raw (ha : Raw5 a) : Raw5 (lowQ32 a) := ⟨lowN_uu ha.t _, ha.w, any_raw.s, ha.w, ha.v⟩
theorem lowB_raw (ha : Raw5 a) : Raw5 (lowB a n) := by
  unfold lowB
  split
  · split
    · exact nothing_inv.raw
    · exact sy_raw (lowQ32_raw ha)
  · split
    · split
      · exact nothing_inv.raw
      · exact sy_raw (lowQ_raw ha)
    · exact ha
theorem c0_raw : Raw5 (bConst 0) := (const_ok (x := 0) (by decide)).1.raw
end
/-! the product's rounds -/
def mulI (p q : P2) (xi : List Int) (xb : List Bool) : Prop := ∃ (a b t : P2) (f : Nat), xi = [a.lo, a.hi, b.lo, b.hi, 0, 0, mulU p.lo q.lo, 0, mulU p.lo q.lo, 0, t.lo, t.hi] ∧ UU a ∧ UU b ∧ UU t ∧ a.lo < 2 ^ f ∧ a.hi < 2 ^ f ∧ mulGo f a b t = mulGo 64 p q ⟨0, 0⟩
def mulM (xi : List Int) (_ : List Bool) : Nat := (hdI xi).toNat + (hdI (tlI xi)).toNat
theorem mulI_start {p q : P2} (hp : UU p) (hq : UU q) : mulI p q [p.lo, p.hi, q.lo, q.hi, 0, 0, mulU p.lo q.lo, 0, mulU p.lo q.lo, 0, 0, 0] [] :=
  ⟨p, q, ⟨0, 0⟩, 64, rfl, hp, hq, ⟨by decide, by decide⟩, by have := isU_iff.1 hp.1; omega, by have := isU_iff.1 hp.2; omega, rfl⟩
section
variable {p q a b t : P2} {f : Nat}
/-- behind the last round -/
theorem mul_end0 (ha : UU a) (l1 : a.lo < 2 ^ f) (h1 : a.lo = 0) (h2 : a.hi = 0) (hg : mulGo f a b t = mulGo 64 p q ⟨0, 0⟩) : tAdd t ⟨mulU p.lo q.lo, 0⟩ = tMul p q := by
  unfold tMul
  rw [← hg]
  cases f with
  | zero => rfl
  | succ f => simp only [mulGo, decide_eq_true (And.intro h1 h2)]
theorem f_pos (ha : UU a) (l1 : a.lo < 2 ^ f) (l2 : a.hi < 2 ^ f) (h : ¬ (a.lo = 0 ∧ a.hi = 0)) : ∃ g, f = g + 1 := by
  cases f with
  | zero =>
    have := isU_iff.1 ha.1
    have := isU_iff.1 ha.2
    simp only [Int.pow_zero] at l1 l2
    omega
  | succ f => exact ⟨f, rfl⟩
theorem mul_end1 (ha : UU a) (l1 : a.lo < 2 ^ f) (l2 : a.hi < 2 ^ f) (h : ¬ (a.lo = 0 ∧ a.hi = 0)) (h1 : (tShl b 1).lo = 0) (h2 : (tShl b 1).hi = 0) (hg : mulGo f a b t = mulGo 64 p q ⟨0, 0⟩) : tAdd (mulAdd a b t) ⟨mulU p.lo q.lo, 0⟩ = tMul p q := by
  obtain ⟨g, rfl⟩ := f_pos ha l1 l2 h
  unfold tMul
  rw [← hg]
  simp only [mulGo, decide_eq_false h, decide_eq_true (And.intro h1 h2)]
theorem mul_next (ha : UU a) (hb : UU b) (ht : UU t) (l1 : a.lo < 2 ^ f) (l2 : a.hi < 2 ^ f) (h : ¬ (a.lo = 0 ∧ a.hi = 0)) (h1 : ¬ ((tShl b 1).lo = 0 ∧ (tShl b 1).hi = 0)) (hg : mulGo f a b t = mulGo 64 p q ⟨0, 0⟩) :
    mulI p q [(tShr a 1).lo, (tShr a 1).hi, (tShl b 1).lo, (tShl b 1).hi, 0, 0, mulU p.lo q.lo, 0, mulU p.lo q.lo, 0, (mulAdd a b t).lo, (mulAdd a b t).hi] [] ∧
    mulM [(tShr a 1).lo, (tShr a 1).hi, (tShl b 1).lo, (tShl b 1).hi, 0, 0, mulU p.lo q.lo, 0, mulU p.lo q.lo, 0, (mulAdd a b t).lo, (mulAdd a b t).hi] [] < mulM [a.lo, a.hi, b.lo, b.hi, 0, 0, mulU p.lo q.lo, 0, mulU p.lo q.lo, 0, t.lo, t.hi] [] := by
  obtain ⟨g, rfl⟩ := f_pos ha l1 l2 h
  have e1 : (tShr a 1).lo = a.lo / 2 := shr1 ha.1
  have e2 : (tShr a 1).hi = a.hi / 2 := shr1 ha.2
  have u1 := isU_iff.1 ha.1
  have u2 := isU_iff.1 ha.2
  rw [Int.pow_succ] at l1 l2
  refine ⟨⟨tShr a 1, tShl b 1, mulAdd a b t, g, rfl, tShr_uu ha, tShl_uu, mulAdd_uu hb ht, by rw [e1]; omega, by rw [e2]; omega, ?_⟩, ?_⟩
  · rw [← hg]
    simp only [mulGo, decide_eq_false h, decide_eq_false h1]
  · simp only [mulM, hdI, tlI, e1, e2]
    omega
theorem mulAdd1 (h : iEq (iBit .and .u64 a.lo 1) 1 = true) : mulAdd a b t = tAdd t ⟨0, b.hi⟩ := by unfold mulAdd; rw [h]
theorem mulAdd2 (h : iEq (iBit .and .u64 a.lo 1) 1 = false) (k : iEq (iBit .and .u64 a.hi 1) 1 = true) : mulAdd a b t = tAdd t ⟨0, orU b.lo b.hi⟩ := by unfold mulAdd; rw [h, k]
theorem mulAdd3 (h : iEq (iBit .and .u64 a.lo 1) 1 = false) (k : iEq (iBit .and .u64 a.hi 1) 1 = false) : mulAdd a b t = t := by unfold mulAdd; rw [h, k]
end
end Go.Proofs.YtafpbibpahjnhaaGreat.L05
namespace Go.Proofs.YtafpbibpahjnhaaGreat.L05
open Go Go.RowKit Go.Proofs.YtafpbibpahjnhaaGreat.Sx
theorem all_lp {xi : List Int} {xb : List Bool} {f : List Int → List Bool → (Nat → Value) → Tr} {p : V → Prop} (I : List Int → List Bool → Prop) (μ : List Int → List Bool → Nat) (h0 : I xi xb)
    (h : ∀ yi yb j, I yi yb → (f yi yb j).sat (inLoop I (μ yi yb) μ (fun l => match l with | .val v => p v | _ => False))) : (Tr.lp xi xb f).all p := ⟨I, μ, h0, h⟩
section
variable {a b : Bd} {c : Int}
theorem does_na {w : Bool} (hc : ¬ 12 < c) (h : bNone a = true) : doesB c w a b = nothing := by unfold doesB; rw [if_neg hc, h]; rfl
theorem does_nb {w : Bool} (hc : ¬ 12 < c) (h : bNone a = false) (k : bNone b = true) : doesB c w a b = nothing := by unfold doesB; rw [if_neg hc, h, k]; rfl
theorem does_w (hc : ¬ 12 < c) (h : bNone a = false) (k : bNone b = false) : doesB c true a b = wideB c a b := by unfold doesB; rw [if_neg hc, h, k]; rfl
theorem does_h (hc : ¬ 12 < c) (h : bNone a = false) (k : bNone b = false) : doesB c false a b = halfB c a b := by unfold doesB; rw [if_neg hc, h, k]; rfl
theorem half_na (hs : isSh c = false) (h : bNone (lowB a 32) = true) : halfB c a b = nothing := by unfold halfB; rw [hs, h]; rfl
theorem half_nb (hs : isSh c = false) (h : bNone (lowB a 32) = false) (k : bNone (lowB b 32) = true) : halfB c a b = nothing := by unfold halfB; rw [hs, h, k]; rfl
theorem half_op (hs : isSh c = false) (h : bNone (lowB a 32) = false) (k : bNone (lowB b 32) = false) : halfB c a b = lowB (if c = 11 then lowB b 32 else sync (opB c (lowB a 32) (lowB b 32))) 32 := by unfold halfB; rw [hs, h, k]; rfl
theorem half_sh (hs : isSh c = true) : halfB c a b = lowB (shiftB c (if c = 12 then longB (lowB a 32) else lowB a 32) (tLowN b.t 5).lo (iEq (tLowN b.t 5).hi 0)) 32 := by unfold halfB; rw [hs]
theorem wide_sh (hs : isSh c = true) : wideB c a b = shiftB c a (tLowN b.t 6).lo (iEq (tLowN b.t 6).hi 0) := by unfold wideB; rw [hs]
theorem wide_op (hs : isSh c = false) : wideB c a b = if c = 11 then b else sync (opB c a b) := by unfold wideB; rw [hs]
end
def isC (c : Int) : Bool := decide (0 ≤ c ∧ c < 16)
theorem isC_iff {c : Int} : isC c = true ↔ 0 ≤ c ∧ c < 16 := by simp [isC]
theorem rem_p {y : Int} (hy : isU y = true) (n : Int) : iRem y n = y % n := Int.tmod_eq_emod_of_nonneg (isU_iff.1 hy).1
theorem rem_neg {y : Int} (hy : isU y = true) (n : Int) (hn : 0 < n) : iNeg? (iRem y n) = false := neg_f.2 (by rw [rem_p hy]; exact Int.emod_nonneg _ (by omega))
theorem alu_leaf {Z N e : Int} {ρ : Nat → Nat} (h : Z = N) (he : 0 = e) : V.den ρ (.tup [.c (.si .u64 Z), .c (.li .i64 0)]) = V.den ρ (.tup [.c (.si .u64 N), .c (.si .i64 e)]) := by subst h he; rfl
theorem does_leaf {Z N : Bd} {e : Int} {ρ : Nat → Nat} (h : Z = N) (he : 0 = e) : V.den ρ (.tup [.agg [.si .u64 Z.1.1, .si .u64 Z.1.2, .si .u64 Z.2.1, .si .u64 Z.2.2, .si .i64 Z.3.1, .si .i64 Z.3.2, .si .u64 Z.4.1, .si .u64 Z.4.2, .si .i64 Z.5.1, .si .i64 Z.5.2], .c (.li .i64 0)]) = V.den ρ (.tup [.agg [.si .u64 N.1.1, .si .u64 N.1.2, .si .u64 N.2.1, .si .u64 N.2.2, .si .i64 N.3.1, .si .i64 N.3.2, .si .u64 N.4.1, .si .u64 N.4.2, .si .i64 N.5.1, .si .i64 N.5.2], .c (.si .i64 e)]) := by subst h he; rfl
theorem alu_leaf0 {N e : Int} {ρ : Nat → Nat} (h : 0 = N) (he : 0 = e) : V.den ρ (.tup [.c (.li .u64 0), .c (.li .i64 0)]) = V.den ρ (.tup [.c (.si .u64 N), .c (.si .i64 e)]) := by subst h he; rfl
end Go.Proofs.YtafpbibpahjnhaaGreat.L05
