/- The product of numbers of whose bits some are known, in plain Lean. A text of the session's own. -/
import Derived.Test.YtafpbibpahjnhaaGreatL05L
namespace Go.Proofs.YtafpbibpahjnhaaGreat.L05
open Go Go.RowKit Go.Proofs.YtafpbibpahjnhaaGreat.Sx
set_option linter.unusedVariables false

/-- what a round adds -/
def mulAdd (a b t : P2) : P2 :=
  match iEq (iBit .and .u64 a.lo 1) 1, iEq (iBit .and .u64 a.hi 1) 1 with
  | true, _ => tAdd t ⟨0, b.hi⟩
  | false, true => tAdd t ⟨0, orU b.lo b.hi⟩
  | false, false => t
/-- the rounds, as many as there may be -/
def mulGo : Nat → P2 → P2 → P2 → P2
  | 0, _, _, t => t
  | f + 1, a, b, t => match decide (a.lo = 0 ∧ a.hi = 0) with
    | true => t
    | false => match decide ((tShl b 1).lo = 0 ∧ (tShl b 1).hi = 0) with
      | true => mulAdd a b t
      | false => mulGo f (tShr a 1) (tShl b 1) (mulAdd a b t)
def mulU (x y : Int) : Int := iMul .u64 x y
def tMul (a b : P2) : P2 := tAdd (mulGo 64 a b ⟨0, 0⟩) ⟨mulU a.lo b.lo, 0⟩

def M64 : Int := 18446744073709551616
theorem addU_mod (x y : Int) : addU x y = (x + y) % M64 := by show IntKind.wrap .u64 (x + y) = _; rw [IntKind.wrap_u64]; rfl
theorem subU_mod (x y : Int) : subU x y = (x - y) % M64 := by show IntKind.wrap .u64 (x - y) = _; rw [IntKind.wrap_u64]; rfl
theorem mulU_mod (x y : Int) : mulU x y = (x * y) % M64 := by show IntKind.wrap .u64 (x * y) = _; rw [IntKind.wrap_u64]; rfl
theorem ht_zero {x : Int} (hx : isU x = true) (h : HT ⟨0, 0⟩ x) : x = 0 := by
  refine tb_ext hx (by decide) fun i => ?_
  have := h i
  simp only [tb_zero] at this ⊢
  simpa using this
theorem bit0 {x : Int} (hx : isU x = true) : iEq (iBit .and .u64 x 1) 1 = tb x 0 := by
  have e : iBit .and .u64 x 1 = ((x.toNat &&& 1 : Nat) : Int) := and_nat hx (by decide)
  have h1 : x.toNat &&& 1 = x.toNat % 2 := Nat.and_one_is_mod _
  have h2 : tb x 0 = decide (x.toNat % 2 = 1) := by rw [tb, Nat.testBit_zero]
  rw [e, h1, h2]
  have : x.toNat % 2 = 0 ∨ x.toNat % 2 = 1 := by omega
  rcases this with h | h <;> rw [h] <;> decide
theorem tb_one (i : Nat) : tb 1 i = decide (i = 0) := by
  cases i with
  | zero => decide
  | succ i => rw [tb, Nat.testBit_succ]; simp
/-- A round's part of the product. -/
theorem mulAdd_has {a b t : P2} {x y s : Int} (ha : TM a) (hb : TM b) (ht : TM t) (hx : isU x = true) (hy : isU y = true) (hs : isU s = true) (ka : HT a x) (kb : HT b y) (kt : HT t s) :
    TM (mulAdd a b t) ∧ ∃ d, isU d = true ∧ HT (mulAdd a b t) (addU s d) ∧ d = ((x % 2) * y - (a.lo % 2) * b.lo) % M64 := by
  obtain ⟨⟨b1, b2⟩, b3⟩ := hb
  have m2 : ∀ {z : Int}, isU z = true → z % 2 = if tb z 0 = true then 1 else 0 := by
    intro z hz
    obtain ⟨h0, h1⟩ := isU_iff.1 hz
    rw [tb, Nat.testBit_zero]
    by_cases h : z.toNat % 2 = 1
    · rw [decide_eq_true h, if_pos rfl]; omega
    · rw [decide_eq_false h, if_neg (by decide)]; omega
  have ka0 := ka 0
  unfold mulAdd
  rw [bit0 ha.1.1, bit0 ha.1.2]
  rw [m2 hx, m2 ha.1.1]
  cases e1 : tb a.lo 0 with
  | true =>
    rw [e1] at ka0
    have ex : tb x 0 = true := by cases e : tb x 0 <;> rw [e] at ka0 <;> simp_all
    rw [ex]
    have hd : subU y b.lo = andU y b.hi := by
      have hdis : ∀ i, (tb (andU y b.hi) i && tb b.lo i) = false := fun i => by
        rw [tb_and hy b2]
        have := b3 i
        generalize tb y i = p at *
        generalize tb b.hi i = q at *
        generalize tb b.lo i = r at *
        revert p q r
        decide
      have e2 : addU (andU y b.hi) b.lo = y := by
        rw [add_or (and_u hy b2) b1 hdis]
        refine tb_ext (or_u (and_u hy b2) b1) hy fun i => ?_
        rw [tb_or (and_u hy b2) b1, tb_and hy b2, ← kb i]
        cases tb y i <;> cases tb b.hi i <;> rfl
      obtain ⟨h0, h1⟩ := isU_iff.1 (and_u hy b2)
      obtain ⟨g0, g1⟩ := isU_iff.1 b1
      rw [addU_mod] at e2
      have hM : M64 = 18446744073709551616 := rfl
      generalize andU y b.hi = z at *
      rw [subU_mod, hM]
      rw [hM] at e2
      omega
    have ht2 : TM ⟨0, b.hi⟩ := ⟨⟨(by decide : isU 0 = true), b2⟩, fun i => by show (tb 0 i && _) = false; rw [tb_zero]; rfl⟩
    have k2 : HT ⟨0, b.hi⟩ (andU y b.hi) := fun i => by
      show (tb (andU y b.hi) i && !tb b.hi i) = tb 0 i
      rw [tb_and hy b2, tb_zero]
      cases tb y i <;> cases tb b.hi i <;> rfl
    refine ⟨tAdd_tm ht ht2, _, and_u hy b2, tAdd_has ht ht2 hs (and_u hy b2) kt k2, ?_⟩
    rw [← hd, subU_mod]
    simp
  | false =>
    cases e2 : tb a.hi 0 with
    | true =>
      have hv := or_u b1 b2
      have ht2 : TM ⟨0, orU b.lo b.hi⟩ := ⟨⟨(by decide : isU 0 = true), hv⟩, fun i => by show (tb 0 i && _) = false; rw [tb_zero]; rfl⟩
      simp only
      by_cases ex : tb x 0 = true
      · have k2 : HT ⟨0, orU b.lo b.hi⟩ y := fun i => by
          show (tb y i && !tb (orU b.lo b.hi) i) = tb 0 i
          rw [tb_or b1 b2, tb_zero, ← kb i]
          cases tb y i <;> cases tb b.hi i <;> rfl
        refine ⟨tAdd_tm ht ht2, y, hy, tAdd_has ht ht2 hs hy kt k2, ?_⟩
        obtain ⟨h0, h1⟩ := isU_iff.1 hy
        rw [if_pos ex]
        have : M64 = 18446744073709551616 := rfl
        rw [this]
        simp
        omega
      · have k2 : HT ⟨0, orU b.lo b.hi⟩ 0 := fun i => by
          show (tb 0 i && !tb (orU b.lo b.hi) i) = tb 0 i
          rw [tb_zero]; rfl
        refine ⟨tAdd_tm ht ht2, 0, by decide, tAdd_has ht ht2 hs (by decide) kt k2, ?_⟩
        rw [if_neg ex]
        simp
    | false =>
      have ex : tb x 0 = false := by rw [e1, e2] at ka0; cases e : tb x 0 <;> rw [e] at ka0 <;> simp_all
      refine ⟨ht, 0, by decide, ?_, ?_⟩
      · have : addU s 0 = s := by
          obtain ⟨h0, h1⟩ := isU_iff.1 hs
          rw [addU_mod]
          have : M64 = 18446744073709551616 := rfl
          rw [this]
          omega
        rw [this]
        exact kt
      · rw [ex]; simp
/-- What is left of the product. -/
def rest (a b : P2) (x y : Int) : Int := (x * y - a.lo * b.lo) % M64
theorem shr1 {x : Int} (hx : isU x = true) : iShr .u64 x 1 = x / 2 := by
  obtain ⟨h0, h1⟩ := isU_iff.1 hx
  show x.fdiv (2 ^ min (1 : Int).toNat 64) = _
  exact Int.fdiv_eq_ediv_of_nonneg _ (by decide)
theorem shl1 (x : Int) : iShl .u64 x 1 = (x * 2) % M64 := by
  show IntKind.wrap .u64 (x * 2 ^ min (1 : Int).toNat 64) = _
  rw [IntKind.wrap_u64]
  rfl
theorem rest_step (a b : P2) (x y : Int) (hx : isU x = true) (hy : isU y = true) (ha : isU a.lo = true) :
    rest a b x y = (((x % 2) * y - (a.lo % 2) * b.lo) % M64 + rest (tShr a 1) (tShl b 1) (iShr .u64 x 1) (iShl .u64 y 1)) % M64 := by
  unfold rest
  show _ = (_ + (iShr .u64 x 1 * iShl .u64 y 1 - iShr .u64 a.lo 1 * iShl .u64 b.lo 1) % M64) % M64
  rw [shr1 hx, shr1 ha, shl1, shl1]
  have e1 : x = 2 * (x / 2) + x % 2 := by omega
  have e2 : a.lo = 2 * (a.lo / 2) + a.lo % 2 := by omega
  generalize x / 2 = p at *
  generalize x % 2 = q at *
  generalize a.lo / 2 = r at *
  generalize a.lo % 2 = t at *
  rw [e1, e2]
  have f1 : (y * 2) % M64 = y * 2 - M64 * (y * 2 / M64) := by have := Int.emod_add_mul_ediv (y * 2) M64; omega
  have f2 : (b.lo * 2) % M64 = b.lo * 2 - M64 * (b.lo * 2 / M64) := by have := Int.emod_add_mul_ediv (b.lo * 2) M64; omega
  rw [f1, f2, ← Int.add_emod]
  have : (2 * p + q) * y - (2 * r + t) * b.lo = q * y - t * b.lo + (p * (y * 2 - M64 * (y * 2 / M64)) - r * (b.lo * 2 - M64 * (b.lo * 2 / M64))) + M64 * (p * (y * 2 / M64) - r * (b.lo * 2 / M64)) := by
    simp only [Int.add_mul, Int.mul_sub]
    have g1 : p * (y * 2) = 2 * p * y := by rw [Int.mul_comm y 2, ← Int.mul_assoc, Int.mul_comm p 2]
    have g2 : r * (b.lo * 2) = 2 * r * b.lo := by rw [Int.mul_comm b.lo 2, ← Int.mul_assoc, Int.mul_comm r 2]
    have g3 : p * (M64 * (y * 2 / M64)) = M64 * (p * (y * 2 / M64)) := by rw [← Int.mul_assoc, Int.mul_comm p, Int.mul_assoc]
    have g4 : r * (M64 * (b.lo * 2 / M64)) = M64 * (r * (b.lo * 2 / M64)) := by rw [← Int.mul_assoc, Int.mul_comm r, Int.mul_assoc]
    rw [g1, g2, g3, g4]
    omega
  rw [this, Int.add_mul_emod_self_left]
theorem mulGo_has : ∀ (f : Nat) {a b t : P2} {x y s : Int}, TM a → TM b → TM t → isU x = true → isU y = true → isU s = true → HT a x → HT b y → HT t s → a.lo < 2 ^ f → a.hi < 2 ^ f →
    TM (mulGo f a b t) ∧ HT (mulGo f a b t) (addU s (rest a b x y)) := by
  have hM : M64 = 18446744073709551616 := rfl
  have zero : ∀ {a b t : P2} {x y s : Int}, TM t → isU x = true → isU s = true → HT a x → HT t s → a.lo = 0 → a.hi = 0 → TM t ∧ HT t (addU s (rest a b x y)) := by
    intro a b t x y s ht hx hs ka kt h1 h2
    have hz : HT ⟨0, 0⟩ x := by
      have : a = ⟨0, 0⟩ := by cases a; simp_all
      rw [this] at ka; exact ka
    have := ht_zero hx hz
    subst this
    have e : rest a b 0 y = 0 := by unfold rest; rw [h1]; simp
    obtain ⟨h0, h1⟩ := isU_iff.1 hs
    have e2 : addU s 0 = s := by rw [addU_mod, hM]; omega
    rw [e, e2]
    exact ⟨ht, kt⟩
  intro f
  induction f with
  | zero =>
    intro a b t x y s ha hb ht hx hy hs ka kb kt l1 l2
    obtain ⟨h0, _⟩ := isU_iff.1 ha.1.1
    obtain ⟨g0, _⟩ := isU_iff.1 ha.1.2
    exact zero ht hx hs ka kt (by omega) (by omega)
  | succ f ih =>
    intro a b t x y s ha hb ht hx hy hs ka kb kt l1 l2
    simp only [mulGo]
    split
    · rename_i h
      have h := of_decide_eq_true h
      exact zero ht hx hs ka kt h.1 h.2
    · obtain ⟨ht', d, hd, kd, ed⟩ := mulAdd_has ha hb ht hx hy hs ka kb kt
      obtain ⟨ha1, ka1⟩ := tShr_has ha hx ka 1
      obtain ⟨hb1, kb1⟩ := tShl_has hb hy kb 1
      have er := rest_step a b x y hx hy ha.1.1
      rw [← ed] at er
      have hr : ∀ a b x y, isU (rest a b x y) = true := fun a b x y => by rw [isU_iff]; unfold rest; rw [hM]; omega
      split
      · rename_i h
        have h := of_decide_eq_true h
        have hy0 : iShl .u64 y 1 = 0 := by
          have : tShl b 1 = ⟨0, 0⟩ := by
            have e : tShl b 1 = ⟨(tShl b 1).lo, (tShl b 1).hi⟩ := rfl
            rw [e, h.1, h.2]
          rw [this] at kb1
          exact ht_zero (shl_u y 1) kb1
        have e0 : rest (tShr a 1) (tShl b 1) (iShr .u64 x 1) (iShl .u64 y 1) = 0 := by unfold rest; rw [hy0, h.1]; simp
        obtain ⟨d0, d1⟩ := isU_iff.1 hd
        have e : rest a b x y = d := by rw [er, e0, hM]; omega
        rw [e]
        exact ⟨ht', kd⟩
      · have h1 : (tShr a 1).lo < 2 ^ f := by
          show iShr .u64 a.lo 1 < _
          rw [shr1 ha.1.1]
          rw [Int.pow_succ] at l1
          omega
        have h2 : (tShr a 1).hi < 2 ^ f := by
          show iShr .u64 a.hi 1 < _
          rw [shr1 ha.1.2]
          rw [Int.pow_succ] at l2
          omega
        obtain ⟨g1, g2⟩ := ih ha1 hb1 ht' (shr_u hx 1) (shl_u y 1) (add_u hs hd) ka1 kb1 kd h1 h2
        refine ⟨g1, ?_⟩
        have e : addU s (rest a b x y) = addU (addU s d) (rest (tShr a 1) (tShl b 1) (iShr .u64 x 1) (iShl .u64 y 1)) := by
          rw [er]
          simp only [addU_mod, hM]
          omega
        rw [e]
        exact g2
theorem tMul_has {a b : P2} {x y : Int} (ha : TM a) (hb : TM b) (hx : isU x = true) (hy : isU y = true) (ka : HT a x) (kb : HT b y) : TM (tMul a b) ∧ HT (tMul a b) (mulU x y) := by
  have hM : M64 = 18446744073709551616 := rfl
  have hz : TM ⟨0, 0⟩ := ⟨⟨by decide, by decide⟩, fun i => by show (tb 0 i && tb 0 i) = false; rw [tb_zero]; rfl⟩
  have kz : HT ⟨0, 0⟩ 0 := fun i => by show (tb 0 i && !tb 0 i) = tb 0 i; rw [tb_zero]; rfl
  obtain ⟨_, p1⟩ := isU_iff.1 ha.1.1
  obtain ⟨_, p2⟩ := isU_iff.1 ha.1.2
  obtain ⟨g1, g2⟩ := mulGo_has 64 ha hb hz hx hy (by decide) ka kb kz (by simpa using p1) (by simpa using p2)
  have hp : isU (mulU a.lo b.lo) = true := by rw [isU_iff, mulU_mod, hM]; omega
  have hr : isU (addU 0 (rest a b x y)) = true := by rw [isU_iff, addU_mod, hM]; omega
  have hc : TM ⟨mulU a.lo b.lo, 0⟩ := ⟨⟨hp, (by decide : isU 0 = true)⟩, fun i => by show (_ && tb 0 i) = false; rw [tb_zero]; simp⟩
  have kc : HT ⟨mulU a.lo b.lo, 0⟩ (mulU a.lo b.lo) := fun i => by show (_ && !tb 0 i) = _; rw [tb_zero]; simp
  refine ⟨tAdd_tm g1 hc, ?_⟩
  have := tAdd_has g1 hc hr hp g2 kc
  have e : addU (addU 0 (rest a b x y)) (mulU a.lo b.lo) = mulU x y := by
    simp only [addU_mod, mulU_mod, rest, hM]
    omega
  rw [e] at this
  exact this
end Go.Proofs.YtafpbibpahjnhaaGreat.L05
