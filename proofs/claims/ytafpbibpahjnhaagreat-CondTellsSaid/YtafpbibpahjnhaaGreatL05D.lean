/- The eight steps of a round (layer 5): each keeps every number, and makes nothing wider; plain Lean. A text of the session's own. -/
import Derived.Test.YtafpbibpahjnhaaGreatL05C
namespace Go.Proofs.YtafpbibpahjnhaaGreat.L05
open Go Go.RowKit Go.Proofs.YtafpbibpahjnhaaGreat.Sx
set_option linter.unusedVariables false

def tLow (t : P2) : P2 := ⟨andU t.lo 4294967295, andU t.hi 4294967295⟩

def st1 (b : Bd) : Bd × Bool := ({ b with
  u := pMeet b.u ⟨b.t.lo, orU b.t.lo b.t.hi⟩
  s := pMeet b.s ⟨sgn (orU b.t.lo (andU b.t.hi 9223372036854775808)), sgn (orU b.t.lo (notU b.t.hi 9223372036854775808))⟩ }, true)
def st2 (b : Bd) : Bd × Bool := ({ b with
  u := pMeet b.u (pBare (pMeet b.s (pSign b.u)))
  s := pMeet b.s (pSign b.u) }, true)
def meetT (b : Bd) (t : P2) : Bd × Bool := match tMeetIs b.t t with | true => ({ b with t := tMeet b.t t }, true) | false => (b, false)
def st3 (b : Bd) : Bd × Bool := meetT b (tRange b.u.lo b.u.hi)
def st4 (b : Bd) : Bd × Bool := ({ b with
  w := pMeet b.w ⟨(tLow b.t).lo, orU (tLow b.t).lo (tLow b.t).hi⟩
  v := pMeet b.v ⟨sg32 (orU (tLow b.t).lo (andU (tLow b.t).hi 2147483648)), sg32 (orU (tLow b.t).lo (notU (tLow b.t).hi 2147483648))⟩ }, true)
def st5 (b : Bd) : Bd × Bool := if b.w.lo / 2147483648 = b.w.hi / 2147483648 then ({ b with v := pMeet b.v ⟨sg32 b.w.lo, sg32 b.w.hi⟩ }, true) else (b, true)
def st6 (b : Bd) : Bd × Bool := if (b.v.lo < 0 ↔ b.v.hi < 0) then ({ b with w := pMeet b.w ⟨b.v.lo % 4294967296, b.v.hi % 4294967296⟩ }, true) else (b, true)
def st7 (b : Bd) : Bd × Bool := meetT b ⟨(tRange b.w.lo b.w.hi).lo, orU (tRange b.w.lo b.w.hi).hi 18446744069414584320⟩
def st8 (b : Bd) : Bd × Bool := if b.u.lo / 4294967296 = b.u.hi / 4294967296 then
    ({ b with
      w := pMeet b.w ⟨b.u.lo % 4294967296, b.u.hi % 4294967296⟩
      u := pMeet b.u ⟨orU (andU b.u.lo 18446744069414584320) (pMeet b.w ⟨b.u.lo % 4294967296, b.u.hi % 4294967296⟩).lo, orU (andU b.u.lo 18446744069414584320) (pMeet b.w ⟨b.u.lo % 4294967296, b.u.hi % 4294967296⟩).hi⟩ }, true)
  else (b, true)

/-- What each step keeps. -/
structure StepOK (f : Bd → Bd × Bool) : Prop where
  inv : ∀ b, Inv5 b → Inv5 (f b).1
  sub : ∀ b, Inv5 b → bNone (f b).1 = false → Sub (f b).1 b
  has : ∀ b x, Inv5 b → isU x = true → HasB b x → (f b).2 = true ∧ HasB (f b).1 x

theorem none_f {b : Bd} : bNone b = false ↔ b.u.lo ≤ b.u.hi ∧ b.s.lo ≤ b.s.hi ∧ b.w.lo ≤ b.w.hi ∧ b.v.lo ≤ b.v.hi := by
  simp only [bNone, decide_eq_false_iff_not]; omega
theorem none_t {b : Bd} : bNone b = true ↔ b.u.hi < b.u.lo ∨ b.s.hi < b.s.lo ∨ b.w.hi < b.w.lo ∨ b.v.hi < b.v.lo := by
  simp only [bNone, decide_eq_true_eq]
theorem HasB.some {b : Bd} {x : Int} (h : HasB b x) : bNone b = false := by
  rw [none_f]
  have := h.u; have := h.s; have := h.w; have := h.v
  unfold Mid at *; omega

theorem top64 : isU 9223372036854775808 = true := by decide
theorem top32 : isU 2147483648 = true := by decide
theorem low32 : isU 4294967295 = true := by decide
theorem high32 : isU 18446744069414584320 = true := by decide

theorem tb_low32 (i : Nat) : tb 4294967295 i = decide (i < 32) := by
  have h := (ones_u (k := 32) (by omega)).2 i
  rw [show (2 : Int) ^ 32 - 1 = 4294967295 by simp] at h
  exact h
theorem tb_high32 (i : Nat) : tb 18446744069414584320 i = (decide (i < 64) && !decide (i < 32)) := by
  have e : (18446744069414584320 : Int) = notU 18446744073709551615 4294967295 := by decide
  have h := (ones_u (k := 64) (by omega)).2 i
  rw [e, tb_not (by decide) low32, tb_low32]
  rw [show (2 : Int) ^ 64 - 1 = 18446744073709551615 by simp] at h
  rw [h]
theorem and_low {x : Int} (hx : isU x = true) : andU x 4294967295 = x % 4294967296 := and_low32 x (isU_iff.1 hx).1 (isU_iff.1 hx).2

theorem sgn_eq {z : Int} (hz : isU z = true) : sgn z = if 9223372036854775808 ≤ z then z % 9223372036854775808 - 9223372036854775808 else z % 9223372036854775808 := by
  rw [isU_iff] at hz; unfold sgn; split <;> split <;> omega
theorem sg32_eq {z : Int} (h0 : 0 ≤ z) (h1 : z < 4294967296) : sg32 z = if 2147483648 ≤ z then z % 2147483648 - 2147483648 else z % 2147483648 := by
  unfold sg32; split <;> split <;> omega
theorem sg32_mod (x : Int) : sg32 (x % 4294967296) = sg32 x := by unfold sg32; rw [Int.emod_emod_of_dvd x (Int.dvd_refl _)]

theorem st1_ok : StepOK st1 := by
  refine ⟨fun b h => ?_, fun b h hn => ?_, fun b x h hx k => ?_⟩
  · have ho := or_u h.t.1.1 h.t.1.2
    exact ⟨h.t, meet_uu2 h.u ⟨h.t.1.1, ho⟩, meet_ii h.s (sgn_ii (or_u h.t.1.1 (and_u h.t.1.2 top64)) (or_u h.t.1.1 (not_u h.t.1.2 top64))), h.w, h.v⟩
  · obtain ⟨n1, n2, n3, n4⟩ := none_f.1 hn
    exact ⟨TI.refl h.t, meet_nar n1, meet_nar n2, Nar.refl _, Nar.refl _⟩
  · have f1 : Mid ⟨b.t.lo, orU b.t.lo b.t.hi⟩ x := ⟨ht_low (t := b.t) h.t.1 hx k.t, ht_high (t := b.t) h.t.1 hx k.t⟩
    suffices f2 : Mid ⟨sgn (orU b.t.lo (andU b.t.hi 9223372036854775808)), sgn (orU b.t.lo (notU b.t.hi 9223372036854775808))⟩ (sgn x) from ⟨rfl, ⟨k.t, meet_mid k.u f1, meet_mid k.s f2, k.w, k.v⟩⟩
    have e := sk_ends 63 9223372036854775808 (by simp) top64 h.t.1 hx k.t (isU_iff.1 h.t.1.1).2 (isU_iff.1 h.t.1.2).2 (isU_iff.1 hx).2
    unfold Mid
    rw [sgn_eq hx, sgn_eq (or_u h.t.1.1 (and_u h.t.1.2 top64)), sgn_eq (or_u h.t.1.1 (not_u h.t.1.2 top64))]
    exact e

theorem sign_ii {a : P2} (h : UU a) : II (pSign a) := by
  unfold UU at h; rw [isU_iff, isU_iff] at h; unfold II pSign sgn; split
  · decide
  · split
    · decide
    · dsimp only; split <;> split <;> omega
theorem bare_uu {a : P2} (h : II a) : UU (pBare a) := by
  unfold II at h; unfold UU pBare uns; rw [isU_iff, isU_iff]; split
  · decide
  · split
    · decide
    · dsimp only; split <;> split <;> omega
theorem sign_mid {a : P2} {x : Int} (h : UU a) (hx : isU x = true) (k : Mid a x) : Mid (pSign a) (sgn x) := by
  unfold UU at h; rw [isU_iff, isU_iff] at h; rw [isU_iff] at hx; unfold Mid at *; unfold pSign sgn
  rw [if_neg (by omega)]
  split
  · dsimp only; split <;> omega
  · dsimp only; split <;> split <;> split <;> omega
theorem bare_mid {a : P2} {x : Int} (h : II a) (hx : isU x = true) (k : Mid a (sgn x)) : Mid (pBare a) x := by
  unfold II at h; rw [isU_iff] at hx; unfold Mid at *; unfold pBare uns; unfold sgn at k
  rw [if_neg (by split at k <;> omega)]
  split
  · dsimp only; omega
  · dsimp only; split at k <;> split <;> split <;> omega

theorem st2_ok : StepOK st2 := by
  refine ⟨fun b h => ?_, fun b h hn => ?_, fun b x h hx k => ?_⟩
  · have hs := meet_ii h.s (sign_ii h.u)
    exact ⟨h.t, meet_uu2 h.u (bare_uu hs), hs, h.w, h.v⟩
  · obtain ⟨n1, n2, n3, n4⟩ := none_f.1 hn
    exact ⟨TI.refl h.t, meet_nar n1, meet_nar n2, Nar.refl _, Nar.refl _⟩
  · have hs := meet_ii h.s (sign_ii h.u)
    have ms := meet_mid k.s (sign_mid h.u hx k.u)
    exact ⟨rfl, k.t, meet_mid k.u (bare_mid hs hx ms), ms, k.w, k.v⟩

theorem meetT_ok (g : Bd → P2) (hg : ∀ b, Inv5 b → TM (g b)) (hh : ∀ b x, Inv5 b → isU x = true → HasB b x → HT (g b) x) : StepOK fun b => meetT b (g b) := by
  refine ⟨fun b h => ?_, fun b h hn => ?_, fun b x h hx k => ?_⟩
  · unfold meetT
    split
    · exact ⟨meet_tm h.t.1 (hg b h).1, h.u, h.s, h.w, h.v⟩
    · exact h
  · unfold meetT
    split
    · rename_i e
      exact ⟨meet_ti1 h.t (hg b h) e, Nar.refl _, Nar.refl _, Nar.refl _, Nar.refl _⟩
    · exact Sub.refl h.t
  · obtain ⟨e, e2⟩ := meet_has h.t.1 (hg b h).1 k.t (hh b x h hx k)
    unfold meetT
    rw [e]
    exact ⟨rfl, e2, k.u, k.s, k.w, k.v⟩

theorem st3_ok : StepOK st3 := meetT_ok (fun b => tRange b.u.lo b.u.hi) (fun b h => range_tm h.u.1 h.u.2) fun b x h hx k => range_has h.u.1 h.u.2 hx k.u.1 k.u.2

theorem low_uu {t : P2} (h : UU t) : UU (tLow t) := ⟨and_u h.1 low32, and_u h.2 low32⟩
theorem low_lt {x : Int} (hx : isU x = true) : 0 ≤ andU x 4294967295 ∧ andU x 4294967295 < 4294967296 := by rw [and_low hx]; omega
theorem mod_u {x : Int} (hx : isU x = true) : isU (x % 4294967296) = true := by rw [isU_iff] at *; omega
theorem tb_mod {x : Int} (hx : isU x = true) (i : Nat) : tb (x % 4294967296) i = (tb x i && decide (i < 32)) := by
  rw [← and_low hx, tb_and hx low32, tb_low32]
theorem low_ht {t : P2} {x : Int} (h : UU t) (hx : isU x = true) (k : HT t x) : HT (tLow t) (x % 4294967296) := by
  intro i
  simp only [tLow, tb_mod hx, tb_and h.1 low32, tb_and h.2 low32, tb_low32, ← k i]
  cases tb x i <;> cases tb t.hi i <;> cases decide (i < 32) <;> rfl
theorem or_lt {x y : Int} (hx : isU x = true) (hy : isU y = true) (x1 : x < 4294967296) (y1 : y < 4294967296) : orU x y < 4294967296 := by
  rw [or_nat hx hy]
  have : x.toNat ||| y.toNat < 2 ^ 32 := Nat.or_lt_two_pow (by omega) (by omega)
  omega
theorem and_lt {x y : Int} (hx : isU x = true) (hy : isU y = true) (x1 : x < 4294967296) : andU x y < 4294967296 := by
  rw [and_nat hx hy]
  have : x.toNat &&& y.toNat ≤ x.toNat := Nat.and_le_left
  have := (isU_iff.1 hx).1
  omega
theorem not_lt {x y : Int} (hx : isU x = true) (hy : isU y = true) (x1 : x < 4294967296) : notU x y < 4294967296 := by
  rw [not_nat hx hy]
  have : x.toNat &&& (2 ^ 64 - 1 - y.toNat) ≤ x.toNat := Nat.and_le_left
  have := (isU_iff.1 hx).1
  omega

theorem st4_ok : StepOK st4 := by
  refine ⟨fun b h => ?_, fun b h hn => ?_, fun b x h hx k => ?_⟩
  · have hl := low_uu h.t.1
    have l1 := low_lt h.t.1.1
    have l2 := low_lt h.t.1.2
    have ho := or_u hl.1 hl.2
    have o2 := or_lt hl.1 hl.2 l1.2 l2.2
    exact ⟨h.t, h.u, h.s, meet_ww h.w ⟨l1, (isU_iff.1 ho).1, o2⟩, meet_vv h.v (sg32_vv _ _)⟩
  · obtain ⟨n1, n2, n3, n4⟩ := none_f.1 hn
    exact ⟨TI.refl h.t, Nar.refl _, Nar.refl _, meet_nar n3, meet_nar n4⟩
  · have hl := low_uu h.t.1
    have l1 := low_lt h.t.1.1
    have l2 := low_lt h.t.1.2
    have hk := low_ht h.t.1 hx k.t
    have hm := mod_u hx
    have f1 : Mid ⟨(tLow b.t).lo, orU (tLow b.t).lo (tLow b.t).hi⟩ (x % 4294967296) := ⟨ht_low (t := tLow b.t) hl hm hk, ht_high (t := tLow b.t) hl hm hk⟩
    suffices f2 : Mid ⟨sg32 (orU (tLow b.t).lo (andU (tLow b.t).hi 2147483648)), sg32 (orU (tLow b.t).lo (notU (tLow b.t).hi 2147483648))⟩ (sg32 x) from ⟨rfl, ⟨k.t, k.u, k.s, meet_mid k.w f1, meet_mid k.v f2⟩⟩
    have e := sk_ends 31 2147483648 (by simp) top32 hl hm hk l1.2 l2.2 (by omega)
    have a1 := and_u hl.2 top32
    have a2 := not_u hl.2 top32
    have o1 := or_u hl.1 a1
    have o2 := or_u hl.1 a2
    have o3 := or_lt hl.1 a1 l1.2 (and_lt hl.2 top32 l2.2)
    have o4 := or_lt hl.1 a2 l1.2 (not_lt hl.2 top32 l2.2)
    unfold Mid
    rw [← sg32_mod x, sg32_eq (by omega) (by omega : x % 4294967296 < 4294967296), sg32_eq (isU_iff.1 o1).1 o3, sg32_eq (isU_iff.1 o2).1 o4]
    exact e

theorem st5_ok : StepOK st5 := by
  refine ⟨fun b h => ?_, fun b h hn => ?_, fun b x h hx k => ?_⟩
  · unfold st5
    split
    · exact ⟨h.t, h.u, h.s, h.w, meet_vv h.v (sg32_vv _ _)⟩
    · exact h
  · unfold st5 at *
    split at hn
    · rename_i e
      rw [if_pos e]
      obtain ⟨n1, n2, n3, n4⟩ := none_f.1 hn
      exact ⟨TI.refl h.t, Nar.refl _, Nar.refl _, Nar.refl _, meet_nar n4⟩
    · rename_i e
      rw [if_neg e]
      exact Sub.refl h.t
  · unfold st5
    split
    · rename_i e
      refine ⟨rfl, k.t, k.u, k.s, k.w, meet_mid k.v ?_⟩
      have hw := h.w
      have kw := k.w
      unfold WW at hw
      unfold Mid at *
      dsimp only
      rw [← sg32_mod x]
      unfold sg32
      split <;> split <;> split <;> omega
    · exact ⟨rfl, k⟩

theorem st6_ok : StepOK st6 := by
  refine ⟨fun b h => ?_, fun b h hn => ?_, fun b x h hx k => ?_⟩
  · unfold st6
    split
    · refine ⟨h.t, h.u, h.s, meet_ww h.w ?_, h.v⟩
      unfold WW; dsimp only; omega
    · exact h
  · unfold st6 at *
    split at hn
    · rename_i e
      rw [if_pos e]
      obtain ⟨n1, n2, n3, n4⟩ := none_f.1 hn
      exact ⟨TI.refl h.t, Nar.refl _, Nar.refl _, meet_nar n3, Nar.refl _⟩
    · rename_i e
      rw [if_neg e]
      exact Sub.refl h.t
  · unfold st6
    split
    · rename_i e
      refine ⟨rfl, k.t, k.u, k.s, meet_mid k.w ?_, k.v⟩
      have hv := h.v
      have kv := k.v
      unfold VV at hv
      unfold Mid sg32 at *
      dsimp only
      split at kv <;> omega
    · exact ⟨rfl, k⟩

theorem st7_ok : StepOK st7 := by
  refine meetT_ok (fun b => ⟨(tRange b.w.lo b.w.hi).lo, orU (tRange b.w.lo b.w.hi).hi 18446744069414584320⟩) (fun b h => ?_) fun b x h hx k => ?_
  all_goals
    have hw := h.w
    unfold WW at hw
    have u1 : isU b.w.lo = true := isU_iff.2 (by omega)
    have u2 : isU b.w.hi = true := isU_iff.2 (by omega)
    have hr := range_tm u1 u2
    have high0 : ∀ i, 32 ≤ i → tb (tRange b.w.lo b.w.hi).lo i = false := by
      intro i hi
      unfold tRange
      split
      · exact tb_zero i
      · have hk := bitLen_le _ (nat_lt (xor_u u1 u2))
        simp only [tOf, tb_not u1 (ones_u hk).1]
        have : tb b.w.lo i = false := by
          rw [tb]
          refine Nat.testBit_lt_two_pow (Nat.lt_of_lt_of_le (m := 2 ^ 32) ?_ (Nat.pow_le_pow_right (by omega) hi))
          omega
        rw [this]; rfl
  · refine ⟨⟨hr.1.1, or_u hr.1.2 high32⟩, fun i => ?_⟩
    simp only [tb_or hr.1.2 high32, tb_high32]
    have h1 := hr.2 i
    by_cases hi : i < 32
    · simp only [hi, decide_true, Bool.not_true, Bool.and_false, Bool.or_false]; exact h1
    · rw [high0 i (by omega)]; rfl
  · have kw := k.w
    have hm := mod_u hx
    have hr2 := range_has u1 u2 hm kw.1 kw.2
    intro i
    simp only [tb_or hr.1.2 high32, tb_high32]
    have h2 := hr2 i
    rw [tb_mod hx] at h2
    by_cases hi : i < 32
    · simp only [hi, decide_true, Bool.not_true, Bool.and_false, Bool.or_false, Bool.and_true] at h2 ⊢; exact h2
    · rw [high0 i (by omega)]
      by_cases h64 : i < 64
      · simp [hi, h64]
      · rw [tb_big hx (by omega)]; rfl

theorem or_up {x y : Int} (hx : isU x = true) (y0 : 0 ≤ y) (y1 : y < 4294967296) : orU (andU x 18446744069414584320) y = x - x % 4294967296 + y := by
  have hy : isU y = true := isU_iff.2 (by omega)
  have e1 : orU (andU x 18446744069414584320) (andU x 4294967295) = x := by
    refine tb_ext (or_u (and_u hx high32) (and_u hx low32)) hx fun i => ?_
    rw [tb_or (and_u hx high32) (and_u hx low32), tb_and hx high32, tb_and hx low32, tb_high32, tb_low32]
    by_cases h64 : i < 64
    · simp only [h64, decide_true, Bool.true_and]; cases tb x i <;> cases decide (i < 32) <;> rfl
    · rw [tb_big hx (by omega)]; rfl
  obtain ⟨x0, x1⟩ := isU_iff.1 hx
  have key : ∀ z : Int, 0 ≤ z → z < 4294967296 → orU (andU x 18446744069414584320) z = andU x 18446744069414584320 + z := by
    intro z z0 z1
    have hz : isU z = true := isU_iff.2 (by omega)
    have ha := and_u hx high32
    obtain ⟨n, hn⟩ := Int.eq_ofNat_of_zero_le (isU_iff.1 ha).1
    obtain ⟨m, rfl⟩ := Int.eq_ofNat_of_zero_le z0
    have hd : n % 2 ^ 32 = 0 := by
      refine Nat.eq_of_testBit_eq fun i => ?_
      rw [Nat.testBit_mod_two_pow, Nat.zero_testBit]
      by_cases hi : i < 32
      · have := tb_and hx high32 i
        rw [hn, tb_high32, tb, Int.toNat_natCast] at this
        simp [this, hi]
      · simp [hi]
    rw [or_nat ha hz, hn, Int.toNat_natCast, Int.toNat_natCast]
    have : n = (n / 2 ^ 32) <<< 32 := by
      rw [Nat.shiftLeft_eq]; omega
    rw [this, ← Nat.shiftLeft_add_eq_or_of_lt (by omega : m < 2 ^ 32)]
    exact Int.natCast_add _ _
  have e2 := key (andU x 4294967295) (low_lt hx).1 (low_lt hx).2
  rw [e1, and_low hx] at e2
  rw [key y y0 y1]
  omega

theorem st8_ok : StepOK st8 := by
  refine ⟨fun b h => ?_, fun b h hn => ?_, fun b x h hx k => ?_⟩
  · unfold st8
    split
    · have hw : WW (pMeet b.w ⟨b.u.lo % 4294967296, b.u.hi % 4294967296⟩) := meet_ww h.w (by unfold WW; dsimp only; omega)
      have a1 := and_u h.u.1 high32
      refine ⟨h.t, meet_uu2 h.u ⟨or_u a1 (isU_iff.2 ?_), or_u a1 (isU_iff.2 ?_)⟩, h.s, hw, h.v⟩
      · unfold WW at hw; omega
      · unfold WW at hw; omega
    · exact h
  · unfold st8 at *
    split at hn
    · rename_i e
      rw [if_pos e]
      obtain ⟨n1, n2, n3, n4⟩ := none_f.1 hn
      exact ⟨TI.refl h.t, meet_nar n1, Nar.refl _, meet_nar n3, Nar.refl _⟩
    · rename_i e
      rw [if_neg e]
      exact Sub.refl h.t
  · unfold st8
    split
    · rename_i e
      have hw : WW (pMeet b.w ⟨b.u.lo % 4294967296, b.u.hi % 4294967296⟩) := meet_ww h.w (by unfold WW; dsimp only; omega)
      have hu := h.u
      unfold UU at hu
      have ku := k.u
      have mw : Mid (pMeet b.w ⟨b.u.lo % 4294967296, b.u.hi % 4294967296⟩) (x % 4294967296) := by
        refine meet_mid k.w ?_
        unfold Mid at *; dsimp only; omega
      refine ⟨rfl, k.t, meet_mid k.u ?_, k.s, mw, k.v⟩
      unfold WW at hw
      unfold Mid at *
      dsimp only
      rw [or_up hu.1 hw.1.1 hw.1.2, or_up hu.1 hw.2.1 hw.2.2]
      omega
    · exact ⟨rfl, k⟩

end Go.Proofs.YtafpbibpahjnhaaGreat.L05
