/- Layer 6: whatever is asked of two numbers of two bounds leaves them numbers of what is known then, and nothing is known that was not; plain Lean. A text of the session's own. -/
import Derived.Test.YtafpbibpahjnhaaGreatL06A
namespace Go.Proofs.YtafpbibpahjnhaaGreat.L05
open Go Go.RowKit Go.Proofs.YtafpbibpahjnhaaGreat.Sx
set_option linter.unusedVariables false

theorem kT_tm {t : P2} (h : UU t) (wide : Bool) : TM (kT t wide) := by
  cases wide
  · exact tOf_tm h.1 (or_u h.2 high32)
  · exact tOf_tm h.1 h.2
theorem knows_has {b : Bd} {t : P2} {x : Int} (hb : Inv5 b) (ht : UU t) (wide : Bool) (k : HasB b x) (kt : HT (kT t wide) x) : (knows b t wide).2 = true ∧ HasB (knows b t wide).1 x := by
  obtain ⟨e, h⟩ := meet_has hb.t.1 (kT_uu ht wide) k.t kt
  exact ⟨e, ⟨h, k.u, k.s, k.w, k.v⟩⟩
theorem knows_sub {b : Bd} {t : P2} (hb : Inv5 b) (ht : UU t) (wide : Bool) (h : (knows b t wide).2 = true) : Sub (knows b t wide).1 b :=
  ⟨meet_ti1 hb.t (kT_tm ht wide) h, Nar.refl _, Nar.refl _, Nar.refl _, Nar.refl _⟩

theorem HT.tOf {v m x : Int} (hv : isU v = true) (hm : isU m = true) (h : ∀ i, tb m i = false → tb x i = tb v i) : HT (tOf v m) x := by
  intro i
  show (tb x i && !tb m i) = tb (notU v m) i
  rw [tb_not hv hm]
  cases e : tb m i
  · rw [h i e]
  · simp

theorem low_bits {x y : Int} (hx : isU x = true) (hy : isU y = true) (h : x % 4294967296 = y % 4294967296) {i : Nat} (hi : i < 32) : tb x i = tb y i := by
  have e := congrArg (fun z => tb z i) h
  simp only [tb_mod hx, tb_mod hy, hi, decide_true, Bool.and_true] at e
  exact e
theorem sgn_inj {x y : Int} (hx : isU x = true) (hy : isU y = true) (h : sgn x = sgn y) : x = y := by
  rw [isU_iff] at *
  unfold sgn at h; split at h <;> split at h <;> omega
theorem sg32_inj {x y : Int} (h : sg32 x = sg32 y) : x % 4294967296 = y % 4294967296 := by
  unfold sg32 at h; split at h <;> split at h <;> omega
theorem sg32_same {x y : Int} (h : x % 4294967296 = y % 4294967296) : sg32 x = sg32 y := by unfold sg32; rw [h]

/-- Both are what was asked, and nothing is wider. -/
def Keeps (a b : Bd) (p : Two) (x y : Int) : Prop := p.is = true ∧ HasB p.a x ∧ HasB p.b y
def Within (a b : Bd) (p : Two) : Prop := p.is = true → (bNone p.a = false → Sub p.a a) ∧ (bNone p.b = false → Sub p.b b)

theorem Keeps.turn {a b : Bd} {p : Two} {x y : Int} (h : Keeps a b p x y) : Keeps b a (turnT p) y x := ⟨h.1, h.2.2, h.2.1⟩
theorem Within.turn {a b : Bd} {p : Two} (h : Within a b p) : Within b a (turnT p) := fun e => ⟨(h e).2, (h e).1⟩

section
variable {a b : Bd} {x y : Int}

theorem equal_keeps (ha : Inv5 a) (hb : Inv5 b) (hx : isU x = true) (hy : isU y = true) (ka : HasB a x) (kb : HasB b y) (wide : Bool) (h : lowM wide x = lowM wide y) : Keeps a b (equalM wide a b) x y := by
  cases wide
  · replace h : x % 4294967296 = y % 4294967296 := h
    have ht : ∀ {b : Bd} {x y : Int}, Inv5 b → isU x = true → isU y = true → HasB b y → x % 4294967296 = y % 4294967296 → HT (kT b.t false) x := by
      intro b x y hb hx hy kb h
      have hm := or_u hb.t.1.2 high32
      refine HT.tOf hb.t.1.1 hm fun i hi => ?_
      rw [tb_or hb.t.1.2 high32, Bool.or_eq_false_iff, tb_high32] at hi
      have k := kb.t i
      rw [hi.1] at k
      simp only [Bool.not_false, Bool.and_true] at k
      by_cases h32 : i < 32
      · rw [low_bits hx hy h h32]; exact k
      · have h64 : ¬ i < 64 := by
          intro h64
          have := hi.2
          simp [h64, h32] at this
        rw [tb_big hx (by omega), ← k, tb_big hy (by omega)]
    obtain ⟨e1, k1⟩ := knows_has ha hb.t.1 false ka (ht hb hx hy kb h)
    obtain ⟨e2, k2⟩ := knows_has hb ha.t.1 false kb (ht ha hy hx ka h.symm)
    refine ⟨by show ((knows a b.t false).2 && (knows b a.t false).2) = true; rw [e1, e2]; rfl, ⟨k1.t, k1.u, k1.s, ?_, ?_⟩, ⟨k2.t, k2.u, k2.s, ?_, ?_⟩⟩
    · exact meet_mid ka.w (by have := kb.w; rw [← h] at this; exact this)
    · exact meet_mid ka.v (by have := kb.v; rw [← sg32_same h] at this; exact this)
    · exact meet_mid (by have := ka.w; rw [h] at this; exact this) kb.w
    · exact meet_mid (by have := ka.v; rw [sg32_same h] at this; exact this) kb.v
  · replace h : x = y := h
    subst h
    have := meet5_has ha hb hx ka kb
    exact ⟨rfl, this, this⟩

theorem nar_of_meet {p q : P2} (h : (pMeet p q).lo ≤ (pMeet p q).hi) : Nar (pMeet p q) q := by
  rw [pMeet_comm] at h ⊢; exact meet_nar h

theorem equal_within (ha : Inv5 a) (hb : Inv5 b) (wide : Bool) : Within a b (equalM wide a b) := by
  intro hi
  cases wide
  · replace hi : ((knows a b.t false).2 && (knows b a.t false).2) = true := hi
    rw [Bool.and_eq_true] at hi
    have s1 := knows_sub ha hb.t.1 false hi.1
    have s2 := knows_sub hb ha.t.1 false hi.2
    refine ⟨fun hn => ?_, fun hn => ?_⟩
    · obtain ⟨n1, n2, n3, n4⟩ := none_f.1 hn
      exact ⟨s1.t, s1.u, s1.s, meet_nar n3, meet_nar n4⟩
    · obtain ⟨n1, n2, n3, n4⟩ := none_f.1 hn
      exact ⟨s2.t, s2.u, s2.s, nar_of_meet n3, nar_of_meet n4⟩
  · exact ⟨fun hn => (meet5_sub ha hb hn).1.1, fun hn => (meet5_sub ha hb hn).2.1⟩

theorem plainU_mid {s : P2} {n z : Int} (hs : UU s) (hz : isU z = true) (h : Mid s z) (hne : z ≠ n) : Mid (plainM .u64 s n) z := by
  have h1 := isU_iff.1 hs.1; have h2 := isU_iff.1 hs.2; have h3 := isU_iff.1 hz
  unfold Mid at h
  unfold plainM
  split
  · rename_i e; unfold Mid; dsimp only; omega
  · split
    · rename_i e; unfold Mid; dsimp only; rw [add_u]; omega
    · split
      · rename_i e; unfold Mid; dsimp only; rw [sub_u]; omega
      · exact h
theorem plainI_mid {s : P2} {n z : Int} (hs : II s) (hz : -9223372036854775808 ≤ z ∧ z < 9223372036854775808) (h : Mid s z) (hne : z ≠ n) : Mid (plainM .i64 s n) z := by
  obtain ⟨h1, h2⟩ := hs
  unfold Mid at h
  unfold plainM
  split
  · rename_i e; unfold Mid; dsimp only; omega
  · split
    · rename_i e; unfold Mid; dsimp only; rw [add_i]; omega
    · split
      · rename_i e; unfold Mid; dsimp only; rw [sub_i]; omega
      · exact h
theorem plainU_nar {s : P2} {n : Int} (hs : UU s) (h : s.lo ≤ s.hi) (hn : (plainM .u64 s n).lo ≤ (plainM .u64 s n).hi) : Nar (plainM .u64 s n) s := by
  have h1 := isU_iff.1 hs.1; have h2 := isU_iff.1 hs.2
  unfold plainM at *
  split at hn
  · rename_i e; exact absurd hn (by decide)
  · rename_i e0
    rw [if_neg e0]
    split at hn
    · rename_i e; rw [if_pos e]; unfold Nar; dsimp only; rw [add_u]; omega
    · rename_i e1
      rw [if_neg e1]
      split at hn
      · rename_i e; rw [if_pos e]; unfold Nar; dsimp only; rw [sub_u]; omega
      · rename_i e; rw [if_neg e]; exact Nar.refl _
theorem plainI_nar {s : P2} {n : Int} (hs : II s) (h : s.lo ≤ s.hi) (hn : (plainM .i64 s n).lo ≤ (plainM .i64 s n).hi) : Nar (plainM .i64 s n) s := by
  obtain ⟨h1, h2⟩ := hs
  unfold plainM at *
  split at hn
  · rename_i e; exact absurd hn (by decide)
  · rename_i e0
    rw [if_neg e0]
    split at hn
    · rename_i e; rw [if_pos e]; unfold Nar; dsimp only; rw [add_i]; omega
    · rename_i e1
      rw [if_neg e1]
      split at hn
      · rename_i e; rw [if_pos e]; unfold Nar; dsimp only; rw [sub_i]; omega
      · rename_i e; rw [if_neg e]; exact Nar.refl _
theorem sgn_range {z : Int} (hz : isU z = true) : -9223372036854775808 ≤ sgn z ∧ sgn z < 9223372036854775808 := by
  rw [isU_iff] at hz; unfold sgn; split <;> omega
theorem sg32_range (z : Int) : -2147483648 ≤ sg32 z ∧ sg32 z < 2147483648 := by unfold sg32; split <;> omega

theorem unlike_has (ha : Inv5 a) (hx : isU x = true) (hy : isU y = true) (ka : HasB a x) (kb : HasB b y) (wide : Bool) (h : ¬ lowM wide x = lowM wide y) : HasB (unlikeM wide a b) x := by
  have hw : UU a.w := ha.raw.w
  have hv : II a.v := ha.raw.v
  cases wide
  · replace h : ¬ x % 4294967296 = y % 4294967296 := h
    unfold unlikeM; simp only
    split
    · rename_i e
      have h1 := kb.w
      unfold Mid at h1
      have e1 : b.w.lo = y % 4294967296 := by omega
      have h2 := sg32_range x
      refine ⟨ka.t, ka.u, ka.s, plainU_mid hw (mod_u hx) ka.w (by omega), plainI_mid hv (by omega) ka.v fun e2 => h ?_⟩
      have := sg32_inj e2
      rw [e1] at this; omega
    · exact ka
  · replace h : ¬ x = y := h
    unfold unlikeM; simp only
    split
    · rename_i e
      have h1 := kb.u
      unfold Mid at h1
      have e1 : b.u.lo = y := by omega
      refine ⟨ka.t, plainU_mid ha.u hx ka.u (by omega), plainI_mid ha.s (sgn_range hx) ka.s fun e2 => h ?_, ka.w, ka.v⟩
      rw [e1] at e2
      exact sgn_inj hx hy e2
    · exact ka
theorem unlike_sub (ha : Inv5 a) (hn0 : bNone a = false) (wide : Bool) (hn : bNone (unlikeM wide a b) = false) : Sub (unlikeM wide a b) a := by
  obtain ⟨m1, m2, m3, m4⟩ := none_f.1 hn0
  cases wide <;> unfold unlikeM at * <;> simp only at * <;> split at hn
  · rename_i e
    rw [if_pos e]
    obtain ⟨n1, n2, n3, n4⟩ := none_f.1 hn
    exact ⟨TI.refl ha.t, Nar.refl _, Nar.refl _, plainU_nar ha.raw.w m3 n3, plainI_nar ha.raw.v m4 n4⟩
  · rename_i e
    rw [if_neg e]; exact Sub.refl ha.t
  · rename_i e
    rw [if_pos e]
    obtain ⟨n1, n2, n3, n4⟩ := none_f.1 hn
    exact ⟨TI.refl ha.t, plainU_nar ha.u m1 n1, plainI_nar ha.s m2 n2, Nar.refl _, Nar.refl _⟩
  · rename_i e
    rw [if_neg e]; exact Sub.refl ha.t

theorem above_mid {s t : P2} {n z v : Int} (hs : UU s) (ht : UU t) (hz : isU z = true) (hn : n = 0 ∨ n = 1) (h : Mid s z) (k : Mid t v) (hle : v + n ≤ z) :
    aboveIs n s t = true ∧ Mid (aboveX n s t) z ∧ Mid (aboveY n s t) v := by
  have h1 := isU_iff.1 hs.1; have h2 := isU_iff.1 hs.2; have h3 := isU_iff.1 ht.1; have h4 := isU_iff.1 ht.2; have h5 := isU_iff.1 hz
  unfold Mid at *
  simp only [aboveIs, aboveX, aboveY, decide_eq_true_eq, add_u, sub_u]
  omega
theorem above_keeps (ha : Inv5 a) (hb : Inv5 b) (hx : isU x = true) (ka : HasB a x) (kb : HasB b y) (wide : Bool) {n : Int} (hn : n = 0 ∨ n = 1) (h : lowM wide y + n ≤ lowM wide x) : Keeps a b (aboveM wide n a b) x y := by
  cases wide
  · obtain ⟨e, k1, k2⟩ := above_mid ha.raw.w hb.raw.w (mod_u hx) hn ka.w kb.w h
    unfold aboveM; simp only [e]
    exact ⟨rfl, ⟨ka.t, ka.u, ka.s, k1, ka.v⟩, ⟨kb.t, kb.u, kb.s, k2, kb.v⟩⟩
  · obtain ⟨e, k1, k2⟩ := above_mid ha.u hb.u hx hn ka.u kb.u h
    unfold aboveM; simp only [e]
    exact ⟨rfl, ⟨ka.t, k1, ka.s, ka.w, ka.v⟩, ⟨kb.t, k2, kb.s, kb.w, kb.v⟩⟩
theorem aboveX_nar (n : Int) (s t : P2) : Nar (aboveX n s t) s := by unfold aboveX Nar; dsimp only; omega
theorem aboveY_nar (n : Int) (s t : P2) : Nar (aboveY n s t) t := by unfold aboveY Nar; dsimp only; omega
theorem overX_nar (n : Int) (s t : P2) : Nar (overX n s t) s := by unfold overX Nar; dsimp only; omega
theorem overY_nar (n : Int) (s t : P2) : Nar (overY n s t) t := by unfold overY Nar; dsimp only; omega
theorem above_within (ha : Inv5 a) (hb : Inv5 b) (wide : Bool) (n : Int) : Within a b (aboveM wide n a b) := by
  have ra := TI.refl ha.t; have rb := TI.refl hb.t
  intro hi
  cases wide <;> unfold aboveM at * <;> simp only at * <;> split at hi <;> first | (cases hi; done) | (rename_i e; simp only [e])
  · exact ⟨fun _ => ⟨ra, Nar.refl _, Nar.refl _, aboveX_nar n _ _, Nar.refl _⟩, fun _ => ⟨rb, Nar.refl _, Nar.refl _, aboveY_nar n _ _, Nar.refl _⟩⟩
  · exact ⟨fun _ => ⟨ra, aboveX_nar n _ _, Nar.refl _, Nar.refl _, Nar.refl _⟩, fun _ => ⟨rb, aboveY_nar n _ _, Nar.refl _, Nar.refl _, Nar.refl _⟩⟩

theorem over_mid {s t : P2} {n z v : Int} (hs : II s) (ht : II t) (hz : -9223372036854775808 ≤ z ∧ z < 9223372036854775808) (hv : -9223372036854775808 ≤ v ∧ v < 9223372036854775808) (hn : n = 0 ∨ n = 1) (h : Mid s z) (k : Mid t v) (hle : v + n ≤ z) :
    overIs n s t = true ∧ Mid (overX n s t) z ∧ Mid (overY n s t) v := by
  unfold II at *
  unfold Mid at *
  simp only [overIs, overX, overY, decide_eq_true_eq, add_i, sub_i]
  omega
theorem over_keeps (ha : Inv5 a) (hb : Inv5 b) (hx : isU x = true) (hy : isU y = true) (ka : HasB a x) (kb : HasB b y) (wide : Bool) {n : Int} (hn : n = 0 ∨ n = 1) (h : signM wide y + n ≤ signM wide x) : Keeps a b (overM wide n a b) x y := by
  cases wide
  · have r1 := sg32_range x; have r2 := sg32_range y
    obtain ⟨e, k1, k2⟩ := over_mid ha.raw.v hb.raw.v (by omega) (by omega) hn ka.v kb.v h
    unfold overM; simp only [e]
    exact ⟨rfl, ⟨ka.t, ka.u, ka.s, ka.w, k1⟩, ⟨kb.t, kb.u, kb.s, kb.w, k2⟩⟩
  · obtain ⟨e, k1, k2⟩ := over_mid ha.s hb.s (sgn_range hx) (sgn_range hy) hn ka.s kb.s h
    unfold overM; simp only [e]
    exact ⟨rfl, ⟨ka.t, ka.u, k1, ka.w, ka.v⟩, ⟨kb.t, kb.u, k2, kb.w, kb.v⟩⟩
theorem over_within (ha : Inv5 a) (hb : Inv5 b) (wide : Bool) (n : Int) : Within a b (overM wide n a b) := by
  have ra := TI.refl ha.t; have rb := TI.refl hb.t
  intro hi
  cases wide <;> unfold overM at * <;> simp only at * <;> split at hi <;> first | (cases hi; done) | (rename_i e; simp only [e])
  · exact ⟨fun _ => ⟨ra, Nar.refl _, Nar.refl _, Nar.refl _, overX_nar n _ _⟩, fun _ => ⟨rb, Nar.refl _, Nar.refl _, Nar.refl _, overY_nar n _ _⟩⟩
  · exact ⟨fun _ => ⟨ra, Nar.refl _, overX_nar n _ _, Nar.refl _, Nar.refl _⟩, fun _ => ⟨rb, Nar.refl _, overY_nar n _ _, Nar.refl _, Nar.refl _⟩⟩

/-! bits in common -/
theorem low_u {wide : Bool} (hx : isU x = true) : isU (lowM wide x) = true := by
  cases wide
  · exact mod_u hx
  · exact hx
theorem seen_ht {t : P2} {wide : Bool} (ht : UU t) (hx : isU x = true) (h : HT t x) : HT (seenM t wide) (lowM wide x) := by
  cases wide
  · exact low_ht ht hx h
  · exact h
theorem and_ne {p q : Int} (hp : isU p = true) (hq : isU q = true) (h : ¬ andU p q = 0) : ∃ i, tb p i = true ∧ tb q i = true := by
  apply Classical.byContradiction
  intro hno
  apply h
  refine tb_ext (and_u hp hq) (by decide) fun i => ?_
  rw [tb_and hp hq, tb_zero]
  cases e1 : tb p i
  · rfl
  · cases e2 : tb q i
    · rfl
    · exact absurd ⟨i, e1, e2⟩ hno
theorem and_eq {p q : Int} (hp : isU p = true) (hq : isU q = true) (h : andU p q = 0) (i : Nat) : (tb p i && tb q i) = false := by
  rw [← tb_and hp hq, h, tb_zero]
theorem tb_inv {z : Int} (hz : isU z = true) {i : Nat} (hi : i < 64) : tb (inv64 z) i = !tb z i := by
  show tb (xorU 18446744073709551615 z) i = _
  rw [tb_xor max64 hz]
  have e := (ones_u (k := 64) (Nat.le_refl _)).2 i
  have e2 : ((2 : Int) ^ 64 - 1) = 18446744073709551615 := by decide
  rw [e2] at e
  rw [e]
  simp [hi]
/-- A number that has no bit in common with the one below it has one bit at most. -/
theorem one_bit {z : Int} (hz : isU z = true) (h : andU z (iSub .u64 z 1) = 0) {i j : Nat} (hi : tb z i = true) (hj : tb z j = true) : i = j := by
  have key : ∀ i j : Nat, i < j → tb z i = true → tb z j = true → False := by
    intro i j hij hi hj
    have z0 := isU_iff.1 hz
    have hpos : 0 < z := by
      rcases Int.lt_or_eq_of_le z0.1 with h | h
      · exact h
      · rw [← h, tb_zero] at hi; cases hi
    have e1 : iSub .u64 z 1 = z - 1 := by rw [sub_u]; omega
    have hu : isU (z - 1) = true := isU_iff.2 (by omega)
    have := and_eq hz (by rw [e1]; exact hu) h j
    rw [hj, e1, Bool.true_and] at this
    have ht : tb (z - 1) j = tb z j := by
      unfold tb
      have hn : (z - 1).toNat = z.toNat - 1 := by omega
      rw [hn]
      have hm : 1 ≤ z.toNat % 2 ^ j := by
        apply Nat.pos_of_ne_zero
        intro h0
        have : (z.toNat % 2 ^ j).testBit i = z.toNat.testBit i := by rw [Nat.testBit_mod_two_pow]; simp [hij]
        rw [h0, Nat.zero_testBit] at this
        unfold tb at hi
        rw [hi] at this
        cases this
      have hd : (z.toNat - 1) / 2 ^ j = z.toNat / 2 ^ j := by
        have h2 := Nat.div_add_mod z.toNat (2 ^ j)
        have h3 : z.toNat - 1 = 2 ^ j * (z.toNat / 2 ^ j) + (z.toNat % 2 ^ j - 1) := by omega
        have hlt := Nat.mod_lt z.toNat (Nat.two_pow_pos j)
        have hs : (z.toNat % 2 ^ j - 1) / 2 ^ j = 0 := Nat.div_eq_of_lt (by omega)
        rw [h3, Nat.mul_add_div (Nat.two_pow_pos j), hs, Nat.add_zero]
      rw [Nat.testBit_eq_decide_div_mod_eq, Nat.testBit_eq_decide_div_mod_eq, hd]
    rw [ht, hj] at this
    cases this
  rcases Nat.lt_trichotomy i j with h | h | h
  · exact (key i j h hi hj).elim
  · exact h
  · exact (key j i h hj hi).elim

theorem bitOf_has (ha : Inv5 a) (hx : isU x = true) (ka : HasB a x) {u : P2} {z : Int} (hu : UU u) (hz : isU z = true) (ku : HT u z) {i : Nat} (h1 : tb x i = true) (h2 : tb z i = true) : (bitOf a u).2 = true ∧ HasB (bitOf a u).1 x := by
  unfold bitOf
  split
  · rename_i e
    simp only [one?, decide_eq_true_eq] at e
    obtain ⟨e1, e2⟩ := e
    have hlo : ∀ j, tb u.lo j = tb z j := fun j => by
      have := ku j
      rw [e1, tb_zero] at this
      simpa using this.symm
    refine knows_has (t := ⟨u.lo, inv64 u.lo⟩) ha ⟨hu.1, inv_u hu.1⟩ true ka ?_
    refine HT.tOf hu.1 (inv_u hu.1) fun j hj => ?_
    by_cases h64 : j < 64
    · rw [tb_inv hu.1 h64] at hj
      have hj : tb u.lo j = true := by simpa using hj
      have := one_bit hu.1 e2 (i := i) (j := j) (by rw [hlo]; exact h2) hj
      subst this
      rw [h1, hj]
    · rw [tb_big hx (by omega), tb_big hu.1 (by omega)]
  · exact ⟨rfl, ka⟩
theorem low_bit {wide : Bool} (hx : isU x = true) {i : Nat} (h : tb (lowM wide x) i = true) : tb x i = true := by
  cases wide
  · replace h : tb (x % 4294967296) i = true := h
    rw [tb_mod hx, Bool.and_eq_true] at h
    exact h.1
  · exact h
theorem common_keeps (ha : Inv5 a) (hb : Inv5 b) (hx : isU x = true) (hy : isU y = true) (ka : HasB a x) (kb : HasB b y) (wide : Bool) (h : ¬ andU (lowM wide x) (lowM wide y) = 0) : Keeps a b (commonM wide a b) x y := by
  have sa := seen_uu ha.t.1 wide; have sb := seen_uu hb.t.1 wide
  have ta := seen_ht (wide := wide) ha.t.1 hx ka.t; have tb' := seen_ht (wide := wide) hb.t.1 hy kb.t
  obtain ⟨i, h1, h2⟩ := and_ne (low_u hx) (low_u hy) h
  have up : ∀ {t : P2} {z : Int}, UU t → HT t z → tb z i = true → tb (orU t.lo t.hi) i = true := by
    intro t z ht k hz
    rw [tb_or ht.1 ht.2]
    have := k i
    rw [hz] at this
    cases e : tb t.hi i
    · rw [e] at this; simpa using this.symm
    · simp
  have ec : commonIs (seenM a.t wide) (seenM b.t wide) = true := by
    simp only [commonIs, decide_eq_true_eq]
    intro e
    have := and_eq (or_u sa.1 sa.2) (or_u sb.1 sb.2) e i
    rw [up sa ta h1, up sb tb' h2] at this
    cases this
  obtain ⟨e1, k1⟩ := bitOf_has ha hx ka sb (low_u hy) tb' (low_bit hx h1) h2
  obtain ⟨e2, k2⟩ := bitOf_has hb hy kb sa (low_u hx) ta (low_bit hy h2) h1
  unfold commonM
  simp only [ec]
  exact ⟨by show (_ && _) = true; rw [e1, e2]; rfl, k1, k2⟩
theorem bitOf_sub (ha : Inv5 a) {u : P2} (hu : UU u) (h : (bitOf a u).2 = true) : Sub (bitOf a u).1 a := by
  unfold bitOf at *
  split
  · rename_i e
    rw [e] at h
    exact knows_sub (t := ⟨u.lo, inv64 u.lo⟩) ha ⟨hu.1, inv_u hu.1⟩ true h
  · exact Sub.refl ha.t
theorem common_within (ha : Inv5 a) (hb : Inv5 b) (wide : Bool) : Within a b (commonM wide a b) := by
  intro hi
  unfold commonM at *
  split at hi
  · rename_i e
    simp only [e]
    replace hi : ((bitOf a (seenM b.t wide)).2 && (bitOf b (seenM a.t wide)).2) = true := hi
    rw [Bool.and_eq_true] at hi
    exact ⟨fun _ => bitOf_sub ha (seen_uu hb.t.1 wide) hi.1, fun _ => bitOf_sub hb (seen_uu ha.t.1 wide) hi.2⟩
  · cases hi

theorem apart_keeps (ha : Inv5 a) (hb : Inv5 b) (hx : isU x = true) (hy : isU y = true) (ka : HasB a x) (kb : HasB b y) (wide : Bool) (h : andU (lowM wide x) (lowM wide y) = 0) : Keeps a b (apartM wide a b) x y := by
  have sa := seen_uu ha.t.1 wide; have sb := seen_uu hb.t.1 wide
  have ta := seen_ht (wide := wide) ha.t.1 hx ka.t; have tb' := seen_ht (wide := wide) hb.t.1 hy kb.t
  have dn : ∀ {t : P2} {z : Int} {i : Nat}, HT t z → tb t.lo i = true → tb z i = true := by
    intro t z i k hz
    have := k i
    rw [hz, Bool.and_eq_true] at this
    exact this.1
  have he := and_eq (low_u hx) (low_u hy) h
  have ec : apartIs (seenM a.t wide) (seenM b.t wide) = true := by
    simp only [apartIs, decide_eq_true_eq]
    refine tb_ext (and_u sa.1 sb.1) (by decide) fun i => ?_
    rw [tb_and sa.1 sb.1, tb_zero]
    cases e1 : tb (seenM a.t wide).lo i
    · rfl
    · cases e2 : tb (seenM b.t wide).lo i
      · rfl
      · have := he i
        rw [dn ta e1, dn tb' e2] at this
        cases this
  have hi : ∀ {z : Int} {t u : P2} {v : Int}, isU z = true → UU u → HT u (lowM wide v) → (∀ i, (tb (lowM wide z) i && tb (lowM wide v) i) = false) → wide = wide → HT (kT ⟨0, inv64 u.lo⟩ true) z ∨ ∃ i, tb z i = true ∧ tb u.lo i = true := by
    intro z t u v hz hu hk hd _
    by_cases hx : ∃ i, tb z i = true ∧ tb u.lo i = true
    · exact .inr hx
    · refine .inl (HT.tOf isU01.2 (inv_u hu.1) fun i hi => ?_)
      rw [tb_zero]
      by_cases h64 : i < 64
      · rw [tb_inv hu.1 h64] at hi
        have hi : tb u.lo i = true := by simpa using hi
        cases e : tb z i
        · rfl
        · exact absurd ⟨i, e, hi⟩ hx
      · exact tb_big hz (by omega)
  have lowb : ∀ {t : P2} {z : Int} {i : Nat}, UU t → tb (seenM t wide).lo i = true → isU z = true → tb z i = true → tb (lowM wide z) i = true := by
    intro t z i ht h1 hz h2
    cases wide
    · show tb (z % 4294967296) i = true
      have h1 : tb (andU t.lo 4294967295) i = true := h1
      rw [tb_and ht.1 low32, tb_low32, Bool.and_eq_true] at h1
      rw [tb_mod hz, h2, h1.2]; rfl
    · exact h2
  have k1 : HT (kT ⟨0, inv64 (seenM b.t wide).lo⟩ true) x := by
    rcases hi (t := a.t) hx sb tb' he rfl with k | ⟨i, h1, h2⟩
    · exact k
    · have := he i
      rw [lowb hb.t.1 h2 hx h1, dn tb' h2] at this
      cases this
  have k2 : HT (kT ⟨0, inv64 (seenM a.t wide).lo⟩ true) y := by
    rcases hi (t := b.t) hy sa ta (fun i => by rw [Bool.and_comm]; exact he i) rfl with k | ⟨i, h1, h2⟩
    · exact k
    · have := he i
      rw [lowb ha.t.1 h2 hy h1, dn ta h2] at this
      cases this
  obtain ⟨e1, g1⟩ := knows_has ha (t := ⟨0, inv64 (seenM b.t wide).lo⟩) ⟨isU01.2, inv_u sb.1⟩ true ka k1
  obtain ⟨e2, g2⟩ := knows_has hb (t := ⟨0, inv64 (seenM a.t wide).lo⟩) ⟨isU01.2, inv_u sa.1⟩ true kb k2
  unfold apartM
  simp only [ec]
  exact ⟨by show (_ && _) = true; rw [e1, e2]; rfl, g1, g2⟩
theorem apart_within (ha : Inv5 a) (hb : Inv5 b) (wide : Bool) : Within a b (apartM wide a b) := by
  intro hi
  unfold apartM at *
  split at hi
  · rename_i e
    simp only [e]
    replace hi : ((knows a ⟨0, inv64 (seenM b.t wide).lo⟩ true).2 && (knows b ⟨0, inv64 (seenM a.t wide).lo⟩ true).2) = true := hi
    rw [Bool.and_eq_true] at hi
    exact ⟨fun _ => knows_sub (t := ⟨0, inv64 (seenM b.t wide).lo⟩) ha ⟨isU01.2, inv_u (seen_uu hb.t.1 wide).1⟩ true hi.1, fun _ => knows_sub (t := ⟨0, inv64 (seenM a.t wide).lo⟩) hb ⟨isU01.2, inv_u (seen_uu ha.t.1 wide).1⟩ true hi.2⟩
  · cases hi

end
end Go.Proofs.YtafpbibpahjnhaaGreat.L05
