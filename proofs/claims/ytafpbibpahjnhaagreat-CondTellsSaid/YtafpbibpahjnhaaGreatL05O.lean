/- Whatever is made of two bounds has what is made of two numbers of them; of two numbers alone that one alone (layer 5). Plain Lean. A text of the session's own. -/
import Derived.Test.YtafpbibpahjnhaaGreatL05N
namespace Go.Proofs.YtafpbibpahjnhaaGreat.L05
open Go Go.RowKit Go.Proofs.YtafpbibpahjnhaaGreat.Sx
open Go.Proofs.YtafpbibpahjnhaaGreat.L04 (mAdd1 mAdd2 mSub1 mSub2 mMul1 mMul2 mDiv1 mDiv2 mMod1 mMod2 mPlus1 mPlus2 mMinus1 mMinus2 mShl1 mShl2 mShr1 mShr2 mSar1 mSar2 Amid AmidI InU InI mHas)
set_option linter.unusedVariables false

theorem addU_u (x y : Int) : isU (addU x y) = true := by rw [addU_mod, isU_iff]; unfold M64; omega
theorem subU_u (x y : Int) : isU (subU x y) = true := by rw [subU_mod, isU_iff]; unfold M64; omega
theorem mulU_u (x y : Int) : isU (mulU x y) = true := by rw [mulU_mod, isU_iff]; unfold M64; omega
section
variable {a b : Bd} {x y : Int}
theorem addB_ok (ha : Inv5 a) (hb : Inv5 b) (hx : isU x = true) (hy : isU y = true) (ka : HasB a x) (kb : HasB b y) : Inv5 (addB a b) ∧ HasB (addB a b) (addU x y) := by
  have x0 := isU_iff.1 hx
  have y0 := isU_iff.1 hy
  refine ⟨⟨tAdd_tm ha.t hb.t, uAdd_uu ha.u hb.u, sAdd_ii ha.s hb.s, fits_ww ⟨addU_u _ _, addU_u _ _⟩, inner_vv⟩, ⟨tAdd_has ha.t hb.t hx hy ka.t kb.t, has_mid (a := uAdd a.u b.u) (L04.add_snd (mid_amid ha.u ka.u) (mid_amid hb.u kb.u)), ?_, ?_, ?_⟩⟩
  · have e : sgn (addU x y) = iAdd .i64 (sgn x) (sgn y) := by
      rw [addU_mod, add_i]; unfold sgn M64; split <;> split <;> split <;> omega
    rw [e]
    exact has_mid (a := sAdd a.s b.s) (L04.plus_snd (mid_amidI ha.s ka.s) (mid_amidI hb.s kb.s))
  · have h1 := ha.w; have h2 := hb.w; have h3 := ka.w; have h4 := kb.w
    unfold WW at h1 h2
    unfold Mid at h3 h4
    show Mid (fitsM ⟨addU a.w.lo b.w.lo, addU a.w.hi b.w.hi⟩) _
    simp only [addU_mod, M64]
    unfold fitsM Mid
    split <;> dsimp only at * <;> omega
  · have h1 := ha.v; have h2 := hb.v; have h3 := ka.v; have h4 := kb.v
    unfold VV at h1 h2
    unfold Mid at h3 h4
    show Mid (innerM ⟨iAdd .i64 a.v.lo b.v.lo, iAdd .i64 a.v.hi b.v.hi⟩) _
    have r := sg32_range (addU x y)
    have e : sg32 (addU x y) = sg32 x + sg32 y ∨ sg32 (addU x y) = sg32 x + sg32 y - 4294967296 ∨ sg32 (addU x y) = sg32 x + sg32 y + 4294967296 := by
      rw [addU_mod]; unfold sg32 M64; split <;> split <;> split <;> omega
    simp only [add_i]
    unfold innerM Mid
    split <;> dsimp only at * <;> omega
theorem subB_ok (ha : Inv5 a) (hb : Inv5 b) (hx : isU x = true) (hy : isU y = true) (ka : HasB a x) (kb : HasB b y) : Inv5 (subB a b) ∧ HasB (subB a b) (subU x y) := by
  have x0 := isU_iff.1 hx
  have y0 := isU_iff.1 hy
  refine ⟨⟨tSub_tm ha.t hb.t, uSub_uu ha.u hb.u, sSub_ii ha.s hb.s, fits_ww ⟨subU_u _ _, subU_u _ _⟩, inner_vv⟩, ⟨tSub_has ha.t hb.t hx hy ka.t kb.t, has_mid (a := uSub a.u b.u) (L04.sub_snd (mid_amid ha.u ka.u) (mid_amid hb.u kb.u)), ?_, ?_, ?_⟩⟩
  · have e : sgn (subU x y) = iSub .i64 (sgn x) (sgn y) := by
      rw [subU_mod, sub_i]; unfold sgn M64; split <;> split <;> split <;> omega
    rw [e]
    exact has_mid (a := sSub a.s b.s) (L04.minus_snd (mid_amidI ha.s ka.s) (mid_amidI hb.s kb.s))
  · have h1 := ha.w; have h2 := hb.w; have h3 := ka.w; have h4 := kb.w
    unfold WW at h1 h2
    unfold Mid at h3 h4
    show Mid (fitsM ⟨subU a.w.lo b.w.hi, subU a.w.hi b.w.lo⟩) _
    simp only [subU_mod, M64]
    unfold fitsM Mid
    split <;> dsimp only at * <;> omega
  · have h1 := ha.v; have h2 := hb.v; have h3 := ka.v; have h4 := kb.v
    unfold VV at h1 h2
    unfold Mid at h3 h4
    show Mid (innerM ⟨iSub .i64 a.v.lo b.v.hi, iSub .i64 a.v.hi b.v.lo⟩) _
    have r := sg32_range (subU x y)
    have e : sg32 (subU x y) = sg32 x - sg32 y ∨ sg32 (subU x y) = sg32 x - sg32 y - 4294967296 ∨ sg32 (subU x y) = sg32 x - sg32 y + 4294967296 := by
      rw [subU_mod]; unfold sg32 M64; split <;> split <;> split <;> omega
    simp only [sub_i]
    unfold innerM Mid
    split <;> dsimp only at * <;> omega
theorem mulB_ok (ha : Inv5 a) (hb : Inv5 b) (hx : isU x = true) (hy : isU y = true) (ka : HasB a x) (kb : HasB b y) : Inv5 (mulB a b) ∧ HasB (mulB a b) (mulU x y) := by
  have x0 := isU_iff.1 hx
  have y0 := isU_iff.1 hy
  have kz := any_has (mulU_u x y)
  obtain ⟨t1, t2⟩ := tMul_has ha.t hb.t hx hy ka.t kb.t
  refine ⟨⟨t1, uMul_uu ha.u hb.u, any_inv.s, fits_ww ⟨mulU_u _ _, mulU_u _ _⟩, any_inv.v⟩, ⟨t2, has_mid (a := uMul a.u b.u) (L04.mul_snd (mid_amid ha.u ka.u) (mid_amid hb.u kb.u)), kz.s, ?_, kz.v⟩⟩
  have h1 := ha.w; have h2 := hb.w; have h3 := ka.w; have h4 := kb.w
  unfold WW at h1 h2
  unfold Mid at h3 h4
  show Mid (fitsM ⟨mulU a.w.lo b.w.lo, mulU a.w.hi b.w.hi⟩) _
  simp only [mulU_mod]
  have e : x * y % M64 % 4294967296 = (x % 4294967296) * (y % 4294967296) % 4294967296 := by
    rw [Int.emod_emod_of_dvd _ (by decide : (4294967296 : Int) ∣ M64), Int.mul_emod]
  rw [e]
  generalize x % 4294967296 = p at *
  generalize y % 4294967296 = q at *
  have m1 : a.w.lo * b.w.lo ≤ p * q := L04.mul_le (by omega) (by omega) (by omega) (by omega)
  have m2 : p * q ≤ a.w.hi * b.w.hi := L04.mul_le (by omega) (by omega) (by omega) (by omega)
  have m3 : 0 ≤ a.w.lo * b.w.lo := Int.mul_nonneg (by omega) (by omega)
  have m4 : a.w.hi * b.w.hi ≤ 4294967295 * 4294967295 := L04.mul_le (by omega) (by omega) (by omega) (by omega)
  unfold M64 fitsM Mid
  split <;> dsimp only at * <;> omega
theorem any_but {u : P2} (hu : UU u) {z : Int} (hz : isU z = true) (k : Mid u z) : Inv5 ⟨anyB.t, u, anyB.s, anyB.w, anyB.v⟩ ∧ HasB ⟨anyB.t, u, anyB.s, anyB.w, anyB.v⟩ z := by
  have kz := any_has hz
  exact ⟨⟨any_inv.t, hu, any_inv.s, any_inv.w, any_inv.v⟩, ⟨kz.t, k, kz.s, kz.w, kz.v⟩⟩
def divV (x y : Int) : Int := if y = 0 then 0 else iQuo .u64 x y
def modV (x y : Int) : Int := if y = 0 then x else iRem x y
theorem quo_uu (hx : isU x = true) (hy : isU y = true) : iQuo .u64 x y = x / y ∧ isU (x / y) = true := by
  obtain ⟨x0, x1⟩ := isU_iff.1 hx
  obtain ⟨y0, y1⟩ := isU_iff.1 hy
  refine ⟨L04.quo_u x y x0 x1 y0, ?_⟩
  rw [isU_iff]; exact ediv_u x0 x1 y0
theorem divV_u (hx : isU x = true) (hy : isU y = true) : isU (divV x y) = true := by
  unfold divV
  split
  · decide
  · rw [(quo_uu hx hy).1]; exact (quo_uu hx hy).2
theorem modV_u (hx : isU x = true) (hy : isU y = true) : isU (modV x y) = true := by
  obtain ⟨x0, x1⟩ := isU_iff.1 hx
  obtain ⟨y0, y1⟩ := isU_iff.1 hy
  unfold modV
  split
  · exact hx
  · rw [iRem, Int.tmod_eq_emod_of_nonneg x0, isU_iff]
    have h1 := Int.emod_nonneg x (show y ≠ 0 by omega)
    have h2 := Int.emod_lt_of_pos x (show 0 < y by omega)
    omega
theorem divB_ok (ha : Inv5 a) (hb : Inv5 b) (hx : isU x = true) (hy : isU y = true) (ka : HasB a x) (kb : HasB b y) : Inv5 (divB a b) ∧ HasB (divB a b) (divV x y) := by
  refine any_but (uDiv_uu ha.u hb.u) (divV_u hx hy) (has_mid (a := uDiv a.u b.u) ?_)
  unfold divV
  split
  · rename_i h; exact L04.div_snd0 (mid_amid ha.u ka.u) (mid_amid hb.u kb.u) h
  · rename_i h; exact L04.div_snd (mid_amid ha.u ka.u) (mid_amid hb.u kb.u) h
theorem modB_ok (ha : Inv5 a) (hb : Inv5 b) (hx : isU x = true) (hy : isU y = true) (ka : HasB a x) (kb : HasB b y) : Inv5 (modB a b) ∧ HasB (modB a b) (modV x y) := by
  refine any_but (uMod_uu ha.u hb.u) (modV_u hx hy) (has_mid (a := uMod a.u b.u) ?_)
  unfold modV
  split
  · rename_i h; exact L04.mod_snd0 (mid_amid ha.u ka.u) (mid_amid hb.u kb.u) h
  · rename_i h; exact L04.mod_snd (mid_amid ha.u ka.u) (mid_amid hb.u kb.u) h
theorem and_le1 (hx : isU x = true) (hy : isU y = true) : andU x y ≤ x ∧ andU x y ≤ y := by
  constructor
  · exact le_of_bits (and_u hx hy) hx fun i h => by rw [tb_and hx hy] at h; simp at h; exact h.1
  · exact le_of_bits (and_u hx hy) hy fun i h => by rw [tb_and hx hy] at h; simp at h; exact h.2
theorem and_le2 (hx : isU x = true) (hy : isU y = true) : andU x y % 4294967296 ≤ x % 4294967296 ∧ andU x y % 4294967296 ≤ y % 4294967296 := by
  have hz := and_u hx hy
  constructor
  · exact le_of_bits (mod_u hz) (mod_u hx) fun i h => by rw [tb_mod hz, tb_and hx hy] at h; rw [tb_mod hx]; simp at h ⊢; exact ⟨h.1.1, h.2⟩
  · exact le_of_bits (mod_u hz) (mod_u hy) fun i h => by rw [tb_mod hz, tb_and hx hy] at h; rw [tb_mod hy]; simp at h ⊢; exact ⟨h.1.2, h.2⟩
theorem or_le1 (hx : isU x = true) (hy : isU y = true) : x ≤ orU x y ∧ y ≤ orU x y := by
  constructor
  · exact le_of_bits hx (or_u hx hy) fun i h => by rw [tb_or hx hy, h]; rfl
  · exact le_of_bits hy (or_u hx hy) fun i h => by rw [tb_or hx hy, h]; simp
theorem or_le2 (hx : isU x = true) (hy : isU y = true) : x % 4294967296 ≤ orU x y % 4294967296 ∧ y % 4294967296 ≤ orU x y % 4294967296 := by
  have hz := or_u hx hy
  constructor
  · exact le_of_bits (mod_u hx) (mod_u hz) fun i h => by rw [tb_mod hx] at h; rw [tb_mod hz, tb_or hx hy]; simp at h ⊢; exact ⟨.inl h.1, h.2⟩
  · exact le_of_bits (mod_u hy) (mod_u hz) fun i h => by rw [tb_mod hy] at h; rw [tb_mod hz, tb_or hx hy]; simp at h ⊢; exact ⟨.inr h.1, h.2⟩
theorem andB_ok (ha : Inv5 a) (hb : Inv5 b) (hx : isU x = true) (hy : isU y = true) (ka : HasB a x) (kb : HasB b y) : Inv5 (andB a b) ∧ HasB (andB a b) (andU x y) := by
  have hz := and_u hx hy
  have kz := any_has hz
  obtain ⟨t1, t2⟩ := tAnd_has ha.t hb.t hx hy ka.t kb.t
  have l1 := and_le1 hx hy
  have l2 := and_le2 hx hy
  have z0 := isU_iff.1 hz
  have m1 := ka.u; have m2 := kb.u; have m3 := ka.w; have m4 := kb.w
  have u1 := uu_iff.1 ha.u; have u2 := uu_iff.1 hb.u; have w1 := ha.w; have w2 := hb.w
  unfold Mid at m1 m2 m3 m4
  unfold WW at w1 w2
  refine ⟨⟨t1, ?_, any_inv.s, ?_, any_inv.v⟩, ⟨t2, ?_, kz.s, ?_, kz.v⟩⟩
  · rw [uu_iff]; show ((0:Int) ≤ 0 ∧ (0:Int) < 18446744073709551616) ∧ 0 ≤ iMin2 a.u.hi b.u.hi ∧ iMin2 a.u.hi b.u.hi < 18446744073709551616; unfold iMin2; omega
  · show ((0:Int) ≤ 0 ∧ (0:Int) < 4294967296) ∧ 0 ≤ iMin2 a.w.hi b.w.hi ∧ iMin2 a.w.hi b.w.hi < 4294967296; unfold iMin2; omega
  · show 0 ≤ andU x y ∧ andU x y ≤ iMin2 a.u.hi b.u.hi; unfold iMin2; omega
  · show 0 ≤ andU x y % 4294967296 ∧ andU x y % 4294967296 ≤ iMin2 a.w.hi b.w.hi; unfold iMin2; omega
theorem orB_ok (ha : Inv5 a) (hb : Inv5 b) (hx : isU x = true) (hy : isU y = true) (ka : HasB a x) (kb : HasB b y) : Inv5 (orB a b) ∧ HasB (orB a b) (orU x y) := by
  have hz := or_u hx hy
  have kz := any_has hz
  obtain ⟨t1, t2⟩ := tOr_has ha.t hb.t hx hy ka.t kb.t
  have l1 := or_le1 hx hy
  have l2 := or_le2 hx hy
  have z0 := isU_iff.1 hz
  have m1 := ka.u; have m2 := kb.u; have m3 := ka.w; have m4 := kb.w
  have u1 := uu_iff.1 ha.u; have u2 := uu_iff.1 hb.u; have w1 := ha.w; have w2 := hb.w
  unfold Mid at m1 m2 m3 m4
  unfold WW at w1 w2
  refine ⟨⟨t1, ?_, any_inv.s, ?_, any_inv.v⟩, ⟨t2, ?_, kz.s, ?_, kz.v⟩⟩
  · rw [uu_iff]; show (0 ≤ iMax2 a.u.lo b.u.lo ∧ iMax2 a.u.lo b.u.lo < 18446744073709551616) ∧ (0:Int) ≤ 18446744073709551615 ∧ (18446744073709551615:Int) < 18446744073709551616; unfold iMax2; omega
  · show (0 ≤ iMax2 a.w.lo b.w.lo ∧ iMax2 a.w.lo b.w.lo < 4294967296) ∧ (0:Int) ≤ 4294967295 ∧ (4294967295:Int) < 4294967296; unfold iMax2; omega
  · show iMax2 a.u.lo b.u.lo ≤ orU x y ∧ orU x y ≤ 18446744073709551615; unfold iMax2; omega
  · show iMax2 a.w.lo b.w.lo ≤ orU x y % 4294967296 ∧ orU x y % 4294967296 ≤ 4294967295; unfold iMax2; omega
theorem any_t {t : P2} {z : Int} (ht : TM t) (hz : isU z = true) (k : HT t z) : Inv5 ⟨t, anyB.u, anyB.s, anyB.w, anyB.v⟩ ∧ HasB ⟨t, anyB.u, anyB.s, anyB.w, anyB.v⟩ z := by
  have kz := any_has hz
  exact ⟨⟨ht, any_inv.u, any_inv.s, any_inv.w, any_inv.v⟩, ⟨k, kz.u, kz.s, kz.w, kz.v⟩⟩
theorem xorB_ok (ha : Inv5 a) (hb : Inv5 b) (hx : isU x = true) (hy : isU y = true) (ka : HasB a x) (kb : HasB b y) : Inv5 (xorB a b) ∧ HasB (xorB a b) (xorU x y) := by
  obtain ⟨t1, t2⟩ := tXor_has ha.t hb.t hx hy ka.t kb.t
  exact any_t t1 (xor_u hx hy) t2

/-- a shift's number -/
def shV (c x m : Int) : Int := if c = 6 then iShl .u64 x m else if c = 7 then iShr .u64 x m else iConv .u64 (iShr .i64 (sgn x) m)
theorem shV_u (hx : isU x = true) (c m : Int) : isU (shV c x m) = true := by
  unfold shV
  split
  · exact shl_u x m
  · split
    · exact shr_u hx m
    · exact iConv_u _
theorem sgn_conv {v : Int} (h : isI v = true) : sgn (iConv .u64 v) = v := by
  rw [conv_u]; rw [isI_iff] at h; unfold sgn; split <;> omega
theorem sgn_i (hx : isU x = true) : isI (sgn x) = true := by
  rw [isU_iff] at hx; rw [isI_iff]; unfold sgn; split <;> omega
theorem sar_i {v : Int} (h : isI v = true) (n : Int) : isI (iShr .i64 v n) = true := by
  rw [isI_iff] at *; rw [shr_i']; exact ediv_i h.1 h.2 (pw_pos n)
theorem shiftB_ok (ha : Inv5 a) (hx : isU x = true) (ka : HasB a x) (c n m : Int) (hm : isU m = true) (known : Bool) (hk : known = true → n = m) :
    Inv5 (shiftB c a n known) ∧ HasB (shiftB c a n known) (shV c x m) := by
  have hz := shV_u hx c m
  have kz := any_has hz
  have fin : ∀ {q : Bd}, Inv5 q ∧ HasB q (shV c x m) → Inv5 (sync q) ∧ HasB (sync q) (shV c x m) := fun h => ⟨(sync_ok h.1.raw).1, sync_has h.1 hz h.2⟩
  have hm0 := isU_iff.1 hm
  cases known with
  | false =>
    unfold shiftB
    dsimp only
    split
    · rename_i h; subst h
      refine fin (any_but ?_ hz ?_)
      · have u1 := uu_iff.1 ha.u; rw [uu_iff]; dsimp only; omega
      · have m1 := ka.u
        unfold Mid at m1 ⊢
        dsimp only
        have z0 := isU_iff.1 hz
        have : shV 7 x m ≤ x := by
          show iShr .u64 x m ≤ x
          rw [shr_u']
          exact Int.ediv_le_self _ (isU_iff.1 hx).1
        omega
    · exact fin ⟨any_inv, kz⟩
  | true =>
    rw [hk rfl]
    unfold shiftB
    dsimp only
    split
    · rename_i h; subst h
      obtain ⟨t1, t2⟩ := tShl_has ha.t hx ka.t m
      refine fin ⟨⟨t1, uShl_uu ha.u, any_inv.s, any_inv.w, any_inv.v⟩, ⟨t2, has_mid (a := uShl a.u m) (L04.shl_snd (mid_amid ha.u ka.u) hm0), kz.s, kz.w, kz.v⟩⟩
    · split
      · rename_i h; subst h
        obtain ⟨t1, t2⟩ := tShr_has ha.t hx ka.t m
        refine fin ⟨⟨t1, uShr_uu ha.u, any_inv.s, any_inv.w, any_inv.v⟩, ⟨t2, has_mid (a := uShr a.u m) (L04.shr_snd (mid_amid ha.u ka.u) hm0), kz.s, kz.w, kz.v⟩⟩
      · rename_i h6 h7
        have ez : shV c x m = iConv .u64 (iShr .i64 (sgn x) m) := by unfold shV; rw [if_neg h6, if_neg h7]
        obtain ⟨t1, t2⟩ := tSar_has ha.t hx ka.t m
        refine fin ⟨⟨t1, any_inv.u, sSar_ii ha.s, any_inv.w, any_inv.v⟩, ⟨by rw [ez]; exact t2, kz.u, ?_, kz.w, kz.v⟩⟩
        rw [ez, sgn_conv (sar_i (sgn_i hx) m)]
        exact has_mid (a := sSar a.s m) (L04.sar_snd (mid_amidI ha.s ka.s) hm0)
theorem longB_ok (ha : Inv5 a) (hx : isU x = true) (ka : HasB a x) : Inv5 (longB a) ∧ HasB (longB a) (iConv .u64 (sg32 x)) := by
  have hz := iConv_u (sg32 x)
  have kz := any_has hz
  obtain ⟨t1, t2⟩ := tLong_has ha.t hx ka.t
  have r := sg32_range x
  have q : Inv5 (longQ a) ∧ HasB (longQ a) (iConv .u64 (sg32 x)) := by
    refine ⟨⟨t1, any_inv.u, ?_, any_inv.w, any_inv.v⟩, ⟨t2, kz.u, ?_, kz.w, kz.v⟩⟩
    · have := ha.v; unfold VV at this; show II a.v; unfold II; omega
    · rw [sgn_conv (isI_iff.2 (by omega))]; exact ka.v
  exact ⟨(sync_ok q.1.raw).1, sync_has q.1 hz q.2⟩
theorem lowN_tm {t : P2} (h : TM t) (n : Int) : TM (tLowN t n) := by
  refine ⟨lowN_uu h.1 n, fun i => ?_⟩
  show (tb (andU t.lo _) i && tb (andU t.hi _) i) = false
  rw [tb_and h.1.1 lown_u, tb_and h.1.2 lown_u]
  have := h.2 i
  revert this
  cases tb t.lo i <;> cases tb t.hi i <;> cases tb (subU (iShl .u64 1 n) 1) i <;> simp
theorem low32_q (ha : Inv5 a) (hx : isU x = true) (ka : HasB a x) : Inv5 (lowQ32 a) ∧ HasB (lowQ32 a) (x % 4294967296) := by
  have hz := mod_u hx
  have kz := any_has hz
  refine ⟨⟨lowN_tm ha.t 32, ww_uu ha.w, any_inv.s, ha.w, ha.v⟩, ⟨lowN_ht 32 rfl (by omega) ha.t.1 hx ka.t, ka.w, kz.s, ?_, ?_⟩⟩
  · rw [Int.emod_emod_of_dvd x (Int.dvd_refl _)]; exact ka.w
  · rw [sg32_mod]; exact ka.v
theorem lowB32 (h : bNone a = false) : lowB a 32 = sync (lowQ32 a) := by unfold lowB; rw [if_pos rfl, h]
theorem lowB_ok (ha : Inv5 a) (hx : isU x = true) (ka : HasB a x) : Inv5 (lowB a 32) ∧ HasB (lowB a 32) (x % 4294967296) := by
  obtain ⟨q1, q2⟩ := low32_q ha hx ka
  rw [lowB32 ka.some]
  exact ⟨(sync_ok q1.raw).1, sync_has q1 (mod_u hx) q2⟩
theorem lowB_small (ha : Inv5 a) (hx : isU x = true) (ka : HasB a x) (n : Int) (k : Nat) (hn : n = k) (h : n = 8 ∨ n = 16) : Inv5 (lowB a n) ∧ HasB (lowB a n) (x % 2 ^ k) := by
  have hz := pow_u hx k
  obtain ⟨q1, q2⟩ := any_t (lowN_tm ha.t n) hz (lowN_ht k hn (by omega) ha.t.1 hx ka.t)
  have e : lowB a n = sync (lowQ a n) := by unfold lowB; rw [if_neg (by omega), if_pos h, ka.some]
  rw [e]
  exact ⟨(sync_ok q1.raw).1, sync_has q1 hz q2⟩
/-- By how many bits is shifted, where it is known. -/
theorem known_is {t : P2} (ht : TM t) (hx : isU x = true) (k : HT t x) (n : Int) (e : Nat) (hn : n = e) (he : e ≤ 64) (h : iEq (tLowN t n).hi 0 = true) : (tLowN t n).lo = x % 2 ^ e := by
  have h0 := eq_t.1 h
  have kk := lowN_ht e hn he ht.1 hx k
  refine tb_ext (lowN_uu ht.1 n).1 (pow_u hx e) fun i => ?_
  have := kk i
  rw [h0, tb_zero] at this
  simpa using this.symm

theorem opB_ok (ha : Inv5 a) (hb : Inv5 b) (hx : isU x = true) (hy : isU y = true) (ka : HasB a x) (kb : HasB b y) (c : Int) (hc : 0 ≤ c) (hc2 : c ≤ 10) (h6 : c ≠ 6) (h7 : c ≠ 7) (wide : Bool) :
    isU (aluR c wide x y) = true ∧ Inv5 (opB c a b) ∧ HasB (opB c a b) (aluR c wide x y) := by
  have hcs : c = 0 ∨ c = 1 ∨ c = 2 ∨ c = 3 ∨ c = 4 ∨ c = 5 ∨ c = 8 ∨ c = 9 ∨ c = 10 := by omega
  rcases hcs with rfl | rfl | rfl | rfl | rfl | rfl | rfl | rfl | rfl
  · exact ⟨addU_u _ _, addB_ok ha hb hx hy ka kb⟩
  · exact ⟨subU_u _ _, subB_ok ha hb hx hy ka kb⟩
  · exact ⟨mulU_u _ _, mulB_ok ha hb hx hy ka kb⟩
  · exact ⟨divV_u hx hy, divB_ok ha hb hx hy ka kb⟩
  · exact ⟨or_u hx hy, orB_ok ha hb hx hy ka kb⟩
  · exact ⟨and_u hx hy, andB_ok ha hb hx hy ka kb⟩
  · exact ⟨subU_u _ _, subB_ok (const_ok (x := 0) (by decide)).1 ha (by decide) hx (const_ok (x := 0) (by decide)).2 ka⟩
  · exact ⟨modV_u hx hy, modB_ok ha hb hx hy ka kb⟩
  · exact ⟨xor_u hx hy, xorB_ok ha hb hx hy ka kb⟩
theorem shR {c : Int} (h : isSh c = true) (wide : Bool) : aluR c wide x y = (if c = 12 then iConv .u64 (iShr .i64 (signM wide x) (y % nBits wide)) else shV c x (y % nBits wide)) := by
  have hc : c = 6 ∨ c = 7 ∨ c = 12 := of_decide_eq_true h
  rcases hc with rfl | rfl | rfl <;> rfl
theorem wideB_ok (ha : Inv5 a) (hb : Inv5 b) (hx : isU x = true) (hy : isU y = true) (ka : HasB a x) (kb : HasB b y) (c : Int) (hc : 0 ≤ c) (hc2 : c ≤ 12) :
    isU (aluR c true x y) = true ∧ Inv5 (wideB c a b) ∧ HasB (wideB c a b) (aluR c true x y) := by
  unfold wideB
  cases hs : isSh c with
  | true =>
    have e : aluR c true x y = shV c x (y % 64) := by
      rw [shR hs]
      split
      · rename_i h; subst h; rfl
      · rfl
    rw [e]
    exact ⟨shV_u hx _ _, shiftB_ok ha hx ka c _ (y % 64) (pow_u hy 6) _ fun h => known_is hb.t hy kb.t 6 6 rfl (by omega) h⟩
  | false =>
    have hn : ¬ (c = 6 ∨ c = 7 ∨ c = 12) := of_decide_eq_false hs
    dsimp only
    split
    · rename_i h; subst h; exact ⟨hy, hb, kb⟩
    · obtain ⟨g0, g1, g2⟩ := opB_ok ha hb hx hy ka kb c hc (by omega) (by omega) (by omega) true
      exact ⟨g0, (sync_ok g1.raw).1, sync_has g1 g0 g2⟩
theorem aluR_wide {c : Int} (h : isSh c = false) (w v : Bool) (x y : Int) : c ≤ 12 → 0 ≤ c → aluR c w x y = aluR c v x y := by
  intro h1 h2
  have hn : ¬ (c = 6 ∨ c = 7 ∨ c = 12) := of_decide_eq_false h
  unfold aluR
  rw [if_neg (show ¬ c = 6 by omega), if_neg (show ¬ c = 7 by omega)]
  rw [if_neg (show ¬ c = 6 by omega), if_neg (show ¬ c = 7 by omega)]
  by_cases e : c = 11
  · subst e; rfl
  · have hcs : c = 0 ∨ c = 1 ∨ c = 2 ∨ c = 3 ∨ c = 4 ∨ c = 5 ∨ c = 8 ∨ c = 9 ∨ c = 10 := by omega
    rcases hcs with rfl | rfl | rfl | rfl | rfl | rfl | rfl | rfl | rfl <;> rfl
theorem halfB_ok (ha : Inv5 a) (hb : Inv5 b) (hx : isU x = true) (hy : isU y = true) (ka : HasB a x) (kb : HasB b y) (c : Int) (hc : 0 ≤ c) (hc2 : c ≤ 12) :
    isU (aluR c false (x % 4294967296) (y % 4294967296)) = true ∧ Inv5 (halfB c a b) ∧ HasB (halfB c a b) (aluR c false (x % 4294967296) (y % 4294967296) % 4294967296) := by
  obtain ⟨ia, pa⟩ := lowB_ok ha hx ka
  obtain ⟨ib, pb⟩ := lowB_ok hb hy kb
  have hx' := mod_u hx
  have hy' := mod_u hy
  unfold halfB
  cases hs : isSh c with
  | true =>
    dsimp only
    have kn : iEq (tLowN b.t 5).hi 0 = true → (tLowN b.t 5).lo = y % 4294967296 % 32 := fun h => by
      rw [known_is hb.t hy kb.t 5 5 rfl (by omega) h]; show y % 32 = _; omega
    have hm : isU (y % 4294967296 % 32) = true := pow_u hy' 5
    by_cases h12 : c = 12
    · subst h12
      rw [if_pos rfl]
      obtain ⟨il, pl⟩ := longB_ok ia hx' pa
      have e : aluR 12 false (x % 4294967296) (y % 4294967296) = shV 12 (iConv .u64 (sg32 (x % 4294967296))) (y % 4294967296 % 32) := by
        rw [shR hs, if_pos rfl]
        unfold shV
        have r := sg32_range (x % 4294967296)
        rw [if_neg (by decide), if_neg (by decide), sgn_conv (isI_iff.2 (by omega))]
        rfl
      rw [e]
      obtain ⟨g1, g2⟩ := shiftB_ok il (iConv_u _) pl 12 _ _ hm _ kn
      have hz := shV_u (iConv_u (sg32 (x % 4294967296))) 12 (y % 4294967296 % 32)
      exact ⟨hz, lowB_ok g1 hz g2⟩
    · rw [if_neg h12]
      have e : aluR c false (x % 4294967296) (y % 4294967296) = shV c (x % 4294967296) (y % 4294967296 % 32) := by
        rw [shR hs, if_neg h12]; rfl
      rw [e]
      obtain ⟨g1, g2⟩ := shiftB_ok ia hx' pa c _ _ hm _ kn
      have hz := shV_u hx' c (y % 4294967296 % 32)
      exact ⟨hz, lowB_ok g1 hz g2⟩
  | false =>
    have hn : ¬ (c = 6 ∨ c = 7 ∨ c = 12) := of_decide_eq_false hs
    rw [pa.some, pb.some]
    dsimp only [Bool.or_self]
    by_cases h11 : c = 11
    · subst h11
      rw [if_pos rfl]
      exact ⟨hy', lowB_ok ib hy' pb⟩
    · rw [if_neg h11]
      obtain ⟨g0, g1, g2⟩ := opB_ok ia ib hx' hy' pa pb c hc (by omega) (by omega) (by omega) false
      exact ⟨g0, lowB_ok (sync_ok g1.raw).1 g0 (sync_has g1 g0 g2)⟩
/-- The stage's theorem, in plain Lean. -/
theorem does_sound (ha : Inv5 a) (hb : Inv5 b) (hx : isU x = true) (hy : isU y = true) (ka : HasB a x) (kb : HasB b y) (c : Int) (wide : Bool) (hc : 0 ≤ c) (hc2 : c ≤ 12) :
    isU (aluN c wide x y) = true ∧ Inv5 (doesB c wide a b) ∧ HasB (doesB c wide a b) (aluN c wide x y) := by
  unfold doesB aluN
  rw [if_neg (by omega), if_neg (by omega), ka.some, kb.some]
  cases wide with
  | true => exact wideB_ok ha hb hx hy ka kb c hc hc2
  | false =>
    obtain ⟨g0, g1, g2⟩ := halfB_ok ha hb hx hy ka kb c hc hc2
    exact ⟨mod_u g0, g1, g2⟩
end
end Go.Proofs.YtafpbibpahjnhaaGreat.L05
