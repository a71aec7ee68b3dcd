/- Layer 4: that what is done with numbers of spans is within what is done with the spans; plain Lean. A text of the session's own. -/
import Derived.Test.YtafpbibpahjnhaaGreatL04A
namespace Go.Proofs.YtafpbibpahjnhaaGreat.L04
open Go Go.RowKit Go.Proofs.YtafpbibpahjnhaaGreat.Sx
set_option linter.unusedVariables false

/-- A number of a span that has its ends where such may be. -/
def Amid (l x h : Int) : Prop := 0 ≤ l ∧ l ≤ x ∧ x ≤ h ∧ h < 18446744073709551616
def AmidI (l x h : Int) : Prop := -9223372036854775808 ≤ l ∧ l ≤ x ∧ x ≤ h ∧ h < 9223372036854775808
def InU (x : Int) : Prop := 0 ≤ x ∧ x < 18446744073709551616
def InI (x : Int) : Prop := -9223372036854775808 ≤ x ∧ x < 9223372036854775808

theorem InU.is {x : Int} (h : InU x) : isU x = true := isU_iff.2 h
theorem InI.is {x : Int} (h : InI x) : isI x = true := isI_iff.2 h
theorem Amid.lo {l x h : Int} (a : Amid l x h) : isU l = true := isU_iff.2 (by unfold Amid at a; omega)
theorem Amid.hi {l x h : Int} (a : Amid l x h) : isU h = true := isU_iff.2 (by unfold Amid at a; omega)
theorem AmidI.lo {l x h : Int} (a : AmidI l x h) : isI l = true := isI_iff.2 (by unfold AmidI at a; omega)
theorem AmidI.hi {l x h : Int} (a : AmidI l x h) : isI h = true := isI_iff.2 (by unfold AmidI at a; omega)

theorem has_of {l x h : Int} (a : l ≤ x ∧ x ≤ h) : mHas l h x = true := by simp only [mHas, decide_eq_true_eq]; exact a

theorem round_in {x p q : Int} (hx : InU x) (hp : InU p) (hq : InU q) : Amid (mRound1 x p q) x (mRound2 x p q) := by
  simp only [Amid, InU, mRound1, mRound2, mRound] at *; omega
theorem about_in {x p q : Int} (hx : InI x) (hp : InU p) (hq : InU q) : AmidI (mAbout1 x p q) x (mAbout2 x p q) := by
  simp only [AmidI, InI, InU, mAbout1, mAbout2, mAbout] at *; omega

theorem wf_u64 {x : Int} (h : (Lit.int .u64 x).wf = true) : InU x := by
  simp [Lit.wf, IntKind.min, IntKind.max, IntKind.signed, IntKind.bits] at h
  unfold InU; omega
theorem wf_i64 {x : Int} (h : (Lit.int .i64 x).wf = true) : InI x := by
  simp [Lit.wf, IntKind.min, IntKind.max, IntKind.signed, IntKind.bits] at h
  unfold InI; omega
theorem wf_u8 {x : Int} (h : (Lit.int .u8 x).wf = true) : 0 ≤ x ∧ x < 256 := by
  simp [Lit.wf, IntKind.min, IntKind.max, IntKind.signed, IntKind.bits] at h
  omega
theorem byte_u {n : Int} (h : 0 ≤ n ∧ n < 256) : iConv .u64 n = n := by rw [conv_u]; omega

section
variable {al ah bl bh x y n : Int}

theorem add_snd (h : Amid al x ah) (k : Amid bl y bh) : mHas (mAdd1 al ah bl bh) (mAdd2 al ah bl bh) (iAdd .u64 x y) = true := by
  refine has_of ?_
  simp only [Amid, mAdd1, mAdd2, mAdd, add_u] at *
  repeat' split
  all_goals simp only
  all_goals omega
theorem sub_snd (h : Amid al x ah) (k : Amid bl y bh) : mHas (mSub1 al ah bl bh) (mSub2 al ah bl bh) (iSub .u64 x y) = true := by
  refine has_of ?_
  simp only [Amid, mSub1, mSub2, mSub, sub_u] at *
  repeat' split
  all_goals simp only
  all_goals omega
theorem mul_snd (h : Amid al x ah) (k : Amid bl y bh) : mHas (mMul1 al ah bl bh) (mMul2 al ah bl bh) (iMul .u64 x y) = true := by
  refine has_of ?_
  simp only [Amid] at *
  have h1 : al * bl ≤ x * y := mul_le (by omega) (by omega) (by omega) (by omega)
  have h2 : x * y ≤ ah * bh := mul_le (by omega) (by omega) (by omega) (by omega)
  have h3 : 0 ≤ al * bl := Int.mul_nonneg (by omega) (by omega)
  simp only [mMul1, mMul2, mMul, mul_u] at *
  repeat' split
  all_goals simp only
  all_goals omega

theorem div_mono {a d x y : Int} (h0 : 0 ≤ a) (h1 : a ≤ x) (h2 : 0 < y) (h3 : y ≤ d) : a / d ≤ x / y := by
  rw [Int.le_ediv_iff_mul_le h2]
  have h4 : 0 ≤ a / d := Int.ediv_nonneg h0 (by omega)
  have h5 : a / d * y ≤ a / d * d := Int.mul_le_mul_of_nonneg_left h3 h4
  have h6 : a / d * d ≤ a := Int.ediv_mul_le a (by omega)
  omega

theorem div_snd (h : Amid al x ah) (k : Amid bl y bh) (hy : y ≠ 0) : mHas (mDiv1 al ah bl bh) (mDiv2 al ah bl bh) (iQuo .u64 x y) = true := by
  refine has_of ?_
  simp only [Amid] at *
  rw [quo_u _ _ (by omega) (by omega) (by omega)]
  have h1 : 0 ≤ x / y := Int.ediv_nonneg (by omega) (by omega)
  have h2 : x / y ≤ x := Int.ediv_le_self _ (by omega)
  have h3 : al / bh ≤ x / y := div_mono (by omega) (by omega) (by omega) (by omega)
  have h4 : bl ≠ 0 → x / y ≤ ah / bl := fun h => div_mono (by omega) (by omega) (by omega) (by omega)
  simp only [mDiv1, mDiv2, mDiv]
  repeat' split
  all_goals simp only
  all_goals omega
theorem div_snd0 (h : Amid al x ah) (k : Amid bl y bh) (hy : y = 0) : mHas (mDiv1 al ah bl bh) (mDiv2 al ah bl bh) 0 = true := by
  refine has_of ?_
  simp only [Amid] at *
  simp only [mDiv1, mDiv2, mDiv]
  repeat' split
  all_goals simp only
  all_goals omega
theorem mod_snd (h : Amid al x ah) (k : Amid bl y bh) (hy : y ≠ 0) : mHas (mMod1 al ah bl bh) (mMod2 al ah bl bh) (iRem x y) = true := by
  refine has_of ?_
  simp only [Amid] at *
  rw [iRem, Int.tmod_eq_emod_of_nonneg (by omega)]
  have h1 : 0 ≤ x % y := Int.emod_nonneg _ hy
  have h2 : x % y < y := Int.emod_lt_of_pos _ (by omega)
  have h3 : x % y ≤ x := by
    have := Int.emod_add_mul_ediv x y
    have h4 : 0 ≤ y * (x / y) := Int.mul_nonneg (by omega) (Int.ediv_nonneg (by omega) (by omega))
    omega
  simp only [mMod1, mMod2, mMod]
  repeat' split
  all_goals simp only
  all_goals omega
theorem mod_snd0 (h : Amid al x ah) (k : Amid bl y bh) (hy : y = 0) : mHas (mMod1 al ah bl bh) (mMod2 al ah bl bh) x = true := by
  refine has_of ?_
  simp only [Amid] at *
  simp only [mMod1, mMod2, mMod]
  repeat' split
  all_goals simp only
  all_goals omega
theorem shl_snd (h : Amid al x ah) (hn : InU n) : mHas (mShl1 al ah n) (mShl2 al ah n) (iShl .u64 x n) = true := by
  refine has_of ?_
  simp only [Amid] at *
  have hp := pw_pos n
  have h1 : al * pw n ≤ x * pw n := Int.mul_le_mul_of_nonneg_right (by omega) (by omega)
  have h2 : x * pw n ≤ ah * pw n := Int.mul_le_mul_of_nonneg_right (by omega) (by omega)
  have h3 : 0 ≤ al * pw n := Int.mul_nonneg (by omega) (by omega)
  simp only [mShl1, mShl2, mShl, shl_u] at *
  repeat' split
  all_goals simp only
  all_goals omega
theorem shr_snd (h : Amid al x ah) (hn : InU n) : mHas (mShr1 al ah n) (mShr2 al ah n) (iShr .u64 x n) = true := by
  refine has_of ?_
  simp only [Amid] at *
  have hp := pw_pos n
  have h1 : al / pw n ≤ x / pw n := Int.ediv_le_ediv hp (by omega)
  have h2 : x / pw n ≤ ah / pw n := Int.ediv_le_ediv hp (by omega)
  simp only [mShr1, mShr2, mShr, shr_u'] at *
  repeat' split
  all_goals simp only
  all_goals omega
theorem meet_snd (h : al ≤ x ∧ x ≤ ah) (k : bl ≤ bh) : mHas bl bh x = mHas (mMeet1 al ah bl bh) (mMeet2 al ah bl bh) x := by
  simp only [mHas, decide_eq_decide]
  simp only [mMeet1, mMeet2, mMeet]
  repeat' split
  all_goals simp only
  all_goals omega
theorem join_snd (h : al ≤ x ∧ x ≤ ah) (k : bl ≤ bh) : mHas (mJoin1 al ah bl bh) (mJoin2 al ah bl bh) x = true := by
  refine has_of ?_
  simp only [mJoin1, mJoin2, mJoin] at *
  repeat' split
  all_goals simp only
  all_goals omega
theorem join_snd' (h : al ≤ ah) (k : bl ≤ y ∧ y ≤ bh) : mHas (mJoin1 al ah bl bh) (mJoin2 al ah bl bh) y = true := by
  refine has_of ?_
  simp only [mJoin1, mJoin2, mJoin] at *
  repeat' split
  all_goals simp only
  all_goals omega
theorem sign_snd (h : Amid al x ah) : mHas (mSign1 al ah) (mSign2 al ah) (iConv .i64 x) = true := by
  refine has_of ?_
  simp only [Amid, mSign1, mSign2, mSign, conv_i, sgn] at *
  repeat' split
  all_goals simp only
  all_goals omega
theorem plus_snd (h : AmidI al x ah) (k : AmidI bl y bh) : mHas (mPlus1 al ah bl bh) (mPlus2 al ah bl bh) (iAdd .i64 x y) = true := by
  refine has_of ?_
  simp only [AmidI, mPlus1, mPlus2, mPlus, add_i] at *
  repeat' split
  all_goals simp only
  all_goals omega
theorem minus_snd (h : AmidI al x ah) (k : AmidI bl y bh) : mHas (mMinus1 al ah bl bh) (mMinus2 al ah bl bh) (iSub .i64 x y) = true := by
  refine has_of ?_
  simp only [AmidI, mMinus1, mMinus2, mMinus, sub_i] at *
  repeat' split
  all_goals simp only
  all_goals omega
theorem sar_snd (h : AmidI al x ah) (hn : InU n) : mHas (mSar1 al ah n) (mSar2 al ah n) (iShr .i64 x n) = true := by
  refine has_of ?_
  simp only [AmidI] at *
  have hp := pw_pos n
  have h1 : al / pw n ≤ x / pw n := Int.ediv_le_ediv hp (by omega)
  have h2 : x / pw n ≤ ah / pw n := Int.ediv_le_ediv hp (by omega)
  simp only [mSar1, mSar2, mSar, shr_i'] at *
  repeat' split
  all_goals simp only
  all_goals omega
theorem bare_snd (h : AmidI al x ah) : mHas (mBare1 al ah) (mBare2 al ah) (iConv .u64 x) = true := by
  refine has_of ?_
  simp only [AmidI, mBare1, mBare2, mBare, conv_u, uns] at *
  repeat' split
  all_goals simp only
  all_goals omega
end

/-! spans within others -/
section
variable {al ah bl bh cl ch dl dh n : Int}
theorem in_of {a b c d : Int} (h : b < a ∨ c ≤ a ∧ a ≤ d ∧ c ≤ b ∧ b ≤ d) : mIn a b c d = true := by simp only [mIn, decide_eq_true_eq]; exact h

/-- One span with a number is within another one. -/
def Within (al cl ch ah : Int) : Prop := 0 ≤ al ∧ al ≤ cl ∧ cl ≤ ch ∧ ch ≤ ah ∧ ah < 18446744073709551616

theorem round_within {x p q p' q' : Int} (hx : InU x) (hp : InU p) (hq : InU q) (h1 : 0 ≤ p' ∧ p' ≤ p) (h2 : 0 ≤ q' ∧ q' ≤ q) :
    Within (mRound1 x p q) (mRound1 x p' q') (mRound2 x p' q') (mRound2 x p q) := by
  simp only [Within, InU, mRound1, mRound2, mRound] at *; omega

theorem in_self (h : Within al cl ch ah) : mIn cl ch al ah = true := by
  refine in_of ?_; simp only [Within] at h; omega
theorem add_in (h : Within al cl ch ah) (k : Within bl dl dh bh) : mIn (mAdd1 cl ch dl dh) (mAdd2 cl ch dl dh) (mAdd1 al ah bl bh) (mAdd2 al ah bl bh) = true := by
  refine in_of ?_
  simp only [Within, mAdd1, mAdd2, mAdd] at *
  repeat' split
  all_goals simp only
  all_goals omega
theorem sub_in (h : Within al cl ch ah) (k : Within bl dl dh bh) : mIn (mSub1 cl ch dl dh) (mSub2 cl ch dl dh) (mSub1 al ah bl bh) (mSub2 al ah bl bh) = true := by
  refine in_of ?_
  simp only [Within, mSub1, mSub2, mSub] at *
  repeat' split
  all_goals simp only
  all_goals omega
theorem mul_in (h : Within al cl ch ah) (k : Within bl dl dh bh) : mIn (mMul1 cl ch dl dh) (mMul2 cl ch dl dh) (mMul1 al ah bl bh) (mMul2 al ah bl bh) = true := by
  refine in_of ?_
  simp only [Within] at *
  have h1 : al * bl ≤ cl * dl := mul_le (by omega) (by omega) (by omega) (by omega)
  have h2 : cl * dl ≤ ch * dh := mul_le (by omega) (by omega) (by omega) (by omega)
  have h4 : ch * dh ≤ ah * bh := mul_le (by omega) (by omega) (by omega) (by omega)
  have h3 : 0 ≤ al * bl := Int.mul_nonneg (by omega) (by omega)
  simp only [mMul1, mMul2, mMul] at *
  repeat' split
  all_goals simp only
  all_goals omega
theorem shl_in (h : Within al cl ch ah) (hn : InU n) : mIn (mShl1 cl ch n) (mShl2 cl ch n) (mShl1 al ah n) (mShl2 al ah n) = true := by
  refine in_of ?_
  simp only [Within] at *
  have hp := pw_pos n
  have h1 : al * pw n ≤ cl * pw n := Int.mul_le_mul_of_nonneg_right (by omega) (by omega)
  have h2 : cl * pw n ≤ ch * pw n := Int.mul_le_mul_of_nonneg_right (by omega) (by omega)
  have h4 : ch * pw n ≤ ah * pw n := Int.mul_le_mul_of_nonneg_right (by omega) (by omega)
  have h3 : 0 ≤ al * pw n := Int.mul_nonneg (by omega) (by omega)
  simp only [mShl1, mShl2, mShl] at *
  repeat' split
  all_goals simp only
  all_goals omega
theorem shr_in (h : Within al cl ch ah) (hn : InU n) : mIn (mShr1 cl ch n) (mShr2 cl ch n) (mShr1 al ah n) (mShr2 al ah n) = true := by
  refine in_of ?_
  simp only [Within] at *
  have hp := pw_pos n
  have h1 : al / pw n ≤ cl / pw n := Int.ediv_le_ediv hp (by omega)
  have h2 : cl / pw n ≤ ch / pw n := Int.ediv_le_ediv hp (by omega)
  have h4 : ch / pw n ≤ ah / pw n := Int.ediv_le_ediv hp (by omega)
  simp only [mShr1, mShr2, mShr] at *
  repeat' split
  all_goals simp only
  all_goals omega
theorem meet_in1 (h : al ≤ ah) (k : bl ≤ bh) : mIn (mMeet1 al ah bl bh) (mMeet2 al ah bl bh) al ah = true := by
  refine in_of ?_
  simp only [mMeet1, mMeet2, mMeet] at *
  repeat' split
  all_goals simp only
  all_goals omega
theorem meet_in2 (h : al ≤ ah) (k : bl ≤ bh) : mIn (mMeet1 al ah bl bh) (mMeet2 al ah bl bh) bl bh = true := by
  refine in_of ?_
  simp only [mMeet1, mMeet2, mMeet] at *
  repeat' split
  all_goals simp only
  all_goals omega
theorem join_in1 (h : al ≤ ah) (k : bl ≤ bh) : mIn al ah (mJoin1 al ah bl bh) (mJoin2 al ah bl bh) = true := by
  refine in_of ?_
  simp only [mJoin1, mJoin2, mJoin] at *
  repeat' split
  all_goals simp only
  all_goals omega
theorem join_in2 (h : al ≤ ah) (k : bl ≤ bh) : mIn bl bh (mJoin1 al ah bl bh) (mJoin2 al ah bl bh) = true := by
  refine in_of ?_
  simp only [mJoin1, mJoin2, mJoin] at *
  repeat' split
  all_goals simp only
  all_goals omega
theorem meet_in (h : Within al cl ch ah) (k : Within bl dl dh bh) : mIn (mMeet1 cl ch dl dh) (mMeet2 cl ch dl dh) (mMeet1 al ah bl bh) (mMeet2 al ah bl bh) = true := by
  refine in_of ?_
  simp only [Within, mMeet1, mMeet2, mMeet] at *
  repeat' split
  all_goals simp only
  all_goals omega
end
/-! what has no number -/
section
variable {al ah bl bh n : Int}
theorem none_t (a b : Int) : mNone a b = true ↔ b < a := by simp [mNone]
theorem none_add (h : ah < al) : mNone (mAdd1 al ah bl bh) (mAdd2 al ah bl bh) = true := by rw [none_t, mAdd1, mAdd2, mAdd, if_pos (by omega)]; decide
theorem none_sub (h : ah < al) : mNone (mSub1 bl bh al ah) (mSub2 bl bh al ah) = true := by rw [none_t, mSub1, mSub2, mSub, if_pos (by omega)]; decide
theorem none_mul (h : ah < al) : mNone (mMul1 al ah bl bh) (mMul2 al ah bl bh) = true := by rw [none_t, mMul1, mMul2, mMul, if_pos (by omega)]; decide
theorem none_div (h : ah < al) : mNone (mDiv1 bl bh al ah) (mDiv2 bl bh al ah) = true := by rw [none_t, mDiv1, mDiv2, mDiv, if_pos (by omega)]; decide
theorem none_mod (h : ah < al) : mNone (mMod1 al ah bl bh) (mMod2 al ah bl bh) = true := by rw [none_t, mMod1, mMod2, mMod, if_pos (by omega)]; decide
theorem none_shl (h : ah < al) : mNone (mShl1 al ah n) (mShl2 al ah n) = true := by rw [none_t, mShl1, mShl2, mShl, if_pos (by omega)]; decide
theorem none_shr (h : ah < al) : mNone (mShr1 al ah n) (mShr2 al ah n) = true := by rw [none_t, mShr1, mShr2, mShr, if_pos (by omega)]; decide
theorem none_meet (h : ah < al) : mNone (mMeet1 al ah bl bh) (mMeet2 al ah bl bh) = true := by rw [none_t, mMeet1, mMeet2, mMeet, if_pos (by omega)]; decide
theorem none_meet' (h : ah < al) : mNone (mMeet1 bl bh al ah) (mMeet2 bl bh al ah) = true := by rw [none_t, mMeet1, mMeet2, mMeet, if_pos (by omega)]; decide
theorem none_bare (h : ah < al) : mNone (mBare1 al ah) (mBare2 al ah) = true := by rw [none_t, mBare1, mBare2, mBare, if_pos (by omega)]; decide
theorem none_sign (h : ah < al) : mNone (mSign1 al ah) (mSign2 al ah) = true := by rw [none_t, mSign1, mSign2, mSign, if_pos (by omega)]; decide
theorem none_plus (h : ah < al) : mNone (mPlus1 bl bh al ah) (mPlus2 bl bh al ah) = true := by rw [none_t, mPlus1, mPlus2, mPlus, if_pos (by omega)]; decide
theorem none_minus (h : ah < al) : mNone (mMinus1 al ah bl bh) (mMinus2 al ah bl bh) = true := by rw [none_t, mMinus1, mMinus2, mMinus, if_pos (by omega)]; decide
theorem none_sar (h : ah < al) : mNone (mSar1 al ah n) (mSar2 al ah n) = true := by rw [none_t, mSar1, mSar2, mSar, if_pos (by omega)]; decide
theorem none_join (h : ah < al) : mNone (mJoin1 al ah bl bh) (mJoin2 al ah bl bh) = mNone bl bh := by
  rw [Bool.eq_iff_iff, none_t, none_t]
  simp only [mJoin1, mJoin2, mJoin]
  repeat' split
  all_goals simp only
  all_goals omega
theorem none_join' (h : ah < al) : mNone (mJoin1 bl bh al ah) (mJoin2 bl bh al ah) = mNone bl bh := by
  rw [Bool.eq_iff_iff, none_t, none_t]
  simp only [mJoin1, mJoin2, mJoin]
  repeat' split
  all_goals simp only
  all_goals omega
theorem none_in (h : ah < al) : mIn al ah bl bh = true := in_of (.inl h)
end
end Go.Proofs.YtafpbibpahjnhaaGreat.L04
