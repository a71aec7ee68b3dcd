/- Layer 5: what is made of two bounds: what its functions are shown to do. Printed by a program of the session's own (genb.py). -/
import Derived.Test.YtafpbibpahjnhaaGreatL05P
namespace Go.Proofs.YtafpbibpahjnhaaGreat.L05P
open Go Go.RowKit Go.Proofs.YtafpbibpahjnhaaGreat.Sx Go.Proofs.YtafpbibpahjnhaaGreat.L05 Go.Proofs.YtafpbibpahjnhaaGreat.L05J
set_option linter.unusedVariables false
set_option linter.unusedSimpArgs false
open Go.Proofs.YtafpbibpahjnhaaGreat.L04 (mAdd1 mAdd2 mSub1 mSub2 mMul1 mMul2 mDiv1 mDiv2 mMod1 mMod2 mPlus1 mPlus2 mMinus1 mMinus2 mShl1 mShl2 mShr1 mShr2 mSar1 mSar2)
theorem oks_L05S_0 : ∀ q ∈ [s_bNone, s_sync, s_tLowN, s_shift, s_lowB, s_long, s_addB, s_subB, s_mul, L04.s_Mul, s_fits, L04.s_Div, L04.s_Mod, s_tAnd, s_tOr, s_tXor, s_bConst], SumOK Tryz.prog q := (okc s_bNone_ok (okc s_sync_ok (okc s_tLowN_ok (okc s_shift_ok (okc s_lowB_ok (okc s_long_ok (okc s_addB_ok (okc s_subB_ok (okc s_mul_ok (okc L04.s_Mul_ok (okc s_fits_ok (okc L04.s_Div_ok (okc L04.s_Mod_ok (okc s_tAnd_ok (okc s_tOr_ok (okc s_tXor_ok (okc s_bConst_ok okn)))))))))))))))))
theorem t_does0t (a : Bd) (b : Bd) (hb0 : isU a.1.1 = true) (hb1 : isU a.1.2 = true) (hb2 : isU a.2.1 = true) (hb3 : isU a.2.2 = true) (hb4 : isI a.3.1 = true) (hb5 : isI a.3.2 = true) (hb6 : isU a.4.1 = true) (hb7 : isU a.4.2 = true) (hb8 : isI a.5.1 = true) (hb9 : isI a.5.2 = true) (hb10 : isU b.1.1 = true) (hb11 : isU b.1.2 = true) (hb12 : isU b.2.1 = true) (hb13 : isU b.2.2 = true) (hb14 : isI b.3.1 = true) (hb15 : isI b.3.2 = true) (hb16 : isU b.4.1 = true) (hb17 : isU b.4.2 = true) (hb18 : isI b.5.1 = true) (hb19 : isI b.5.2 = true) (ρ : Nat → Nat) (w : World) : Calls Tryz.prog 17 (enV [.s (some .u8), .s none, .a [some .u64, some .u64, some .u64, some .u64, some .i64, some .i64, some .u64, some .u64, some .i64, some .i64], .a [some .u64, some .u64, some .u64, some .u64, some .i64, some .i64, some .u64, some .u64, some .i64, some .i64]] ([0, a.1.1, a.1.2, a.2.1, a.2.2, a.3.1, a.3.2, a.4.1, a.4.2, a.5.1, a.5.2, b.1.1, b.1.2, b.2.1, b.2.2, b.3.1, b.3.2, b.4.1, b.4.2, b.5.1, b.5.2], [true])).toArray w fun e w' => e = .returned (V.den ρ (.tup [.agg (cB (doesB 0 true a b)), .c (.si .i64 (doesE 0))])) ∧ Below w.heap.size w w' := by
  refine pure_to nameOK oks_L05S_0 (dOK oks_L05S_0) 300 [.u (.c (.li .u8 0)), .u (.c (.lb true)), .u (.agg (cB a)), .u (.agg (cB b))] (T := (.br (bNone a) (.leaf (.val (.tup [(.agg cN), (.c (.li .i64 0))]))) (.br (bNone b) (.leaf (.val (.tup [(.agg cN), (.c (.li .i64 0))]))) (a10 a (a10 b (a10 (addB a b) (.leaf (.val (.tup [(.agg (cB (sync (addB a b)))), (.c (.li .i64 0))]))))))))) (by kernel_rfl) ρ rfl ?_ w
  · have ra : Raw5 a := raw_of hb0 hb1 hb2 hb3 hb4 hb5 hb6 hb7 hb8 hb9
    have rb : Raw5 b := raw_of hb10 hb11 hb12 hb13 hb14 hb15 hb16 hb17 hb18 hb19
    refine br2 (fun k1 => ?_) (fun k1 => ?_)
    · have e : doesB 0 true a b = nothing := does_na (by decide) k1
      simp only [Tr.all]; rw [e]; try rfl
    · refine br2 (fun k2 => ?_) (fun k2 => ?_)
      · have e : doesB 0 true a b = nothing := does_nb (by decide) k1 k2
        simp only [Tr.all]; rw [e]; try rfl
      · refine ask10 (b := a) (ra) ?_
        refine ask10 (b := b) (rb) ?_
        refine ask10 (b := (addB a b)) (addB_raw (ra) (rb)) ?_
        have e : doesB 0 true a b = sync (addB a b) := (does_w (by decide) k1 k2).trans ((wide_op rfl).trans rfl)
        simp only [Tr.all]; exact does_leaf e.symm rfl
theorem t_alu0t (x : Int) (y : Int) (hb0 : isU x = true) (hb1 : isU y = true) (ρ : Nat → Nat) (w : World) : Calls Tryz.prog 31 (enV [.s (some .u8), .s none, .s (some .u64), .s (some .u64)] ([0, x, y], [true])).toArray w fun e w' => e = .returned (V.den ρ (.tup [.c (.si .u64 (aluN 0 true x y)), .c (.si .i64 (doesE 0))])) ∧ Below w.heap.size w w' := by
  refine pure_to nameOK okn (dOK okn) 300 [.u (.c (.li .u8 0)), .u (.c (.lb true)), .u (.c (.si .u64 x)), .u (.c (.si .u64 y))] (T := (.br (iEq (iShr .u64 (iShl .u64 y 0) 0) 0) (.leaf (.val (.tup [(.c (.si .u64 (iShr .u64 (iShl .u64 (iAdd .u64 (iShr .u64 (iShl .u64 x 0) 0) (iShr .u64 (iShl .u64 y 0) 0)) 0) 0))), (.c (.li .i64 0))]))) (.br (iZero? (iShr .u64 (iShl .u64 y 0) 0)) (.no 11) (.br (iZero? (iShr .u64 (iShl .u64 y 0) 0)) (.no 11) (.leaf (.val (.tup [(.c (.si .u64 (iShr .u64 (iShl .u64 (iAdd .u64 (iShr .u64 (iShl .u64 x 0) 0) (iShr .u64 (iShl .u64 y 0) 0)) 0) 0))), (.c (.li .i64 0))]))))))) (by kernel_rfl) ρ rfl ?_ w
  · have hx := hb0
    have hy := hb1
    have ex : iShr .u64 (iShl .u64 x 0) 0 = x := shl0 hb0
    have ey : iShr .u64 (iShl .u64 y 0) 0 = y := shl0 hb1
    have sx : iShr .i64 (iConv .i64 (iShl .u64 x 0)) 0 = sgn x := sar0 hb0
    refine br2 (fun k1 => ?_) (fun k1 => ?_)
    · have e0 : y = 0 := by have q := eq_t.1 k1; rwa [ey] at q
      simp only [Tr.all]; exact alu_leaf (by rw [ex, ey]; exact shl0 (addU_u _ _)) rfl
    · refine brF (zero_f.2 (eq_f.1 k1)) ?_
      refine brF (zero_f.2 (eq_f.1 k1)) ?_
      have e0 : ¬ y = 0 := by have q := eq_f.1 k1; rwa [ey] at q
      simp only [Tr.all]; exact alu_leaf (by rw [ex, ey]; exact shl0 (addU_u _ _)) rfl
theorem t_does0f (a : Bd) (b : Bd) (hb0 : isU a.1.1 = true) (hb1 : isU a.1.2 = true) (hb2 : isU a.2.1 = true) (hb3 : isU a.2.2 = true) (hb4 : isI a.3.1 = true) (hb5 : isI a.3.2 = true) (hb6 : isU a.4.1 = true) (hb7 : isU a.4.2 = true) (hb8 : isI a.5.1 = true) (hb9 : isI a.5.2 = true) (hb10 : isU b.1.1 = true) (hb11 : isU b.1.2 = true) (hb12 : isU b.2.1 = true) (hb13 : isU b.2.2 = true) (hb14 : isI b.3.1 = true) (hb15 : isI b.3.2 = true) (hb16 : isU b.4.1 = true) (hb17 : isU b.4.2 = true) (hb18 : isI b.5.1 = true) (hb19 : isI b.5.2 = true) (ρ : Nat → Nat) (w : World) : Calls Tryz.prog 17 (enV [.s (some .u8), .s none, .a [some .u64, some .u64, some .u64, some .u64, some .i64, some .i64, some .u64, some .u64, some .i64, some .i64], .a [some .u64, some .u64, some .u64, some .u64, some .i64, some .i64, some .u64, some .u64, some .i64, some .i64]] ([0, a.1.1, a.1.2, a.2.1, a.2.2, a.3.1, a.3.2, a.4.1, a.4.2, a.5.1, a.5.2, b.1.1, b.1.2, b.2.1, b.2.2, b.3.1, b.3.2, b.4.1, b.4.2, b.5.1, b.5.2], [false])).toArray w fun e w' => e = .returned (V.den ρ (.tup [.agg (cB (doesB 0 false a b)), .c (.si .i64 (doesE 0))])) ∧ Below w.heap.size w w' := by
  refine pure_to nameOK oks_L05S_0 (dOK oks_L05S_0) 300 [.u (.c (.li .u8 0)), .u (.c (.lb false)), .u (.agg (cB a)), .u (.agg (cB b))] (T := (.br (bNone a) (.leaf (.val (.tup [(.agg cN), (.c (.li .i64 0))]))) (.br (bNone b) (.leaf (.val (.tup [(.agg cN), (.c (.li .i64 0))]))) (a10 a (.br (isU 32) (a10 b (.br (isU 32) (.br (bNone (lowB a 32)) (.leaf (.val (.tup [(.agg cN), (.c (.li .i64 0))]))) (.br (bNone (lowB b 32)) (.leaf (.val (.tup [(.agg cN), (.c (.li .i64 0))]))) (a10 (lowB a 32) (a10 (lowB b 32) (a10 (addB (lowB a 32) (lowB b 32)) (a10 (sync (addB (lowB a 32) (lowB b 32))) (.br (isU 32) (.leaf (.val (.tup [(.agg (cB (lowB (sync (addB (lowB a 32) (lowB b 32))) 32))), (.c (.li .i64 0))]))) (.no 98)))))))) (.no 98))) (.no 98)))))) (by kernel_rfl) ρ rfl ?_ w
  · have ra : Raw5 a := raw_of hb0 hb1 hb2 hb3 hb4 hb5 hb6 hb7 hb8 hb9
    have rb : Raw5 b := raw_of hb10 hb11 hb12 hb13 hb14 hb15 hb16 hb17 hb18 hb19
    have rla : Raw5 (lowB a 32) := lowB_raw ra
    have rlb : Raw5 (lowB b 32) := lowB_raw rb
    have a0 : isU (lowB a 32).1.1 = true := raw_t1 rla
    have a1 : isU (lowB a 32).1.2 = true := raw_t2 rla
    have a2 : isU (lowB a 32).2.1 = true := raw_u1 rla
    have a3 : isU (lowB a 32).2.2 = true := raw_u2 rla
    have a4 : isI (lowB a 32).3.1 = true := raw_s1 rla
    have a5 : isI (lowB a 32).3.2 = true := raw_s2 rla
    have a6 : isU (lowB a 32).4.1 = true := raw_w1 rla
    have a7 : isU (lowB a 32).4.2 = true := raw_w2 rla
    have a8 : isI (lowB a 32).5.1 = true := raw_v1 rla
    have a9 : isI (lowB a 32).5.2 = true := raw_v2 rla
    have b0 : isU (lowB b 32).1.1 = true := raw_t1 rlb
    have b1 : isU (lowB b 32).1.2 = true := raw_t2 rlb
    have b2 : isU (lowB b 32).2.1 = true := raw_u1 rlb
    have b3 : isU (lowB b 32).2.2 = true := raw_u2 rlb
    have b4 : isI (lowB b 32).3.1 = true := raw_s1 rlb
    have b5 : isI (lowB b 32).3.2 = true := raw_s2 rlb
    have b6 : isU (lowB b 32).4.1 = true := raw_w1 rlb
    have b7 : isU (lowB b 32).4.2 = true := raw_w2 rlb
    have b8 : isI (lowB b 32).5.1 = true := raw_v1 rlb
    have b9 : isI (lowB b 32).5.2 = true := raw_v2 rlb
    refine br2 (fun k1 => ?_) (fun k1 => ?_)
    · have e : doesB 0 false a b = nothing := does_na (by decide) k1
      simp only [Tr.all]; rw [e]; try rfl
    · refine br2 (fun k2 => ?_) (fun k2 => ?_)
      · have e : doesB 0 false a b = nothing := does_nb (by decide) k1 k2
        simp only [Tr.all]; rw [e]; try rfl
      · refine ask10 (b := a) (ra) ?_
        refine askB (by first | with_reducible assumption | decide) ?_
        refine ask10 (b := b) (rb) ?_
        refine askB (by first | with_reducible assumption | decide) ?_
        refine br2 (fun k3 => ?_) (fun k3 => ?_)
        · have e : doesB 0 false a b = nothing := (does_h (by decide) k1 k2).trans (half_na rfl k3)
          simp only [Tr.all]; rw [e]; try rfl
        · refine br2 (fun k4 => ?_) (fun k4 => ?_)
          · have e : doesB 0 false a b = nothing := (does_h (by decide) k1 k2).trans (half_nb rfl k3 k4)
            simp only [Tr.all]; rw [e]; try rfl
          · refine ask10 (b := (lowB a 32)) (lowB_raw (ra)) ?_
            refine ask10 (b := (lowB b 32)) (lowB_raw (rb)) ?_
            refine ask10 (b := (addB (lowB a 32) (lowB b 32))) (addB_raw (lowB_raw (ra)) (lowB_raw (rb))) ?_
            refine ask10 (b := (sync (addB (lowB a 32) (lowB b 32)))) (sy_raw (addB_raw (lowB_raw (ra)) (lowB_raw (rb)))) ?_
            refine askB (by first | with_reducible assumption | decide) ?_
            have e : doesB 0 false a b = lowB (sync (addB (lowB a 32) (lowB b 32))) 32 := (does_h (by decide) k1 k2).trans ((half_op rfl k3 k4).trans rfl)
            simp only [Tr.all]; exact does_leaf e.symm rfl
theorem t_alu0f (x : Int) (y : Int) (hb0 : isU x = true) (hb1 : isU y = true) (ρ : Nat → Nat) (w : World) : Calls Tryz.prog 31 (enV [.s (some .u8), .s none, .s (some .u64), .s (some .u64)] ([0, x, y], [false])).toArray w fun e w' => e = .returned (V.den ρ (.tup [.c (.si .u64 (aluN 0 false x y)), .c (.si .i64 (doesE 0))])) ∧ Below w.heap.size w w' := by
  refine pure_to nameOK okn (dOK okn) 300 [.u (.c (.li .u8 0)), .u (.c (.lb false)), .u (.c (.si .u64 x)), .u (.c (.si .u64 y))] (T := (.br (iEq (iShr .u64 (iShl .u64 y 32) 32) 0) (.leaf (.val (.tup [(.c (.si .u64 (iShr .u64 (iShl .u64 (iAdd .u64 (iShr .u64 (iShl .u64 x 32) 32) (iShr .u64 (iShl .u64 y 32) 32)) 32) 32))), (.c (.li .i64 0))]))) (.br (iZero? (iShr .u64 (iShl .u64 y 32) 32)) (.no 11) (.br (iZero? (iShr .u64 (iShl .u64 y 32) 32)) (.no 11) (.leaf (.val (.tup [(.c (.si .u64 (iShr .u64 (iShl .u64 (iAdd .u64 (iShr .u64 (iShl .u64 x 32) 32) (iShr .u64 (iShl .u64 y 32) 32)) 32) 32))), (.c (.li .i64 0))]))))))) (by kernel_rfl) ρ rfl ?_ w
  · have ex : iShr .u64 (iShl .u64 x 32) 32 = x % 4294967296 := shl32 hb0
    have ey : iShr .u64 (iShl .u64 y 32) 32 = y % 4294967296 := shl32 hb1
    have sx : iShr .i64 (iConv .i64 (iShl .u64 (x % 4294967296) 32)) 32 = sg32 (x % 4294967296) := by rw [sg32_mod]; exact sar32 x
    have hx : isU (x % 4294967296) = true := mod_u hb0
    have hy : isU (y % 4294967296) = true := mod_u hb1
    refine br2 (fun k1 => ?_) (fun k1 => ?_)
    · have e0 : (y % 4294967296) = 0 := by have q := eq_t.1 k1; rwa [ey] at q
      simp only [Tr.all]; exact alu_leaf (by rw [ex, ey]; exact shl32 (addU_u _ _)) rfl
    · refine brF (zero_f.2 (eq_f.1 k1)) ?_
      refine brF (zero_f.2 (eq_f.1 k1)) ?_
      have e0 : ¬ (y % 4294967296) = 0 := by have q := eq_f.1 k1; rwa [ey] at q
      simp only [Tr.all]; exact alu_leaf (by rw [ex, ey]; exact shl32 (addU_u _ _)) rfl
theorem t_does1t (a : Bd) (b : Bd) (hb0 : isU a.1.1 = true) (hb1 : isU a.1.2 = true) (hb2 : isU a.2.1 = true) (hb3 : isU a.2.2 = true) (hb4 : isI a.3.1 = true) (hb5 : isI a.3.2 = true) (hb6 : isU a.4.1 = true) (hb7 : isU a.4.2 = true) (hb8 : isI a.5.1 = true) (hb9 : isI a.5.2 = true) (hb10 : isU b.1.1 = true) (hb11 : isU b.1.2 = true) (hb12 : isU b.2.1 = true) (hb13 : isU b.2.2 = true) (hb14 : isI b.3.1 = true) (hb15 : isI b.3.2 = true) (hb16 : isU b.4.1 = true) (hb17 : isU b.4.2 = true) (hb18 : isI b.5.1 = true) (hb19 : isI b.5.2 = true) (ρ : Nat → Nat) (w : World) : Calls Tryz.prog 17 (enV [.s (some .u8), .s none, .a [some .u64, some .u64, some .u64, some .u64, some .i64, some .i64, some .u64, some .u64, some .i64, some .i64], .a [some .u64, some .u64, some .u64, some .u64, some .i64, some .i64, some .u64, some .u64, some .i64, some .i64]] ([1, a.1.1, a.1.2, a.2.1, a.2.2, a.3.1, a.3.2, a.4.1, a.4.2, a.5.1, a.5.2, b.1.1, b.1.2, b.2.1, b.2.2, b.3.1, b.3.2, b.4.1, b.4.2, b.5.1, b.5.2], [true])).toArray w fun e w' => e = .returned (V.den ρ (.tup [.agg (cB (doesB 1 true a b)), .c (.si .i64 (doesE 1))])) ∧ Below w.heap.size w w' := by
  refine pure_to nameOK oks_L05S_0 (dOK oks_L05S_0) 300 [.u (.c (.li .u8 1)), .u (.c (.lb true)), .u (.agg (cB a)), .u (.agg (cB b))] (T := (.br (bNone a) (.leaf (.val (.tup [(.agg cN), (.c (.li .i64 0))]))) (.br (bNone b) (.leaf (.val (.tup [(.agg cN), (.c (.li .i64 0))]))) (a10 a (a10 b (a10 (subB a b) (.leaf (.val (.tup [(.agg (cB (sync (subB a b)))), (.c (.li .i64 0))]))))))))) (by kernel_rfl) ρ rfl ?_ w
  · have ra : Raw5 a := raw_of hb0 hb1 hb2 hb3 hb4 hb5 hb6 hb7 hb8 hb9
    have rb : Raw5 b := raw_of hb10 hb11 hb12 hb13 hb14 hb15 hb16 hb17 hb18 hb19
    refine br2 (fun k1 => ?_) (fun k1 => ?_)
    · have e : doesB 1 true a b = nothing := does_na (by decide) k1
      simp only [Tr.all]; rw [e]; try rfl
    · refine br2 (fun k2 => ?_) (fun k2 => ?_)
      · have e : doesB 1 true a b = nothing := does_nb (by decide) k1 k2
        simp only [Tr.all]; rw [e]; try rfl
      · refine ask10 (b := a) (ra) ?_
        refine ask10 (b := b) (rb) ?_
        refine ask10 (b := (subB a b)) (subB_raw (ra) (rb)) ?_
        have e : doesB 1 true a b = sync (subB a b) := (does_w (by decide) k1 k2).trans ((wide_op rfl).trans rfl)
        simp only [Tr.all]; exact does_leaf e.symm rfl
theorem t_alu1t (x : Int) (y : Int) (hb0 : isU x = true) (hb1 : isU y = true) (ρ : Nat → Nat) (w : World) : Calls Tryz.prog 31 (enV [.s (some .u8), .s none, .s (some .u64), .s (some .u64)] ([1, x, y], [true])).toArray w fun e w' => e = .returned (V.den ρ (.tup [.c (.si .u64 (aluN 1 true x y)), .c (.si .i64 (doesE 1))])) ∧ Below w.heap.size w w' := by
  refine pure_to nameOK okn (dOK okn) 300 [.u (.c (.li .u8 1)), .u (.c (.lb true)), .u (.c (.si .u64 x)), .u (.c (.si .u64 y))] (T := (.br (iEq (iShr .u64 (iShl .u64 y 0) 0) 0) (.leaf (.val (.tup [(.c (.si .u64 (iShr .u64 (iShl .u64 (iSub .u64 (iShr .u64 (iShl .u64 x 0) 0) (iShr .u64 (iShl .u64 y 0) 0)) 0) 0))), (.c (.li .i64 0))]))) (.br (iZero? (iShr .u64 (iShl .u64 y 0) 0)) (.no 11) (.br (iZero? (iShr .u64 (iShl .u64 y 0) 0)) (.no 11) (.leaf (.val (.tup [(.c (.si .u64 (iShr .u64 (iShl .u64 (iSub .u64 (iShr .u64 (iShl .u64 x 0) 0) (iShr .u64 (iShl .u64 y 0) 0)) 0) 0))), (.c (.li .i64 0))]))))))) (by kernel_rfl) ρ rfl ?_ w
  · have hx := hb0
    have hy := hb1
    have ex : iShr .u64 (iShl .u64 x 0) 0 = x := shl0 hb0
    have ey : iShr .u64 (iShl .u64 y 0) 0 = y := shl0 hb1
    have sx : iShr .i64 (iConv .i64 (iShl .u64 x 0)) 0 = sgn x := sar0 hb0
    refine br2 (fun k1 => ?_) (fun k1 => ?_)
    · have e0 : y = 0 := by have q := eq_t.1 k1; rwa [ey] at q
      simp only [Tr.all]; exact alu_leaf (by rw [ex, ey]; exact shl0 (subU_u _ _)) rfl
    · refine brF (zero_f.2 (eq_f.1 k1)) ?_
      refine brF (zero_f.2 (eq_f.1 k1)) ?_
      have e0 : ¬ y = 0 := by have q := eq_f.1 k1; rwa [ey] at q
      simp only [Tr.all]; exact alu_leaf (by rw [ex, ey]; exact shl0 (subU_u _ _)) rfl
theorem t_does1f (a : Bd) (b : Bd) (hb0 : isU a.1.1 = true) (hb1 : isU a.1.2 = true) (hb2 : isU a.2.1 = true) (hb3 : isU a.2.2 = true) (hb4 : isI a.3.1 = true) (hb5 : isI a.3.2 = true) (hb6 : isU a.4.1 = true) (hb7 : isU a.4.2 = true) (hb8 : isI a.5.1 = true) (hb9 : isI a.5.2 = true) (hb10 : isU b.1.1 = true) (hb11 : isU b.1.2 = true) (hb12 : isU b.2.1 = true) (hb13 : isU b.2.2 = true) (hb14 : isI b.3.1 = true) (hb15 : isI b.3.2 = true) (hb16 : isU b.4.1 = true) (hb17 : isU b.4.2 = true) (hb18 : isI b.5.1 = true) (hb19 : isI b.5.2 = true) (ρ : Nat → Nat) (w : World) : Calls Tryz.prog 17 (enV [.s (some .u8), .s none, .a [some .u64, some .u64, some .u64, some .u64, some .i64, some .i64, some .u64, some .u64, some .i64, some .i64], .a [some .u64, some .u64, some .u64, some .u64, some .i64, some .i64, some .u64, some .u64, some .i64, some .i64]] ([1, a.1.1, a.1.2, a.2.1, a.2.2, a.3.1, a.3.2, a.4.1, a.4.2, a.5.1, a.5.2, b.1.1, b.1.2, b.2.1, b.2.2, b.3.1, b.3.2, b.4.1, b.4.2, b.5.1, b.5.2], [false])).toArray w fun e w' => e = .returned (V.den ρ (.tup [.agg (cB (doesB 1 false a b)), .c (.si .i64 (doesE 1))])) ∧ Below w.heap.size w w' := by
  refine pure_to nameOK oks_L05S_0 (dOK oks_L05S_0) 300 [.u (.c (.li .u8 1)), .u (.c (.lb false)), .u (.agg (cB a)), .u (.agg (cB b))] (T := (.br (bNone a) (.leaf (.val (.tup [(.agg cN), (.c (.li .i64 0))]))) (.br (bNone b) (.leaf (.val (.tup [(.agg cN), (.c (.li .i64 0))]))) (a10 a (.br (isU 32) (a10 b (.br (isU 32) (.br (bNone (lowB a 32)) (.leaf (.val (.tup [(.agg cN), (.c (.li .i64 0))]))) (.br (bNone (lowB b 32)) (.leaf (.val (.tup [(.agg cN), (.c (.li .i64 0))]))) (a10 (lowB a 32) (a10 (lowB b 32) (a10 (subB (lowB a 32) (lowB b 32)) (a10 (sync (subB (lowB a 32) (lowB b 32))) (.br (isU 32) (.leaf (.val (.tup [(.agg (cB (lowB (sync (subB (lowB a 32) (lowB b 32))) 32))), (.c (.li .i64 0))]))) (.no 98)))))))) (.no 98))) (.no 98)))))) (by kernel_rfl) ρ rfl ?_ w
  · have ra : Raw5 a := raw_of hb0 hb1 hb2 hb3 hb4 hb5 hb6 hb7 hb8 hb9
    have rb : Raw5 b := raw_of hb10 hb11 hb12 hb13 hb14 hb15 hb16 hb17 hb18 hb19
    have rla : Raw5 (lowB a 32) := lowB_raw ra
    have rlb : Raw5 (lowB b 32) := lowB_raw rb
    have a0 : isU (lowB a 32).1.1 = true := raw_t1 rla
    have a1 : isU (lowB a 32).1.2 = true := raw_t2 rla
    have a2 : isU (lowB a 32).2.1 = true := raw_u1 rla
    have a3 : isU (lowB a 32).2.2 = true := raw_u2 rla
    have a4 : isI (lowB a 32).3.1 = true := raw_s1 rla
    have a5 : isI (lowB a 32).3.2 = true := raw_s2 rla
    have a6 : isU (lowB a 32).4.1 = true := raw_w1 rla
    have a7 : isU (lowB a 32).4.2 = true := raw_w2 rla
    have a8 : isI (lowB a 32).5.1 = true := raw_v1 rla
    have a9 : isI (lowB a 32).5.2 = true := raw_v2 rla
    have b0 : isU (lowB b 32).1.1 = true := raw_t1 rlb
    have b1 : isU (lowB b 32).1.2 = true := raw_t2 rlb
    have b2 : isU (lowB b 32).2.1 = true := raw_u1 rlb
    have b3 : isU (lowB b 32).2.2 = true := raw_u2 rlb
    have b4 : isI (lowB b 32).3.1 = true := raw_s1 rlb
    have b5 : isI (lowB b 32).3.2 = true := raw_s2 rlb
    have b6 : isU (lowB b 32).4.1 = true := raw_w1 rlb
    have b7 : isU (lowB b 32).4.2 = true := raw_w2 rlb
    have b8 : isI (lowB b 32).5.1 = true := raw_v1 rlb
    have b9 : isI (lowB b 32).5.2 = true := raw_v2 rlb
    refine br2 (fun k1 => ?_) (fun k1 => ?_)
    · have e : doesB 1 false a b = nothing := does_na (by decide) k1
      simp only [Tr.all]; rw [e]; try rfl
    · refine br2 (fun k2 => ?_) (fun k2 => ?_)
      · have e : doesB 1 false a b = nothing := does_nb (by decide) k1 k2
        simp only [Tr.all]; rw [e]; try rfl
      · refine ask10 (b := a) (ra) ?_
        refine askB (by first | with_reducible assumption | decide) ?_
        refine ask10 (b := b) (rb) ?_
        refine askB (by first | with_reducible assumption | decide) ?_
        refine br2 (fun k3 => ?_) (fun k3 => ?_)
        · have e : doesB 1 false a b = nothing := (does_h (by decide) k1 k2).trans (half_na rfl k3)
          simp only [Tr.all]; rw [e]; try rfl
        · refine br2 (fun k4 => ?_) (fun k4 => ?_)
          · have e : doesB 1 false a b = nothing := (does_h (by decide) k1 k2).trans (half_nb rfl k3 k4)
            simp only [Tr.all]; rw [e]; try rfl
          · refine ask10 (b := (lowB a 32)) (lowB_raw (ra)) ?_
            refine ask10 (b := (lowB b 32)) (lowB_raw (rb)) ?_
            refine ask10 (b := (subB (lowB a 32) (lowB b 32))) (subB_raw (lowB_raw (ra)) (lowB_raw (rb))) ?_
            refine ask10 (b := (sync (subB (lowB a 32) (lowB b 32)))) (sy_raw (subB_raw (lowB_raw (ra)) (lowB_raw (rb)))) ?_
            refine askB (by first | with_reducible assumption | decide) ?_
            have e : doesB 1 false a b = lowB (sync (subB (lowB a 32) (lowB b 32))) 32 := (does_h (by decide) k1 k2).trans ((half_op rfl k3 k4).trans rfl)
            simp only [Tr.all]; exact does_leaf e.symm rfl
theorem t_alu1f (x : Int) (y : Int) (hb0 : isU x = true) (hb1 : isU y = true) (ρ : Nat → Nat) (w : World) : Calls Tryz.prog 31 (enV [.s (some .u8), .s none, .s (some .u64), .s (some .u64)] ([1, x, y], [false])).toArray w fun e w' => e = .returned (V.den ρ (.tup [.c (.si .u64 (aluN 1 false x y)), .c (.si .i64 (doesE 1))])) ∧ Below w.heap.size w w' := by
  refine pure_to nameOK okn (dOK okn) 300 [.u (.c (.li .u8 1)), .u (.c (.lb false)), .u (.c (.si .u64 x)), .u (.c (.si .u64 y))] (T := (.br (iEq (iShr .u64 (iShl .u64 y 32) 32) 0) (.leaf (.val (.tup [(.c (.si .u64 (iShr .u64 (iShl .u64 (iSub .u64 (iShr .u64 (iShl .u64 x 32) 32) (iShr .u64 (iShl .u64 y 32) 32)) 32) 32))), (.c (.li .i64 0))]))) (.br (iZero? (iShr .u64 (iShl .u64 y 32) 32)) (.no 11) (.br (iZero? (iShr .u64 (iShl .u64 y 32) 32)) (.no 11) (.leaf (.val (.tup [(.c (.si .u64 (iShr .u64 (iShl .u64 (iSub .u64 (iShr .u64 (iShl .u64 x 32) 32) (iShr .u64 (iShl .u64 y 32) 32)) 32) 32))), (.c (.li .i64 0))]))))))) (by kernel_rfl) ρ rfl ?_ w
  · have ex : iShr .u64 (iShl .u64 x 32) 32 = x % 4294967296 := shl32 hb0
    have ey : iShr .u64 (iShl .u64 y 32) 32 = y % 4294967296 := shl32 hb1
    have sx : iShr .i64 (iConv .i64 (iShl .u64 (x % 4294967296) 32)) 32 = sg32 (x % 4294967296) := by rw [sg32_mod]; exact sar32 x
    have hx : isU (x % 4294967296) = true := mod_u hb0
    have hy : isU (y % 4294967296) = true := mod_u hb1
    refine br2 (fun k1 => ?_) (fun k1 => ?_)
    · have e0 : (y % 4294967296) = 0 := by have q := eq_t.1 k1; rwa [ey] at q
      simp only [Tr.all]; exact alu_leaf (by rw [ex, ey]; exact shl32 (subU_u _ _)) rfl
    · refine brF (zero_f.2 (eq_f.1 k1)) ?_
      refine brF (zero_f.2 (eq_f.1 k1)) ?_
      have e0 : ¬ (y % 4294967296) = 0 := by have q := eq_f.1 k1; rwa [ey] at q
      simp only [Tr.all]; exact alu_leaf (by rw [ex, ey]; exact shl32 (subU_u _ _)) rfl
theorem t_does2t (a : Bd) (b : Bd) (hb0 : isU a.1.1 = true) (hb1 : isU a.1.2 = true) (hb2 : isU a.2.1 = true) (hb3 : isU a.2.2 = true) (hb4 : isI a.3.1 = true) (hb5 : isI a.3.2 = true) (hb6 : isU a.4.1 = true) (hb7 : isU a.4.2 = true) (hb8 : isI a.5.1 = true) (hb9 : isI a.5.2 = true) (hb10 : isU b.1.1 = true) (hb11 : isU b.1.2 = true) (hb12 : isU b.2.1 = true) (hb13 : isU b.2.2 = true) (hb14 : isI b.3.1 = true) (hb15 : isI b.3.2 = true) (hb16 : isU b.4.1 = true) (hb17 : isU b.4.2 = true) (hb18 : isI b.5.1 = true) (hb19 : isI b.5.2 = true) (ρ : Nat → Nat) (w : World) : Calls Tryz.prog 17 (enV [.s (some .u8), .s none, .a [some .u64, some .u64, some .u64, some .u64, some .i64, some .i64, some .u64, some .u64, some .i64, some .i64], .a [some .u64, some .u64, some .u64, some .u64, some .i64, some .i64, some .u64, some .u64, some .i64, some .i64]] ([2, a.1.1, a.1.2, a.2.1, a.2.2, a.3.1, a.3.2, a.4.1, a.4.2, a.5.1, a.5.2, b.1.1, b.1.2, b.2.1, b.2.2, b.3.1, b.3.2, b.4.1, b.4.2, b.5.1, b.5.2], [true])).toArray w fun e w' => e = .returned (V.den ρ (.tup [.agg (cB (doesB 2 true a b)), .c (.si .i64 (doesE 2))])) ∧ Below w.heap.size w w' := by
  refine pure_to nameOK oks_L05S_0 (dOK oks_L05S_0) 300 [.u (.c (.li .u8 2)), .u (.c (.lb true)), .u (.agg (cB a)), .u (.agg (cB b))] (T := (.br (bNone a) (.leaf (.val (.tup [(.agg cN), (.c (.li .i64 0))]))) (.br (bNone b) (.leaf (.val (.tup [(.agg cN), (.c (.li .i64 0))]))) (.br (isU a.1.1) (.br (isU a.1.2) (.br (isU b.1.1) (.br (isU b.1.2) (.br (isU a.2.1) (.br (isU a.2.2) (.br (isU b.2.1) (.br (isU b.2.2) (.br (isU (tMul a.1 b.1).1) (.br (isU (tMul a.1 b.1).2) (.br (isU (mMul1 a.2.1 a.2.2 b.2.1 b.2.2)) (.br (isU (mMul2 a.2.1 a.2.2 b.2.1 b.2.2)) (.br (isI (-9223372036854775808)) (.br (isI 9223372036854775807) (.br (isU (fitsM (.mk (iMul .u64 a.4.1 b.4.1) (iMul .u64 a.4.2 b.4.2))).1) (.br (isU (fitsM (.mk (iMul .u64 a.4.1 b.4.1) (iMul .u64 a.4.2 b.4.2))).2) (.br (isI (-2147483648)) (.br (isI 2147483647) (.leaf (.val (.tup [(.agg (cB (sync (.mk (tMul a.1 b.1) (.mk (mMul1 a.2.1 a.2.2 b.2.1 b.2.2) (mMul2 a.2.1 a.2.2 b.2.1 b.2.2)) (.mk (-9223372036854775808) 9223372036854775807) (fitsM (.mk (iMul .u64 a.4.1 b.4.1) (iMul .u64 a.4.2 b.4.2))) (.mk (-2147483648) 2147483647))))), (.c (.li .i64 0))]))) (.no 98)) (.no 98)) (.no 98)) (.no 98)) (.no 98)) (.no 98)) (.no 98)) (.no 98)) (.no 98)) (.no 98)) (.no 98)) (.no 98)) (.no 98)) (.no 98)) (.no 98)) (.no 98)) (.no 98)) (.no 98))))) (by kernel_rfl) ρ rfl ?_ w
  · have ra : Raw5 a := raw_of hb0 hb1 hb2 hb3 hb4 hb5 hb6 hb7 hb8 hb9
    have rb : Raw5 b := raw_of hb10 hb11 hb12 hb13 hb14 hb15 hb16 hb17 hb18 hb19
    have ro : Raw5 (mulB a b) := mulB_raw (ra) (rb)
    have f1 : isU (tMul a.1 b.1).1 = true := ro.t.1
    have f2 : isU (tMul a.1 b.1).2 = true := ro.t.2
    have f3 : isU (mMul1 a.2.1 a.2.2 b.2.1 b.2.2) = true := ro.u.1
    have f4 : isU (mMul2 a.2.1 a.2.2 b.2.1 b.2.2) = true := ro.u.2
    have f5 : isU (fitsM ⟨iMul .u64 a.4.1 b.4.1, iMul .u64 a.4.2 b.4.2⟩).1 = true := ro.w.1
    have f6 : isU (fitsM ⟨iMul .u64 a.4.1 b.4.1, iMul .u64 a.4.2 b.4.2⟩).2 = true := ro.w.2
    refine br2 (fun k1 => ?_) (fun k1 => ?_)
    · have e : doesB 2 true a b = nothing := does_na (by decide) k1
      simp only [Tr.all]; rw [e]; try rfl
    · refine br2 (fun k2 => ?_) (fun k2 => ?_)
      · have e : doesB 2 true a b = nothing := does_nb (by decide) k1 k2
        simp only [Tr.all]; rw [e]; try rfl
      · iterate 18 (refine askB (by first | with_reducible assumption | decide) ?_)
        have e : doesB 2 true a b = sync (mulB a b) := (does_w (by decide) k1 k2).trans ((wide_op rfl).trans rfl)
        simp only [Tr.all]; exact does_leaf e.symm rfl
theorem t_alu2t (x : Int) (y : Int) (hb0 : isU x = true) (hb1 : isU y = true) (ρ : Nat → Nat) (w : World) : Calls Tryz.prog 31 (enV [.s (some .u8), .s none, .s (some .u64), .s (some .u64)] ([2, x, y], [true])).toArray w fun e w' => e = .returned (V.den ρ (.tup [.c (.si .u64 (aluN 2 true x y)), .c (.si .i64 (doesE 2))])) ∧ Below w.heap.size w w' := by
  refine pure_to nameOK okn (dOK okn) 300 [.u (.c (.li .u8 2)), .u (.c (.lb true)), .u (.c (.si .u64 x)), .u (.c (.si .u64 y))] (T := (.br (iEq (iShr .u64 (iShl .u64 y 0) 0) 0) (.leaf (.val (.tup [(.c (.si .u64 (iShr .u64 (iShl .u64 (iMul .u64 (iShr .u64 (iShl .u64 x 0) 0) (iShr .u64 (iShl .u64 y 0) 0)) 0) 0))), (.c (.li .i64 0))]))) (.br (iZero? (iShr .u64 (iShl .u64 y 0) 0)) (.no 11) (.br (iZero? (iShr .u64 (iShl .u64 y 0) 0)) (.no 11) (.leaf (.val (.tup [(.c (.si .u64 (iShr .u64 (iShl .u64 (iMul .u64 (iShr .u64 (iShl .u64 x 0) 0) (iShr .u64 (iShl .u64 y 0) 0)) 0) 0))), (.c (.li .i64 0))]))))))) (by kernel_rfl) ρ rfl ?_ w
  · have hx := hb0
    have hy := hb1
    have ex : iShr .u64 (iShl .u64 x 0) 0 = x := shl0 hb0
    have ey : iShr .u64 (iShl .u64 y 0) 0 = y := shl0 hb1
    have sx : iShr .i64 (iConv .i64 (iShl .u64 x 0)) 0 = sgn x := sar0 hb0
    refine br2 (fun k1 => ?_) (fun k1 => ?_)
    · have e0 : y = 0 := by have q := eq_t.1 k1; rwa [ey] at q
      simp only [Tr.all]; exact alu_leaf (by rw [ex, ey]; exact shl0 (mulU_u _ _)) rfl
    · refine brF (zero_f.2 (eq_f.1 k1)) ?_
      refine brF (zero_f.2 (eq_f.1 k1)) ?_
      have e0 : ¬ y = 0 := by have q := eq_f.1 k1; rwa [ey] at q
      simp only [Tr.all]; exact alu_leaf (by rw [ex, ey]; exact shl0 (mulU_u _ _)) rfl
theorem t_does2f (a : Bd) (b : Bd) (hb0 : isU a.1.1 = true) (hb1 : isU a.1.2 = true) (hb2 : isU a.2.1 = true) (hb3 : isU a.2.2 = true) (hb4 : isI a.3.1 = true) (hb5 : isI a.3.2 = true) (hb6 : isU a.4.1 = true) (hb7 : isU a.4.2 = true) (hb8 : isI a.5.1 = true) (hb9 : isI a.5.2 = true) (hb10 : isU b.1.1 = true) (hb11 : isU b.1.2 = true) (hb12 : isU b.2.1 = true) (hb13 : isU b.2.2 = true) (hb14 : isI b.3.1 = true) (hb15 : isI b.3.2 = true) (hb16 : isU b.4.1 = true) (hb17 : isU b.4.2 = true) (hb18 : isI b.5.1 = true) (hb19 : isI b.5.2 = true) (ρ : Nat → Nat) (w : World) : Calls Tryz.prog 17 (enV [.s (some .u8), .s none, .a [some .u64, some .u64, some .u64, some .u64, some .i64, some .i64, some .u64, some .u64, some .i64, some .i64], .a [some .u64, some .u64, some .u64, some .u64, some .i64, some .i64, some .u64, some .u64, some .i64, some .i64]] ([2, a.1.1, a.1.2, a.2.1, a.2.2, a.3.1, a.3.2, a.4.1, a.4.2, a.5.1, a.5.2, b.1.1, b.1.2, b.2.1, b.2.2, b.3.1, b.3.2, b.4.1, b.4.2, b.5.1, b.5.2], [false])).toArray w fun e w' => e = .returned (V.den ρ (.tup [.agg (cB (doesB 2 false a b)), .c (.si .i64 (doesE 2))])) ∧ Below w.heap.size w w' := by
  refine pure_to nameOK oks_L05S_0 (dOK oks_L05S_0) 300 [.u (.c (.li .u8 2)), .u (.c (.lb false)), .u (.agg (cB a)), .u (.agg (cB b))] (T := (.br (bNone a) (.leaf (.val (.tup [(.agg cN), (.c (.li .i64 0))]))) (.br (bNone b) (.leaf (.val (.tup [(.agg cN), (.c (.li .i64 0))]))) (a10 a (.br (isU 32) (a10 b (.br (isU 32) (.br (bNone (lowB a 32)) (.leaf (.val (.tup [(.agg cN), (.c (.li .i64 0))]))) (.br (bNone (lowB b 32)) (.leaf (.val (.tup [(.agg cN), (.c (.li .i64 0))]))) (.br (isU (lowB a 32).1.1) (.br (isU (lowB a 32).1.2) (.br (isU (lowB b 32).1.1) (.br (isU (lowB b 32).1.2) (.br (isU (lowB a 32).2.1) (.br (isU (lowB a 32).2.2) (.br (isU (lowB b 32).2.1) (.br (isU (lowB b 32).2.2) (.br (isU (tMul (lowB a 32).1 (lowB b 32).1).1) (.br (isU (tMul (lowB a 32).1 (lowB b 32).1).2) (.br (isU (mMul1 (lowB a 32).2.1 (lowB a 32).2.2 (lowB b 32).2.1 (lowB b 32).2.2)) (.br (isU (mMul2 (lowB a 32).2.1 (lowB a 32).2.2 (lowB b 32).2.1 (lowB b 32).2.2)) (.br (isI (-9223372036854775808)) (.br (isI 9223372036854775807) (.br (isU (fitsM (.mk (iMul .u64 (lowB a 32).4.1 (lowB b 32).4.1) (iMul .u64 (lowB a 32).4.2 (lowB b 32).4.2))).1) (.br (isU (fitsM (.mk (iMul .u64 (lowB a 32).4.1 (lowB b 32).4.1) (iMul .u64 (lowB a 32).4.2 (lowB b 32).4.2))).2) (.br (isI (-2147483648)) (.br (isI 2147483647) (a10 (sync (.mk (tMul (lowB a 32).1 (lowB b 32).1) (.mk (mMul1 (lowB a 32).2.1 (lowB a 32).2.2 (lowB b 32).2.1 (lowB b 32).2.2) (mMul2 (lowB a 32).2.1 (lowB a 32).2.2 (lowB b 32).2.1 (lowB b 32).2.2)) (.mk (-9223372036854775808) 9223372036854775807) (fitsM (.mk (iMul .u64 (lowB a 32).4.1 (lowB b 32).4.1) (iMul .u64 (lowB a 32).4.2 (lowB b 32).4.2))) (.mk (-2147483648) 2147483647))) (.br (isU 32) (.leaf (.val (.tup [(.agg (cB (lowB (sync (.mk (tMul (lowB a 32).1 (lowB b 32).1) (.mk (mMul1 (lowB a 32).2.1 (lowB a 32).2.2 (lowB b 32).2.1 (lowB b 32).2.2) (mMul2 (lowB a 32).2.1 (lowB a 32).2.2 (lowB b 32).2.1 (lowB b 32).2.2)) (.mk (-9223372036854775808) 9223372036854775807) (fitsM (.mk (iMul .u64 (lowB a 32).4.1 (lowB b 32).4.1) (iMul .u64 (lowB a 32).4.2 (lowB b 32).4.2))) (.mk (-2147483648) 2147483647))) 32))), (.c (.li .i64 0))]))) (.no 98))) (.no 98)) (.no 98)) (.no 98)) (.no 98)) (.no 98)) (.no 98)) (.no 98)) (.no 98)) (.no 98)) (.no 98)) (.no 98)) (.no 98)) (.no 98)) (.no 98)) (.no 98)) (.no 98)) (.no 98)) (.no 98)))) (.no 98))) (.no 98)))))) (by kernel_rfl) ρ rfl ?_ w
  · have ra : Raw5 a := raw_of hb0 hb1 hb2 hb3 hb4 hb5 hb6 hb7 hb8 hb9
    have rb : Raw5 b := raw_of hb10 hb11 hb12 hb13 hb14 hb15 hb16 hb17 hb18 hb19
    have ro : Raw5 (mulB (lowB a 32) (lowB b 32)) := mulB_raw (lowB_raw (ra)) (lowB_raw (rb))
    have f1 : isU (tMul (lowB a 32).1 (lowB b 32).1).1 = true := ro.t.1
    have f2 : isU (tMul (lowB a 32).1 (lowB b 32).1).2 = true := ro.t.2
    have f3 : isU (mMul1 (lowB a 32).2.1 (lowB a 32).2.2 (lowB b 32).2.1 (lowB b 32).2.2) = true := ro.u.1
    have f4 : isU (mMul2 (lowB a 32).2.1 (lowB a 32).2.2 (lowB b 32).2.1 (lowB b 32).2.2) = true := ro.u.2
    have f5 : isU (fitsM ⟨iMul .u64 (lowB a 32).4.1 (lowB b 32).4.1, iMul .u64 (lowB a 32).4.2 (lowB b 32).4.2⟩).1 = true := ro.w.1
    have f6 : isU (fitsM ⟨iMul .u64 (lowB a 32).4.1 (lowB b 32).4.1, iMul .u64 (lowB a 32).4.2 (lowB b 32).4.2⟩).2 = true := ro.w.2
    have rla : Raw5 (lowB a 32) := lowB_raw ra
    have rlb : Raw5 (lowB b 32) := lowB_raw rb
    have a0 : isU (lowB a 32).1.1 = true := raw_t1 rla
    have a1 : isU (lowB a 32).1.2 = true := raw_t2 rla
    have a2 : isU (lowB a 32).2.1 = true := raw_u1 rla
    have a3 : isU (lowB a 32).2.2 = true := raw_u2 rla
    have a4 : isI (lowB a 32).3.1 = true := raw_s1 rla
    have a5 : isI (lowB a 32).3.2 = true := raw_s2 rla
    have a6 : isU (lowB a 32).4.1 = true := raw_w1 rla
    have a7 : isU (lowB a 32).4.2 = true := raw_w2 rla
    have a8 : isI (lowB a 32).5.1 = true := raw_v1 rla
    have a9 : isI (lowB a 32).5.2 = true := raw_v2 rla
    have b0 : isU (lowB b 32).1.1 = true := raw_t1 rlb
    have b1 : isU (lowB b 32).1.2 = true := raw_t2 rlb
    have b2 : isU (lowB b 32).2.1 = true := raw_u1 rlb
    have b3 : isU (lowB b 32).2.2 = true := raw_u2 rlb
    have b4 : isI (lowB b 32).3.1 = true := raw_s1 rlb
    have b5 : isI (lowB b 32).3.2 = true := raw_s2 rlb
    have b6 : isU (lowB b 32).4.1 = true := raw_w1 rlb
    have b7 : isU (lowB b 32).4.2 = true := raw_w2 rlb
    have b8 : isI (lowB b 32).5.1 = true := raw_v1 rlb
    have b9 : isI (lowB b 32).5.2 = true := raw_v2 rlb
    refine br2 (fun k1 => ?_) (fun k1 => ?_)
    · have e : doesB 2 false a b = nothing := does_na (by decide) k1
      simp only [Tr.all]; rw [e]; try rfl
    · refine br2 (fun k2 => ?_) (fun k2 => ?_)
      · have e : doesB 2 false a b = nothing := does_nb (by decide) k1 k2
        simp only [Tr.all]; rw [e]; try rfl
      · refine ask10 (b := a) (ra) ?_
        refine askB (by first | with_reducible assumption | decide) ?_
        refine ask10 (b := b) (rb) ?_
        refine askB (by first | with_reducible assumption | decide) ?_
        refine br2 (fun k3 => ?_) (fun k3 => ?_)
        · have e : doesB 2 false a b = nothing := (does_h (by decide) k1 k2).trans (half_na rfl k3)
          simp only [Tr.all]; rw [e]; try rfl
        · refine br2 (fun k4 => ?_) (fun k4 => ?_)
          · have e : doesB 2 false a b = nothing := (does_h (by decide) k1 k2).trans (half_nb rfl k3 k4)
            simp only [Tr.all]; rw [e]; try rfl
          · iterate 18 (refine askB (by first | with_reducible assumption | decide) ?_)
            refine ask10 (b := (sync (.mk (tMul (lowB a 32).1 (lowB b 32).1) (.mk (mMul1 (lowB a 32).2.1 (lowB a 32).2.2 (lowB b 32).2.1 (lowB b 32).2.2) (mMul2 (lowB a 32).2.1 (lowB a 32).2.2 (lowB b 32).2.1 (lowB b 32).2.2)) (.mk (-9223372036854775808) 9223372036854775807) (fitsM (.mk (iMul .u64 (lowB a 32).4.1 (lowB b 32).4.1) (iMul .u64 (lowB a 32).4.2 (lowB b 32).4.2))) (.mk (-2147483648) 2147483647)))) (sy_raw (ro)) ?_
            refine askB (by first | with_reducible assumption | decide) ?_
            have e : doesB 2 false a b = lowB (sync (mulB (lowB a 32) (lowB b 32))) 32 := (does_h (by decide) k1 k2).trans ((half_op rfl k3 k4).trans rfl)
            simp only [Tr.all]; exact does_leaf e.symm rfl
theorem t_alu2f (x : Int) (y : Int) (hb0 : isU x = true) (hb1 : isU y = true) (ρ : Nat → Nat) (w : World) : Calls Tryz.prog 31 (enV [.s (some .u8), .s none, .s (some .u64), .s (some .u64)] ([2, x, y], [false])).toArray w fun e w' => e = .returned (V.den ρ (.tup [.c (.si .u64 (aluN 2 false x y)), .c (.si .i64 (doesE 2))])) ∧ Below w.heap.size w w' := by
  refine pure_to nameOK okn (dOK okn) 300 [.u (.c (.li .u8 2)), .u (.c (.lb false)), .u (.c (.si .u64 x)), .u (.c (.si .u64 y))] (T := (.br (iEq (iShr .u64 (iShl .u64 y 32) 32) 0) (.leaf (.val (.tup [(.c (.si .u64 (iShr .u64 (iShl .u64 (iMul .u64 (iShr .u64 (iShl .u64 x 32) 32) (iShr .u64 (iShl .u64 y 32) 32)) 32) 32))), (.c (.li .i64 0))]))) (.br (iZero? (iShr .u64 (iShl .u64 y 32) 32)) (.no 11) (.br (iZero? (iShr .u64 (iShl .u64 y 32) 32)) (.no 11) (.leaf (.val (.tup [(.c (.si .u64 (iShr .u64 (iShl .u64 (iMul .u64 (iShr .u64 (iShl .u64 x 32) 32) (iShr .u64 (iShl .u64 y 32) 32)) 32) 32))), (.c (.li .i64 0))]))))))) (by kernel_rfl) ρ rfl ?_ w
  · have ex : iShr .u64 (iShl .u64 x 32) 32 = x % 4294967296 := shl32 hb0
    have ey : iShr .u64 (iShl .u64 y 32) 32 = y % 4294967296 := shl32 hb1
    have sx : iShr .i64 (iConv .i64 (iShl .u64 (x % 4294967296) 32)) 32 = sg32 (x % 4294967296) := by rw [sg32_mod]; exact sar32 x
    have hx : isU (x % 4294967296) = true := mod_u hb0
    have hy : isU (y % 4294967296) = true := mod_u hb1
    refine br2 (fun k1 => ?_) (fun k1 => ?_)
    · have e0 : (y % 4294967296) = 0 := by have q := eq_t.1 k1; rwa [ey] at q
      simp only [Tr.all]; exact alu_leaf (by rw [ex, ey]; exact shl32 (mulU_u _ _)) rfl
    · refine brF (zero_f.2 (eq_f.1 k1)) ?_
      refine brF (zero_f.2 (eq_f.1 k1)) ?_
      have e0 : ¬ (y % 4294967296) = 0 := by have q := eq_f.1 k1; rwa [ey] at q
      simp only [Tr.all]; exact alu_leaf (by rw [ex, ey]; exact shl32 (mulU_u _ _)) rfl
theorem t_does3t (a : Bd) (b : Bd) (hb0 : isU a.1.1 = true) (hb1 : isU a.1.2 = true) (hb2 : isU a.2.1 = true) (hb3 : isU a.2.2 = true) (hb4 : isI a.3.1 = true) (hb5 : isI a.3.2 = true) (hb6 : isU a.4.1 = true) (hb7 : isU a.4.2 = true) (hb8 : isI a.5.1 = true) (hb9 : isI a.5.2 = true) (hb10 : isU b.1.1 = true) (hb11 : isU b.1.2 = true) (hb12 : isU b.2.1 = true) (hb13 : isU b.2.2 = true) (hb14 : isI b.3.1 = true) (hb15 : isI b.3.2 = true) (hb16 : isU b.4.1 = true) (hb17 : isU b.4.2 = true) (hb18 : isI b.5.1 = true) (hb19 : isI b.5.2 = true) (ρ : Nat → Nat) (w : World) : Calls Tryz.prog 17 (enV [.s (some .u8), .s none, .a [some .u64, some .u64, some .u64, some .u64, some .i64, some .i64, some .u64, some .u64, some .i64, some .i64], .a [some .u64, some .u64, some .u64, some .u64, some .i64, some .i64, some .u64, some .u64, some .i64, some .i64]] ([3, a.1.1, a.1.2, a.2.1, a.2.2, a.3.1, a.3.2, a.4.1, a.4.2, a.5.1, a.5.2, b.1.1, b.1.2, b.2.1, b.2.2, b.3.1, b.3.2, b.4.1, b.4.2, b.5.1, b.5.2], [true])).toArray w fun e w' => e = .returned (V.den ρ (.tup [.agg (cB (doesB 3 true a b)), .c (.si .i64 (doesE 3))])) ∧ Below w.heap.size w w' := by
  refine pure_to nameOK oks_L05S_0 (dOK oks_L05S_0) 300 [.u (.c (.li .u8 3)), .u (.c (.lb true)), .u (.agg (cB a)), .u (.agg (cB b))] (T := (.br (bNone a) (.leaf (.val (.tup [(.agg cN), (.c (.li .i64 0))]))) (.br (bNone b) (.leaf (.val (.tup [(.agg cN), (.c (.li .i64 0))]))) (.br (isU a.2.1) (.br (isU a.2.2) (.br (isU b.2.1) (.br (isU b.2.2) (.br (isU 0) (.br (isU 18446744073709551615) (.br (isU (mDiv1 a.2.1 a.2.2 b.2.1 b.2.2)) (.br (isU (mDiv2 a.2.1 a.2.2 b.2.1 b.2.2)) (.br (isI (-9223372036854775808)) (.br (isI 9223372036854775807) (.br (isU 0) (.br (isU 4294967295) (.br (isI (-2147483648)) (.br (isI 2147483647) (.leaf (.val (.tup [(.agg (cB (sync (.mk (.mk 0 18446744073709551615) (.mk (mDiv1 a.2.1 a.2.2 b.2.1 b.2.2) (mDiv2 a.2.1 a.2.2 b.2.1 b.2.2)) (.mk (-9223372036854775808) 9223372036854775807) (.mk 0 4294967295) (.mk (-2147483648) 2147483647))))), (.c (.li .i64 0))]))) (.no 98)) (.no 98)) (.no 98)) (.no 98)) (.no 98)) (.no 98)) (.no 98)) (.no 98)) (.no 98)) (.no 98)) (.no 98)) (.no 98)) (.no 98)) (.no 98))))) (by kernel_rfl) ρ rfl ?_ w
  · have ra : Raw5 a := raw_of hb0 hb1 hb2 hb3 hb4 hb5 hb6 hb7 hb8 hb9
    have rb : Raw5 b := raw_of hb10 hb11 hb12 hb13 hb14 hb15 hb16 hb17 hb18 hb19
    have ro : Raw5 (divB a b) := divB_raw (ra) (rb)
    have f3 : isU (mDiv1 a.2.1 a.2.2 b.2.1 b.2.2) = true := ro.u.1
    have f4 : isU (mDiv2 a.2.1 a.2.2 b.2.1 b.2.2) = true := ro.u.2
    refine br2 (fun k1 => ?_) (fun k1 => ?_)
    · have e : doesB 3 true a b = nothing := does_na (by decide) k1
      simp only [Tr.all]; rw [e]; try rfl
    · refine br2 (fun k2 => ?_) (fun k2 => ?_)
      · have e : doesB 3 true a b = nothing := does_nb (by decide) k1 k2
        simp only [Tr.all]; rw [e]; try rfl
      · iterate 14 (refine askB (by first | with_reducible assumption | decide) ?_)
        have e : doesB 3 true a b = sync (divB a b) := (does_w (by decide) k1 k2).trans ((wide_op rfl).trans rfl)
        simp only [Tr.all]; exact does_leaf e.symm rfl
theorem t_alu3t (x : Int) (y : Int) (hb0 : isU x = true) (hb1 : isU y = true) (ρ : Nat → Nat) (w : World) : Calls Tryz.prog 31 (enV [.s (some .u8), .s none, .s (some .u64), .s (some .u64)] ([3, x, y], [true])).toArray w fun e w' => e = .returned (V.den ρ (.tup [.c (.si .u64 (aluN 3 true x y)), .c (.si .i64 (doesE 3))])) ∧ Below w.heap.size w w' := by
  refine pure_to nameOK okn (dOK okn) 300 [.u (.c (.li .u8 3)), .u (.c (.lb true)), .u (.c (.si .u64 x)), .u (.c (.si .u64 y))] (T := (.br (iEq (iShr .u64 (iShl .u64 y 0) 0) 0) (.leaf (.val (.tup [(.c (.li .u64 0)), (.c (.li .i64 0))]))) (.br (iZero? (iShr .u64 (iShl .u64 y 0) 0)) (.no 11) (.br (iZero? (iShr .u64 (iShl .u64 y 0) 0)) (.no 11) (.leaf (.val (.tup [(.c (.si .u64 (iShr .u64 (iShl .u64 (iQuo .u64 (iShr .u64 (iShl .u64 x 0) 0) (iShr .u64 (iShl .u64 y 0) 0)) 0) 0))), (.c (.li .i64 0))]))))))) (by kernel_rfl) ρ rfl ?_ w
  · have hx := hb0
    have hy := hb1
    have ex : iShr .u64 (iShl .u64 x 0) 0 = x := shl0 hb0
    have ey : iShr .u64 (iShl .u64 y 0) 0 = y := shl0 hb1
    have sx : iShr .i64 (iConv .i64 (iShl .u64 x 0)) 0 = sgn x := sar0 hb0
    refine br2 (fun k1 => ?_) (fun k1 => ?_)
    · have e0 : y = 0 := by have q := eq_t.1 k1; rwa [ey] at q
      simp only [Tr.all]; exact alu_leaf0 (by show _ = (if y = 0 then 0 else iQuo .u64 x y); rw [if_pos e0]) rfl
    · refine brF (zero_f.2 (eq_f.1 k1)) ?_
      refine brF (zero_f.2 (eq_f.1 k1)) ?_
      have e0 : ¬ y = 0 := by have q := eq_f.1 k1; rwa [ey] at q
      simp only [Tr.all]; exact alu_leaf (by rw [ex, ey]; show _ = (if y = 0 then 0 else iQuo .u64 x y); rw [if_neg e0]; exact shl0 (by rw [(quo_uu hx hy).1]; exact (quo_uu hx hy).2)) rfl
theorem t_does3f (a : Bd) (b : Bd) (hb0 : isU a.1.1 = true) (hb1 : isU a.1.2 = true) (hb2 : isU a.2.1 = true) (hb3 : isU a.2.2 = true) (hb4 : isI a.3.1 = true) (hb5 : isI a.3.2 = true) (hb6 : isU a.4.1 = true) (hb7 : isU a.4.2 = true) (hb8 : isI a.5.1 = true) (hb9 : isI a.5.2 = true) (hb10 : isU b.1.1 = true) (hb11 : isU b.1.2 = true) (hb12 : isU b.2.1 = true) (hb13 : isU b.2.2 = true) (hb14 : isI b.3.1 = true) (hb15 : isI b.3.2 = true) (hb16 : isU b.4.1 = true) (hb17 : isU b.4.2 = true) (hb18 : isI b.5.1 = true) (hb19 : isI b.5.2 = true) (ρ : Nat → Nat) (w : World) : Calls Tryz.prog 17 (enV [.s (some .u8), .s none, .a [some .u64, some .u64, some .u64, some .u64, some .i64, some .i64, some .u64, some .u64, some .i64, some .i64], .a [some .u64, some .u64, some .u64, some .u64, some .i64, some .i64, some .u64, some .u64, some .i64, some .i64]] ([3, a.1.1, a.1.2, a.2.1, a.2.2, a.3.1, a.3.2, a.4.1, a.4.2, a.5.1, a.5.2, b.1.1, b.1.2, b.2.1, b.2.2, b.3.1, b.3.2, b.4.1, b.4.2, b.5.1, b.5.2], [false])).toArray w fun e w' => e = .returned (V.den ρ (.tup [.agg (cB (doesB 3 false a b)), .c (.si .i64 (doesE 3))])) ∧ Below w.heap.size w w' := by
  refine pure_to nameOK oks_L05S_0 (dOK oks_L05S_0) 300 [.u (.c (.li .u8 3)), .u (.c (.lb false)), .u (.agg (cB a)), .u (.agg (cB b))] (T := (.br (bNone a) (.leaf (.val (.tup [(.agg cN), (.c (.li .i64 0))]))) (.br (bNone b) (.leaf (.val (.tup [(.agg cN), (.c (.li .i64 0))]))) (a10 a (.br (isU 32) (a10 b (.br (isU 32) (.br (bNone (lowB a 32)) (.leaf (.val (.tup [(.agg cN), (.c (.li .i64 0))]))) (.br (bNone (lowB b 32)) (.leaf (.val (.tup [(.agg cN), (.c (.li .i64 0))]))) (.br (isU (lowB a 32).2.1) (.br (isU (lowB a 32).2.2) (.br (isU (lowB b 32).2.1) (.br (isU (lowB b 32).2.2) (.br (isU 0) (.br (isU 18446744073709551615) (.br (isU (mDiv1 (lowB a 32).2.1 (lowB a 32).2.2 (lowB b 32).2.1 (lowB b 32).2.2)) (.br (isU (mDiv2 (lowB a 32).2.1 (lowB a 32).2.2 (lowB b 32).2.1 (lowB b 32).2.2)) (.br (isI (-9223372036854775808)) (.br (isI 9223372036854775807) (.br (isU 0) (.br (isU 4294967295) (.br (isI (-2147483648)) (.br (isI 2147483647) (a10 (sync (.mk (.mk 0 18446744073709551615) (.mk (mDiv1 (lowB a 32).2.1 (lowB a 32).2.2 (lowB b 32).2.1 (lowB b 32).2.2) (mDiv2 (lowB a 32).2.1 (lowB a 32).2.2 (lowB b 32).2.1 (lowB b 32).2.2)) (.mk (-9223372036854775808) 9223372036854775807) (.mk 0 4294967295) (.mk (-2147483648) 2147483647))) (.br (isU 32) (.leaf (.val (.tup [(.agg (cB (lowB (sync (.mk (.mk 0 18446744073709551615) (.mk (mDiv1 (lowB a 32).2.1 (lowB a 32).2.2 (lowB b 32).2.1 (lowB b 32).2.2) (mDiv2 (lowB a 32).2.1 (lowB a 32).2.2 (lowB b 32).2.1 (lowB b 32).2.2)) (.mk (-9223372036854775808) 9223372036854775807) (.mk 0 4294967295) (.mk (-2147483648) 2147483647))) 32))), (.c (.li .i64 0))]))) (.no 98))) (.no 98)) (.no 98)) (.no 98)) (.no 98)) (.no 98)) (.no 98)) (.no 98)) (.no 98)) (.no 98)) (.no 98)) (.no 98)) (.no 98)) (.no 98)) (.no 98)))) (.no 98))) (.no 98)))))) (by kernel_rfl) ρ rfl ?_ w
  · have ra : Raw5 a := raw_of hb0 hb1 hb2 hb3 hb4 hb5 hb6 hb7 hb8 hb9
    have rb : Raw5 b := raw_of hb10 hb11 hb12 hb13 hb14 hb15 hb16 hb17 hb18 hb19
    have ro : Raw5 (divB (lowB a 32) (lowB b 32)) := divB_raw (lowB_raw (ra)) (lowB_raw (rb))
    have f3 : isU (mDiv1 (lowB a 32).2.1 (lowB a 32).2.2 (lowB b 32).2.1 (lowB b 32).2.2) = true := ro.u.1
    have f4 : isU (mDiv2 (lowB a 32).2.1 (lowB a 32).2.2 (lowB b 32).2.1 (lowB b 32).2.2) = true := ro.u.2
    have rla : Raw5 (lowB a 32) := lowB_raw ra
    have rlb : Raw5 (lowB b 32) := lowB_raw rb
    have a0 : isU (lowB a 32).1.1 = true := raw_t1 rla
    have a1 : isU (lowB a 32).1.2 = true := raw_t2 rla
    have a2 : isU (lowB a 32).2.1 = true := raw_u1 rla
    have a3 : isU (lowB a 32).2.2 = true := raw_u2 rla
    have a4 : isI (lowB a 32).3.1 = true := raw_s1 rla
    have a5 : isI (lowB a 32).3.2 = true := raw_s2 rla
    have a6 : isU (lowB a 32).4.1 = true := raw_w1 rla
    have a7 : isU (lowB a 32).4.2 = true := raw_w2 rla
    have a8 : isI (lowB a 32).5.1 = true := raw_v1 rla
    have a9 : isI (lowB a 32).5.2 = true := raw_v2 rla
    have b0 : isU (lowB b 32).1.1 = true := raw_t1 rlb
    have b1 : isU (lowB b 32).1.2 = true := raw_t2 rlb
    have b2 : isU (lowB b 32).2.1 = true := raw_u1 rlb
    have b3 : isU (lowB b 32).2.2 = true := raw_u2 rlb
    have b4 : isI (lowB b 32).3.1 = true := raw_s1 rlb
    have b5 : isI (lowB b 32).3.2 = true := raw_s2 rlb
    have b6 : isU (lowB b 32).4.1 = true := raw_w1 rlb
    have b7 : isU (lowB b 32).4.2 = true := raw_w2 rlb
    have b8 : isI (lowB b 32).5.1 = true := raw_v1 rlb
    have b9 : isI (lowB b 32).5.2 = true := raw_v2 rlb
    refine br2 (fun k1 => ?_) (fun k1 => ?_)
    · have e : doesB 3 false a b = nothing := does_na (by decide) k1
      simp only [Tr.all]; rw [e]; try rfl
    · refine br2 (fun k2 => ?_) (fun k2 => ?_)
      · have e : doesB 3 false a b = nothing := does_nb (by decide) k1 k2
        simp only [Tr.all]; rw [e]; try rfl
      · refine ask10 (b := a) (ra) ?_
        refine askB (by first | with_reducible assumption | decide) ?_
        refine ask10 (b := b) (rb) ?_
        refine askB (by first | with_reducible assumption | decide) ?_
        refine br2 (fun k3 => ?_) (fun k3 => ?_)
        · have e : doesB 3 false a b = nothing := (does_h (by decide) k1 k2).trans (half_na rfl k3)
          simp only [Tr.all]; rw [e]; try rfl
        · refine br2 (fun k4 => ?_) (fun k4 => ?_)
          · have e : doesB 3 false a b = nothing := (does_h (by decide) k1 k2).trans (half_nb rfl k3 k4)
            simp only [Tr.all]; rw [e]; try rfl
          · iterate 14 (refine askB (by first | with_reducible assumption | decide) ?_)
            refine ask10 (b := (sync (.mk (.mk 0 18446744073709551615) (.mk (mDiv1 (lowB a 32).2.1 (lowB a 32).2.2 (lowB b 32).2.1 (lowB b 32).2.2) (mDiv2 (lowB a 32).2.1 (lowB a 32).2.2 (lowB b 32).2.1 (lowB b 32).2.2)) (.mk (-9223372036854775808) 9223372036854775807) (.mk 0 4294967295) (.mk (-2147483648) 2147483647)))) (sy_raw (ro)) ?_
            refine askB (by first | with_reducible assumption | decide) ?_
            have e : doesB 3 false a b = lowB (sync (divB (lowB a 32) (lowB b 32))) 32 := (does_h (by decide) k1 k2).trans ((half_op rfl k3 k4).trans rfl)
            simp only [Tr.all]; exact does_leaf e.symm rfl
theorem t_alu3f (x : Int) (y : Int) (hb0 : isU x = true) (hb1 : isU y = true) (ρ : Nat → Nat) (w : World) : Calls Tryz.prog 31 (enV [.s (some .u8), .s none, .s (some .u64), .s (some .u64)] ([3, x, y], [false])).toArray w fun e w' => e = .returned (V.den ρ (.tup [.c (.si .u64 (aluN 3 false x y)), .c (.si .i64 (doesE 3))])) ∧ Below w.heap.size w w' := by
  refine pure_to nameOK okn (dOK okn) 300 [.u (.c (.li .u8 3)), .u (.c (.lb false)), .u (.c (.si .u64 x)), .u (.c (.si .u64 y))] (T := (.br (iEq (iShr .u64 (iShl .u64 y 32) 32) 0) (.leaf (.val (.tup [(.c (.li .u64 0)), (.c (.li .i64 0))]))) (.br (iZero? (iShr .u64 (iShl .u64 y 32) 32)) (.no 11) (.br (iZero? (iShr .u64 (iShl .u64 y 32) 32)) (.no 11) (.leaf (.val (.tup [(.c (.si .u64 (iShr .u64 (iShl .u64 (iQuo .u64 (iShr .u64 (iShl .u64 x 32) 32) (iShr .u64 (iShl .u64 y 32) 32)) 32) 32))), (.c (.li .i64 0))]))))))) (by kernel_rfl) ρ rfl ?_ w
  · have ex : iShr .u64 (iShl .u64 x 32) 32 = x % 4294967296 := shl32 hb0
    have ey : iShr .u64 (iShl .u64 y 32) 32 = y % 4294967296 := shl32 hb1
    have sx : iShr .i64 (iConv .i64 (iShl .u64 (x % 4294967296) 32)) 32 = sg32 (x % 4294967296) := by rw [sg32_mod]; exact sar32 x
    have hx : isU (x % 4294967296) = true := mod_u hb0
    have hy : isU (y % 4294967296) = true := mod_u hb1
    refine br2 (fun k1 => ?_) (fun k1 => ?_)
    · have e0 : (y % 4294967296) = 0 := by have q := eq_t.1 k1; rwa [ey] at q
      simp only [Tr.all]; exact alu_leaf0 (by show _ = (if (y % 4294967296) = 0 then 0 else iQuo .u64 (x % 4294967296) (y % 4294967296)) % 4294967296; rw [if_pos e0]; rfl) rfl
    · refine brF (zero_f.2 (eq_f.1 k1)) ?_
      refine brF (zero_f.2 (eq_f.1 k1)) ?_
      have e0 : ¬ (y % 4294967296) = 0 := by have q := eq_f.1 k1; rwa [ey] at q
      simp only [Tr.all]; exact alu_leaf (by rw [ex, ey]; show _ = (if (y % 4294967296) = 0 then 0 else iQuo .u64 (x % 4294967296) (y % 4294967296)) % 4294967296; rw [if_neg e0]; exact shl32 (by rw [(quo_uu hx hy).1]; exact (quo_uu hx hy).2)) rfl
theorem t_does4t (a : Bd) (b : Bd) (hb0 : isU a.1.1 = true) (hb1 : isU a.1.2 = true) (hb2 : isU a.2.1 = true) (hb3 : isU a.2.2 = true) (hb4 : isI a.3.1 = true) (hb5 : isI a.3.2 = true) (hb6 : isU a.4.1 = true) (hb7 : isU a.4.2 = true) (hb8 : isI a.5.1 = true) (hb9 : isI a.5.2 = true) (hb10 : isU b.1.1 = true) (hb11 : isU b.1.2 = true) (hb12 : isU b.2.1 = true) (hb13 : isU b.2.2 = true) (hb14 : isI b.3.1 = true) (hb15 : isI b.3.2 = true) (hb16 : isU b.4.1 = true) (hb17 : isU b.4.2 = true) (hb18 : isI b.5.1 = true) (hb19 : isI b.5.2 = true) (ρ : Nat → Nat) (w : World) : Calls Tryz.prog 17 (enV [.s (some .u8), .s none, .a [some .u64, some .u64, some .u64, some .u64, some .i64, some .i64, some .u64, some .u64, some .i64, some .i64], .a [some .u64, some .u64, some .u64, some .u64, some .i64, some .i64, some .u64, some .u64, some .i64, some .i64]] ([4, a.1.1, a.1.2, a.2.1, a.2.2, a.3.1, a.3.2, a.4.1, a.4.2, a.5.1, a.5.2, b.1.1, b.1.2, b.2.1, b.2.2, b.3.1, b.3.2, b.4.1, b.4.2, b.5.1, b.5.2], [true])).toArray w fun e w' => e = .returned (V.den ρ (.tup [.agg (cB (doesB 4 true a b)), .c (.si .i64 (doesE 4))])) ∧ Below w.heap.size w w' := by
  refine pure_to nameOK oks_L05S_0 (dOK oks_L05S_0) 300 [.u (.c (.li .u8 4)), .u (.c (.lb true)), .u (.agg (cB a)), .u (.agg (cB b))] (T := (.br (bNone a) (.leaf (.val (.tup [(.agg cN), (.c (.li .i64 0))]))) (.br (bNone b) (.leaf (.val (.tup [(.agg cN), (.c (.li .i64 0))]))) (.br (isU (tOrM a.1 b.1).1) (.br (isU (tOrM a.1 b.1).2) (.br (isU (iMax2 a.2.1 b.2.1)) (.br (isU 18446744073709551615) (.br (isI (-9223372036854775808)) (.br (isI 9223372036854775807) (.br (isU (iMax2 a.4.1 b.4.1)) (.br (isU 4294967295) (.br (isI (-2147483648)) (.br (isI 2147483647) (.leaf (.val (.tup [(.agg (cB (sync (.mk (tOrM a.1 b.1) (.mk (iMax2 a.2.1 b.2.1) 18446744073709551615) (.mk (-9223372036854775808) 9223372036854775807) (.mk (iMax2 a.4.1 b.4.1) 4294967295) (.mk (-2147483648) 2147483647))))), (.c (.li .i64 0))]))) (.no 98)) (.no 98)) (.no 98)) (.no 98)) (.no 98)) (.no 98)) (.no 98)) (.no 98)) (.no 98)) (.no 98))))) (by kernel_rfl) ρ rfl ?_ w
  · have ra : Raw5 a := raw_of hb0 hb1 hb2 hb3 hb4 hb5 hb6 hb7 hb8 hb9
    have rb : Raw5 b := raw_of hb10 hb11 hb12 hb13 hb14 hb15 hb16 hb17 hb18 hb19
    have ro : Raw5 (orB a b) := orB_raw (ra) (rb)
    have f1 : isU (tOrM a.1 b.1).1 = true := ro.t.1
    have f2 : isU (tOrM a.1 b.1).2 = true := ro.t.2
    have f7 : isU (iMax2 a.2.1 b.2.1) = true := ro.u.1
    have f8 : isU (iMax2 a.4.1 b.4.1) = true := ro.w.1
    refine br2 (fun k1 => ?_) (fun k1 => ?_)
    · have e : doesB 4 true a b = nothing := does_na (by decide) k1
      simp only [Tr.all]; rw [e]; try rfl
    · refine br2 (fun k2 => ?_) (fun k2 => ?_)
      · have e : doesB 4 true a b = nothing := does_nb (by decide) k1 k2
        simp only [Tr.all]; rw [e]; try rfl
      · iterate 10 (refine askB (by first | with_reducible assumption | decide) ?_)
        have e : doesB 4 true a b = sync (orB a b) := (does_w (by decide) k1 k2).trans ((wide_op rfl).trans rfl)
        simp only [Tr.all]; exact does_leaf e.symm rfl
theorem t_alu4t (x : Int) (y : Int) (hb0 : isU x = true) (hb1 : isU y = true) (ρ : Nat → Nat) (w : World) : Calls Tryz.prog 31 (enV [.s (some .u8), .s none, .s (some .u64), .s (some .u64)] ([4, x, y], [true])).toArray w fun e w' => e = .returned (V.den ρ (.tup [.c (.si .u64 (aluN 4 true x y)), .c (.si .i64 (doesE 4))])) ∧ Below w.heap.size w w' := by
  refine pure_to nameOK okn (dOK okn) 300 [.u (.c (.li .u8 4)), .u (.c (.lb true)), .u (.c (.si .u64 x)), .u (.c (.si .u64 y))] (T := (.br (iEq (iShr .u64 (iShl .u64 y 0) 0) 0) (.leaf (.val (.tup [(.c (.si .u64 (iShr .u64 (iShl .u64 (iBit .or .u64 (iShr .u64 (iShl .u64 x 0) 0) (iShr .u64 (iShl .u64 y 0) 0)) 0) 0))), (.c (.li .i64 0))]))) (.br (iZero? (iShr .u64 (iShl .u64 y 0) 0)) (.no 11) (.br (iZero? (iShr .u64 (iShl .u64 y 0) 0)) (.no 11) (.leaf (.val (.tup [(.c (.si .u64 (iShr .u64 (iShl .u64 (iBit .or .u64 (iShr .u64 (iShl .u64 x 0) 0) (iShr .u64 (iShl .u64 y 0) 0)) 0) 0))), (.c (.li .i64 0))]))))))) (by kernel_rfl) ρ rfl ?_ w
  · have hx := hb0
    have hy := hb1
    have ex : iShr .u64 (iShl .u64 x 0) 0 = x := shl0 hb0
    have ey : iShr .u64 (iShl .u64 y 0) 0 = y := shl0 hb1
    have sx : iShr .i64 (iConv .i64 (iShl .u64 x 0)) 0 = sgn x := sar0 hb0
    refine br2 (fun k1 => ?_) (fun k1 => ?_)
    · have e0 : y = 0 := by have q := eq_t.1 k1; rwa [ey] at q
      simp only [Tr.all]; exact alu_leaf (by rw [ex, ey]; exact shl0 (or_u hx hy)) rfl
    · refine brF (zero_f.2 (eq_f.1 k1)) ?_
      refine brF (zero_f.2 (eq_f.1 k1)) ?_
      have e0 : ¬ y = 0 := by have q := eq_f.1 k1; rwa [ey] at q
      simp only [Tr.all]; exact alu_leaf (by rw [ex, ey]; exact shl0 (or_u hx hy)) rfl
theorem t_does4f (a : Bd) (b : Bd) (hb0 : isU a.1.1 = true) (hb1 : isU a.1.2 = true) (hb2 : isU a.2.1 = true) (hb3 : isU a.2.2 = true) (hb4 : isI a.3.1 = true) (hb5 : isI a.3.2 = true) (hb6 : isU a.4.1 = true) (hb7 : isU a.4.2 = true) (hb8 : isI a.5.1 = true) (hb9 : isI a.5.2 = true) (hb10 : isU b.1.1 = true) (hb11 : isU b.1.2 = true) (hb12 : isU b.2.1 = true) (hb13 : isU b.2.2 = true) (hb14 : isI b.3.1 = true) (hb15 : isI b.3.2 = true) (hb16 : isU b.4.1 = true) (hb17 : isU b.4.2 = true) (hb18 : isI b.5.1 = true) (hb19 : isI b.5.2 = true) (ρ : Nat → Nat) (w : World) : Calls Tryz.prog 17 (enV [.s (some .u8), .s none, .a [some .u64, some .u64, some .u64, some .u64, some .i64, some .i64, some .u64, some .u64, some .i64, some .i64], .a [some .u64, some .u64, some .u64, some .u64, some .i64, some .i64, some .u64, some .u64, some .i64, some .i64]] ([4, a.1.1, a.1.2, a.2.1, a.2.2, a.3.1, a.3.2, a.4.1, a.4.2, a.5.1, a.5.2, b.1.1, b.1.2, b.2.1, b.2.2, b.3.1, b.3.2, b.4.1, b.4.2, b.5.1, b.5.2], [false])).toArray w fun e w' => e = .returned (V.den ρ (.tup [.agg (cB (doesB 4 false a b)), .c (.si .i64 (doesE 4))])) ∧ Below w.heap.size w w' := by
  refine pure_to nameOK oks_L05S_0 (dOK oks_L05S_0) 300 [.u (.c (.li .u8 4)), .u (.c (.lb false)), .u (.agg (cB a)), .u (.agg (cB b))] (T := (.br (bNone a) (.leaf (.val (.tup [(.agg cN), (.c (.li .i64 0))]))) (.br (bNone b) (.leaf (.val (.tup [(.agg cN), (.c (.li .i64 0))]))) (a10 a (.br (isU 32) (a10 b (.br (isU 32) (.br (bNone (lowB a 32)) (.leaf (.val (.tup [(.agg cN), (.c (.li .i64 0))]))) (.br (bNone (lowB b 32)) (.leaf (.val (.tup [(.agg cN), (.c (.li .i64 0))]))) (.br (isU (tOrM (lowB a 32).1 (lowB b 32).1).1) (.br (isU (tOrM (lowB a 32).1 (lowB b 32).1).2) (.br (isU (iMax2 (lowB a 32).2.1 (lowB b 32).2.1)) (.br (isU 18446744073709551615) (.br (isI (-9223372036854775808)) (.br (isI 9223372036854775807) (.br (isU (iMax2 (lowB a 32).4.1 (lowB b 32).4.1)) (.br (isU 4294967295) (.br (isI (-2147483648)) (.br (isI 2147483647) (a10 (sync (.mk (tOrM (lowB a 32).1 (lowB b 32).1) (.mk (iMax2 (lowB a 32).2.1 (lowB b 32).2.1) 18446744073709551615) (.mk (-9223372036854775808) 9223372036854775807) (.mk (iMax2 (lowB a 32).4.1 (lowB b 32).4.1) 4294967295) (.mk (-2147483648) 2147483647))) (.br (isU 32) (.leaf (.val (.tup [(.agg (cB (lowB (sync (.mk (tOrM (lowB a 32).1 (lowB b 32).1) (.mk (iMax2 (lowB a 32).2.1 (lowB b 32).2.1) 18446744073709551615) (.mk (-9223372036854775808) 9223372036854775807) (.mk (iMax2 (lowB a 32).4.1 (lowB b 32).4.1) 4294967295) (.mk (-2147483648) 2147483647))) 32))), (.c (.li .i64 0))]))) (.no 98))) (.no 98)) (.no 98)) (.no 98)) (.no 98)) (.no 98)) (.no 98)) (.no 98)) (.no 98)) (.no 98)) (.no 98)))) (.no 98))) (.no 98)))))) (by kernel_rfl) ρ rfl ?_ w
  · have ra : Raw5 a := raw_of hb0 hb1 hb2 hb3 hb4 hb5 hb6 hb7 hb8 hb9
    have rb : Raw5 b := raw_of hb10 hb11 hb12 hb13 hb14 hb15 hb16 hb17 hb18 hb19
    have ro : Raw5 (orB (lowB a 32) (lowB b 32)) := orB_raw (lowB_raw (ra)) (lowB_raw (rb))
    have f1 : isU (tOrM (lowB a 32).1 (lowB b 32).1).1 = true := ro.t.1
    have f2 : isU (tOrM (lowB a 32).1 (lowB b 32).1).2 = true := ro.t.2
    have f7 : isU (iMax2 (lowB a 32).2.1 (lowB b 32).2.1) = true := ro.u.1
    have f8 : isU (iMax2 (lowB a 32).4.1 (lowB b 32).4.1) = true := ro.w.1
    have rla : Raw5 (lowB a 32) := lowB_raw ra
    have rlb : Raw5 (lowB b 32) := lowB_raw rb
    have a0 : isU (lowB a 32).1.1 = true := raw_t1 rla
    have a1 : isU (lowB a 32).1.2 = true := raw_t2 rla
    have a2 : isU (lowB a 32).2.1 = true := raw_u1 rla
    have a3 : isU (lowB a 32).2.2 = true := raw_u2 rla
    have a4 : isI (lowB a 32).3.1 = true := raw_s1 rla
    have a5 : isI (lowB a 32).3.2 = true := raw_s2 rla
    have a6 : isU (lowB a 32).4.1 = true := raw_w1 rla
    have a7 : isU (lowB a 32).4.2 = true := raw_w2 rla
    have a8 : isI (lowB a 32).5.1 = true := raw_v1 rla
    have a9 : isI (lowB a 32).5.2 = true := raw_v2 rla
    have b0 : isU (lowB b 32).1.1 = true := raw_t1 rlb
    have b1 : isU (lowB b 32).1.2 = true := raw_t2 rlb
    have b2 : isU (lowB b 32).2.1 = true := raw_u1 rlb
    have b3 : isU (lowB b 32).2.2 = true := raw_u2 rlb
    have b4 : isI (lowB b 32).3.1 = true := raw_s1 rlb
    have b5 : isI (lowB b 32).3.2 = true := raw_s2 rlb
    have b6 : isU (lowB b 32).4.1 = true := raw_w1 rlb
    have b7 : isU (lowB b 32).4.2 = true := raw_w2 rlb
    have b8 : isI (lowB b 32).5.1 = true := raw_v1 rlb
    have b9 : isI (lowB b 32).5.2 = true := raw_v2 rlb
    refine br2 (fun k1 => ?_) (fun k1 => ?_)
    · have e : doesB 4 false a b = nothing := does_na (by decide) k1
      simp only [Tr.all]; rw [e]; try rfl
    · refine br2 (fun k2 => ?_) (fun k2 => ?_)
      · have e : doesB 4 false a b = nothing := does_nb (by decide) k1 k2
        simp only [Tr.all]; rw [e]; try rfl
      · refine ask10 (b := a) (ra) ?_
        refine askB (by first | with_reducible assumption | decide) ?_
        refine ask10 (b := b) (rb) ?_
        refine askB (by first | with_reducible assumption | decide) ?_
        refine br2 (fun k3 => ?_) (fun k3 => ?_)
        · have e : doesB 4 false a b = nothing := (does_h (by decide) k1 k2).trans (half_na rfl k3)
          simp only [Tr.all]; rw [e]; try rfl
        · refine br2 (fun k4 => ?_) (fun k4 => ?_)
          · have e : doesB 4 false a b = nothing := (does_h (by decide) k1 k2).trans (half_nb rfl k3 k4)
            simp only [Tr.all]; rw [e]; try rfl
          · iterate 10 (refine askB (by first | with_reducible assumption | decide) ?_)
            refine ask10 (b := (sync (.mk (tOrM (lowB a 32).1 (lowB b 32).1) (.mk (iMax2 (lowB a 32).2.1 (lowB b 32).2.1) 18446744073709551615) (.mk (-9223372036854775808) 9223372036854775807) (.mk (iMax2 (lowB a 32).4.1 (lowB b 32).4.1) 4294967295) (.mk (-2147483648) 2147483647)))) (sy_raw (ro)) ?_
            refine askB (by first | with_reducible assumption | decide) ?_
            have e : doesB 4 false a b = lowB (sync (orB (lowB a 32) (lowB b 32))) 32 := (does_h (by decide) k1 k2).trans ((half_op rfl k3 k4).trans rfl)
            simp only [Tr.all]; exact does_leaf e.symm rfl
theorem t_alu4f (x : Int) (y : Int) (hb0 : isU x = true) (hb1 : isU y = true) (ρ : Nat → Nat) (w : World) : Calls Tryz.prog 31 (enV [.s (some .u8), .s none, .s (some .u64), .s (some .u64)] ([4, x, y], [false])).toArray w fun e w' => e = .returned (V.den ρ (.tup [.c (.si .u64 (aluN 4 false x y)), .c (.si .i64 (doesE 4))])) ∧ Below w.heap.size w w' := by
  refine pure_to nameOK okn (dOK okn) 300 [.u (.c (.li .u8 4)), .u (.c (.lb false)), .u (.c (.si .u64 x)), .u (.c (.si .u64 y))] (T := (.br (iEq (iShr .u64 (iShl .u64 y 32) 32) 0) (.leaf (.val (.tup [(.c (.si .u64 (iShr .u64 (iShl .u64 (iBit .or .u64 (iShr .u64 (iShl .u64 x 32) 32) (iShr .u64 (iShl .u64 y 32) 32)) 32) 32))), (.c (.li .i64 0))]))) (.br (iZero? (iShr .u64 (iShl .u64 y 32) 32)) (.no 11) (.br (iZero? (iShr .u64 (iShl .u64 y 32) 32)) (.no 11) (.leaf (.val (.tup [(.c (.si .u64 (iShr .u64 (iShl .u64 (iBit .or .u64 (iShr .u64 (iShl .u64 x 32) 32) (iShr .u64 (iShl .u64 y 32) 32)) 32) 32))), (.c (.li .i64 0))]))))))) (by kernel_rfl) ρ rfl ?_ w
  · have ex : iShr .u64 (iShl .u64 x 32) 32 = x % 4294967296 := shl32 hb0
    have ey : iShr .u64 (iShl .u64 y 32) 32 = y % 4294967296 := shl32 hb1
    have sx : iShr .i64 (iConv .i64 (iShl .u64 (x % 4294967296) 32)) 32 = sg32 (x % 4294967296) := by rw [sg32_mod]; exact sar32 x
    have hx : isU (x % 4294967296) = true := mod_u hb0
    have hy : isU (y % 4294967296) = true := mod_u hb1
    refine br2 (fun k1 => ?_) (fun k1 => ?_)
    · have e0 : (y % 4294967296) = 0 := by have q := eq_t.1 k1; rwa [ey] at q
      simp only [Tr.all]; exact alu_leaf (by rw [ex, ey]; exact shl32 (or_u hx hy)) rfl
    · refine brF (zero_f.2 (eq_f.1 k1)) ?_
      refine brF (zero_f.2 (eq_f.1 k1)) ?_
      have e0 : ¬ (y % 4294967296) = 0 := by have q := eq_f.1 k1; rwa [ey] at q
      simp only [Tr.all]; exact alu_leaf (by rw [ex, ey]; exact shl32 (or_u hx hy)) rfl
theorem t_alu5t (x : Int) (y : Int) (hb0 : isU x = true) (hb1 : isU y = true) (ρ : Nat → Nat) (w : World) : Calls Tryz.prog 31 (enV [.s (some .u8), .s none, .s (some .u64), .s (some .u64)] ([5, x, y], [true])).toArray w fun e w' => e = .returned (V.den ρ (.tup [.c (.si .u64 (aluN 5 true x y)), .c (.si .i64 (doesE 5))])) ∧ Below w.heap.size w w' := by
  refine pure_to nameOK okn (dOK okn) 300 [.u (.c (.li .u8 5)), .u (.c (.lb true)), .u (.c (.si .u64 x)), .u (.c (.si .u64 y))] (T := (.br (iEq (iShr .u64 (iShl .u64 y 0) 0) 0) (.leaf (.val (.tup [(.c (.si .u64 (iShr .u64 (iShl .u64 (iBit .and .u64 (iShr .u64 (iShl .u64 x 0) 0) (iShr .u64 (iShl .u64 y 0) 0)) 0) 0))), (.c (.li .i64 0))]))) (.br (iZero? (iShr .u64 (iShl .u64 y 0) 0)) (.no 11) (.br (iZero? (iShr .u64 (iShl .u64 y 0) 0)) (.no 11) (.leaf (.val (.tup [(.c (.si .u64 (iShr .u64 (iShl .u64 (iBit .and .u64 (iShr .u64 (iShl .u64 x 0) 0) (iShr .u64 (iShl .u64 y 0) 0)) 0) 0))), (.c (.li .i64 0))]))))))) (by kernel_rfl) ρ rfl ?_ w
  · have hx := hb0
    have hy := hb1
    have ex : iShr .u64 (iShl .u64 x 0) 0 = x := shl0 hb0
    have ey : iShr .u64 (iShl .u64 y 0) 0 = y := shl0 hb1
    have sx : iShr .i64 (iConv .i64 (iShl .u64 x 0)) 0 = sgn x := sar0 hb0
    refine br2 (fun k1 => ?_) (fun k1 => ?_)
    · have e0 : y = 0 := by have q := eq_t.1 k1; rwa [ey] at q
      simp only [Tr.all]; exact alu_leaf (by rw [ex, ey]; exact shl0 (and_u hx hy)) rfl
    · refine brF (zero_f.2 (eq_f.1 k1)) ?_
      refine brF (zero_f.2 (eq_f.1 k1)) ?_
      have e0 : ¬ y = 0 := by have q := eq_f.1 k1; rwa [ey] at q
      simp only [Tr.all]; exact alu_leaf (by rw [ex, ey]; exact shl0 (and_u hx hy)) rfl
theorem t_alu5f (x : Int) (y : Int) (hb0 : isU x = true) (hb1 : isU y = true) (ρ : Nat → Nat) (w : World) : Calls Tryz.prog 31 (enV [.s (some .u8), .s none, .s (some .u64), .s (some .u64)] ([5, x, y], [false])).toArray w fun e w' => e = .returned (V.den ρ (.tup [.c (.si .u64 (aluN 5 false x y)), .c (.si .i64 (doesE 5))])) ∧ Below w.heap.size w w' := by
  refine pure_to nameOK okn (dOK okn) 300 [.u (.c (.li .u8 5)), .u (.c (.lb false)), .u (.c (.si .u64 x)), .u (.c (.si .u64 y))] (T := (.br (iEq (iShr .u64 (iShl .u64 y 32) 32) 0) (.leaf (.val (.tup [(.c (.si .u64 (iShr .u64 (iShl .u64 (iBit .and .u64 (iShr .u64 (iShl .u64 x 32) 32) (iShr .u64 (iShl .u64 y 32) 32)) 32) 32))), (.c (.li .i64 0))]))) (.br (iZero? (iShr .u64 (iShl .u64 y 32) 32)) (.no 11) (.br (iZero? (iShr .u64 (iShl .u64 y 32) 32)) (.no 11) (.leaf (.val (.tup [(.c (.si .u64 (iShr .u64 (iShl .u64 (iBit .and .u64 (iShr .u64 (iShl .u64 x 32) 32) (iShr .u64 (iShl .u64 y 32) 32)) 32) 32))), (.c (.li .i64 0))]))))))) (by kernel_rfl) ρ rfl ?_ w
  · have ex : iShr .u64 (iShl .u64 x 32) 32 = x % 4294967296 := shl32 hb0
    have ey : iShr .u64 (iShl .u64 y 32) 32 = y % 4294967296 := shl32 hb1
    have sx : iShr .i64 (iConv .i64 (iShl .u64 (x % 4294967296) 32)) 32 = sg32 (x % 4294967296) := by rw [sg32_mod]; exact sar32 x
    have hx : isU (x % 4294967296) = true := mod_u hb0
    have hy : isU (y % 4294967296) = true := mod_u hb1
    refine br2 (fun k1 => ?_) (fun k1 => ?_)
    · have e0 : (y % 4294967296) = 0 := by have q := eq_t.1 k1; rwa [ey] at q
      simp only [Tr.all]; exact alu_leaf (by rw [ex, ey]; exact shl32 (and_u hx hy)) rfl
    · refine brF (zero_f.2 (eq_f.1 k1)) ?_
      refine brF (zero_f.2 (eq_f.1 k1)) ?_
      have e0 : ¬ (y % 4294967296) = 0 := by have q := eq_f.1 k1; rwa [ey] at q
      simp only [Tr.all]; exact alu_leaf (by rw [ex, ey]; exact shl32 (and_u hx hy)) rfl
theorem t_alu6t (x : Int) (y : Int) (hb0 : isU x = true) (hb1 : isU y = true) (ρ : Nat → Nat) (w : World) : Calls Tryz.prog 31 (enV [.s (some .u8), .s none, .s (some .u64), .s (some .u64)] ([6, x, y], [true])).toArray w fun e w' => e = .returned (V.den ρ (.tup [.c (.si .u64 (aluN 6 true x y)), .c (.si .i64 (doesE 6))])) ∧ Below w.heap.size w w' := by
  refine pure_to nameOK okn (dOK okn) 300 [.u (.c (.li .u8 6)), .u (.c (.lb true)), .u (.c (.si .u64 x)), .u (.c (.si .u64 y))] (T := (.br (iEq (iShr .u64 (iShl .u64 y 0) 0) 0) (.br (iNeg? (iRem (iShr .u64 (iShl .u64 y 0) 0) 64)) (.no 11) (.leaf (.val (.tup [(.c (.si .u64 (iShr .u64 (iShl .u64 (iShl .u64 (iShr .u64 (iShl .u64 x 0) 0) (iRem (iShr .u64 (iShl .u64 y 0) 0) 64)) 0) 0))), (.c (.li .i64 0))])))) (.br (iZero? (iShr .u64 (iShl .u64 y 0) 0)) (.no 11) (.br (iZero? (iShr .u64 (iShl .u64 y 0) 0)) (.no 11) (.br (iNeg? (iRem (iShr .u64 (iShl .u64 y 0) 0) 64)) (.no 11) (.leaf (.val (.tup [(.c (.si .u64 (iShr .u64 (iShl .u64 (iShl .u64 (iShr .u64 (iShl .u64 x 0) 0) (iRem (iShr .u64 (iShl .u64 y 0) 0) 64)) 0) 0))), (.c (.li .i64 0))])))))))) (by kernel_rfl) ρ rfl ?_ w
  · have hx := hb0
    have hy := hb1
    have ex : iShr .u64 (iShl .u64 x 0) 0 = x := shl0 hb0
    have ey : iShr .u64 (iShl .u64 y 0) 0 = y := shl0 hb1
    have sx : iShr .i64 (iConv .i64 (iShl .u64 x 0)) 0 = sgn x := sar0 hb0
    refine br2 (fun k1 => ?_) (fun k1 => ?_)
    · refine brF (by rw [ey]; exact rem_neg hy 64 (by decide)) ?_
      have e0 : y = 0 := by have q := eq_t.1 k1; rwa [ey] at q
      simp only [Tr.all]; exact alu_leaf (by rw [ex, ey, rem_p hy]; exact shl0 (shl_u _ _)) rfl
    · refine brF (zero_f.2 (eq_f.1 k1)) ?_
      refine brF (zero_f.2 (eq_f.1 k1)) ?_
      refine brF (by rw [ey]; exact rem_neg hy 64 (by decide)) ?_
      have e0 : ¬ y = 0 := by have q := eq_f.1 k1; rwa [ey] at q
      simp only [Tr.all]; exact alu_leaf (by rw [ex, ey, rem_p hy]; exact shl0 (shl_u _ _)) rfl
theorem t_alu6f (x : Int) (y : Int) (hb0 : isU x = true) (hb1 : isU y = true) (ρ : Nat → Nat) (w : World) : Calls Tryz.prog 31 (enV [.s (some .u8), .s none, .s (some .u64), .s (some .u64)] ([6, x, y], [false])).toArray w fun e w' => e = .returned (V.den ρ (.tup [.c (.si .u64 (aluN 6 false x y)), .c (.si .i64 (doesE 6))])) ∧ Below w.heap.size w w' := by
  refine pure_to nameOK okn (dOK okn) 300 [.u (.c (.li .u8 6)), .u (.c (.lb false)), .u (.c (.si .u64 x)), .u (.c (.si .u64 y))] (T := (.br (iEq (iShr .u64 (iShl .u64 y 32) 32) 0) (.br (iNeg? (iRem (iShr .u64 (iShl .u64 y 32) 32) 32)) (.no 11) (.leaf (.val (.tup [(.c (.si .u64 (iShr .u64 (iShl .u64 (iShl .u64 (iShr .u64 (iShl .u64 x 32) 32) (iRem (iShr .u64 (iShl .u64 y 32) 32) 32)) 32) 32))), (.c (.li .i64 0))])))) (.br (iZero? (iShr .u64 (iShl .u64 y 32) 32)) (.no 11) (.br (iZero? (iShr .u64 (iShl .u64 y 32) 32)) (.no 11) (.br (iNeg? (iRem (iShr .u64 (iShl .u64 y 32) 32) 32)) (.no 11) (.leaf (.val (.tup [(.c (.si .u64 (iShr .u64 (iShl .u64 (iShl .u64 (iShr .u64 (iShl .u64 x 32) 32) (iRem (iShr .u64 (iShl .u64 y 32) 32) 32)) 32) 32))), (.c (.li .i64 0))])))))))) (by kernel_rfl) ρ rfl ?_ w
  · have ex : iShr .u64 (iShl .u64 x 32) 32 = x % 4294967296 := shl32 hb0
    have ey : iShr .u64 (iShl .u64 y 32) 32 = y % 4294967296 := shl32 hb1
    have sx : iShr .i64 (iConv .i64 (iShl .u64 (x % 4294967296) 32)) 32 = sg32 (x % 4294967296) := by rw [sg32_mod]; exact sar32 x
    have hx : isU (x % 4294967296) = true := mod_u hb0
    have hy : isU (y % 4294967296) = true := mod_u hb1
    refine br2 (fun k1 => ?_) (fun k1 => ?_)
    · refine brF (by rw [ey]; exact rem_neg hy 32 (by decide)) ?_
      have e0 : (y % 4294967296) = 0 := by have q := eq_t.1 k1; rwa [ey] at q
      simp only [Tr.all]; exact alu_leaf (by rw [ex, ey, rem_p hy]; exact shl32 (shl_u _ _)) rfl
    · refine brF (zero_f.2 (eq_f.1 k1)) ?_
      refine brF (zero_f.2 (eq_f.1 k1)) ?_
      refine brF (by rw [ey]; exact rem_neg hy 32 (by decide)) ?_
      have e0 : ¬ (y % 4294967296) = 0 := by have q := eq_f.1 k1; rwa [ey] at q
      simp only [Tr.all]; exact alu_leaf (by rw [ex, ey, rem_p hy]; exact shl32 (shl_u _ _)) rfl
theorem t_alu7t (x : Int) (y : Int) (hb0 : isU x = true) (hb1 : isU y = true) (ρ : Nat → Nat) (w : World) : Calls Tryz.prog 31 (enV [.s (some .u8), .s none, .s (some .u64), .s (some .u64)] ([7, x, y], [true])).toArray w fun e w' => e = .returned (V.den ρ (.tup [.c (.si .u64 (aluN 7 true x y)), .c (.si .i64 (doesE 7))])) ∧ Below w.heap.size w w' := by
  refine pure_to nameOK okn (dOK okn) 300 [.u (.c (.li .u8 7)), .u (.c (.lb true)), .u (.c (.si .u64 x)), .u (.c (.si .u64 y))] (T := (.br (iEq (iShr .u64 (iShl .u64 y 0) 0) 0) (.br (iNeg? (iRem (iShr .u64 (iShl .u64 y 0) 0) 64)) (.no 11) (.leaf (.val (.tup [(.c (.si .u64 (iShr .u64 (iShl .u64 (iShr .u64 (iShr .u64 (iShl .u64 x 0) 0) (iRem (iShr .u64 (iShl .u64 y 0) 0) 64)) 0) 0))), (.c (.li .i64 0))])))) (.br (iZero? (iShr .u64 (iShl .u64 y 0) 0)) (.no 11) (.br (iZero? (iShr .u64 (iShl .u64 y 0) 0)) (.no 11) (.br (iNeg? (iRem (iShr .u64 (iShl .u64 y 0) 0) 64)) (.no 11) (.leaf (.val (.tup [(.c (.si .u64 (iShr .u64 (iShl .u64 (iShr .u64 (iShr .u64 (iShl .u64 x 0) 0) (iRem (iShr .u64 (iShl .u64 y 0) 0) 64)) 0) 0))), (.c (.li .i64 0))])))))))) (by kernel_rfl) ρ rfl ?_ w
  · have hx := hb0
    have hy := hb1
    have ex : iShr .u64 (iShl .u64 x 0) 0 = x := shl0 hb0
    have ey : iShr .u64 (iShl .u64 y 0) 0 = y := shl0 hb1
    have sx : iShr .i64 (iConv .i64 (iShl .u64 x 0)) 0 = sgn x := sar0 hb0
    refine br2 (fun k1 => ?_) (fun k1 => ?_)
    · refine brF (by rw [ey]; exact rem_neg hy 64 (by decide)) ?_
      have e0 : y = 0 := by have q := eq_t.1 k1; rwa [ey] at q
      simp only [Tr.all]; exact alu_leaf (by rw [ex, ey, rem_p hy]; exact shl0 (shr_u hx _)) rfl
    · refine brF (zero_f.2 (eq_f.1 k1)) ?_
      refine brF (zero_f.2 (eq_f.1 k1)) ?_
      refine brF (by rw [ey]; exact rem_neg hy 64 (by decide)) ?_
      have e0 : ¬ y = 0 := by have q := eq_f.1 k1; rwa [ey] at q
      simp only [Tr.all]; exact alu_leaf (by rw [ex, ey, rem_p hy]; exact shl0 (shr_u hx _)) rfl
theorem t_alu7f (x : Int) (y : Int) (hb0 : isU x = true) (hb1 : isU y = true) (ρ : Nat → Nat) (w : World) : Calls Tryz.prog 31 (enV [.s (some .u8), .s none, .s (some .u64), .s (some .u64)] ([7, x, y], [false])).toArray w fun e w' => e = .returned (V.den ρ (.tup [.c (.si .u64 (aluN 7 false x y)), .c (.si .i64 (doesE 7))])) ∧ Below w.heap.size w w' := by
  refine pure_to nameOK okn (dOK okn) 300 [.u (.c (.li .u8 7)), .u (.c (.lb false)), .u (.c (.si .u64 x)), .u (.c (.si .u64 y))] (T := (.br (iEq (iShr .u64 (iShl .u64 y 32) 32) 0) (.br (iNeg? (iRem (iShr .u64 (iShl .u64 y 32) 32) 32)) (.no 11) (.leaf (.val (.tup [(.c (.si .u64 (iShr .u64 (iShl .u64 (iShr .u64 (iShr .u64 (iShl .u64 x 32) 32) (iRem (iShr .u64 (iShl .u64 y 32) 32) 32)) 32) 32))), (.c (.li .i64 0))])))) (.br (iZero? (iShr .u64 (iShl .u64 y 32) 32)) (.no 11) (.br (iZero? (iShr .u64 (iShl .u64 y 32) 32)) (.no 11) (.br (iNeg? (iRem (iShr .u64 (iShl .u64 y 32) 32) 32)) (.no 11) (.leaf (.val (.tup [(.c (.si .u64 (iShr .u64 (iShl .u64 (iShr .u64 (iShr .u64 (iShl .u64 x 32) 32) (iRem (iShr .u64 (iShl .u64 y 32) 32) 32)) 32) 32))), (.c (.li .i64 0))])))))))) (by kernel_rfl) ρ rfl ?_ w
  · have ex : iShr .u64 (iShl .u64 x 32) 32 = x % 4294967296 := shl32 hb0
    have ey : iShr .u64 (iShl .u64 y 32) 32 = y % 4294967296 := shl32 hb1
    have sx : iShr .i64 (iConv .i64 (iShl .u64 (x % 4294967296) 32)) 32 = sg32 (x % 4294967296) := by rw [sg32_mod]; exact sar32 x
    have hx : isU (x % 4294967296) = true := mod_u hb0
    have hy : isU (y % 4294967296) = true := mod_u hb1
    refine br2 (fun k1 => ?_) (fun k1 => ?_)
    · refine brF (by rw [ey]; exact rem_neg hy 32 (by decide)) ?_
      have e0 : (y % 4294967296) = 0 := by have q := eq_t.1 k1; rwa [ey] at q
      simp only [Tr.all]; exact alu_leaf (by rw [ex, ey, rem_p hy]; exact shl32 (shr_u hx _)) rfl
    · refine brF (zero_f.2 (eq_f.1 k1)) ?_
      refine brF (zero_f.2 (eq_f.1 k1)) ?_
      refine brF (by rw [ey]; exact rem_neg hy 32 (by decide)) ?_
      have e0 : ¬ (y % 4294967296) = 0 := by have q := eq_f.1 k1; rwa [ey] at q
      simp only [Tr.all]; exact alu_leaf (by rw [ex, ey, rem_p hy]; exact shl32 (shr_u hx _)) rfl
theorem t_alu8t (x : Int) (y : Int) (hb0 : isU x = true) (hb1 : isU y = true) (ρ : Nat → Nat) (w : World) : Calls Tryz.prog 31 (enV [.s (some .u8), .s none, .s (some .u64), .s (some .u64)] ([8, x, y], [true])).toArray w fun e w' => e = .returned (V.den ρ (.tup [.c (.si .u64 (aluN 8 true x y)), .c (.si .i64 (doesE 8))])) ∧ Below w.heap.size w w' := by
  refine pure_to nameOK okn (dOK okn) 300 [.u (.c (.li .u8 8)), .u (.c (.lb true)), .u (.c (.si .u64 x)), .u (.c (.si .u64 y))] (T := (.br (iEq (iShr .u64 (iShl .u64 y 0) 0) 0) (.leaf (.val (.tup [(.c (.si .u64 (iShr .u64 (iShl .u64 (iSub .u64 0 (iShr .u64 (iShl .u64 x 0) 0)) 0) 0))), (.c (.li .i64 0))]))) (.br (iZero? (iShr .u64 (iShl .u64 y 0) 0)) (.no 11) (.br (iZero? (iShr .u64 (iShl .u64 y 0) 0)) (.no 11) (.leaf (.val (.tup [(.c (.si .u64 (iShr .u64 (iShl .u64 (iSub .u64 0 (iShr .u64 (iShl .u64 x 0) 0)) 0) 0))), (.c (.li .i64 0))]))))))) (by kernel_rfl) ρ rfl ?_ w
  · have hx := hb0
    have hy := hb1
    have ex : iShr .u64 (iShl .u64 x 0) 0 = x := shl0 hb0
    have ey : iShr .u64 (iShl .u64 y 0) 0 = y := shl0 hb1
    have sx : iShr .i64 (iConv .i64 (iShl .u64 x 0)) 0 = sgn x := sar0 hb0
    refine br2 (fun k1 => ?_) (fun k1 => ?_)
    · have e0 : y = 0 := by have q := eq_t.1 k1; rwa [ey] at q
      simp only [Tr.all]; exact alu_leaf (by rw [ex]; exact shl0 (subU_u _ _)) rfl
    · refine brF (zero_f.2 (eq_f.1 k1)) ?_
      refine brF (zero_f.2 (eq_f.1 k1)) ?_
      have e0 : ¬ y = 0 := by have q := eq_f.1 k1; rwa [ey] at q
      simp only [Tr.all]; exact alu_leaf (by rw [ex]; exact shl0 (subU_u _ _)) rfl
theorem t_alu8f (x : Int) (y : Int) (hb0 : isU x = true) (hb1 : isU y = true) (ρ : Nat → Nat) (w : World) : Calls Tryz.prog 31 (enV [.s (some .u8), .s none, .s (some .u64), .s (some .u64)] ([8, x, y], [false])).toArray w fun e w' => e = .returned (V.den ρ (.tup [.c (.si .u64 (aluN 8 false x y)), .c (.si .i64 (doesE 8))])) ∧ Below w.heap.size w w' := by
  refine pure_to nameOK okn (dOK okn) 300 [.u (.c (.li .u8 8)), .u (.c (.lb false)), .u (.c (.si .u64 x)), .u (.c (.si .u64 y))] (T := (.br (iEq (iShr .u64 (iShl .u64 y 32) 32) 0) (.leaf (.val (.tup [(.c (.si .u64 (iShr .u64 (iShl .u64 (iSub .u64 0 (iShr .u64 (iShl .u64 x 32) 32)) 32) 32))), (.c (.li .i64 0))]))) (.br (iZero? (iShr .u64 (iShl .u64 y 32) 32)) (.no 11) (.br (iZero? (iShr .u64 (iShl .u64 y 32) 32)) (.no 11) (.leaf (.val (.tup [(.c (.si .u64 (iShr .u64 (iShl .u64 (iSub .u64 0 (iShr .u64 (iShl .u64 x 32) 32)) 32) 32))), (.c (.li .i64 0))]))))))) (by kernel_rfl) ρ rfl ?_ w
  · have ex : iShr .u64 (iShl .u64 x 32) 32 = x % 4294967296 := shl32 hb0
    have ey : iShr .u64 (iShl .u64 y 32) 32 = y % 4294967296 := shl32 hb1
    have sx : iShr .i64 (iConv .i64 (iShl .u64 (x % 4294967296) 32)) 32 = sg32 (x % 4294967296) := by rw [sg32_mod]; exact sar32 x
    have hx : isU (x % 4294967296) = true := mod_u hb0
    have hy : isU (y % 4294967296) = true := mod_u hb1
    refine br2 (fun k1 => ?_) (fun k1 => ?_)
    · have e0 : (y % 4294967296) = 0 := by have q := eq_t.1 k1; rwa [ey] at q
      simp only [Tr.all]; exact alu_leaf (by rw [ex]; exact shl32 (subU_u _ _)) rfl
    · refine brF (zero_f.2 (eq_f.1 k1)) ?_
      refine brF (zero_f.2 (eq_f.1 k1)) ?_
      have e0 : ¬ (y % 4294967296) = 0 := by have q := eq_f.1 k1; rwa [ey] at q
      simp only [Tr.all]; exact alu_leaf (by rw [ex]; exact shl32 (subU_u _ _)) rfl
theorem t_alu9t (x : Int) (y : Int) (hb0 : isU x = true) (hb1 : isU y = true) (ρ : Nat → Nat) (w : World) : Calls Tryz.prog 31 (enV [.s (some .u8), .s none, .s (some .u64), .s (some .u64)] ([9, x, y], [true])).toArray w fun e w' => e = .returned (V.den ρ (.tup [.c (.si .u64 (aluN 9 true x y)), .c (.si .i64 (doesE 9))])) ∧ Below w.heap.size w w' := by
  refine pure_to nameOK okn (dOK okn) 300 [.u (.c (.li .u8 9)), .u (.c (.lb true)), .u (.c (.si .u64 x)), .u (.c (.si .u64 y))] (T := (.br (iEq (iShr .u64 (iShl .u64 y 0) 0) 0) (.leaf (.val (.tup [(.c (.si .u64 (iShr .u64 (iShl .u64 (iShr .u64 (iShl .u64 x 0) 0) 0) 0))), (.c (.li .i64 0))]))) (.br (iZero? (iShr .u64 (iShl .u64 y 0) 0)) (.no 11) (.br (iZero? (iShr .u64 (iShl .u64 y 0) 0)) (.no 11) (.leaf (.val (.tup [(.c (.si .u64 (iShr .u64 (iShl .u64 (iRem (iShr .u64 (iShl .u64 x 0) 0) (iShr .u64 (iShl .u64 y 0) 0)) 0) 0))), (.c (.li .i64 0))]))))))) (by kernel_rfl) ρ rfl ?_ w
  · have hx := hb0
    have hy := hb1
    have ex : iShr .u64 (iShl .u64 x 0) 0 = x := shl0 hb0
    have ey : iShr .u64 (iShl .u64 y 0) 0 = y := shl0 hb1
    have sx : iShr .i64 (iConv .i64 (iShl .u64 x 0)) 0 = sgn x := sar0 hb0
    refine br2 (fun k1 => ?_) (fun k1 => ?_)
    · have e0 : y = 0 := by have q := eq_t.1 k1; rwa [ey] at q
      simp only [Tr.all]; exact alu_leaf (by rw [ex]; show _ = (if y = 0 then x else iRem x y); rw [if_pos e0]; exact shl0 hx) rfl
    · refine brF (zero_f.2 (eq_f.1 k1)) ?_
      refine brF (zero_f.2 (eq_f.1 k1)) ?_
      have e0 : ¬ y = 0 := by have q := eq_f.1 k1; rwa [ey] at q
      simp only [Tr.all]; exact alu_leaf (by rw [ex, ey]; show _ = (if y = 0 then x else iRem x y); rw [if_neg e0]; exact shl0 (by have q := modV_u hx hy; unfold modV at q; rwa [if_neg e0] at q)) rfl
theorem t_alu9f (x : Int) (y : Int) (hb0 : isU x = true) (hb1 : isU y = true) (ρ : Nat → Nat) (w : World) : Calls Tryz.prog 31 (enV [.s (some .u8), .s none, .s (some .u64), .s (some .u64)] ([9, x, y], [false])).toArray w fun e w' => e = .returned (V.den ρ (.tup [.c (.si .u64 (aluN 9 false x y)), .c (.si .i64 (doesE 9))])) ∧ Below w.heap.size w w' := by
  refine pure_to nameOK okn (dOK okn) 300 [.u (.c (.li .u8 9)), .u (.c (.lb false)), .u (.c (.si .u64 x)), .u (.c (.si .u64 y))] (T := (.br (iEq (iShr .u64 (iShl .u64 y 32) 32) 0) (.leaf (.val (.tup [(.c (.si .u64 (iShr .u64 (iShl .u64 (iShr .u64 (iShl .u64 x 32) 32) 32) 32))), (.c (.li .i64 0))]))) (.br (iZero? (iShr .u64 (iShl .u64 y 32) 32)) (.no 11) (.br (iZero? (iShr .u64 (iShl .u64 y 32) 32)) (.no 11) (.leaf (.val (.tup [(.c (.si .u64 (iShr .u64 (iShl .u64 (iRem (iShr .u64 (iShl .u64 x 32) 32) (iShr .u64 (iShl .u64 y 32) 32)) 32) 32))), (.c (.li .i64 0))]))))))) (by kernel_rfl) ρ rfl ?_ w
  · have ex : iShr .u64 (iShl .u64 x 32) 32 = x % 4294967296 := shl32 hb0
    have ey : iShr .u64 (iShl .u64 y 32) 32 = y % 4294967296 := shl32 hb1
    have sx : iShr .i64 (iConv .i64 (iShl .u64 (x % 4294967296) 32)) 32 = sg32 (x % 4294967296) := by rw [sg32_mod]; exact sar32 x
    have hx : isU (x % 4294967296) = true := mod_u hb0
    have hy : isU (y % 4294967296) = true := mod_u hb1
    refine br2 (fun k1 => ?_) (fun k1 => ?_)
    · have e0 : (y % 4294967296) = 0 := by have q := eq_t.1 k1; rwa [ey] at q
      simp only [Tr.all]; exact alu_leaf (by rw [ex]; show _ = (if (y % 4294967296) = 0 then (x % 4294967296) else iRem (x % 4294967296) (y % 4294967296)) % 4294967296; rw [if_pos e0]; exact shl32 hx) rfl
    · refine brF (zero_f.2 (eq_f.1 k1)) ?_
      refine brF (zero_f.2 (eq_f.1 k1)) ?_
      have e0 : ¬ (y % 4294967296) = 0 := by have q := eq_f.1 k1; rwa [ey] at q
      simp only [Tr.all]; exact alu_leaf (by rw [ex, ey]; show _ = (if (y % 4294967296) = 0 then (x % 4294967296) else iRem (x % 4294967296) (y % 4294967296)) % 4294967296; rw [if_neg e0]; exact shl32 (by have q := modV_u hx hy; unfold modV at q; rwa [if_neg e0] at q)) rfl
theorem t_alu10t (x : Int) (y : Int) (hb0 : isU x = true) (hb1 : isU y = true) (ρ : Nat → Nat) (w : World) : Calls Tryz.prog 31 (enV [.s (some .u8), .s none, .s (some .u64), .s (some .u64)] ([10, x, y], [true])).toArray w fun e w' => e = .returned (V.den ρ (.tup [.c (.si .u64 (aluN 10 true x y)), .c (.si .i64 (doesE 10))])) ∧ Below w.heap.size w w' := by
  refine pure_to nameOK okn (dOK okn) 300 [.u (.c (.li .u8 10)), .u (.c (.lb true)), .u (.c (.si .u64 x)), .u (.c (.si .u64 y))] (T := (.br (iEq (iShr .u64 (iShl .u64 y 0) 0) 0) (.leaf (.val (.tup [(.c (.si .u64 (iShr .u64 (iShl .u64 (iBit .xor .u64 (iShr .u64 (iShl .u64 x 0) 0) (iShr .u64 (iShl .u64 y 0) 0)) 0) 0))), (.c (.li .i64 0))]))) (.br (iZero? (iShr .u64 (iShl .u64 y 0) 0)) (.no 11) (.br (iZero? (iShr .u64 (iShl .u64 y 0) 0)) (.no 11) (.leaf (.val (.tup [(.c (.si .u64 (iShr .u64 (iShl .u64 (iBit .xor .u64 (iShr .u64 (iShl .u64 x 0) 0) (iShr .u64 (iShl .u64 y 0) 0)) 0) 0))), (.c (.li .i64 0))]))))))) (by kernel_rfl) ρ rfl ?_ w
  · have hx := hb0
    have hy := hb1
    have ex : iShr .u64 (iShl .u64 x 0) 0 = x := shl0 hb0
    have ey : iShr .u64 (iShl .u64 y 0) 0 = y := shl0 hb1
    have sx : iShr .i64 (iConv .i64 (iShl .u64 x 0)) 0 = sgn x := sar0 hb0
    refine br2 (fun k1 => ?_) (fun k1 => ?_)
    · have e0 : y = 0 := by have q := eq_t.1 k1; rwa [ey] at q
      simp only [Tr.all]; exact alu_leaf (by rw [ex, ey]; exact shl0 (xor_u hx hy)) rfl
    · refine brF (zero_f.2 (eq_f.1 k1)) ?_
      refine brF (zero_f.2 (eq_f.1 k1)) ?_
      have e0 : ¬ y = 0 := by have q := eq_f.1 k1; rwa [ey] at q
      simp only [Tr.all]; exact alu_leaf (by rw [ex, ey]; exact shl0 (xor_u hx hy)) rfl
theorem t_alu10f (x : Int) (y : Int) (hb0 : isU x = true) (hb1 : isU y = true) (ρ : Nat → Nat) (w : World) : Calls Tryz.prog 31 (enV [.s (some .u8), .s none, .s (some .u64), .s (some .u64)] ([10, x, y], [false])).toArray w fun e w' => e = .returned (V.den ρ (.tup [.c (.si .u64 (aluN 10 false x y)), .c (.si .i64 (doesE 10))])) ∧ Below w.heap.size w w' := by
  refine pure_to nameOK okn (dOK okn) 300 [.u (.c (.li .u8 10)), .u (.c (.lb false)), .u (.c (.si .u64 x)), .u (.c (.si .u64 y))] (T := (.br (iEq (iShr .u64 (iShl .u64 y 32) 32) 0) (.leaf (.val (.tup [(.c (.si .u64 (iShr .u64 (iShl .u64 (iBit .xor .u64 (iShr .u64 (iShl .u64 x 32) 32) (iShr .u64 (iShl .u64 y 32) 32)) 32) 32))), (.c (.li .i64 0))]))) (.br (iZero? (iShr .u64 (iShl .u64 y 32) 32)) (.no 11) (.br (iZero? (iShr .u64 (iShl .u64 y 32) 32)) (.no 11) (.leaf (.val (.tup [(.c (.si .u64 (iShr .u64 (iShl .u64 (iBit .xor .u64 (iShr .u64 (iShl .u64 x 32) 32) (iShr .u64 (iShl .u64 y 32) 32)) 32) 32))), (.c (.li .i64 0))]))))))) (by kernel_rfl) ρ rfl ?_ w
  · have ex : iShr .u64 (iShl .u64 x 32) 32 = x % 4294967296 := shl32 hb0
    have ey : iShr .u64 (iShl .u64 y 32) 32 = y % 4294967296 := shl32 hb1
    have sx : iShr .i64 (iConv .i64 (iShl .u64 (x % 4294967296) 32)) 32 = sg32 (x % 4294967296) := by rw [sg32_mod]; exact sar32 x
    have hx : isU (x % 4294967296) = true := mod_u hb0
    have hy : isU (y % 4294967296) = true := mod_u hb1
    refine br2 (fun k1 => ?_) (fun k1 => ?_)
    · have e0 : (y % 4294967296) = 0 := by have q := eq_t.1 k1; rwa [ey] at q
      simp only [Tr.all]; exact alu_leaf (by rw [ex, ey]; exact shl32 (xor_u hx hy)) rfl
    · refine brF (zero_f.2 (eq_f.1 k1)) ?_
      refine brF (zero_f.2 (eq_f.1 k1)) ?_
      have e0 : ¬ (y % 4294967296) = 0 := by have q := eq_f.1 k1; rwa [ey] at q
      simp only [Tr.all]; exact alu_leaf (by rw [ex, ey]; exact shl32 (xor_u hx hy)) rfl
theorem t_alu11t (x : Int) (y : Int) (hb0 : isU x = true) (hb1 : isU y = true) (ρ : Nat → Nat) (w : World) : Calls Tryz.prog 31 (enV [.s (some .u8), .s none, .s (some .u64), .s (some .u64)] ([11, x, y], [true])).toArray w fun e w' => e = .returned (V.den ρ (.tup [.c (.si .u64 (aluN 11 true x y)), .c (.si .i64 (doesE 11))])) ∧ Below w.heap.size w w' := by
  refine pure_to nameOK okn (dOK okn) 300 [.u (.c (.li .u8 11)), .u (.c (.lb true)), .u (.c (.si .u64 x)), .u (.c (.si .u64 y))] (T := (.br (iEq (iShr .u64 (iShl .u64 y 0) 0) 0) (.leaf (.val (.tup [(.c (.si .u64 (iShr .u64 (iShl .u64 (iShr .u64 (iShl .u64 y 0) 0) 0) 0))), (.c (.li .i64 0))]))) (.br (iZero? (iShr .u64 (iShl .u64 y 0) 0)) (.no 11) (.br (iZero? (iShr .u64 (iShl .u64 y 0) 0)) (.no 11) (.leaf (.val (.tup [(.c (.si .u64 (iShr .u64 (iShl .u64 (iShr .u64 (iShl .u64 y 0) 0) 0) 0))), (.c (.li .i64 0))]))))))) (by kernel_rfl) ρ rfl ?_ w
  · have hx := hb0
    have hy := hb1
    have ex : iShr .u64 (iShl .u64 x 0) 0 = x := shl0 hb0
    have ey : iShr .u64 (iShl .u64 y 0) 0 = y := shl0 hb1
    have sx : iShr .i64 (iConv .i64 (iShl .u64 x 0)) 0 = sgn x := sar0 hb0
    refine br2 (fun k1 => ?_) (fun k1 => ?_)
    · have e0 : y = 0 := by have q := eq_t.1 k1; rwa [ey] at q
      simp only [Tr.all]; exact alu_leaf (by rw [ey]; exact shl0 (hy)) rfl
    · refine brF (zero_f.2 (eq_f.1 k1)) ?_
      refine brF (zero_f.2 (eq_f.1 k1)) ?_
      have e0 : ¬ y = 0 := by have q := eq_f.1 k1; rwa [ey] at q
      simp only [Tr.all]; exact alu_leaf (by rw [ey]; exact shl0 (hy)) rfl
theorem t_alu11f (x : Int) (y : Int) (hb0 : isU x = true) (hb1 : isU y = true) (ρ : Nat → Nat) (w : World) : Calls Tryz.prog 31 (enV [.s (some .u8), .s none, .s (some .u64), .s (some .u64)] ([11, x, y], [false])).toArray w fun e w' => e = .returned (V.den ρ (.tup [.c (.si .u64 (aluN 11 false x y)), .c (.si .i64 (doesE 11))])) ∧ Below w.heap.size w w' := by
  refine pure_to nameOK okn (dOK okn) 300 [.u (.c (.li .u8 11)), .u (.c (.lb false)), .u (.c (.si .u64 x)), .u (.c (.si .u64 y))] (T := (.br (iEq (iShr .u64 (iShl .u64 y 32) 32) 0) (.leaf (.val (.tup [(.c (.si .u64 (iShr .u64 (iShl .u64 (iShr .u64 (iShl .u64 y 32) 32) 32) 32))), (.c (.li .i64 0))]))) (.br (iZero? (iShr .u64 (iShl .u64 y 32) 32)) (.no 11) (.br (iZero? (iShr .u64 (iShl .u64 y 32) 32)) (.no 11) (.leaf (.val (.tup [(.c (.si .u64 (iShr .u64 (iShl .u64 (iShr .u64 (iShl .u64 y 32) 32) 32) 32))), (.c (.li .i64 0))]))))))) (by kernel_rfl) ρ rfl ?_ w
  · have ex : iShr .u64 (iShl .u64 x 32) 32 = x % 4294967296 := shl32 hb0
    have ey : iShr .u64 (iShl .u64 y 32) 32 = y % 4294967296 := shl32 hb1
    have sx : iShr .i64 (iConv .i64 (iShl .u64 (x % 4294967296) 32)) 32 = sg32 (x % 4294967296) := by rw [sg32_mod]; exact sar32 x
    have hx : isU (x % 4294967296) = true := mod_u hb0
    have hy : isU (y % 4294967296) = true := mod_u hb1
    refine br2 (fun k1 => ?_) (fun k1 => ?_)
    · have e0 : (y % 4294967296) = 0 := by have q := eq_t.1 k1; rwa [ey] at q
      simp only [Tr.all]; exact alu_leaf (by rw [ey]; exact shl32 (hy)) rfl
    · refine brF (zero_f.2 (eq_f.1 k1)) ?_
      refine brF (zero_f.2 (eq_f.1 k1)) ?_
      have e0 : ¬ (y % 4294967296) = 0 := by have q := eq_f.1 k1; rwa [ey] at q
      simp only [Tr.all]; exact alu_leaf (by rw [ey]; exact shl32 (hy)) rfl
theorem t_alu12t (x : Int) (y : Int) (hb0 : isU x = true) (hb1 : isU y = true) (ρ : Nat → Nat) (w : World) : Calls Tryz.prog 31 (enV [.s (some .u8), .s none, .s (some .u64), .s (some .u64)] ([12, x, y], [true])).toArray w fun e w' => e = .returned (V.den ρ (.tup [.c (.si .u64 (aluN 12 true x y)), .c (.si .i64 (doesE 12))])) ∧ Below w.heap.size w w' := by
  refine pure_to nameOK okn (dOK okn) 300 [.u (.c (.li .u8 12)), .u (.c (.lb true)), .u (.c (.si .u64 x)), .u (.c (.si .u64 y))] (T := (.br (iEq (iShr .u64 (iShl .u64 y 0) 0) 0) (.br (iNeg? (iRem (iShr .u64 (iShl .u64 y 0) 0) 64)) (.no 11) (.leaf (.val (.tup [(.c (.si .u64 (iShr .u64 (iShl .u64 (iConv .u64 (iShr .i64 (iShr .i64 (iConv .i64 (iShl .u64 (iShr .u64 (iShl .u64 x 0) 0) 0)) 0) (iRem (iShr .u64 (iShl .u64 y 0) 0) 64))) 0) 0))), (.c (.li .i64 0))])))) (.br (iZero? (iShr .u64 (iShl .u64 y 0) 0)) (.no 11) (.br (iZero? (iShr .u64 (iShl .u64 y 0) 0)) (.no 11) (.br (iNeg? (iRem (iShr .u64 (iShl .u64 y 0) 0) 64)) (.no 11) (.leaf (.val (.tup [(.c (.si .u64 (iShr .u64 (iShl .u64 (iConv .u64 (iShr .i64 (iShr .i64 (iConv .i64 (iShl .u64 (iShr .u64 (iShl .u64 x 0) 0) 0)) 0) (iRem (iShr .u64 (iShl .u64 y 0) 0) 64))) 0) 0))), (.c (.li .i64 0))])))))))) (by kernel_rfl) ρ rfl ?_ w
  · have hx := hb0
    have hy := hb1
    have ex : iShr .u64 (iShl .u64 x 0) 0 = x := shl0 hb0
    have ey : iShr .u64 (iShl .u64 y 0) 0 = y := shl0 hb1
    have sx : iShr .i64 (iConv .i64 (iShl .u64 x 0)) 0 = sgn x := sar0 hb0
    refine br2 (fun k1 => ?_) (fun k1 => ?_)
    · refine brF (by rw [ey]; exact rem_neg hy 64 (by decide)) ?_
      have e0 : y = 0 := by have q := eq_t.1 k1; rwa [ey] at q
      simp only [Tr.all]; exact alu_leaf (by rw [ex, sx, ey, rem_p hy]; exact shl0 (iConv_u _)) rfl
    · refine brF (zero_f.2 (eq_f.1 k1)) ?_
      refine brF (zero_f.2 (eq_f.1 k1)) ?_
      refine brF (by rw [ey]; exact rem_neg hy 64 (by decide)) ?_
      have e0 : ¬ y = 0 := by have q := eq_f.1 k1; rwa [ey] at q
      simp only [Tr.all]; exact alu_leaf (by rw [ex, sx, ey, rem_p hy]; exact shl0 (iConv_u _)) rfl
theorem t_alu12f (x : Int) (y : Int) (hb0 : isU x = true) (hb1 : isU y = true) (ρ : Nat → Nat) (w : World) : Calls Tryz.prog 31 (enV [.s (some .u8), .s none, .s (some .u64), .s (some .u64)] ([12, x, y], [false])).toArray w fun e w' => e = .returned (V.den ρ (.tup [.c (.si .u64 (aluN 12 false x y)), .c (.si .i64 (doesE 12))])) ∧ Below w.heap.size w w' := by
  refine pure_to nameOK okn (dOK okn) 300 [.u (.c (.li .u8 12)), .u (.c (.lb false)), .u (.c (.si .u64 x)), .u (.c (.si .u64 y))] (T := (.br (iEq (iShr .u64 (iShl .u64 y 32) 32) 0) (.br (iNeg? (iRem (iShr .u64 (iShl .u64 y 32) 32) 32)) (.no 11) (.leaf (.val (.tup [(.c (.si .u64 (iShr .u64 (iShl .u64 (iConv .u64 (iShr .i64 (iShr .i64 (iConv .i64 (iShl .u64 (iShr .u64 (iShl .u64 x 32) 32) 32)) 32) (iRem (iShr .u64 (iShl .u64 y 32) 32) 32))) 32) 32))), (.c (.li .i64 0))])))) (.br (iZero? (iShr .u64 (iShl .u64 y 32) 32)) (.no 11) (.br (iZero? (iShr .u64 (iShl .u64 y 32) 32)) (.no 11) (.br (iNeg? (iRem (iShr .u64 (iShl .u64 y 32) 32) 32)) (.no 11) (.leaf (.val (.tup [(.c (.si .u64 (iShr .u64 (iShl .u64 (iConv .u64 (iShr .i64 (iShr .i64 (iConv .i64 (iShl .u64 (iShr .u64 (iShl .u64 x 32) 32) 32)) 32) (iRem (iShr .u64 (iShl .u64 y 32) 32) 32))) 32) 32))), (.c (.li .i64 0))])))))))) (by kernel_rfl) ρ rfl ?_ w
  · have ex : iShr .u64 (iShl .u64 x 32) 32 = x % 4294967296 := shl32 hb0
    have ey : iShr .u64 (iShl .u64 y 32) 32 = y % 4294967296 := shl32 hb1
    have sx : iShr .i64 (iConv .i64 (iShl .u64 (x % 4294967296) 32)) 32 = sg32 (x % 4294967296) := by rw [sg32_mod]; exact sar32 x
    have hx : isU (x % 4294967296) = true := mod_u hb0
    have hy : isU (y % 4294967296) = true := mod_u hb1
    refine br2 (fun k1 => ?_) (fun k1 => ?_)
    · refine brF (by rw [ey]; exact rem_neg hy 32 (by decide)) ?_
      have e0 : (y % 4294967296) = 0 := by have q := eq_t.1 k1; rwa [ey] at q
      simp only [Tr.all]; exact alu_leaf (by rw [ex, sx, ey, rem_p hy]; exact shl32 (iConv_u _)) rfl
    · refine brF (zero_f.2 (eq_f.1 k1)) ?_
      refine brF (zero_f.2 (eq_f.1 k1)) ?_
      refine brF (by rw [ey]; exact rem_neg hy 32 (by decide)) ?_
      have e0 : ¬ (y % 4294967296) = 0 := by have q := eq_f.1 k1; rwa [ey] at q
      simp only [Tr.all]; exact alu_leaf (by rw [ex, sx, ey, rem_p hy]; exact shl32 (iConv_u _)) rfl
theorem t_alu13t (x : Int) (y : Int) (hb0 : isU x = true) (hb1 : isU y = true) (ρ : Nat → Nat) (w : World) : Calls Tryz.prog 31 (enV [.s (some .u8), .s none, .s (some .u64), .s (some .u64)] ([13, x, y], [true])).toArray w fun e w' => e = .returned (V.den ρ (.tup [.c (.si .u64 (aluN 13 true x y)), .c (.si .i64 (doesE 13))])) ∧ Below w.heap.size w w' := by
  refine pure_to nameOK okn (dOK okn) 300 [.u (.c (.li .u8 13)), .u (.c (.lb true)), .u (.c (.si .u64 x)), .u (.c (.si .u64 y))] (T := (.br (iEq (iShr .u64 (iShl .u64 y 0) 0) 0) (.leaf (.val (.tup [(.c (.li .u64 0)), (.c (.li .i64 20))]))) (.br (iZero? (iShr .u64 (iShl .u64 y 0) 0)) (.no 11) (.br (iZero? (iShr .u64 (iShl .u64 y 0) 0)) (.no 11) (.leaf (.val (.tup [(.c (.li .u64 0)), (.c (.li .i64 20))]))))))) (by kernel_rfl) ρ rfl ?_ w
  · refine br2 (fun k1 => ?_) (fun k1 => ?_)
    · simp only [Tr.all]; rfl
    · refine brF (zero_f.2 (eq_f.1 k1)) ?_
      refine brF (zero_f.2 (eq_f.1 k1)) ?_
      simp only [Tr.all]; rfl
theorem t_alu13f (x : Int) (y : Int) (hb0 : isU x = true) (hb1 : isU y = true) (ρ : Nat → Nat) (w : World) : Calls Tryz.prog 31 (enV [.s (some .u8), .s none, .s (some .u64), .s (some .u64)] ([13, x, y], [false])).toArray w fun e w' => e = .returned (V.den ρ (.tup [.c (.si .u64 (aluN 13 false x y)), .c (.si .i64 (doesE 13))])) ∧ Below w.heap.size w w' := by
  refine pure_to nameOK okn (dOK okn) 300 [.u (.c (.li .u8 13)), .u (.c (.lb false)), .u (.c (.si .u64 x)), .u (.c (.si .u64 y))] (T := (.br (iEq (iShr .u64 (iShl .u64 y 32) 32) 0) (.leaf (.val (.tup [(.c (.li .u64 0)), (.c (.li .i64 20))]))) (.br (iZero? (iShr .u64 (iShl .u64 y 32) 32)) (.no 11) (.br (iZero? (iShr .u64 (iShl .u64 y 32) 32)) (.no 11) (.leaf (.val (.tup [(.c (.li .u64 0)), (.c (.li .i64 20))]))))))) (by kernel_rfl) ρ rfl ?_ w
  · refine br2 (fun k1 => ?_) (fun k1 => ?_)
    · simp only [Tr.all]; rfl
    · refine brF (zero_f.2 (eq_f.1 k1)) ?_
      refine brF (zero_f.2 (eq_f.1 k1)) ?_
      simp only [Tr.all]; rfl
theorem t_alu14t (x : Int) (y : Int) (hb0 : isU x = true) (hb1 : isU y = true) (ρ : Nat → Nat) (w : World) : Calls Tryz.prog 31 (enV [.s (some .u8), .s none, .s (some .u64), .s (some .u64)] ([14, x, y], [true])).toArray w fun e w' => e = .returned (V.den ρ (.tup [.c (.si .u64 (aluN 14 true x y)), .c (.si .i64 (doesE 14))])) ∧ Below w.heap.size w w' := by
  refine pure_to nameOK okn (dOK okn) 300 [.u (.c (.li .u8 14)), .u (.c (.lb true)), .u (.c (.si .u64 x)), .u (.c (.si .u64 y))] (T := (.br (iEq (iShr .u64 (iShl .u64 y 0) 0) 0) (.leaf (.val (.tup [(.c (.li .u64 0)), (.c (.li .i64 20))]))) (.br (iZero? (iShr .u64 (iShl .u64 y 0) 0)) (.no 11) (.br (iZero? (iShr .u64 (iShl .u64 y 0) 0)) (.no 11) (.leaf (.val (.tup [(.c (.li .u64 0)), (.c (.li .i64 20))]))))))) (by kernel_rfl) ρ rfl ?_ w
  · refine br2 (fun k1 => ?_) (fun k1 => ?_)
    · simp only [Tr.all]; rfl
    · refine brF (zero_f.2 (eq_f.1 k1)) ?_
      refine brF (zero_f.2 (eq_f.1 k1)) ?_
      simp only [Tr.all]; rfl
theorem t_alu14f (x : Int) (y : Int) (hb0 : isU x = true) (hb1 : isU y = true) (ρ : Nat → Nat) (w : World) : Calls Tryz.prog 31 (enV [.s (some .u8), .s none, .s (some .u64), .s (some .u64)] ([14, x, y], [false])).toArray w fun e w' => e = .returned (V.den ρ (.tup [.c (.si .u64 (aluN 14 false x y)), .c (.si .i64 (doesE 14))])) ∧ Below w.heap.size w w' := by
  refine pure_to nameOK okn (dOK okn) 300 [.u (.c (.li .u8 14)), .u (.c (.lb false)), .u (.c (.si .u64 x)), .u (.c (.si .u64 y))] (T := (.br (iEq (iShr .u64 (iShl .u64 y 32) 32) 0) (.leaf (.val (.tup [(.c (.li .u64 0)), (.c (.li .i64 20))]))) (.br (iZero? (iShr .u64 (iShl .u64 y 32) 32)) (.no 11) (.br (iZero? (iShr .u64 (iShl .u64 y 32) 32)) (.no 11) (.leaf (.val (.tup [(.c (.li .u64 0)), (.c (.li .i64 20))]))))))) (by kernel_rfl) ρ rfl ?_ w
  · refine br2 (fun k1 => ?_) (fun k1 => ?_)
    · simp only [Tr.all]; rfl
    · refine brF (zero_f.2 (eq_f.1 k1)) ?_
      refine brF (zero_f.2 (eq_f.1 k1)) ?_
      simp only [Tr.all]; rfl
theorem t_alu15t (x : Int) (y : Int) (hb0 : isU x = true) (hb1 : isU y = true) (ρ : Nat → Nat) (w : World) : Calls Tryz.prog 31 (enV [.s (some .u8), .s none, .s (some .u64), .s (some .u64)] ([15, x, y], [true])).toArray w fun e w' => e = .returned (V.den ρ (.tup [.c (.si .u64 (aluN 15 true x y)), .c (.si .i64 (doesE 15))])) ∧ Below w.heap.size w w' := by
  refine pure_to nameOK okn (dOK okn) 300 [.u (.c (.li .u8 15)), .u (.c (.lb true)), .u (.c (.si .u64 x)), .u (.c (.si .u64 y))] (T := (.br (iEq (iShr .u64 (iShl .u64 y 0) 0) 0) (.leaf (.val (.tup [(.c (.li .u64 0)), (.c (.li .i64 20))]))) (.br (iZero? (iShr .u64 (iShl .u64 y 0) 0)) (.no 11) (.br (iZero? (iShr .u64 (iShl .u64 y 0) 0)) (.no 11) (.leaf (.val (.tup [(.c (.li .u64 0)), (.c (.li .i64 20))]))))))) (by kernel_rfl) ρ rfl ?_ w
  · refine br2 (fun k1 => ?_) (fun k1 => ?_)
    · simp only [Tr.all]; rfl
    · refine brF (zero_f.2 (eq_f.1 k1)) ?_
      refine brF (zero_f.2 (eq_f.1 k1)) ?_
      simp only [Tr.all]; rfl
theorem t_alu15f (x : Int) (y : Int) (hb0 : isU x = true) (hb1 : isU y = true) (ρ : Nat → Nat) (w : World) : Calls Tryz.prog 31 (enV [.s (some .u8), .s none, .s (some .u64), .s (some .u64)] ([15, x, y], [false])).toArray w fun e w' => e = .returned (V.den ρ (.tup [.c (.si .u64 (aluN 15 false x y)), .c (.si .i64 (doesE 15))])) ∧ Below w.heap.size w w' := by
  refine pure_to nameOK okn (dOK okn) 300 [.u (.c (.li .u8 15)), .u (.c (.lb false)), .u (.c (.si .u64 x)), .u (.c (.si .u64 y))] (T := (.br (iEq (iShr .u64 (iShl .u64 y 32) 32) 0) (.leaf (.val (.tup [(.c (.li .u64 0)), (.c (.li .i64 20))]))) (.br (iZero? (iShr .u64 (iShl .u64 y 32) 32)) (.no 11) (.br (iZero? (iShr .u64 (iShl .u64 y 32) 32)) (.no 11) (.leaf (.val (.tup [(.c (.li .u64 0)), (.c (.li .i64 20))]))))))) (by kernel_rfl) ρ rfl ?_ w
  · refine br2 (fun k1 => ?_) (fun k1 => ?_)
    · simp only [Tr.all]; rfl
    · refine brF (zero_f.2 (eq_f.1 k1)) ?_
      refine brF (zero_f.2 (eq_f.1 k1)) ?_
      simp only [Tr.all]; rfl
theorem t_alu (c : Int) (wide : Bool) (x : Int) (y : Int) (hb0 : isC c = true) (hb1 : isU x = true) (hb2 : isU y = true) (ρ : Nat → Nat) (w : World) : Calls Tryz.prog 31 (enV [.s (some .u8), .s none, .s (some .u64), .s (some .u64)] ([c, x, y], [wide])).toArray w fun e w' => e = .returned (V.den ρ (.tup [.c (.si .u64 (aluN c wide x y)), .c (.si .i64 (doesE c))])) ∧ Below w.heap.size w w' := by
  have hc := isC_iff.1 hb0
  have hcs : c = 0 ∨ c = 1 ∨ c = 2 ∨ c = 3 ∨ c = 4 ∨ c = 5 ∨ c = 6 ∨ c = 7 ∨ c = 8 ∨ c = 9 ∨ c = 10 ∨ c = 11 ∨ c = 12 ∨ c = 13 ∨ c = 14 ∨ c = 15 := by omega
  rcases hcs with rfl | rfl | rfl | rfl | rfl | rfl | rfl | rfl | rfl | rfl | rfl | rfl | rfl | rfl | rfl | rfl <;> cases wide
  · exact t_alu0f x y hb1 hb2 ρ w
  · exact t_alu0t x y hb1 hb2 ρ w
  · exact t_alu1f x y hb1 hb2 ρ w
  · exact t_alu1t x y hb1 hb2 ρ w
  · exact t_alu2f x y hb1 hb2 ρ w
  · exact t_alu2t x y hb1 hb2 ρ w
  · exact t_alu3f x y hb1 hb2 ρ w
  · exact t_alu3t x y hb1 hb2 ρ w
  · exact t_alu4f x y hb1 hb2 ρ w
  · exact t_alu4t x y hb1 hb2 ρ w
  · exact t_alu5f x y hb1 hb2 ρ w
  · exact t_alu5t x y hb1 hb2 ρ w
  · exact t_alu6f x y hb1 hb2 ρ w
  · exact t_alu6t x y hb1 hb2 ρ w
  · exact t_alu7f x y hb1 hb2 ρ w
  · exact t_alu7t x y hb1 hb2 ρ w
  · exact t_alu8f x y hb1 hb2 ρ w
  · exact t_alu8t x y hb1 hb2 ρ w
  · exact t_alu9f x y hb1 hb2 ρ w
  · exact t_alu9t x y hb1 hb2 ρ w
  · exact t_alu10f x y hb1 hb2 ρ w
  · exact t_alu10t x y hb1 hb2 ρ w
  · exact t_alu11f x y hb1 hb2 ρ w
  · exact t_alu11t x y hb1 hb2 ρ w
  · exact t_alu12f x y hb1 hb2 ρ w
  · exact t_alu12t x y hb1 hb2 ρ w
  · exact t_alu13f x y hb1 hb2 ρ w
  · exact t_alu13t x y hb1 hb2 ρ w
  · exact t_alu14f x y hb1 hb2 ρ w
  · exact t_alu14t x y hb1 hb2 ρ w
  · exact t_alu15f x y hb1 hb2 ρ w
  · exact t_alu15t x y hb1 hb2 ρ w
def s_alu : Sum := bySum 31 [.s (some .u8), .s none, .s (some .u64), .s (some .u64)] fun
  | [a0, a1, a2], [o0] => some ([isC a0, isU a1, isU a2], .tup [.c (.si .u64 (aluN a0 o0 a1 a2)), .c (.si .i64 (doesE a0))])
  | _, _ => none
theorem s_alu_ok : SumOK Tryz.prog s_alu := by
  refine bySum_ok ⟨_, Tryz.func31, by kernel_rfl⟩ ?_
  intro ns os bs r hm hb ρ w
  split at hm
  · rename_i a0 a1 a2 o0
    cases hm
    exact t_alu a0 o0 a1 a2 (hb _ (by simp)) (hb _ (by simp)) (hb _ (by simp)) ρ w
  · cases hm
end Go.Proofs.YtafpbibpahjnhaaGreat.L05P
