/- Layer 5: what is made of two bounds: what its functions are shown to do. Printed by a program of the session's own (genb.py). -/
import Derived.Test.YtafpbibpahjnhaaGreatL05S
namespace Go.Proofs.YtafpbibpahjnhaaGreat.L05P
open Go Go.RowKit Go.Proofs.YtafpbibpahjnhaaGreat.Sx Go.Proofs.YtafpbibpahjnhaaGreat.L05 Go.Proofs.YtafpbibpahjnhaaGreat.L05J
set_option linter.unusedVariables false
set_option linter.unusedSimpArgs false
open Go.Proofs.YtafpbibpahjnhaaGreat.L04 (mAdd1 mAdd2 mSub1 mSub2 mMul1 mMul2 mDiv1 mDiv2 mMod1 mMod2 mPlus1 mPlus2 mMinus1 mMinus2 mShl1 mShl2 mShr1 mShr2 mSar1 mSar2)
theorem oks_L05T_0 : ∀ q ∈ [s_bNone, s_sync, s_tLowN, s_shift, s_lowB, s_long, s_addB, s_subB, s_mul, L04.s_Mul, s_fits, L04.s_Div, L04.s_Mod, s_tAnd, s_tOr, s_tXor, s_bConst], SumOK Tryz.prog q := (okc s_bNone_ok (okc s_sync_ok (okc s_tLowN_ok (okc s_shift_ok (okc s_lowB_ok (okc s_long_ok (okc s_addB_ok (okc s_subB_ok (okc s_mul_ok (okc L04.s_Mul_ok (okc s_fits_ok (okc L04.s_Div_ok (okc L04.s_Mod_ok (okc s_tAnd_ok (okc s_tOr_ok (okc s_tXor_ok (okc s_bConst_ok okn)))))))))))))))))
theorem t_does5t (a : Bd) (b : Bd) (hb0 : isU a.1.1 = true) (hb1 : isU a.1.2 = true) (hb2 : isU a.2.1 = true) (hb3 : isU a.2.2 = true) (hb4 : isI a.3.1 = true) (hb5 : isI a.3.2 = true) (hb6 : isU a.4.1 = true) (hb7 : isU a.4.2 = true) (hb8 : isI a.5.1 = true) (hb9 : isI a.5.2 = true) (hb10 : isU b.1.1 = true) (hb11 : isU b.1.2 = true) (hb12 : isU b.2.1 = true) (hb13 : isU b.2.2 = true) (hb14 : isI b.3.1 = true) (hb15 : isI b.3.2 = true) (hb16 : isU b.4.1 = true) (hb17 : isU b.4.2 = true) (hb18 : isI b.5.1 = true) (hb19 : isI b.5.2 = true) (ρ : Nat → Nat) (w : World) : Calls Tryz.prog 17 (enV [.s (some .u8), .s none, .a [some .u64, some .u64, some .u64, some .u64, some .i64, some .i64, some .u64, some .u64, some .i64, some .i64], .a [some .u64, some .u64, some .u64, some .u64, some .i64, some .i64, some .u64, some .u64, some .i64, some .i64]] ([5, a.1.1, a.1.2, a.2.1, a.2.2, a.3.1, a.3.2, a.4.1, a.4.2, a.5.1, a.5.2, b.1.1, b.1.2, b.2.1, b.2.2, b.3.1, b.3.2, b.4.1, b.4.2, b.5.1, b.5.2], [true])).toArray w fun e w' => e = .returned (V.den ρ (.tup [.agg (cB (doesB 5 true a b)), .c (.si .i64 (doesE 5))])) ∧ Below w.heap.size w w' := by
  refine pure_to nameOK oks_L05T_0 (dOK oks_L05T_0) 300 [.u (.c (.li .u8 5)), .u (.c (.lb true)), .u (.agg (cB a)), .u (.agg (cB b))] (T := (.br (bNone a) (.leaf (.val (.tup [(.agg cN), (.c (.li .i64 0))]))) (.br (bNone b) (.leaf (.val (.tup [(.agg cN), (.c (.li .i64 0))]))) (.br (isU (tAndM a.1 b.1).1) (.br (isU (tAndM a.1 b.1).2) (.br (isU 0) (.br (isU (iMin2 a.2.2 b.2.2)) (.br (isI (-9223372036854775808)) (.br (isI 9223372036854775807) (.br (isU 0) (.br (isU (iMin2 a.4.2 b.4.2)) (.br (isI (-2147483648)) (.br (isI 2147483647) (.leaf (.val (.tup [(.agg (cB (sync (.mk (tAndM a.1 b.1) (.mk 0 (iMin2 a.2.2 b.2.2)) (.mk (-9223372036854775808) 9223372036854775807) (.mk 0 (iMin2 a.4.2 b.4.2)) (.mk (-2147483648) 2147483647))))), (.c (.li .i64 0))]))) (.no 98)) (.no 98)) (.no 98)) (.no 98)) (.no 98)) (.no 98)) (.no 98)) (.no 98)) (.no 98)) (.no 98))))) (by kernel_rfl) ρ rfl ?_ w
  · have ra : Raw5 a := raw_of hb0 hb1 hb2 hb3 hb4 hb5 hb6 hb7 hb8 hb9
    have rb : Raw5 b := raw_of hb10 hb11 hb12 hb13 hb14 hb15 hb16 hb17 hb18 hb19
    have ro : Raw5 (andB a b) := andB_raw (ra) (rb)
    have f1 : isU (tAndM a.1 b.1).1 = true := ro.t.1
    have f2 : isU (tAndM a.1 b.1).2 = true := ro.t.2
    have f7 : isU (iMin2 a.2.2 b.2.2) = true := ro.u.2
    have f8 : isU (iMin2 a.4.2 b.4.2) = true := ro.w.2
    refine br2 (fun k1 => ?_) (fun k1 => ?_)
    · have e : doesB 5 true a b = nothing := does_na (by decide) k1
      simp only [Tr.all]; rw [e]; try rfl
    · refine br2 (fun k2 => ?_) (fun k2 => ?_)
      · have e : doesB 5 true a b = nothing := does_nb (by decide) k1 k2
        simp only [Tr.all]; rw [e]; try rfl
      · iterate 10 (refine askB (by first | with_reducible assumption | decide) ?_)
        have e : doesB 5 true a b = sync (andB a b) := (does_w (by decide) k1 k2).trans ((wide_op rfl).trans rfl)
        simp only [Tr.all]; exact does_leaf e.symm rfl
theorem t_does5f (a : Bd) (b : Bd) (hb0 : isU a.1.1 = true) (hb1 : isU a.1.2 = true) (hb2 : isU a.2.1 = true) (hb3 : isU a.2.2 = true) (hb4 : isI a.3.1 = true) (hb5 : isI a.3.2 = true) (hb6 : isU a.4.1 = true) (hb7 : isU a.4.2 = true) (hb8 : isI a.5.1 = true) (hb9 : isI a.5.2 = true) (hb10 : isU b.1.1 = true) (hb11 : isU b.1.2 = true) (hb12 : isU b.2.1 = true) (hb13 : isU b.2.2 = true) (hb14 : isI b.3.1 = true) (hb15 : isI b.3.2 = true) (hb16 : isU b.4.1 = true) (hb17 : isU b.4.2 = true) (hb18 : isI b.5.1 = true) (hb19 : isI b.5.2 = true) (ρ : Nat → Nat) (w : World) : Calls Tryz.prog 17 (enV [.s (some .u8), .s none, .a [some .u64, some .u64, some .u64, some .u64, some .i64, some .i64, some .u64, some .u64, some .i64, some .i64], .a [some .u64, some .u64, some .u64, some .u64, some .i64, some .i64, some .u64, some .u64, some .i64, some .i64]] ([5, a.1.1, a.1.2, a.2.1, a.2.2, a.3.1, a.3.2, a.4.1, a.4.2, a.5.1, a.5.2, b.1.1, b.1.2, b.2.1, b.2.2, b.3.1, b.3.2, b.4.1, b.4.2, b.5.1, b.5.2], [false])).toArray w fun e w' => e = .returned (V.den ρ (.tup [.agg (cB (doesB 5 false a b)), .c (.si .i64 (doesE 5))])) ∧ Below w.heap.size w w' := by
  refine pure_to nameOK oks_L05T_0 (dOK oks_L05T_0) 300 [.u (.c (.li .u8 5)), .u (.c (.lb false)), .u (.agg (cB a)), .u (.agg (cB b))] (T := (.br (bNone a) (.leaf (.val (.tup [(.agg cN), (.c (.li .i64 0))]))) (.br (bNone b) (.leaf (.val (.tup [(.agg cN), (.c (.li .i64 0))]))) (a10 a (.br (isU 32) (a10 b (.br (isU 32) (.br (bNone (lowB a 32)) (.leaf (.val (.tup [(.agg cN), (.c (.li .i64 0))]))) (.br (bNone (lowB b 32)) (.leaf (.val (.tup [(.agg cN), (.c (.li .i64 0))]))) (.br (isU (tAndM (lowB a 32).1 (lowB b 32).1).1) (.br (isU (tAndM (lowB a 32).1 (lowB b 32).1).2) (.br (isU 0) (.br (isU (iMin2 (lowB a 32).2.2 (lowB b 32).2.2)) (.br (isI (-9223372036854775808)) (.br (isI 9223372036854775807) (.br (isU 0) (.br (isU (iMin2 (lowB a 32).4.2 (lowB b 32).4.2)) (.br (isI (-2147483648)) (.br (isI 2147483647) (a10 (sync (.mk (tAndM (lowB a 32).1 (lowB b 32).1) (.mk 0 (iMin2 (lowB a 32).2.2 (lowB b 32).2.2)) (.mk (-9223372036854775808) 9223372036854775807) (.mk 0 (iMin2 (lowB a 32).4.2 (lowB b 32).4.2)) (.mk (-2147483648) 2147483647))) (.br (isU 32) (.leaf (.val (.tup [(.agg (cB (lowB (sync (.mk (tAndM (lowB a 32).1 (lowB b 32).1) (.mk 0 (iMin2 (lowB a 32).2.2 (lowB b 32).2.2)) (.mk (-9223372036854775808) 9223372036854775807) (.mk 0 (iMin2 (lowB a 32).4.2 (lowB b 32).4.2)) (.mk (-2147483648) 2147483647))) 32))), (.c (.li .i64 0))]))) (.no 98))) (.no 98)) (.no 98)) (.no 98)) (.no 98)) (.no 98)) (.no 98)) (.no 98)) (.no 98)) (.no 98)) (.no 98)))) (.no 98))) (.no 98)))))) (by kernel_rfl) ρ rfl ?_ w
  · have ra : Raw5 a := raw_of hb0 hb1 hb2 hb3 hb4 hb5 hb6 hb7 hb8 hb9
    have rb : Raw5 b := raw_of hb10 hb11 hb12 hb13 hb14 hb15 hb16 hb17 hb18 hb19
    have ro : Raw5 (andB (lowB a 32) (lowB b 32)) := andB_raw (lowB_raw (ra)) (lowB_raw (rb))
    have f1 : isU (tAndM (lowB a 32).1 (lowB b 32).1).1 = true := ro.t.1
    have f2 : isU (tAndM (lowB a 32).1 (lowB b 32).1).2 = true := ro.t.2
    have f7 : isU (iMin2 (lowB a 32).2.2 (lowB b 32).2.2) = true := ro.u.2
    have f8 : isU (iMin2 (lowB a 32).4.2 (lowB b 32).4.2) = true := ro.w.2
    have rla : Raw5 (lowB a 32) := lowB_raw ra
    have rlb : Raw5 (lowB b 32) := lowB_raw rb
    have a0 : isU (lowB a 32).1.1 = true := raw_t1 rla
    have a1 : isU (lowB a 32).1.2 = true := raw_t2 rla
    have a2 : isU (lowB a 32).2.1 = true := raw_u1 rla
    have a3 : isU (lowB a 32).2.2 = true := raw_u2 rla
    have a4 : isI (lowB a 32).3.1 = true := raw_s1 rla
    have a5 : isI (lowB a 32).3.2 = true := raw_s2 rla
    have a6 : isU (lowB a 32).4.1 = true := raw_w1 rla
    have a7 : isU (lowB a 32).4.2 = true := raw_w2 rla
    have a8 : isI (lowB a 32).5.1 = true := raw_v1 rla
    have a9 : isI (lowB a 32).5.2 = true := raw_v2 rla
    have b0 : isU (lowB b 32).1.1 = true := raw_t1 rlb
    have b1 : isU (lowB b 32).1.2 = true := raw_t2 rlb
    have b2 : isU (lowB b 32).2.1 = true := raw_u1 rlb
    have b3 : isU (lowB b 32).2.2 = true := raw_u2 rlb
    have b4 : isI (lowB b 32).3.1 = true := raw_s1 rlb
    have b5 : isI (lowB b 32).3.2 = true := raw_s2 rlb
    have b6 : isU (lowB b 32).4.1 = true := raw_w1 rlb
    have b7 : isU (lowB b 32).4.2 = true := raw_w2 rlb
    have b8 : isI (lowB b 32).5.1 = true := raw_v1 rlb
    have b9 : isI (lowB b 32).5.2 = true := raw_v2 rlb
    refine br2 (fun k1 => ?_) (fun k1 => ?_)
    · have e : doesB 5 false a b = nothing := does_na (by decide) k1
      simp only [Tr.all]; rw [e]; try rfl
    · refine br2 (fun k2 => ?_) (fun k2 => ?_)
      · have e : doesB 5 false a b = nothing := does_nb (by decide) k1 k2
        simp only [Tr.all]; rw [e]; try rfl
      · refine ask10 (b := a) (ra) ?_
        refine askB (by first | with_reducible assumption | decide) ?_
        refine ask10 (b := b) (rb) ?_
        refine askB (by first | with_reducible assumption | decide) ?_
        refine br2 (fun k3 => ?_) (fun k3 => ?_)
        · have e : doesB 5 false a b = nothing := (does_h (by decide) k1 k2).trans (half_na rfl k3)
          simp only [Tr.all]; rw [e]; try rfl
        · refine br2 (fun k4 => ?_) (fun k4 => ?_)
          · have e : doesB 5 false a b = nothing := (does_h (by decide) k1 k2).trans (half_nb rfl k3 k4)
            simp only [Tr.all]; rw [e]; try rfl
          · iterate 10 (refine askB (by first | with_reducible assumption | decide) ?_)
            refine ask10 (b := (sync (.mk (tAndM (lowB a 32).1 (lowB b 32).1) (.mk 0 (iMin2 (lowB a 32).2.2 (lowB b 32).2.2)) (.mk (-9223372036854775808) 9223372036854775807) (.mk 0 (iMin2 (lowB a 32).4.2 (lowB b 32).4.2)) (.mk (-2147483648) 2147483647)))) (sy_raw (ro)) ?_
            refine askB (by first | with_reducible assumption | decide) ?_
            have e : doesB 5 false a b = lowB (sync (andB (lowB a 32) (lowB b 32))) 32 := (does_h (by decide) k1 k2).trans ((half_op rfl k3 k4).trans rfl)
            simp only [Tr.all]; exact does_leaf e.symm rfl
theorem t_does6t (a : Bd) (b : Bd) (hb0 : isU a.1.1 = true) (hb1 : isU a.1.2 = true) (hb2 : isU a.2.1 = true) (hb3 : isU a.2.2 = true) (hb4 : isI a.3.1 = true) (hb5 : isI a.3.2 = true) (hb6 : isU a.4.1 = true) (hb7 : isU a.4.2 = true) (hb8 : isI a.5.1 = true) (hb9 : isI a.5.2 = true) (hb10 : isU b.1.1 = true) (hb11 : isU b.1.2 = true) (hb12 : isU b.2.1 = true) (hb13 : isU b.2.2 = true) (hb14 : isI b.3.1 = true) (hb15 : isI b.3.2 = true) (hb16 : isU b.4.1 = true) (hb17 : isU b.4.2 = true) (hb18 : isI b.5.1 = true) (hb19 : isI b.5.2 = true) (ρ : Nat → Nat) (w : World) : Calls Tryz.prog 17 (enV [.s (some .u8), .s none, .a [some .u64, some .u64, some .u64, some .u64, some .i64, some .i64, some .u64, some .u64, some .i64, some .i64], .a [some .u64, some .u64, some .u64, some .u64, some .i64, some .i64, some .u64, some .u64, some .i64, some .i64]] ([6, a.1.1, a.1.2, a.2.1, a.2.2, a.3.1, a.3.2, a.4.1, a.4.2, a.5.1, a.5.2, b.1.1, b.1.2, b.2.1, b.2.2, b.3.1, b.3.2, b.4.1, b.4.2, b.5.1, b.5.2], [true])).toArray w fun e w' => e = .returned (V.den ρ (.tup [.agg (cB (doesB 6 true a b)), .c (.si .i64 (doesE 6))])) ∧ Below w.heap.size w w' := by
  refine pure_to nameOK oks_L05T_0 (dOK oks_L05T_0) 300 [.u (.c (.li .u8 6)), .u (.c (.lb true)), .u (.agg (cB a)), .u (.agg (cB b))] (T := (.br (bNone a) (.leaf (.val (.tup [(.agg cN), (.c (.li .i64 0))]))) (.br (bNone b) (.leaf (.val (.tup [(.agg cN), (.c (.li .i64 0))]))) (.br (isU 6) (a10 a (.br (isU (tLowN b.1 6).1) (.leaf (.val (.tup [(.agg (cB (shiftB 6 a (tLowN b.1 6).1 (iEq (tLowN b.1 6).2 0)))), (.c (.li .i64 0))]))) (.no 98))) (.no 98))))) (by kernel_rfl) ρ rfl ?_ w
  · have ra : Raw5 a := raw_of hb0 hb1 hb2 hb3 hb4 hb5 hb6 hb7 hb8 hb9
    have rb : Raw5 b := raw_of hb10 hb11 hb12 hb13 hb14 hb15 hb16 hb17 hb18 hb19
    have f1 : isU (tLowN b.1 6).1 = true := (lowN_uu rb.t 6).1
    have f2 : isU (tLowN b.1 5).1 = true := (lowN_uu rb.t 5).1
    refine br2 (fun k1 => ?_) (fun k1 => ?_)
    · have e : doesB 6 true a b = nothing := does_na (by decide) k1
      simp only [Tr.all]; rw [e]; try rfl
    · refine br2 (fun k2 => ?_) (fun k2 => ?_)
      · have e : doesB 6 true a b = nothing := does_nb (by decide) k1 k2
        simp only [Tr.all]; rw [e]; try rfl
      · refine askB (by first | with_reducible assumption | decide) ?_
        refine ask10 (b := a) (ra) ?_
        refine askB (by first | with_reducible assumption | decide) ?_
        have e : doesB 6 true a b = shiftB 6 a (tLowN b.t 6).lo (iEq (tLowN b.t 6).hi 0) := (does_w (by decide) k1 k2).trans (wide_sh rfl)
        simp only [Tr.all]; exact does_leaf e.symm rfl
theorem t_does6f (a : Bd) (b : Bd) (hb0 : isU a.1.1 = true) (hb1 : isU a.1.2 = true) (hb2 : isU a.2.1 = true) (hb3 : isU a.2.2 = true) (hb4 : isI a.3.1 = true) (hb5 : isI a.3.2 = true) (hb6 : isU a.4.1 = true) (hb7 : isU a.4.2 = true) (hb8 : isI a.5.1 = true) (hb9 : isI a.5.2 = true) (hb10 : isU b.1.1 = true) (hb11 : isU b.1.2 = true) (hb12 : isU b.2.1 = true) (hb13 : isU b.2.2 = true) (hb14 : isI b.3.1 = true) (hb15 : isI b.3.2 = true) (hb16 : isU b.4.1 = true) (hb17 : isU b.4.2 = true) (hb18 : isI b.5.1 = true) (hb19 : isI b.5.2 = true) (ρ : Nat → Nat) (w : World) : Calls Tryz.prog 17 (enV [.s (some .u8), .s none, .a [some .u64, some .u64, some .u64, some .u64, some .i64, some .i64, some .u64, some .u64, some .i64, some .i64], .a [some .u64, some .u64, some .u64, some .u64, some .i64, some .i64, some .u64, some .u64, some .i64, some .i64]] ([6, a.1.1, a.1.2, a.2.1, a.2.2, a.3.1, a.3.2, a.4.1, a.4.2, a.5.1, a.5.2, b.1.1, b.1.2, b.2.1, b.2.2, b.3.1, b.3.2, b.4.1, b.4.2, b.5.1, b.5.2], [false])).toArray w fun e w' => e = .returned (V.den ρ (.tup [.agg (cB (doesB 6 false a b)), .c (.si .i64 (doesE 6))])) ∧ Below w.heap.size w w' := by
  refine pure_to nameOK oks_L05T_0 (dOK oks_L05T_0) 300 [.u (.c (.li .u8 6)), .u (.c (.lb false)), .u (.agg (cB a)), .u (.agg (cB b))] (T := (.br (bNone a) (.leaf (.val (.tup [(.agg cN), (.c (.li .i64 0))]))) (.br (bNone b) (.leaf (.val (.tup [(.agg cN), (.c (.li .i64 0))]))) (.br (isU 5) (a10 a (.br (isU 32) (a10 (lowB a 32) (.br (isU (tLowN b.1 5).1) (a10 (shiftB 6 (lowB a 32) (tLowN b.1 5).1 (iEq (tLowN b.1 5).2 0)) (.br (isU 32) (.leaf (.val (.tup [(.agg (cB (lowB (shiftB 6 (lowB a 32) (tLowN b.1 5).1 (iEq (tLowN b.1 5).2 0)) 32))), (.c (.li .i64 0))]))) (.no 98))) (.no 98))) (.no 98))) (.no 98))))) (by kernel_rfl) ρ rfl ?_ w
  · have ra : Raw5 a := raw_of hb0 hb1 hb2 hb3 hb4 hb5 hb6 hb7 hb8 hb9
    have rb : Raw5 b := raw_of hb10 hb11 hb12 hb13 hb14 hb15 hb16 hb17 hb18 hb19
    have f1 : isU (tLowN b.1 6).1 = true := (lowN_uu rb.t 6).1
    have f2 : isU (tLowN b.1 5).1 = true := (lowN_uu rb.t 5).1
    have rla : Raw5 (lowB a 32) := lowB_raw ra
    have rlb : Raw5 (lowB b 32) := lowB_raw rb
    have a0 : isU (lowB a 32).1.1 = true := raw_t1 rla
    have a1 : isU (lowB a 32).1.2 = true := raw_t2 rla
    have a2 : isU (lowB a 32).2.1 = true := raw_u1 rla
    have a3 : isU (lowB a 32).2.2 = true := raw_u2 rla
    have a4 : isI (lowB a 32).3.1 = true := raw_s1 rla
    have a5 : isI (lowB a 32).3.2 = true := raw_s2 rla
    have a6 : isU (lowB a 32).4.1 = true := raw_w1 rla
    have a7 : isU (lowB a 32).4.2 = true := raw_w2 rla
    have a8 : isI (lowB a 32).5.1 = true := raw_v1 rla
    have a9 : isI (lowB a 32).5.2 = true := raw_v2 rla
    have b0 : isU (lowB b 32).1.1 = true := raw_t1 rlb
    have b1 : isU (lowB b 32).1.2 = true := raw_t2 rlb
    have b2 : isU (lowB b 32).2.1 = true := raw_u1 rlb
    have b3 : isU (lowB b 32).2.2 = true := raw_u2 rlb
    have b4 : isI (lowB b 32).3.1 = true := raw_s1 rlb
    have b5 : isI (lowB b 32).3.2 = true := raw_s2 rlb
    have b6 : isU (lowB b 32).4.1 = true := raw_w1 rlb
    have b7 : isU (lowB b 32).4.2 = true := raw_w2 rlb
    have b8 : isI (lowB b 32).5.1 = true := raw_v1 rlb
    have b9 : isI (lowB b 32).5.2 = true := raw_v2 rlb
    refine br2 (fun k1 => ?_) (fun k1 => ?_)
    · have e : doesB 6 false a b = nothing := does_na (by decide) k1
      simp only [Tr.all]; rw [e]; try rfl
    · refine br2 (fun k2 => ?_) (fun k2 => ?_)
      · have e : doesB 6 false a b = nothing := does_nb (by decide) k1 k2
        simp only [Tr.all]; rw [e]; try rfl
      · refine askB (by first | with_reducible assumption | decide) ?_
        refine ask10 (b := a) (ra) ?_
        refine askB (by first | with_reducible assumption | decide) ?_
        refine ask10 (b := (lowB a 32)) (lowB_raw (ra)) ?_
        refine askB (by first | with_reducible assumption | decide) ?_
        refine ask10 (b := (shiftB 6 (lowB a 32) (tLowN b.1 5).1 (iEq (tLowN b.1 5).2 0))) (shiftB_raw (lowB_raw (ra))) ?_
        refine askB (by first | with_reducible assumption | decide) ?_
        have e : doesB 6 false a b = lowB (shiftB 6 (lowB a 32) (tLowN b.t 5).lo (iEq (tLowN b.t 5).hi 0)) 32 := (does_h (by decide) k1 k2).trans ((half_sh rfl).trans (by rw [if_neg (by decide)]))
        simp only [Tr.all]; exact does_leaf e.symm rfl
theorem t_does7t (a : Bd) (b : Bd) (hb0 : isU a.1.1 = true) (hb1 : isU a.1.2 = true) (hb2 : isU a.2.1 = true) (hb3 : isU a.2.2 = true) (hb4 : isI a.3.1 = true) (hb5 : isI a.3.2 = true) (hb6 : isU a.4.1 = true) (hb7 : isU a.4.2 = true) (hb8 : isI a.5.1 = true) (hb9 : isI a.5.2 = true) (hb10 : isU b.1.1 = true) (hb11 : isU b.1.2 = true) (hb12 : isU b.2.1 = true) (hb13 : isU b.2.2 = true) (hb14 : isI b.3.1 = true) (hb15 : isI b.3.2 = true) (hb16 : isU b.4.1 = true) (hb17 : isU b.4.2 = true) (hb18 : isI b.5.1 = true) (hb19 : isI b.5.2 = true) (ρ : Nat → Nat) (w : World) : Calls Tryz.prog 17 (enV [.s (some .u8), .s none, .a [some .u64, some .u64, some .u64, some .u64, some .i64, some .i64, some .u64, some .u64, some .i64, some .i64], .a [some .u64, some .u64, some .u64, some .u64, some .i64, some .i64, some .u64, some .u64, some .i64, some .i64]] ([7, a.1.1, a.1.2, a.2.1, a.2.2, a.3.1, a.3.2, a.4.1, a.4.2, a.5.1, a.5.2, b.1.1, b.1.2, b.2.1, b.2.2, b.3.1, b.3.2, b.4.1, b.4.2, b.5.1, b.5.2], [true])).toArray w fun e w' => e = .returned (V.den ρ (.tup [.agg (cB (doesB 7 true a b)), .c (.si .i64 (doesE 7))])) ∧ Below w.heap.size w w' := by
  refine pure_to nameOK oks_L05T_0 (dOK oks_L05T_0) 300 [.u (.c (.li .u8 7)), .u (.c (.lb true)), .u (.agg (cB a)), .u (.agg (cB b))] (T := (.br (bNone a) (.leaf (.val (.tup [(.agg cN), (.c (.li .i64 0))]))) (.br (bNone b) (.leaf (.val (.tup [(.agg cN), (.c (.li .i64 0))]))) (.br (isU 6) (a10 a (.br (isU (tLowN b.1 6).1) (.leaf (.val (.tup [(.agg (cB (shiftB 7 a (tLowN b.1 6).1 (iEq (tLowN b.1 6).2 0)))), (.c (.li .i64 0))]))) (.no 98))) (.no 98))))) (by kernel_rfl) ρ rfl ?_ w
  · have ra : Raw5 a := raw_of hb0 hb1 hb2 hb3 hb4 hb5 hb6 hb7 hb8 hb9
    have rb : Raw5 b := raw_of hb10 hb11 hb12 hb13 hb14 hb15 hb16 hb17 hb18 hb19
    have f1 : isU (tLowN b.1 6).1 = true := (lowN_uu rb.t 6).1
    have f2 : isU (tLowN b.1 5).1 = true := (lowN_uu rb.t 5).1
    refine br2 (fun k1 => ?_) (fun k1 => ?_)
    · have e : doesB 7 true a b = nothing := does_na (by decide) k1
      simp only [Tr.all]; rw [e]; try rfl
    · refine br2 (fun k2 => ?_) (fun k2 => ?_)
      · have e : doesB 7 true a b = nothing := does_nb (by decide) k1 k2
        simp only [Tr.all]; rw [e]; try rfl
      · refine askB (by first | with_reducible assumption | decide) ?_
        refine ask10 (b := a) (ra) ?_
        refine askB (by first | with_reducible assumption | decide) ?_
        have e : doesB 7 true a b = shiftB 7 a (tLowN b.t 6).lo (iEq (tLowN b.t 6).hi 0) := (does_w (by decide) k1 k2).trans (wide_sh rfl)
        simp only [Tr.all]; exact does_leaf e.symm rfl
theorem t_does7f (a : Bd) (b : Bd) (hb0 : isU a.1.1 = true) (hb1 : isU a.1.2 = true) (hb2 : isU a.2.1 = true) (hb3 : isU a.2.2 = true) (hb4 : isI a.3.1 = true) (hb5 : isI a.3.2 = true) (hb6 : isU a.4.1 = true) (hb7 : isU a.4.2 = true) (hb8 : isI a.5.1 = true) (hb9 : isI a.5.2 = true) (hb10 : isU b.1.1 = true) (hb11 : isU b.1.2 = true) (hb12 : isU b.2.1 = true) (hb13 : isU b.2.2 = true) (hb14 : isI b.3.1 = true) (hb15 : isI b.3.2 = true) (hb16 : isU b.4.1 = true) (hb17 : isU b.4.2 = true) (hb18 : isI b.5.1 = true) (hb19 : isI b.5.2 = true) (ρ : Nat → Nat) (w : World) : Calls Tryz.prog 17 (enV [.s (some .u8), .s none, .a [some .u64, some .u64, some .u64, some .u64, some .i64, some .i64, some .u64, some .u64, some .i64, some .i64], .a [some .u64, some .u64, some .u64, some .u64, some .i64, some .i64, some .u64, some .u64, some .i64, some .i64]] ([7, a.1.1, a.1.2, a.2.1, a.2.2, a.3.1, a.3.2, a.4.1, a.4.2, a.5.1, a.5.2, b.1.1, b.1.2, b.2.1, b.2.2, b.3.1, b.3.2, b.4.1, b.4.2, b.5.1, b.5.2], [false])).toArray w fun e w' => e = .returned (V.den ρ (.tup [.agg (cB (doesB 7 false a b)), .c (.si .i64 (doesE 7))])) ∧ Below w.heap.size w w' := by
  refine pure_to nameOK oks_L05T_0 (dOK oks_L05T_0) 300 [.u (.c (.li .u8 7)), .u (.c (.lb false)), .u (.agg (cB a)), .u (.agg (cB b))] (T := (.br (bNone a) (.leaf (.val (.tup [(.agg cN), (.c (.li .i64 0))]))) (.br (bNone b) (.leaf (.val (.tup [(.agg cN), (.c (.li .i64 0))]))) (.br (isU 5) (a10 a (.br (isU 32) (a10 (lowB a 32) (.br (isU (tLowN b.1 5).1) (a10 (shiftB 7 (lowB a 32) (tLowN b.1 5).1 (iEq (tLowN b.1 5).2 0)) (.br (isU 32) (.leaf (.val (.tup [(.agg (cB (lowB (shiftB 7 (lowB a 32) (tLowN b.1 5).1 (iEq (tLowN b.1 5).2 0)) 32))), (.c (.li .i64 0))]))) (.no 98))) (.no 98))) (.no 98))) (.no 98))))) (by kernel_rfl) ρ rfl ?_ w
  · have ra : Raw5 a := raw_of hb0 hb1 hb2 hb3 hb4 hb5 hb6 hb7 hb8 hb9
    have rb : Raw5 b := raw_of hb10 hb11 hb12 hb13 hb14 hb15 hb16 hb17 hb18 hb19
    have f1 : isU (tLowN b.1 6).1 = true := (lowN_uu rb.t 6).1
    have f2 : isU (tLowN b.1 5).1 = true := (lowN_uu rb.t 5).1
    have rla : Raw5 (lowB a 32) := lowB_raw ra
    have rlb : Raw5 (lowB b 32) := lowB_raw rb
    have a0 : isU (lowB a 32).1.1 = true := raw_t1 rla
    have a1 : isU (lowB a 32).1.2 = true := raw_t2 rla
    have a2 : isU (lowB a 32).2.1 = true := raw_u1 rla
    have a3 : isU (lowB a 32).2.2 = true := raw_u2 rla
    have a4 : isI (lowB a 32).3.1 = true := raw_s1 rla
    have a5 : isI (lowB a 32).3.2 = true := raw_s2 rla
    have a6 : isU (lowB a 32).4.1 = true := raw_w1 rla
    have a7 : isU (lowB a 32).4.2 = true := raw_w2 rla
    have a8 : isI (lowB a 32).5.1 = true := raw_v1 rla
    have a9 : isI (lowB a 32).5.2 = true := raw_v2 rla
    have b0 : isU (lowB b 32).1.1 = true := raw_t1 rlb
    have b1 : isU (lowB b 32).1.2 = true := raw_t2 rlb
    have b2 : isU (lowB b 32).2.1 = true := raw_u1 rlb
    have b3 : isU (lowB b 32).2.2 = true := raw_u2 rlb
    have b4 : isI (lowB b 32).3.1 = true := raw_s1 rlb
    have b5 : isI (lowB b 32).3.2 = true := raw_s2 rlb
    have b6 : isU (lowB b 32).4.1 = true := raw_w1 rlb
    have b7 : isU (lowB b 32).4.2 = true := raw_w2 rlb
    have b8 : isI (lowB b 32).5.1 = true := raw_v1 rlb
    have b9 : isI (lowB b 32).5.2 = true := raw_v2 rlb
    refine br2 (fun k1 => ?_) (fun k1 => ?_)
    · have e : doesB 7 false a b = nothing := does_na (by decide) k1
      simp only [Tr.all]; rw [e]; try rfl
    · refine br2 (fun k2 => ?_) (fun k2 => ?_)
      · have e : doesB 7 false a b = nothing := does_nb (by decide) k1 k2
        simp only [Tr.all]; rw [e]; try rfl
      · refine askB (by first | with_reducible assumption | decide) ?_
        refine ask10 (b := a) (ra) ?_
        refine askB (by first | with_reducible assumption | decide) ?_
        refine ask10 (b := (lowB a 32)) (lowB_raw (ra)) ?_
        refine askB (by first | with_reducible assumption | decide) ?_
        refine ask10 (b := (shiftB 7 (lowB a 32) (tLowN b.1 5).1 (iEq (tLowN b.1 5).2 0))) (shiftB_raw (lowB_raw (ra))) ?_
        refine askB (by first | with_reducible assumption | decide) ?_
        have e : doesB 7 false a b = lowB (shiftB 7 (lowB a 32) (tLowN b.t 5).lo (iEq (tLowN b.t 5).hi 0)) 32 := (does_h (by decide) k1 k2).trans ((half_sh rfl).trans (by rw [if_neg (by decide)]))
        simp only [Tr.all]; exact does_leaf e.symm rfl
theorem t_does8t (a : Bd) (b : Bd) (hb0 : isU a.1.1 = true) (hb1 : isU a.1.2 = true) (hb2 : isU a.2.1 = true) (hb3 : isU a.2.2 = true) (hb4 : isI a.3.1 = true) (hb5 : isI a.3.2 = true) (hb6 : isU a.4.1 = true) (hb7 : isU a.4.2 = true) (hb8 : isI a.5.1 = true) (hb9 : isI a.5.2 = true) (hb10 : isU b.1.1 = true) (hb11 : isU b.1.2 = true) (hb12 : isU b.2.1 = true) (hb13 : isU b.2.2 = true) (hb14 : isI b.3.1 = true) (hb15 : isI b.3.2 = true) (hb16 : isU b.4.1 = true) (hb17 : isU b.4.2 = true) (hb18 : isI b.5.1 = true) (hb19 : isI b.5.2 = true) (ρ : Nat → Nat) (w : World) : Calls Tryz.prog 17 (enV [.s (some .u8), .s none, .a [some .u64, some .u64, some .u64, some .u64, some .i64, some .i64, some .u64, some .u64, some .i64, some .i64], .a [some .u64, some .u64, some .u64, some .u64, some .i64, some .i64, some .u64, some .u64, some .i64, some .i64]] ([8, a.1.1, a.1.2, a.2.1, a.2.2, a.3.1, a.3.2, a.4.1, a.4.2, a.5.1, a.5.2, b.1.1, b.1.2, b.2.1, b.2.2, b.3.1, b.3.2, b.4.1, b.4.2, b.5.1, b.5.2], [true])).toArray w fun e w' => e = .returned (V.den ρ (.tup [.agg (cB (doesB 8 true a b)), .c (.si .i64 (doesE 8))])) ∧ Below w.heap.size w w' := by
  refine pure_to nameOK oks_L05T_0 (dOK oks_L05T_0) 300 [.u (.c (.li .u8 8)), .u (.c (.lb true)), .u (.agg (cB a)), .u (.agg (cB b))] (T := (.br (bNone a) (.leaf (.val (.tup [(.agg cN), (.c (.li .i64 0))]))) (.br (bNone b) (.leaf (.val (.tup [(.agg cN), (.c (.li .i64 0))]))) (.br (isU 0) (a10 (bConst 0) (a10 a (a10 (subB (bConst 0) a) (.leaf (.val (.tup [(.agg (cB (sync (subB (bConst 0) a)))), (.c (.li .i64 0))])))))) (.no 98))))) (by kernel_rfl) ρ rfl ?_ w
  · have ra : Raw5 a := raw_of hb0 hb1 hb2 hb3 hb4 hb5 hb6 hb7 hb8 hb9
    have rb : Raw5 b := raw_of hb10 hb11 hb12 hb13 hb14 hb15 hb16 hb17 hb18 hb19
    refine br2 (fun k1 => ?_) (fun k1 => ?_)
    · have e : doesB 8 true a b = nothing := does_na (by decide) k1
      simp only [Tr.all]; rw [e]; try rfl
    · refine br2 (fun k2 => ?_) (fun k2 => ?_)
      · have e : doesB 8 true a b = nothing := does_nb (by decide) k1 k2
        simp only [Tr.all]; rw [e]; try rfl
      · refine askB (by first | with_reducible assumption | decide) ?_
        refine ask10 (b := (bConst 0)) (c0_raw) ?_
        refine ask10 (b := a) (ra) ?_
        refine ask10 (b := (subB (bConst 0) a)) (subB_raw (c0_raw) (ra)) ?_
        have e : doesB 8 true a b = sync (subB (bConst 0) a) := (does_w (by decide) k1 k2).trans ((wide_op rfl).trans rfl)
        simp only [Tr.all]; exact does_leaf e.symm rfl
theorem t_does8f (a : Bd) (b : Bd) (hb0 : isU a.1.1 = true) (hb1 : isU a.1.2 = true) (hb2 : isU a.2.1 = true) (hb3 : isU a.2.2 = true) (hb4 : isI a.3.1 = true) (hb5 : isI a.3.2 = true) (hb6 : isU a.4.1 = true) (hb7 : isU a.4.2 = true) (hb8 : isI a.5.1 = true) (hb9 : isI a.5.2 = true) (hb10 : isU b.1.1 = true) (hb11 : isU b.1.2 = true) (hb12 : isU b.2.1 = true) (hb13 : isU b.2.2 = true) (hb14 : isI b.3.1 = true) (hb15 : isI b.3.2 = true) (hb16 : isU b.4.1 = true) (hb17 : isU b.4.2 = true) (hb18 : isI b.5.1 = true) (hb19 : isI b.5.2 = true) (ρ : Nat → Nat) (w : World) : Calls Tryz.prog 17 (enV [.s (some .u8), .s none, .a [some .u64, some .u64, some .u64, some .u64, some .i64, some .i64, some .u64, some .u64, some .i64, some .i64], .a [some .u64, some .u64, some .u64, some .u64, some .i64, some .i64, some .u64, some .u64, some .i64, some .i64]] ([8, a.1.1, a.1.2, a.2.1, a.2.2, a.3.1, a.3.2, a.4.1, a.4.2, a.5.1, a.5.2, b.1.1, b.1.2, b.2.1, b.2.2, b.3.1, b.3.2, b.4.1, b.4.2, b.5.1, b.5.2], [false])).toArray w fun e w' => e = .returned (V.den ρ (.tup [.agg (cB (doesB 8 false a b)), .c (.si .i64 (doesE 8))])) ∧ Below w.heap.size w w' := by
  refine pure_to nameOK oks_L05T_0 (dOK oks_L05T_0) 300 [.u (.c (.li .u8 8)), .u (.c (.lb false)), .u (.agg (cB a)), .u (.agg (cB b))] (T := (.br (bNone a) (.leaf (.val (.tup [(.agg cN), (.c (.li .i64 0))]))) (.br (bNone b) (.leaf (.val (.tup [(.agg cN), (.c (.li .i64 0))]))) (a10 a (.br (isU 32) (a10 b (.br (isU 32) (.br (bNone (lowB a 32)) (.leaf (.val (.tup [(.agg cN), (.c (.li .i64 0))]))) (.br (bNone (lowB b 32)) (.leaf (.val (.tup [(.agg cN), (.c (.li .i64 0))]))) (.br (isU 0) (a10 (bConst 0) (a10 (lowB a 32) (a10 (subB (bConst 0) (lowB a 32)) (a10 (sync (subB (bConst 0) (lowB a 32))) (.br (isU 32) (.leaf (.val (.tup [(.agg (cB (lowB (sync (subB (bConst 0) (lowB a 32))) 32))), (.c (.li .i64 0))]))) (.no 98)))))) (.no 98)))) (.no 98))) (.no 98)))))) (by kernel_rfl) ρ rfl ?_ w
  · have ra : Raw5 a := raw_of hb0 hb1 hb2 hb3 hb4 hb5 hb6 hb7 hb8 hb9
    have rb : Raw5 b := raw_of hb10 hb11 hb12 hb13 hb14 hb15 hb16 hb17 hb18 hb19
    have rla : Raw5 (lowB a 32) := lowB_raw ra
    have rlb : Raw5 (lowB b 32) := lowB_raw rb
    have a0 : isU (lowB a 32).1.1 = true := raw_t1 rla
    have a1 : isU (lowB a 32).1.2 = true := raw_t2 rla
    have a2 : isU (lowB a 32).2.1 = true := raw_u1 rla
    have a3 : isU (lowB a 32).2.2 = true := raw_u2 rla
    have a4 : isI (lowB a 32).3.1 = true := raw_s1 rla
    have a5 : isI (lowB a 32).3.2 = true := raw_s2 rla
    have a6 : isU (lowB a 32).4.1 = true := raw_w1 rla
    have a7 : isU (lowB a 32).4.2 = true := raw_w2 rla
    have a8 : isI (lowB a 32).5.1 = true := raw_v1 rla
    have a9 : isI (lowB a 32).5.2 = true := raw_v2 rla
    have b0 : isU (lowB b 32).1.1 = true := raw_t1 rlb
    have b1 : isU (lowB b 32).1.2 = true := raw_t2 rlb
    have b2 : isU (lowB b 32).2.1 = true := raw_u1 rlb
    have b3 : isU (lowB b 32).2.2 = true := raw_u2 rlb
    have b4 : isI (lowB b 32).3.1 = true := raw_s1 rlb
    have b5 : isI (lowB b 32).3.2 = true := raw_s2 rlb
    have b6 : isU (lowB b 32).4.1 = true := raw_w1 rlb
    have b7 : isU (lowB b 32).4.2 = true := raw_w2 rlb
    have b8 : isI (lowB b 32).5.1 = true := raw_v1 rlb
    have b9 : isI (lowB b 32).5.2 = true := raw_v2 rlb
    refine br2 (fun k1 => ?_) (fun k1 => ?_)
    · have e : doesB 8 false a b = nothing := does_na (by decide) k1
      simp only [Tr.all]; rw [e]; try rfl
    · refine br2 (fun k2 => ?_) (fun k2 => ?_)
      · have e : doesB 8 false a b = nothing := does_nb (by decide) k1 k2
        simp only [Tr.all]; rw [e]; try rfl
      · refine ask10 (b := a) (ra) ?_
        refine askB (by first | with_reducible assumption | decide) ?_
        refine ask10 (b := b) (rb) ?_
        refine askB (by first | with_reducible assumption | decide) ?_
        refine br2 (fun k3 => ?_) (fun k3 => ?_)
        · have e : doesB 8 false a b = nothing := (does_h (by decide) k1 k2).trans (half_na rfl k3)
          simp only [Tr.all]; rw [e]; try rfl
        · refine br2 (fun k4 => ?_) (fun k4 => ?_)
          · have e : doesB 8 false a b = nothing := (does_h (by decide) k1 k2).trans (half_nb rfl k3 k4)
            simp only [Tr.all]; rw [e]; try rfl
          · refine askB (by first | with_reducible assumption | decide) ?_
            refine ask10 (b := (bConst 0)) (c0_raw) ?_
            refine ask10 (b := (lowB a 32)) (lowB_raw (ra)) ?_
            refine ask10 (b := (subB (bConst 0) (lowB a 32))) (subB_raw (c0_raw) (lowB_raw (ra))) ?_
            refine ask10 (b := (sync (subB (bConst 0) (lowB a 32)))) (sy_raw (subB_raw (c0_raw) (lowB_raw (ra)))) ?_
            refine askB (by first | with_reducible assumption | decide) ?_
            have e : doesB 8 false a b = lowB (sync (subB (bConst 0) (lowB a 32))) 32 := (does_h (by decide) k1 k2).trans ((half_op rfl k3 k4).trans rfl)
            simp only [Tr.all]; exact does_leaf e.symm rfl
theorem t_does9t (a : Bd) (b : Bd) (hb0 : isU a.1.1 = true) (hb1 : isU a.1.2 = true) (hb2 : isU a.2.1 = true) (hb3 : isU a.2.2 = true) (hb4 : isI a.3.1 = true) (hb5 : isI a.3.2 = true) (hb6 : isU a.4.1 = true) (hb7 : isU a.4.2 = true) (hb8 : isI a.5.1 = true) (hb9 : isI a.5.2 = true) (hb10 : isU b.1.1 = true) (hb11 : isU b.1.2 = true) (hb12 : isU b.2.1 = true) (hb13 : isU b.2.2 = true) (hb14 : isI b.3.1 = true) (hb15 : isI b.3.2 = true) (hb16 : isU b.4.1 = true) (hb17 : isU b.4.2 = true) (hb18 : isI b.5.1 = true) (hb19 : isI b.5.2 = true) (ρ : Nat → Nat) (w : World) : Calls Tryz.prog 17 (enV [.s (some .u8), .s none, .a [some .u64, some .u64, some .u64, some .u64, some .i64, some .i64, some .u64, some .u64, some .i64, some .i64], .a [some .u64, some .u64, some .u64, some .u64, some .i64, some .i64, some .u64, some .u64, some .i64, some .i64]] ([9, a.1.1, a.1.2, a.2.1, a.2.2, a.3.1, a.3.2, a.4.1, a.4.2, a.5.1, a.5.2, b.1.1, b.1.2, b.2.1, b.2.2, b.3.1, b.3.2, b.4.1, b.4.2, b.5.1, b.5.2], [true])).toArray w fun e w' => e = .returned (V.den ρ (.tup [.agg (cB (doesB 9 true a b)), .c (.si .i64 (doesE 9))])) ∧ Below w.heap.size w w' := by
  refine pure_to nameOK oks_L05T_0 (dOK oks_L05T_0) 300 [.u (.c (.li .u8 9)), .u (.c (.lb true)), .u (.agg (cB a)), .u (.agg (cB b))] (T := (.br (bNone a) (.leaf (.val (.tup [(.agg cN), (.c (.li .i64 0))]))) (.br (bNone b) (.leaf (.val (.tup [(.agg cN), (.c (.li .i64 0))]))) (.br (isU a.2.1) (.br (isU a.2.2) (.br (isU b.2.1) (.br (isU b.2.2) (.br (isU 0) (.br (isU 18446744073709551615) (.br (isU (mMod1 a.2.1 a.2.2 b.2.1 b.2.2)) (.br (isU (mMod2 a.2.1 a.2.2 b.2.1 b.2.2)) (.br (isI (-9223372036854775808)) (.br (isI 9223372036854775807) (.br (isU 0) (.br (isU 4294967295) (.br (isI (-2147483648)) (.br (isI 2147483647) (.leaf (.val (.tup [(.agg (cB (sync (.mk (.mk 0 18446744073709551615) (.mk (mMod1 a.2.1 a.2.2 b.2.1 b.2.2) (mMod2 a.2.1 a.2.2 b.2.1 b.2.2)) (.mk (-9223372036854775808) 9223372036854775807) (.mk 0 4294967295) (.mk (-2147483648) 2147483647))))), (.c (.li .i64 0))]))) (.no 98)) (.no 98)) (.no 98)) (.no 98)) (.no 98)) (.no 98)) (.no 98)) (.no 98)) (.no 98)) (.no 98)) (.no 98)) (.no 98)) (.no 98)) (.no 98))))) (by kernel_rfl) ρ rfl ?_ w
  · have ra : Raw5 a := raw_of hb0 hb1 hb2 hb3 hb4 hb5 hb6 hb7 hb8 hb9
    have rb : Raw5 b := raw_of hb10 hb11 hb12 hb13 hb14 hb15 hb16 hb17 hb18 hb19
    have ro : Raw5 (modB a b) := modB_raw (ra) (rb)
    have f3 : isU (mMod1 a.2.1 a.2.2 b.2.1 b.2.2) = true := ro.u.1
    have f4 : isU (mMod2 a.2.1 a.2.2 b.2.1 b.2.2) = true := ro.u.2
    refine br2 (fun k1 => ?_) (fun k1 => ?_)
    · have e : doesB 9 true a b = nothing := does_na (by decide) k1
      simp only [Tr.all]; rw [e]; try rfl
    · refine br2 (fun k2 => ?_) (fun k2 => ?_)
      · have e : doesB 9 true a b = nothing := does_nb (by decide) k1 k2
        simp only [Tr.all]; rw [e]; try rfl
      · iterate 14 (refine askB (by first | with_reducible assumption | decide) ?_)
        have e : doesB 9 true a b = sync (modB a b) := (does_w (by decide) k1 k2).trans ((wide_op rfl).trans rfl)
        simp only [Tr.all]; exact does_leaf e.symm rfl
theorem t_does9f (a : Bd) (b : Bd) (hb0 : isU a.1.1 = true) (hb1 : isU a.1.2 = true) (hb2 : isU a.2.1 = true) (hb3 : isU a.2.2 = true) (hb4 : isI a.3.1 = true) (hb5 : isI a.3.2 = true) (hb6 : isU a.4.1 = true) (hb7 : isU a.4.2 = true) (hb8 : isI a.5.1 = true) (hb9 : isI a.5.2 = true) (hb10 : isU b.1.1 = true) (hb11 : isU b.1.2 = true) (hb12 : isU b.2.1 = true) (hb13 : isU b.2.2 = true) (hb14 : isI b.3.1 = true) (hb15 : isI b.3.2 = true) (hb16 : isU b.4.1 = true) (hb17 : isU b.4.2 = true) (hb18 : isI b.5.1 = true) (hb19 : isI b.5.2 = true) (ρ : Nat → Nat) (w : World) : Calls Tryz.prog 17 (enV [.s (some .u8), .s none, .a [some .u64, some .u64, some .u64, some .u64, some .i64, some .i64, some .u64, some .u64, some .i64, some .i64], .a [some .u64, some .u64, some .u64, some .u64, some .i64, some .i64, some .u64, some .u64, some .i64, some .i64]] ([9, a.1.1, a.1.2, a.2.1, a.2.2, a.3.1, a.3.2, a.4.1, a.4.2, a.5.1, a.5.2, b.1.1, b.1.2, b.2.1, b.2.2, b.3.1, b.3.2, b.4.1, b.4.2, b.5.1, b.5.2], [false])).toArray w fun e w' => e = .returned (V.den ρ (.tup [.agg (cB (doesB 9 false a b)), .c (.si .i64 (doesE 9))])) ∧ Below w.heap.size w w' := by
  refine pure_to nameOK oks_L05T_0 (dOK oks_L05T_0) 300 [.u (.c (.li .u8 9)), .u (.c (.lb false)), .u (.agg (cB a)), .u (.agg (cB b))] (T := (.br (bNone a) (.leaf (.val (.tup [(.agg cN), (.c (.li .i64 0))]))) (.br (bNone b) (.leaf (.val (.tup [(.agg cN), (.c (.li .i64 0))]))) (a10 a (.br (isU 32) (a10 b (.br (isU 32) (.br (bNone (lowB a 32)) (.leaf (.val (.tup [(.agg cN), (.c (.li .i64 0))]))) (.br (bNone (lowB b 32)) (.leaf (.val (.tup [(.agg cN), (.c (.li .i64 0))]))) (.br (isU (lowB a 32).2.1) (.br (isU (lowB a 32).2.2) (.br (isU (lowB b 32).2.1) (.br (isU (lowB b 32).2.2) (.br (isU 0) (.br (isU 18446744073709551615) (.br (isU (mMod1 (lowB a 32).2.1 (lowB a 32).2.2 (lowB b 32).2.1 (lowB b 32).2.2)) (.br (isU (mMod2 (lowB a 32).2.1 (lowB a 32).2.2 (lowB b 32).2.1 (lowB b 32).2.2)) (.br (isI (-9223372036854775808)) (.br (isI 9223372036854775807) (.br (isU 0) (.br (isU 4294967295) (.br (isI (-2147483648)) (.br (isI 2147483647) (a10 (sync (.mk (.mk 0 18446744073709551615) (.mk (mMod1 (lowB a 32).2.1 (lowB a 32).2.2 (lowB b 32).2.1 (lowB b 32).2.2) (mMod2 (lowB a 32).2.1 (lowB a 32).2.2 (lowB b 32).2.1 (lowB b 32).2.2)) (.mk (-9223372036854775808) 9223372036854775807) (.mk 0 4294967295) (.mk (-2147483648) 2147483647))) (.br (isU 32) (.leaf (.val (.tup [(.agg (cB (lowB (sync (.mk (.mk 0 18446744073709551615) (.mk (mMod1 (lowB a 32).2.1 (lowB a 32).2.2 (lowB b 32).2.1 (lowB b 32).2.2) (mMod2 (lowB a 32).2.1 (lowB a 32).2.2 (lowB b 32).2.1 (lowB b 32).2.2)) (.mk (-9223372036854775808) 9223372036854775807) (.mk 0 4294967295) (.mk (-2147483648) 2147483647))) 32))), (.c (.li .i64 0))]))) (.no 98))) (.no 98)) (.no 98)) (.no 98)) (.no 98)) (.no 98)) (.no 98)) (.no 98)) (.no 98)) (.no 98)) (.no 98)) (.no 98)) (.no 98)) (.no 98)) (.no 98)))) (.no 98))) (.no 98)))))) (by kernel_rfl) ρ rfl ?_ w
  · have ra : Raw5 a := raw_of hb0 hb1 hb2 hb3 hb4 hb5 hb6 hb7 hb8 hb9
    have rb : Raw5 b := raw_of hb10 hb11 hb12 hb13 hb14 hb15 hb16 hb17 hb18 hb19
    have ro : Raw5 (modB (lowB a 32) (lowB b 32)) := modB_raw (lowB_raw (ra)) (lowB_raw (rb))
    have f3 : isU (mMod1 (lowB a 32).2.1 (lowB a 32).2.2 (lowB b 32).2.1 (lowB b 32).2.2) = true := ro.u.1
    have f4 : isU (mMod2 (lowB a 32).2.1 (lowB a 32).2.2 (lowB b 32).2.1 (lowB b 32).2.2) = true := ro.u.2
    have rla : Raw5 (lowB a 32) := lowB_raw ra
    have rlb : Raw5 (lowB b 32) := lowB_raw rb
    have a0 : isU (lowB a 32).1.1 = true := raw_t1 rla
    have a1 : isU (lowB a 32).1.2 = true := raw_t2 rla
    have a2 : isU (lowB a 32).2.1 = true := raw_u1 rla
    have a3 : isU (lowB a 32).2.2 = true := raw_u2 rla
    have a4 : isI (lowB a 32).3.1 = true := raw_s1 rla
    have a5 : isI (lowB a 32).3.2 = true := raw_s2 rla
    have a6 : isU (lowB a 32).4.1 = true := raw_w1 rla
    have a7 : isU (lowB a 32).4.2 = true := raw_w2 rla
    have a8 : isI (lowB a 32).5.1 = true := raw_v1 rla
    have a9 : isI (lowB a 32).5.2 = true := raw_v2 rla
    have b0 : isU (lowB b 32).1.1 = true := raw_t1 rlb
    have b1 : isU (lowB b 32).1.2 = true := raw_t2 rlb
    have b2 : isU (lowB b 32).2.1 = true := raw_u1 rlb
    have b3 : isU (lowB b 32).2.2 = true := raw_u2 rlb
    have b4 : isI (lowB b 32).3.1 = true := raw_s1 rlb
    have b5 : isI (lowB b 32).3.2 = true := raw_s2 rlb
    have b6 : isU (lowB b 32).4.1 = true := raw_w1 rlb
    have b7 : isU (lowB b 32).4.2 = true := raw_w2 rlb
    have b8 : isI (lowB b 32).5.1 = true := raw_v1 rlb
    have b9 : isI (lowB b 32).5.2 = true := raw_v2 rlb
    refine br2 (fun k1 => ?_) (fun k1 => ?_)
    · have e : doesB 9 false a b = nothing := does_na (by decide) k1
      simp only [Tr.all]; rw [e]; try rfl
    · refine br2 (fun k2 => ?_) (fun k2 => ?_)
      · have e : doesB 9 false a b = nothing := does_nb (by decide) k1 k2
        simp only [Tr.all]; rw [e]; try rfl
      · refine ask10 (b := a) (ra) ?_
        refine askB (by first | with_reducible assumption | decide) ?_
        refine ask10 (b := b) (rb) ?_
        refine askB (by first | with_reducible assumption | decide) ?_
        refine br2 (fun k3 => ?_) (fun k3 => ?_)
        · have e : doesB 9 false a b = nothing := (does_h (by decide) k1 k2).trans (half_na rfl k3)
          simp only [Tr.all]; rw [e]; try rfl
        · refine br2 (fun k4 => ?_) (fun k4 => ?_)
          · have e : doesB 9 false a b = nothing := (does_h (by decide) k1 k2).trans (half_nb rfl k3 k4)
            simp only [Tr.all]; rw [e]; try rfl
          · iterate 14 (refine askB (by first | with_reducible assumption | decide) ?_)
            refine ask10 (b := (sync (.mk (.mk 0 18446744073709551615) (.mk (mMod1 (lowB a 32).2.1 (lowB a 32).2.2 (lowB b 32).2.1 (lowB b 32).2.2) (mMod2 (lowB a 32).2.1 (lowB a 32).2.2 (lowB b 32).2.1 (lowB b 32).2.2)) (.mk (-9223372036854775808) 9223372036854775807) (.mk 0 4294967295) (.mk (-2147483648) 2147483647)))) (sy_raw (ro)) ?_
            refine askB (by first | with_reducible assumption | decide) ?_
            have e : doesB 9 false a b = lowB (sync (modB (lowB a 32) (lowB b 32))) 32 := (does_h (by decide) k1 k2).trans ((half_op rfl k3 k4).trans rfl)
            simp only [Tr.all]; exact does_leaf e.symm rfl
theorem t_does10t (a : Bd) (b : Bd) (hb0 : isU a.1.1 = true) (hb1 : isU a.1.2 = true) (hb2 : isU a.2.1 = true) (hb3 : isU a.2.2 = true) (hb4 : isI a.3.1 = true) (hb5 : isI a.3.2 = true) (hb6 : isU a.4.1 = true) (hb7 : isU a.4.2 = true) (hb8 : isI a.5.1 = true) (hb9 : isI a.5.2 = true) (hb10 : isU b.1.1 = true) (hb11 : isU b.1.2 = true) (hb12 : isU b.2.1 = true) (hb13 : isU b.2.2 = true) (hb14 : isI b.3.1 = true) (hb15 : isI b.3.2 = true) (hb16 : isU b.4.1 = true) (hb17 : isU b.4.2 = true) (hb18 : isI b.5.1 = true) (hb19 : isI b.5.2 = true) (ρ : Nat → Nat) (w : World) : Calls Tryz.prog 17 (enV [.s (some .u8), .s none, .a [some .u64, some .u64, some .u64, some .u64, some .i64, some .i64, some .u64, some .u64, some .i64, some .i64], .a [some .u64, some .u64, some .u64, some .u64, some .i64, some .i64, some .u64, some .u64, some .i64, some .i64]] ([10, a.1.1, a.1.2, a.2.1, a.2.2, a.3.1, a.3.2, a.4.1, a.4.2, a.5.1, a.5.2, b.1.1, b.1.2, b.2.1, b.2.2, b.3.1, b.3.2, b.4.1, b.4.2, b.5.1, b.5.2], [true])).toArray w fun e w' => e = .returned (V.den ρ (.tup [.agg (cB (doesB 10 true a b)), .c (.si .i64 (doesE 10))])) ∧ Below w.heap.size w w' := by
  refine pure_to nameOK oks_L05T_0 (dOK oks_L05T_0) 300 [.u (.c (.li .u8 10)), .u (.c (.lb true)), .u (.agg (cB a)), .u (.agg (cB b))] (T := (.br (bNone a) (.leaf (.val (.tup [(.agg cN), (.c (.li .i64 0))]))) (.br (bNone b) (.leaf (.val (.tup [(.agg cN), (.c (.li .i64 0))]))) (.br (isU (tXorM a.1 b.1).1) (.br (isU (tXorM a.1 b.1).2) (.br (isU 0) (.br (isU 18446744073709551615) (.br (isI (-9223372036854775808)) (.br (isI 9223372036854775807) (.br (isU 0) (.br (isU 4294967295) (.br (isI (-2147483648)) (.br (isI 2147483647) (.leaf (.val (.tup [(.agg (cB (sync (.mk (tXorM a.1 b.1) (.mk 0 18446744073709551615) (.mk (-9223372036854775808) 9223372036854775807) (.mk 0 4294967295) (.mk (-2147483648) 2147483647))))), (.c (.li .i64 0))]))) (.no 98)) (.no 98)) (.no 98)) (.no 98)) (.no 98)) (.no 98)) (.no 98)) (.no 98)) (.no 98)) (.no 98))))) (by kernel_rfl) ρ rfl ?_ w
  · have ra : Raw5 a := raw_of hb0 hb1 hb2 hb3 hb4 hb5 hb6 hb7 hb8 hb9
    have rb : Raw5 b := raw_of hb10 hb11 hb12 hb13 hb14 hb15 hb16 hb17 hb18 hb19
    have ro : Raw5 (xorB a b) := xorB_raw (ra) (rb)
    have f1 : isU (tXorM a.1 b.1).1 = true := ro.t.1
    have f2 : isU (tXorM a.1 b.1).2 = true := ro.t.2
    refine br2 (fun k1 => ?_) (fun k1 => ?_)
    · have e : doesB 10 true a b = nothing := does_na (by decide) k1
      simp only [Tr.all]; rw [e]; try rfl
    · refine br2 (fun k2 => ?_) (fun k2 => ?_)
      · have e : doesB 10 true a b = nothing := does_nb (by decide) k1 k2
        simp only [Tr.all]; rw [e]; try rfl
      · iterate 10 (refine askB (by first | with_reducible assumption | decide) ?_)
        have e : doesB 10 true a b = sync (xorB a b) := (does_w (by decide) k1 k2).trans ((wide_op rfl).trans rfl)
        simp only [Tr.all]; exact does_leaf e.symm rfl
theorem t_does10f (a : Bd) (b : Bd) (hb0 : isU a.1.1 = true) (hb1 : isU a.1.2 = true) (hb2 : isU a.2.1 = true) (hb3 : isU a.2.2 = true) (hb4 : isI a.3.1 = true) (hb5 : isI a.3.2 = true) (hb6 : isU a.4.1 = true) (hb7 : isU a.4.2 = true) (hb8 : isI a.5.1 = true) (hb9 : isI a.5.2 = true) (hb10 : isU b.1.1 = true) (hb11 : isU b.1.2 = true) (hb12 : isU b.2.1 = true) (hb13 : isU b.2.2 = true) (hb14 : isI b.3.1 = true) (hb15 : isI b.3.2 = true) (hb16 : isU b.4.1 = true) (hb17 : isU b.4.2 = true) (hb18 : isI b.5.1 = true) (hb19 : isI b.5.2 = true) (ρ : Nat → Nat) (w : World) : Calls Tryz.prog 17 (enV [.s (some .u8), .s none, .a [some .u64, some .u64, some .u64, some .u64, some .i64, some .i64, some .u64, some .u64, some .i64, some .i64], .a [some .u64, some .u64, some .u64, some .u64, some .i64, some .i64, some .u64, some .u64, some .i64, some .i64]] ([10, a.1.1, a.1.2, a.2.1, a.2.2, a.3.1, a.3.2, a.4.1, a.4.2, a.5.1, a.5.2, b.1.1, b.1.2, b.2.1, b.2.2, b.3.1, b.3.2, b.4.1, b.4.2, b.5.1, b.5.2], [false])).toArray w fun e w' => e = .returned (V.den ρ (.tup [.agg (cB (doesB 10 false a b)), .c (.si .i64 (doesE 10))])) ∧ Below w.heap.size w w' := by
  refine pure_to nameOK oks_L05T_0 (dOK oks_L05T_0) 300 [.u (.c (.li .u8 10)), .u (.c (.lb false)), .u (.agg (cB a)), .u (.agg (cB b))] (T := (.br (bNone a) (.leaf (.val (.tup [(.agg cN), (.c (.li .i64 0))]))) (.br (bNone b) (.leaf (.val (.tup [(.agg cN), (.c (.li .i64 0))]))) (a10 a (.br (isU 32) (a10 b (.br (isU 32) (.br (bNone (lowB a 32)) (.leaf (.val (.tup [(.agg cN), (.c (.li .i64 0))]))) (.br (bNone (lowB b 32)) (.leaf (.val (.tup [(.agg cN), (.c (.li .i64 0))]))) (.br (isU (tXorM (lowB a 32).1 (lowB b 32).1).1) (.br (isU (tXorM (lowB a 32).1 (lowB b 32).1).2) (.br (isU 0) (.br (isU 18446744073709551615) (.br (isI (-9223372036854775808)) (.br (isI 9223372036854775807) (.br (isU 0) (.br (isU 4294967295) (.br (isI (-2147483648)) (.br (isI 2147483647) (a10 (sync (.mk (tXorM (lowB a 32).1 (lowB b 32).1) (.mk 0 18446744073709551615) (.mk (-9223372036854775808) 9223372036854775807) (.mk 0 4294967295) (.mk (-2147483648) 2147483647))) (.br (isU 32) (.leaf (.val (.tup [(.agg (cB (lowB (sync (.mk (tXorM (lowB a 32).1 (lowB b 32).1) (.mk 0 18446744073709551615) (.mk (-9223372036854775808) 9223372036854775807) (.mk 0 4294967295) (.mk (-2147483648) 2147483647))) 32))), (.c (.li .i64 0))]))) (.no 98))) (.no 98)) (.no 98)) (.no 98)) (.no 98)) (.no 98)) (.no 98)) (.no 98)) (.no 98)) (.no 98)) (.no 98)))) (.no 98))) (.no 98)))))) (by kernel_rfl) ρ rfl ?_ w
  · have ra : Raw5 a := raw_of hb0 hb1 hb2 hb3 hb4 hb5 hb6 hb7 hb8 hb9
    have rb : Raw5 b := raw_of hb10 hb11 hb12 hb13 hb14 hb15 hb16 hb17 hb18 hb19
    have ro : Raw5 (xorB (lowB a 32) (lowB b 32)) := xorB_raw (lowB_raw (ra)) (lowB_raw (rb))
    have f1 : isU (tXorM (lowB a 32).1 (lowB b 32).1).1 = true := ro.t.1
    have f2 : isU (tXorM (lowB a 32).1 (lowB b 32).1).2 = true := ro.t.2
    have rla : Raw5 (lowB a 32) := lowB_raw ra
    have rlb : Raw5 (lowB b 32) := lowB_raw rb
    have a0 : isU (lowB a 32).1.1 = true := raw_t1 rla
    have a1 : isU (lowB a 32).1.2 = true := raw_t2 rla
    have a2 : isU (lowB a 32).2.1 = true := raw_u1 rla
    have a3 : isU (lowB a 32).2.2 = true := raw_u2 rla
    have a4 : isI (lowB a 32).3.1 = true := raw_s1 rla
    have a5 : isI (lowB a 32).3.2 = true := raw_s2 rla
    have a6 : isU (lowB a 32).4.1 = true := raw_w1 rla
    have a7 : isU (lowB a 32).4.2 = true := raw_w2 rla
    have a8 : isI (lowB a 32).5.1 = true := raw_v1 rla
    have a9 : isI (lowB a 32).5.2 = true := raw_v2 rla
    have b0 : isU (lowB b 32).1.1 = true := raw_t1 rlb
    have b1 : isU (lowB b 32).1.2 = true := raw_t2 rlb
    have b2 : isU (lowB b 32).2.1 = true := raw_u1 rlb
    have b3 : isU (lowB b 32).2.2 = true := raw_u2 rlb
    have b4 : isI (lowB b 32).3.1 = true := raw_s1 rlb
    have b5 : isI (lowB b 32).3.2 = true := raw_s2 rlb
    have b6 : isU (lowB b 32).4.1 = true := raw_w1 rlb
    have b7 : isU (lowB b 32).4.2 = true := raw_w2 rlb
    have b8 : isI (lowB b 32).5.1 = true := raw_v1 rlb
    have b9 : isI (lowB b 32).5.2 = true := raw_v2 rlb
    refine br2 (fun k1 => ?_) (fun k1 => ?_)
    · have e : doesB 10 false a b = nothing := does_na (by decide) k1
      simp only [Tr.all]; rw [e]; try rfl
    · refine br2 (fun k2 => ?_) (fun k2 => ?_)
      · have e : doesB 10 false a b = nothing := does_nb (by decide) k1 k2
        simp only [Tr.all]; rw [e]; try rfl
      · refine ask10 (b := a) (ra) ?_
        refine askB (by first | with_reducible assumption | decide) ?_
        refine ask10 (b := b) (rb) ?_
        refine askB (by first | with_reducible assumption | decide) ?_
        refine br2 (fun k3 => ?_) (fun k3 => ?_)
        · have e : doesB 10 false a b = nothing := (does_h (by decide) k1 k2).trans (half_na rfl k3)
          simp only [Tr.all]; rw [e]; try rfl
        · refine br2 (fun k4 => ?_) (fun k4 => ?_)
          · have e : doesB 10 false a b = nothing := (does_h (by decide) k1 k2).trans (half_nb rfl k3 k4)
            simp only [Tr.all]; rw [e]; try rfl
          · iterate 10 (refine askB (by first | with_reducible assumption | decide) ?_)
            refine ask10 (b := (sync (.mk (tXorM (lowB a 32).1 (lowB b 32).1) (.mk 0 18446744073709551615) (.mk (-9223372036854775808) 9223372036854775807) (.mk 0 4294967295) (.mk (-2147483648) 2147483647)))) (sy_raw (ro)) ?_
            refine askB (by first | with_reducible assumption | decide) ?_
            have e : doesB 10 false a b = lowB (sync (xorB (lowB a 32) (lowB b 32))) 32 := (does_h (by decide) k1 k2).trans ((half_op rfl k3 k4).trans rfl)
            simp only [Tr.all]; exact does_leaf e.symm rfl
theorem t_does11t (a : Bd) (b : Bd) (hb0 : isU a.1.1 = true) (hb1 : isU a.1.2 = true) (hb2 : isU a.2.1 = true) (hb3 : isU a.2.2 = true) (hb4 : isI a.3.1 = true) (hb5 : isI a.3.2 = true) (hb6 : isU a.4.1 = true) (hb7 : isU a.4.2 = true) (hb8 : isI a.5.1 = true) (hb9 : isI a.5.2 = true) (hb10 : isU b.1.1 = true) (hb11 : isU b.1.2 = true) (hb12 : isU b.2.1 = true) (hb13 : isU b.2.2 = true) (hb14 : isI b.3.1 = true) (hb15 : isI b.3.2 = true) (hb16 : isU b.4.1 = true) (hb17 : isU b.4.2 = true) (hb18 : isI b.5.1 = true) (hb19 : isI b.5.2 = true) (ρ : Nat → Nat) (w : World) : Calls Tryz.prog 17 (enV [.s (some .u8), .s none, .a [some .u64, some .u64, some .u64, some .u64, some .i64, some .i64, some .u64, some .u64, some .i64, some .i64], .a [some .u64, some .u64, some .u64, some .u64, some .i64, some .i64, some .u64, some .u64, some .i64, some .i64]] ([11, a.1.1, a.1.2, a.2.1, a.2.2, a.3.1, a.3.2, a.4.1, a.4.2, a.5.1, a.5.2, b.1.1, b.1.2, b.2.1, b.2.2, b.3.1, b.3.2, b.4.1, b.4.2, b.5.1, b.5.2], [true])).toArray w fun e w' => e = .returned (V.den ρ (.tup [.agg (cB (doesB 11 true a b)), .c (.si .i64 (doesE 11))])) ∧ Below w.heap.size w w' := by
  refine pure_to nameOK oks_L05T_0 (dOK oks_L05T_0) 300 [.u (.c (.li .u8 11)), .u (.c (.lb true)), .u (.agg (cB a)), .u (.agg (cB b))] (T := (.br (bNone a) (.leaf (.val (.tup [(.agg cN), (.c (.li .i64 0))]))) (.br (bNone b) (.leaf (.val (.tup [(.agg cN), (.c (.li .i64 0))]))) (.leaf (.val (.tup [(.agg (cB b)), (.c (.li .i64 0))])))))) (by kernel_rfl) ρ rfl ?_ w
  · have ra : Raw5 a := raw_of hb0 hb1 hb2 hb3 hb4 hb5 hb6 hb7 hb8 hb9
    have rb : Raw5 b := raw_of hb10 hb11 hb12 hb13 hb14 hb15 hb16 hb17 hb18 hb19
    refine br2 (fun k1 => ?_) (fun k1 => ?_)
    · have e : doesB 11 true a b = nothing := does_na (by decide) k1
      simp only [Tr.all]; rw [e]; try rfl
    · refine br2 (fun k2 => ?_) (fun k2 => ?_)
      · have e : doesB 11 true a b = nothing := does_nb (by decide) k1 k2
        simp only [Tr.all]; rw [e]; try rfl
      · have e : doesB 11 true a b = b := (does_w (by decide) k1 k2).trans ((wide_op rfl).trans rfl)
        simp only [Tr.all]; exact does_leaf e.symm rfl
theorem t_does11f (a : Bd) (b : Bd) (hb0 : isU a.1.1 = true) (hb1 : isU a.1.2 = true) (hb2 : isU a.2.1 = true) (hb3 : isU a.2.2 = true) (hb4 : isI a.3.1 = true) (hb5 : isI a.3.2 = true) (hb6 : isU a.4.1 = true) (hb7 : isU a.4.2 = true) (hb8 : isI a.5.1 = true) (hb9 : isI a.5.2 = true) (hb10 : isU b.1.1 = true) (hb11 : isU b.1.2 = true) (hb12 : isU b.2.1 = true) (hb13 : isU b.2.2 = true) (hb14 : isI b.3.1 = true) (hb15 : isI b.3.2 = true) (hb16 : isU b.4.1 = true) (hb17 : isU b.4.2 = true) (hb18 : isI b.5.1 = true) (hb19 : isI b.5.2 = true) (ρ : Nat → Nat) (w : World) : Calls Tryz.prog 17 (enV [.s (some .u8), .s none, .a [some .u64, some .u64, some .u64, some .u64, some .i64, some .i64, some .u64, some .u64, some .i64, some .i64], .a [some .u64, some .u64, some .u64, some .u64, some .i64, some .i64, some .u64, some .u64, some .i64, some .i64]] ([11, a.1.1, a.1.2, a.2.1, a.2.2, a.3.1, a.3.2, a.4.1, a.4.2, a.5.1, a.5.2, b.1.1, b.1.2, b.2.1, b.2.2, b.3.1, b.3.2, b.4.1, b.4.2, b.5.1, b.5.2], [false])).toArray w fun e w' => e = .returned (V.den ρ (.tup [.agg (cB (doesB 11 false a b)), .c (.si .i64 (doesE 11))])) ∧ Below w.heap.size w w' := by
  refine pure_to nameOK oks_L05T_0 (dOK oks_L05T_0) 300 [.u (.c (.li .u8 11)), .u (.c (.lb false)), .u (.agg (cB a)), .u (.agg (cB b))] (T := (.br (bNone a) (.leaf (.val (.tup [(.agg cN), (.c (.li .i64 0))]))) (.br (bNone b) (.leaf (.val (.tup [(.agg cN), (.c (.li .i64 0))]))) (a10 a (.br (isU 32) (a10 b (.br (isU 32) (.br (bNone (lowB a 32)) (.leaf (.val (.tup [(.agg cN), (.c (.li .i64 0))]))) (.br (bNone (lowB b 32)) (.leaf (.val (.tup [(.agg cN), (.c (.li .i64 0))]))) (a10 (lowB b 32) (.br (isU 32) (.leaf (.val (.tup [(.agg (cB (lowB (lowB b 32) 32))), (.c (.li .i64 0))]))) (.no 98))))) (.no 98))) (.no 98)))))) (by kernel_rfl) ρ rfl ?_ w
  · have ra : Raw5 a := raw_of hb0 hb1 hb2 hb3 hb4 hb5 hb6 hb7 hb8 hb9
    have rb : Raw5 b := raw_of hb10 hb11 hb12 hb13 hb14 hb15 hb16 hb17 hb18 hb19
    have rla : Raw5 (lowB a 32) := lowB_raw ra
    have rlb : Raw5 (lowB b 32) := lowB_raw rb
    have a0 : isU (lowB a 32).1.1 = true := raw_t1 rla
    have a1 : isU (lowB a 32).1.2 = true := raw_t2 rla
    have a2 : isU (lowB a 32).2.1 = true := raw_u1 rla
    have a3 : isU (lowB a 32).2.2 = true := raw_u2 rla
    have a4 : isI (lowB a 32).3.1 = true := raw_s1 rla
    have a5 : isI (lowB a 32).3.2 = true := raw_s2 rla
    have a6 : isU (lowB a 32).4.1 = true := raw_w1 rla
    have a7 : isU (lowB a 32).4.2 = true := raw_w2 rla
    have a8 : isI (lowB a 32).5.1 = true := raw_v1 rla
    have a9 : isI (lowB a 32).5.2 = true := raw_v2 rla
    have b0 : isU (lowB b 32).1.1 = true := raw_t1 rlb
    have b1 : isU (lowB b 32).1.2 = true := raw_t2 rlb
    have b2 : isU (lowB b 32).2.1 = true := raw_u1 rlb
    have b3 : isU (lowB b 32).2.2 = true := raw_u2 rlb
    have b4 : isI (lowB b 32).3.1 = true := raw_s1 rlb
    have b5 : isI (lowB b 32).3.2 = true := raw_s2 rlb
    have b6 : isU (lowB b 32).4.1 = true := raw_w1 rlb
    have b7 : isU (lowB b 32).4.2 = true := raw_w2 rlb
    have b8 : isI (lowB b 32).5.1 = true := raw_v1 rlb
    have b9 : isI (lowB b 32).5.2 = true := raw_v2 rlb
    refine br2 (fun k1 => ?_) (fun k1 => ?_)
    · have e : doesB 11 false a b = nothing := does_na (by decide) k1
      simp only [Tr.all]; rw [e]; try rfl
    · refine br2 (fun k2 => ?_) (fun k2 => ?_)
      · have e : doesB 11 false a b = nothing := does_nb (by decide) k1 k2
        simp only [Tr.all]; rw [e]; try rfl
      · refine ask10 (b := a) (ra) ?_
        refine askB (by first | with_reducible assumption | decide) ?_
        refine ask10 (b := b) (rb) ?_
        refine askB (by first | with_reducible assumption | decide) ?_
        refine br2 (fun k3 => ?_) (fun k3 => ?_)
        · have e : doesB 11 false a b = nothing := (does_h (by decide) k1 k2).trans (half_na rfl k3)
          simp only [Tr.all]; rw [e]; try rfl
        · refine br2 (fun k4 => ?_) (fun k4 => ?_)
          · have e : doesB 11 false a b = nothing := (does_h (by decide) k1 k2).trans (half_nb rfl k3 k4)
            simp only [Tr.all]; rw [e]; try rfl
          · refine ask10 (b := (lowB b 32)) (lowB_raw (rb)) ?_
            refine askB (by first | with_reducible assumption | decide) ?_
            have e : doesB 11 false a b = lowB (lowB b 32) 32 := (does_h (by decide) k1 k2).trans ((half_op rfl k3 k4).trans rfl)
            simp only [Tr.all]; exact does_leaf e.symm rfl
theorem t_does12t (a : Bd) (b : Bd) (hb0 : isU a.1.1 = true) (hb1 : isU a.1.2 = true) (hb2 : isU a.2.1 = true) (hb3 : isU a.2.2 = true) (hb4 : isI a.3.1 = true) (hb5 : isI a.3.2 = true) (hb6 : isU a.4.1 = true) (hb7 : isU a.4.2 = true) (hb8 : isI a.5.1 = true) (hb9 : isI a.5.2 = true) (hb10 : isU b.1.1 = true) (hb11 : isU b.1.2 = true) (hb12 : isU b.2.1 = true) (hb13 : isU b.2.2 = true) (hb14 : isI b.3.1 = true) (hb15 : isI b.3.2 = true) (hb16 : isU b.4.1 = true) (hb17 : isU b.4.2 = true) (hb18 : isI b.5.1 = true) (hb19 : isI b.5.2 = true) (ρ : Nat → Nat) (w : World) : Calls Tryz.prog 17 (enV [.s (some .u8), .s none, .a [some .u64, some .u64, some .u64, some .u64, some .i64, some .i64, some .u64, some .u64, some .i64, some .i64], .a [some .u64, some .u64, some .u64, some .u64, some .i64, some .i64, some .u64, some .u64, some .i64, some .i64]] ([12, a.1.1, a.1.2, a.2.1, a.2.2, a.3.1, a.3.2, a.4.1, a.4.2, a.5.1, a.5.2, b.1.1, b.1.2, b.2.1, b.2.2, b.3.1, b.3.2, b.4.1, b.4.2, b.5.1, b.5.2], [true])).toArray w fun e w' => e = .returned (V.den ρ (.tup [.agg (cB (doesB 12 true a b)), .c (.si .i64 (doesE 12))])) ∧ Below w.heap.size w w' := by
  refine pure_to nameOK oks_L05T_0 (dOK oks_L05T_0) 300 [.u (.c (.li .u8 12)), .u (.c (.lb true)), .u (.agg (cB a)), .u (.agg (cB b))] (T := (.br (bNone a) (.leaf (.val (.tup [(.agg cN), (.c (.li .i64 0))]))) (.br (bNone b) (.leaf (.val (.tup [(.agg cN), (.c (.li .i64 0))]))) (.br (isU 6) (a10 a (.br (isU (tLowN b.1 6).1) (.leaf (.val (.tup [(.agg (cB (shiftB 12 a (tLowN b.1 6).1 (iEq (tLowN b.1 6).2 0)))), (.c (.li .i64 0))]))) (.no 98))) (.no 98))))) (by kernel_rfl) ρ rfl ?_ w
  · have ra : Raw5 a := raw_of hb0 hb1 hb2 hb3 hb4 hb5 hb6 hb7 hb8 hb9
    have rb : Raw5 b := raw_of hb10 hb11 hb12 hb13 hb14 hb15 hb16 hb17 hb18 hb19
    have f1 : isU (tLowN b.1 6).1 = true := (lowN_uu rb.t 6).1
    have f2 : isU (tLowN b.1 5).1 = true := (lowN_uu rb.t 5).1
    refine br2 (fun k1 => ?_) (fun k1 => ?_)
    · have e : doesB 12 true a b = nothing := does_na (by decide) k1
      simp only [Tr.all]; rw [e]; try rfl
    · refine br2 (fun k2 => ?_) (fun k2 => ?_)
      · have e : doesB 12 true a b = nothing := does_nb (by decide) k1 k2
        simp only [Tr.all]; rw [e]; try rfl
      · refine askB (by first | with_reducible assumption | decide) ?_
        refine ask10 (b := a) (ra) ?_
        refine askB (by first | with_reducible assumption | decide) ?_
        have e : doesB 12 true a b = shiftB 12 a (tLowN b.t 6).lo (iEq (tLowN b.t 6).hi 0) := (does_w (by decide) k1 k2).trans (wide_sh rfl)
        simp only [Tr.all]; exact does_leaf e.symm rfl
theorem t_does12f (a : Bd) (b : Bd) (hb0 : isU a.1.1 = true) (hb1 : isU a.1.2 = true) (hb2 : isU a.2.1 = true) (hb3 : isU a.2.2 = true) (hb4 : isI a.3.1 = true) (hb5 : isI a.3.2 = true) (hb6 : isU a.4.1 = true) (hb7 : isU a.4.2 = true) (hb8 : isI a.5.1 = true) (hb9 : isI a.5.2 = true) (hb10 : isU b.1.1 = true) (hb11 : isU b.1.2 = true) (hb12 : isU b.2.1 = true) (hb13 : isU b.2.2 = true) (hb14 : isI b.3.1 = true) (hb15 : isI b.3.2 = true) (hb16 : isU b.4.1 = true) (hb17 : isU b.4.2 = true) (hb18 : isI b.5.1 = true) (hb19 : isI b.5.2 = true) (ρ : Nat → Nat) (w : World) : Calls Tryz.prog 17 (enV [.s (some .u8), .s none, .a [some .u64, some .u64, some .u64, some .u64, some .i64, some .i64, some .u64, some .u64, some .i64, some .i64], .a [some .u64, some .u64, some .u64, some .u64, some .i64, some .i64, some .u64, some .u64, some .i64, some .i64]] ([12, a.1.1, a.1.2, a.2.1, a.2.2, a.3.1, a.3.2, a.4.1, a.4.2, a.5.1, a.5.2, b.1.1, b.1.2, b.2.1, b.2.2, b.3.1, b.3.2, b.4.1, b.4.2, b.5.1, b.5.2], [false])).toArray w fun e w' => e = .returned (V.den ρ (.tup [.agg (cB (doesB 12 false a b)), .c (.si .i64 (doesE 12))])) ∧ Below w.heap.size w w' := by
  have key : ∀ longB : Bd → Bd, runp Tryz.prog [s_bNone, s_sync, s_tLowN, s_shift, s_lowB, s_longF longB, s_addB, s_subB, s_mul, L04.s_Mul, s_fits, L04.s_Div, L04.s_Mod, s_tAnd, s_tOr, s_tXor, s_bConst] (drawx Tryz.prog [s_bNone, s_sync, s_tLowN, s_shift, s_lowB, s_longF longB, s_addB, s_subB, s_mul, L04.s_Mul, s_fits, L04.s_Div, L04.s_Mod, s_tAnd, s_tOr, s_tXor, s_bConst]) 300 17 [.u (.c (.li .u8 12)), .u (.c (.lb false)), .u (.agg (cB a)), .u (.agg (cB b))] = (.br (bNone a) (.leaf (.val (.tup [(.agg cN), (.c (.li .i64 0))]))) (.br (bNone b) (.leaf (.val (.tup [(.agg cN), (.c (.li .i64 0))]))) (.br (isU 5) (.br (isU a.1.1) (.br (isU a.1.2) (.br (isU a.2.1) (.br (isU a.2.2) (.br (isI a.3.1) (.br (isI a.3.2) (.br (isU a.4.1) (.br (isU a.4.2) (.br (isI a.5.1) (.br (isI a.5.2) (.br (isU 32) (.br (isU (lowB a 32).1.1) (.br (isU (lowB a 32).1.2) (.br (isU (lowB a 32).2.1) (.br (isU (lowB a 32).2.2) (.br (isI (lowB a 32).3.1) (.br (isI (lowB a 32).3.2) (.br (isU (lowB a 32).4.1) (.br (isU (lowB a 32).4.2) (.br (isI (lowB a 32).5.1) (.br (isI (lowB a 32).5.2) (.br (isU (longB (lowB a 32)).1.1) (.br (isU (longB (lowB a 32)).1.2) (.br (isU (longB (lowB a 32)).2.1) (.br (isU (longB (lowB a 32)).2.2) (.br (isI (longB (lowB a 32)).3.1) (.br (isI (longB (lowB a 32)).3.2) (.br (isU (longB (lowB a 32)).4.1) (.br (isU (longB (lowB a 32)).4.2) (.br (isI (longB (lowB a 32)).5.1) (.br (isI (longB (lowB a 32)).5.2) (.br (isU (tLowN b.1 5).1) (.br (isU (shiftB 12 (longB (lowB a 32)) (tLowN b.1 5).1 (iEq (tLowN b.1 5).2 0)).1.1) (.br (isU (shiftB 12 (longB (lowB a 32)) (tLowN b.1 5).1 (iEq (tLowN b.1 5).2 0)).1.2) (.br (isU (shiftB 12 (longB (lowB a 32)) (tLowN b.1 5).1 (iEq (tLowN b.1 5).2 0)).2.1) (.br (isU (shiftB 12 (longB (lowB a 32)) (tLowN b.1 5).1 (iEq (tLowN b.1 5).2 0)).2.2) (.br (isI (shiftB 12 (longB (lowB a 32)) (tLowN b.1 5).1 (iEq (tLowN b.1 5).2 0)).3.1) (.br (isI (shiftB 12 (longB (lowB a 32)) (tLowN b.1 5).1 (iEq (tLowN b.1 5).2 0)).3.2) (.br (isU (shiftB 12 (longB (lowB a 32)) (tLowN b.1 5).1 (iEq (tLowN b.1 5).2 0)).4.1) (.br (isU (shiftB 12 (longB (lowB a 32)) (tLowN b.1 5).1 (iEq (tLowN b.1 5).2 0)).4.2) (.br (isI (shiftB 12 (longB (lowB a 32)) (tLowN b.1 5).1 (iEq (tLowN b.1 5).2 0)).5.1) (.br (isI (shiftB 12 (longB (lowB a 32)) (tLowN b.1 5).1 (iEq (tLowN b.1 5).2 0)).5.2) (.br (isU 32) (.leaf (.val (.tup [(.agg [(.si .u64 (lowB (shiftB 12 (longB (lowB a 32)) (tLowN b.1 5).1 (iEq (tLowN b.1 5).2 0)) 32).1.1), (.si .u64 (lowB (shiftB 12 (longB (lowB a 32)) (tLowN b.1 5).1 (iEq (tLowN b.1 5).2 0)) 32).1.2), (.si .u64 (lowB (shiftB 12 (longB (lowB a 32)) (tLowN b.1 5).1 (iEq (tLowN b.1 5).2 0)) 32).2.1), (.si .u64 (lowB (shiftB 12 (longB (lowB a 32)) (tLowN b.1 5).1 (iEq (tLowN b.1 5).2 0)) 32).2.2), (.si .i64 (lowB (shiftB 12 (longB (lowB a 32)) (tLowN b.1 5).1 (iEq (tLowN b.1 5).2 0)) 32).3.1), (.si .i64 (lowB (shiftB 12 (longB (lowB a 32)) (tLowN b.1 5).1 (iEq (tLowN b.1 5).2 0)) 32).3.2), (.si .u64 (lowB (shiftB 12 (longB (lowB a 32)) (tLowN b.1 5).1 (iEq (tLowN b.1 5).2 0)) 32).4.1), (.si .u64 (lowB (shiftB 12 (longB (lowB a 32)) (tLowN b.1 5).1 (iEq (tLowN b.1 5).2 0)) 32).4.2), (.si .i64 (lowB (shiftB 12 (longB (lowB a 32)) (tLowN b.1 5).1 (iEq (tLowN b.1 5).2 0)) 32).5.1), (.si .i64 (lowB (shiftB 12 (longB (lowB a 32)) (tLowN b.1 5).1 (iEq (tLowN b.1 5).2 0)) 32).5.2)]), (.c (.li .i64 0))]))) (.no 98)) (.no 98)) (.no 98)) (.no 98)) (.no 98)) (.no 98)) (.no 98)) (.no 98)) (.no 98)) (.no 98)) (.no 98)) (.no 98)) (.no 98)) (.no 98)) (.no 98)) (.no 98)) (.no 98)) (.no 98)) (.no 98)) (.no 98)) (.no 98)) (.no 98)) (.no 98)) (.no 98)) (.no 98)) (.no 98)) (.no 98)) (.no 98)) (.no 98)) (.no 98)) (.no 98)) (.no 98)) (.no 98)) (.no 98)) (.no 98)) (.no 98)) (.no 98)) (.no 98)) (.no 98)) (.no 98)) (.no 98)) (.no 98)) (.no 98)) (.no 98)))) := fun longB => by kernel_rfl
  refine pure_to nameOK oks_L05T_0 (dOK oks_L05T_0) 300 [.u (.c (.li .u8 12)), .u (.c (.lb false)), .u (.agg (cB a)), .u (.agg (cB b))] (T := (.br (bNone a) (.leaf (.val (.tup [(.agg cN), (.c (.li .i64 0))]))) (.br (bNone b) (.leaf (.val (.tup [(.agg cN), (.c (.li .i64 0))]))) (.br (isU 5) (a10 a (.br (isU 32) (a10 (lowB a 32) (a10 (longB (lowB a 32)) (.br (isU (tLowN b.1 5).1) (a10 (shiftB 12 (longB (lowB a 32)) (tLowN b.1 5).1 (iEq (tLowN b.1 5).2 0)) (.br (isU 32) (.leaf (.val (.tup [(.agg (cB (lowB (shiftB 12 (longB (lowB a 32)) (tLowN b.1 5).1 (iEq (tLowN b.1 5).2 0)) 32))), (.c (.li .i64 0))]))) (.no 98))) (.no 98)))) (.no 98))) (.no 98))))) (key longB) ρ rfl ?_ w
  · have ra : Raw5 a := raw_of hb0 hb1 hb2 hb3 hb4 hb5 hb6 hb7 hb8 hb9
    have rb : Raw5 b := raw_of hb10 hb11 hb12 hb13 hb14 hb15 hb16 hb17 hb18 hb19
    have f1 : isU (tLowN b.1 6).1 = true := (lowN_uu rb.t 6).1
    have f2 : isU (tLowN b.1 5).1 = true := (lowN_uu rb.t 5).1
    have rla : Raw5 (lowB a 32) := lowB_raw ra
    have rlb : Raw5 (lowB b 32) := lowB_raw rb
    have a0 : isU (lowB a 32).1.1 = true := raw_t1 rla
    have a1 : isU (lowB a 32).1.2 = true := raw_t2 rla
    have a2 : isU (lowB a 32).2.1 = true := raw_u1 rla
    have a3 : isU (lowB a 32).2.2 = true := raw_u2 rla
    have a4 : isI (lowB a 32).3.1 = true := raw_s1 rla
    have a5 : isI (lowB a 32).3.2 = true := raw_s2 rla
    have a6 : isU (lowB a 32).4.1 = true := raw_w1 rla
    have a7 : isU (lowB a 32).4.2 = true := raw_w2 rla
    have a8 : isI (lowB a 32).5.1 = true := raw_v1 rla
    have a9 : isI (lowB a 32).5.2 = true := raw_v2 rla
    have b0 : isU (lowB b 32).1.1 = true := raw_t1 rlb
    have b1 : isU (lowB b 32).1.2 = true := raw_t2 rlb
    have b2 : isU (lowB b 32).2.1 = true := raw_u1 rlb
    have b3 : isU (lowB b 32).2.2 = true := raw_u2 rlb
    have b4 : isI (lowB b 32).3.1 = true := raw_s1 rlb
    have b5 : isI (lowB b 32).3.2 = true := raw_s2 rlb
    have b6 : isU (lowB b 32).4.1 = true := raw_w1 rlb
    have b7 : isU (lowB b 32).4.2 = true := raw_w2 rlb
    have b8 : isI (lowB b 32).5.1 = true := raw_v1 rlb
    have b9 : isI (lowB b 32).5.2 = true := raw_v2 rlb
    refine br2 (fun k1 => ?_) (fun k1 => ?_)
    · have e : doesB 12 false a b = nothing := does_na (by decide) k1
      simp only [Tr.all]; rw [e]; try rfl
    · refine br2 (fun k2 => ?_) (fun k2 => ?_)
      · have e : doesB 12 false a b = nothing := does_nb (by decide) k1 k2
        simp only [Tr.all]; rw [e]; try rfl
      · refine askB (by first | with_reducible assumption | decide) ?_
        refine ask10 (b := a) (ra) ?_
        refine askB (by first | with_reducible assumption | decide) ?_
        refine ask10 (b := (lowB a 32)) (lowB_raw (ra)) ?_
        refine ask10 (b := (longB (lowB a 32))) (longB_raw (lowB_raw (ra))) ?_
        refine askB (by first | with_reducible assumption | decide) ?_
        refine ask10 (b := (shiftB 12 (longB (lowB a 32)) (tLowN b.1 5).1 (iEq (tLowN b.1 5).2 0))) (shiftB_raw (longB_raw (lowB_raw (ra)))) ?_
        refine askB (by first | with_reducible assumption | decide) ?_
        have e : doesB 12 false a b = lowB (shiftB 12 (longB (lowB a 32)) (tLowN b.t 5).lo (iEq (tLowN b.t 5).hi 0)) 32 := (does_h (by decide) k1 k2).trans ((half_sh rfl).trans (by rw [if_pos rfl]))
        simp only [Tr.all]; exact does_leaf e.symm rfl
theorem t_does13t (a : Bd) (b : Bd) (hb0 : isU a.1.1 = true) (hb1 : isU a.1.2 = true) (hb2 : isU a.2.1 = true) (hb3 : isU a.2.2 = true) (hb4 : isI a.3.1 = true) (hb5 : isI a.3.2 = true) (hb6 : isU a.4.1 = true) (hb7 : isU a.4.2 = true) (hb8 : isI a.5.1 = true) (hb9 : isI a.5.2 = true) (hb10 : isU b.1.1 = true) (hb11 : isU b.1.2 = true) (hb12 : isU b.2.1 = true) (hb13 : isU b.2.2 = true) (hb14 : isI b.3.1 = true) (hb15 : isI b.3.2 = true) (hb16 : isU b.4.1 = true) (hb17 : isU b.4.2 = true) (hb18 : isI b.5.1 = true) (hb19 : isI b.5.2 = true) (ρ : Nat → Nat) (w : World) : Calls Tryz.prog 17 (enV [.s (some .u8), .s none, .a [some .u64, some .u64, some .u64, some .u64, some .i64, some .i64, some .u64, some .u64, some .i64, some .i64], .a [some .u64, some .u64, some .u64, some .u64, some .i64, some .i64, some .u64, some .u64, some .i64, some .i64]] ([13, a.1.1, a.1.2, a.2.1, a.2.2, a.3.1, a.3.2, a.4.1, a.4.2, a.5.1, a.5.2, b.1.1, b.1.2, b.2.1, b.2.2, b.3.1, b.3.2, b.4.1, b.4.2, b.5.1, b.5.2], [true])).toArray w fun e w' => e = .returned (V.den ρ (.tup [.agg (cB (doesB 13 true a b)), .c (.si .i64 (doesE 13))])) ∧ Below w.heap.size w w' := by
  refine pure_to nameOK oks_L05T_0 (dOK oks_L05T_0) 300 [.u (.c (.li .u8 13)), .u (.c (.lb true)), .u (.agg (cB a)), .u (.agg (cB b))] (T := (.leaf (.val (.tup [(.agg [(.li .u64 0), (.li .u64 0), (.li .u64 0), (.li .u64 0), (.li .i64 0), (.li .i64 0), (.li .u64 0), (.li .u64 0), (.li .i64 0), (.li .i64 0)]), (.c (.li .i64 20))])))) (by kernel_rfl) ρ rfl ?_ w
  · simp only [Tr.all]; rfl
theorem t_does13f (a : Bd) (b : Bd) (hb0 : isU a.1.1 = true) (hb1 : isU a.1.2 = true) (hb2 : isU a.2.1 = true) (hb3 : isU a.2.2 = true) (hb4 : isI a.3.1 = true) (hb5 : isI a.3.2 = true) (hb6 : isU a.4.1 = true) (hb7 : isU a.4.2 = true) (hb8 : isI a.5.1 = true) (hb9 : isI a.5.2 = true) (hb10 : isU b.1.1 = true) (hb11 : isU b.1.2 = true) (hb12 : isU b.2.1 = true) (hb13 : isU b.2.2 = true) (hb14 : isI b.3.1 = true) (hb15 : isI b.3.2 = true) (hb16 : isU b.4.1 = true) (hb17 : isU b.4.2 = true) (hb18 : isI b.5.1 = true) (hb19 : isI b.5.2 = true) (ρ : Nat → Nat) (w : World) : Calls Tryz.prog 17 (enV [.s (some .u8), .s none, .a [some .u64, some .u64, some .u64, some .u64, some .i64, some .i64, some .u64, some .u64, some .i64, some .i64], .a [some .u64, some .u64, some .u64, some .u64, some .i64, some .i64, some .u64, some .u64, some .i64, some .i64]] ([13, a.1.1, a.1.2, a.2.1, a.2.2, a.3.1, a.3.2, a.4.1, a.4.2, a.5.1, a.5.2, b.1.1, b.1.2, b.2.1, b.2.2, b.3.1, b.3.2, b.4.1, b.4.2, b.5.1, b.5.2], [false])).toArray w fun e w' => e = .returned (V.den ρ (.tup [.agg (cB (doesB 13 false a b)), .c (.si .i64 (doesE 13))])) ∧ Below w.heap.size w w' := by
  refine pure_to nameOK oks_L05T_0 (dOK oks_L05T_0) 300 [.u (.c (.li .u8 13)), .u (.c (.lb false)), .u (.agg (cB a)), .u (.agg (cB b))] (T := (.leaf (.val (.tup [(.agg [(.li .u64 0), (.li .u64 0), (.li .u64 0), (.li .u64 0), (.li .i64 0), (.li .i64 0), (.li .u64 0), (.li .u64 0), (.li .i64 0), (.li .i64 0)]), (.c (.li .i64 20))])))) (by kernel_rfl) ρ rfl ?_ w
  · simp only [Tr.all]; rfl
theorem t_does14t (a : Bd) (b : Bd) (hb0 : isU a.1.1 = true) (hb1 : isU a.1.2 = true) (hb2 : isU a.2.1 = true) (hb3 : isU a.2.2 = true) (hb4 : isI a.3.1 = true) (hb5 : isI a.3.2 = true) (hb6 : isU a.4.1 = true) (hb7 : isU a.4.2 = true) (hb8 : isI a.5.1 = true) (hb9 : isI a.5.2 = true) (hb10 : isU b.1.1 = true) (hb11 : isU b.1.2 = true) (hb12 : isU b.2.1 = true) (hb13 : isU b.2.2 = true) (hb14 : isI b.3.1 = true) (hb15 : isI b.3.2 = true) (hb16 : isU b.4.1 = true) (hb17 : isU b.4.2 = true) (hb18 : isI b.5.1 = true) (hb19 : isI b.5.2 = true) (ρ : Nat → Nat) (w : World) : Calls Tryz.prog 17 (enV [.s (some .u8), .s none, .a [some .u64, some .u64, some .u64, some .u64, some .i64, some .i64, some .u64, some .u64, some .i64, some .i64], .a [some .u64, some .u64, some .u64, some .u64, some .i64, some .i64, some .u64, some .u64, some .i64, some .i64]] ([14, a.1.1, a.1.2, a.2.1, a.2.2, a.3.1, a.3.2, a.4.1, a.4.2, a.5.1, a.5.2, b.1.1, b.1.2, b.2.1, b.2.2, b.3.1, b.3.2, b.4.1, b.4.2, b.5.1, b.5.2], [true])).toArray w fun e w' => e = .returned (V.den ρ (.tup [.agg (cB (doesB 14 true a b)), .c (.si .i64 (doesE 14))])) ∧ Below w.heap.size w w' := by
  refine pure_to nameOK oks_L05T_0 (dOK oks_L05T_0) 300 [.u (.c (.li .u8 14)), .u (.c (.lb true)), .u (.agg (cB a)), .u (.agg (cB b))] (T := (.leaf (.val (.tup [(.agg [(.li .u64 0), (.li .u64 0), (.li .u64 0), (.li .u64 0), (.li .i64 0), (.li .i64 0), (.li .u64 0), (.li .u64 0), (.li .i64 0), (.li .i64 0)]), (.c (.li .i64 20))])))) (by kernel_rfl) ρ rfl ?_ w
  · simp only [Tr.all]; rfl
theorem t_does14f (a : Bd) (b : Bd) (hb0 : isU a.1.1 = true) (hb1 : isU a.1.2 = true) (hb2 : isU a.2.1 = true) (hb3 : isU a.2.2 = true) (hb4 : isI a.3.1 = true) (hb5 : isI a.3.2 = true) (hb6 : isU a.4.1 = true) (hb7 : isU a.4.2 = true) (hb8 : isI a.5.1 = true) (hb9 : isI a.5.2 = true) (hb10 : isU b.1.1 = true) (hb11 : isU b.1.2 = true) (hb12 : isU b.2.1 = true) (hb13 : isU b.2.2 = true) (hb14 : isI b.3.1 = true) (hb15 : isI b.3.2 = true) (hb16 : isU b.4.1 = true) (hb17 : isU b.4.2 = true) (hb18 : isI b.5.1 = true) (hb19 : isI b.5.2 = true) (ρ : Nat → Nat) (w : World) : Calls Tryz.prog 17 (enV [.s (some .u8), .s none, .a [some .u64, some .u64, some .u64, some .u64, some .i64, some .i64, some .u64, some .u64, some .i64, some .i64], .a [some .u64, some .u64, some .u64, some .u64, some .i64, some .i64, some .u64, some .u64, some .i64, some .i64]] ([14, a.1.1, a.1.2, a.2.1, a.2.2, a.3.1, a.3.2, a.4.1, a.4.2, a.5.1, a.5.2, b.1.1, b.1.2, b.2.1, b.2.2, b.3.1, b.3.2, b.4.1, b.4.2, b.5.1, b.5.2], [false])).toArray w fun e w' => e = .returned (V.den ρ (.tup [.agg (cB (doesB 14 false a b)), .c (.si .i64 (doesE 14))])) ∧ Below w.heap.size w w' := by
  refine pure_to nameOK oks_L05T_0 (dOK oks_L05T_0) 300 [.u (.c (.li .u8 14)), .u (.c (.lb false)), .u (.agg (cB a)), .u (.agg (cB b))] (T := (.leaf (.val (.tup [(.agg [(.li .u64 0), (.li .u64 0), (.li .u64 0), (.li .u64 0), (.li .i64 0), (.li .i64 0), (.li .u64 0), (.li .u64 0), (.li .i64 0), (.li .i64 0)]), (.c (.li .i64 20))])))) (by kernel_rfl) ρ rfl ?_ w
  · simp only [Tr.all]; rfl
theorem t_does15t (a : Bd) (b : Bd) (hb0 : isU a.1.1 = true) (hb1 : isU a.1.2 = true) (hb2 : isU a.2.1 = true) (hb3 : isU a.2.2 = true) (hb4 : isI a.3.1 = true) (hb5 : isI a.3.2 = true) (hb6 : isU a.4.1 = true) (hb7 : isU a.4.2 = true) (hb8 : isI a.5.1 = true) (hb9 : isI a.5.2 = true) (hb10 : isU b.1.1 = true) (hb11 : isU b.1.2 = true) (hb12 : isU b.2.1 = true) (hb13 : isU b.2.2 = true) (hb14 : isI b.3.1 = true) (hb15 : isI b.3.2 = true) (hb16 : isU b.4.1 = true) (hb17 : isU b.4.2 = true) (hb18 : isI b.5.1 = true) (hb19 : isI b.5.2 = true) (ρ : Nat → Nat) (w : World) : Calls Tryz.prog 17 (enV [.s (some .u8), .s none, .a [some .u64, some .u64, some .u64, some .u64, some .i64, some .i64, some .u64, some .u64, some .i64, some .i64], .a [some .u64, some .u64, some .u64, some .u64, some .i64, some .i64, some .u64, some .u64, some .i64, some .i64]] ([15, a.1.1, a.1.2, a.2.1, a.2.2, a.3.1, a.3.2, a.4.1, a.4.2, a.5.1, a.5.2, b.1.1, b.1.2, b.2.1, b.2.2, b.3.1, b.3.2, b.4.1, b.4.2, b.5.1, b.5.2], [true])).toArray w fun e w' => e = .returned (V.den ρ (.tup [.agg (cB (doesB 15 true a b)), .c (.si .i64 (doesE 15))])) ∧ Below w.heap.size w w' := by
  refine pure_to nameOK oks_L05T_0 (dOK oks_L05T_0) 300 [.u (.c (.li .u8 15)), .u (.c (.lb true)), .u (.agg (cB a)), .u (.agg (cB b))] (T := (.leaf (.val (.tup [(.agg [(.li .u64 0), (.li .u64 0), (.li .u64 0), (.li .u64 0), (.li .i64 0), (.li .i64 0), (.li .u64 0), (.li .u64 0), (.li .i64 0), (.li .i64 0)]), (.c (.li .i64 20))])))) (by kernel_rfl) ρ rfl ?_ w
  · simp only [Tr.all]; rfl
theorem t_does15f (a : Bd) (b : Bd) (hb0 : isU a.1.1 = true) (hb1 : isU a.1.2 = true) (hb2 : isU a.2.1 = true) (hb3 : isU a.2.2 = true) (hb4 : isI a.3.1 = true) (hb5 : isI a.3.2 = true) (hb6 : isU a.4.1 = true) (hb7 : isU a.4.2 = true) (hb8 : isI a.5.1 = true) (hb9 : isI a.5.2 = true) (hb10 : isU b.1.1 = true) (hb11 : isU b.1.2 = true) (hb12 : isU b.2.1 = true) (hb13 : isU b.2.2 = true) (hb14 : isI b.3.1 = true) (hb15 : isI b.3.2 = true) (hb16 : isU b.4.1 = true) (hb17 : isU b.4.2 = true) (hb18 : isI b.5.1 = true) (hb19 : isI b.5.2 = true) (ρ : Nat → Nat) (w : World) : Calls Tryz.prog 17 (enV [.s (some .u8), .s none, .a [some .u64, some .u64, some .u64, some .u64, some .i64, some .i64, some .u64, some .u64, some .i64, some .i64], .a [some .u64, some .u64, some .u64, some .u64, some .i64, some .i64, some .u64, some .u64, some .i64, some .i64]] ([15, a.1.1, a.1.2, a.2.1, a.2.2, a.3.1, a.3.2, a.4.1, a.4.2, a.5.1, a.5.2, b.1.1, b.1.2, b.2.1, b.2.2, b.3.1, b.3.2, b.4.1, b.4.2, b.5.1, b.5.2], [false])).toArray w fun e w' => e = .returned (V.den ρ (.tup [.agg (cB (doesB 15 false a b)), .c (.si .i64 (doesE 15))])) ∧ Below w.heap.size w w' := by
  refine pure_to nameOK oks_L05T_0 (dOK oks_L05T_0) 300 [.u (.c (.li .u8 15)), .u (.c (.lb false)), .u (.agg (cB a)), .u (.agg (cB b))] (T := (.leaf (.val (.tup [(.agg [(.li .u64 0), (.li .u64 0), (.li .u64 0), (.li .u64 0), (.li .i64 0), (.li .i64 0), (.li .u64 0), (.li .u64 0), (.li .i64 0), (.li .i64 0)]), (.c (.li .i64 20))])))) (by kernel_rfl) ρ rfl ?_ w
  · simp only [Tr.all]; rfl
theorem t_does (c : Int) (wide : Bool) (a : Bd) (b : Bd) (hb0 : isC c = true) (hb1 : isU a.1.1 = true) (hb2 : isU a.1.2 = true) (hb3 : isU a.2.1 = true) (hb4 : isU a.2.2 = true) (hb5 : isI a.3.1 = true) (hb6 : isI a.3.2 = true) (hb7 : isU a.4.1 = true) (hb8 : isU a.4.2 = true) (hb9 : isI a.5.1 = true) (hb10 : isI a.5.2 = true) (hb11 : isU b.1.1 = true) (hb12 : isU b.1.2 = true) (hb13 : isU b.2.1 = true) (hb14 : isU b.2.2 = true) (hb15 : isI b.3.1 = true) (hb16 : isI b.3.2 = true) (hb17 : isU b.4.1 = true) (hb18 : isU b.4.2 = true) (hb19 : isI b.5.1 = true) (hb20 : isI b.5.2 = true) (ρ : Nat → Nat) (w : World) : Calls Tryz.prog 17 (enV [.s (some .u8), .s none, .a [some .u64, some .u64, some .u64, some .u64, some .i64, some .i64, some .u64, some .u64, some .i64, some .i64], .a [some .u64, some .u64, some .u64, some .u64, some .i64, some .i64, some .u64, some .u64, some .i64, some .i64]] ([c, a.1.1, a.1.2, a.2.1, a.2.2, a.3.1, a.3.2, a.4.1, a.4.2, a.5.1, a.5.2, b.1.1, b.1.2, b.2.1, b.2.2, b.3.1, b.3.2, b.4.1, b.4.2, b.5.1, b.5.2], [wide])).toArray w fun e w' => e = .returned (V.den ρ (.tup [.agg (cB (doesB c wide a b)), .c (.si .i64 (doesE c))])) ∧ Below w.heap.size w w' := by
  have hc := isC_iff.1 hb0
  have hcs : c = 0 ∨ c = 1 ∨ c = 2 ∨ c = 3 ∨ c = 4 ∨ c = 5 ∨ c = 6 ∨ c = 7 ∨ c = 8 ∨ c = 9 ∨ c = 10 ∨ c = 11 ∨ c = 12 ∨ c = 13 ∨ c = 14 ∨ c = 15 := by omega
  rcases hcs with rfl | rfl | rfl | rfl | rfl | rfl | rfl | rfl | rfl | rfl | rfl | rfl | rfl | rfl | rfl | rfl <;> cases wide
  · exact t_does0f a b hb1 hb2 hb3 hb4 hb5 hb6 hb7 hb8 hb9 hb10 hb11 hb12 hb13 hb14 hb15 hb16 hb17 hb18 hb19 hb20 ρ w
  · exact t_does0t a b hb1 hb2 hb3 hb4 hb5 hb6 hb7 hb8 hb9 hb10 hb11 hb12 hb13 hb14 hb15 hb16 hb17 hb18 hb19 hb20 ρ w
  · exact t_does1f a b hb1 hb2 hb3 hb4 hb5 hb6 hb7 hb8 hb9 hb10 hb11 hb12 hb13 hb14 hb15 hb16 hb17 hb18 hb19 hb20 ρ w
  · exact t_does1t a b hb1 hb2 hb3 hb4 hb5 hb6 hb7 hb8 hb9 hb10 hb11 hb12 hb13 hb14 hb15 hb16 hb17 hb18 hb19 hb20 ρ w
  · exact t_does2f a b hb1 hb2 hb3 hb4 hb5 hb6 hb7 hb8 hb9 hb10 hb11 hb12 hb13 hb14 hb15 hb16 hb17 hb18 hb19 hb20 ρ w
  · exact t_does2t a b hb1 hb2 hb3 hb4 hb5 hb6 hb7 hb8 hb9 hb10 hb11 hb12 hb13 hb14 hb15 hb16 hb17 hb18 hb19 hb20 ρ w
  · exact t_does3f a b hb1 hb2 hb3 hb4 hb5 hb6 hb7 hb8 hb9 hb10 hb11 hb12 hb13 hb14 hb15 hb16 hb17 hb18 hb19 hb20 ρ w
  · exact t_does3t a b hb1 hb2 hb3 hb4 hb5 hb6 hb7 hb8 hb9 hb10 hb11 hb12 hb13 hb14 hb15 hb16 hb17 hb18 hb19 hb20 ρ w
  · exact t_does4f a b hb1 hb2 hb3 hb4 hb5 hb6 hb7 hb8 hb9 hb10 hb11 hb12 hb13 hb14 hb15 hb16 hb17 hb18 hb19 hb20 ρ w
  · exact t_does4t a b hb1 hb2 hb3 hb4 hb5 hb6 hb7 hb8 hb9 hb10 hb11 hb12 hb13 hb14 hb15 hb16 hb17 hb18 hb19 hb20 ρ w
  · exact t_does5f a b hb1 hb2 hb3 hb4 hb5 hb6 hb7 hb8 hb9 hb10 hb11 hb12 hb13 hb14 hb15 hb16 hb17 hb18 hb19 hb20 ρ w
  · exact t_does5t a b hb1 hb2 hb3 hb4 hb5 hb6 hb7 hb8 hb9 hb10 hb11 hb12 hb13 hb14 hb15 hb16 hb17 hb18 hb19 hb20 ρ w
  · exact t_does6f a b hb1 hb2 hb3 hb4 hb5 hb6 hb7 hb8 hb9 hb10 hb11 hb12 hb13 hb14 hb15 hb16 hb17 hb18 hb19 hb20 ρ w
  · exact t_does6t a b hb1 hb2 hb3 hb4 hb5 hb6 hb7 hb8 hb9 hb10 hb11 hb12 hb13 hb14 hb15 hb16 hb17 hb18 hb19 hb20 ρ w
  · exact t_does7f a b hb1 hb2 hb3 hb4 hb5 hb6 hb7 hb8 hb9 hb10 hb11 hb12 hb13 hb14 hb15 hb16 hb17 hb18 hb19 hb20 ρ w
  · exact t_does7t a b hb1 hb2 hb3 hb4 hb5 hb6 hb7 hb8 hb9 hb10 hb11 hb12 hb13 hb14 hb15 hb16 hb17 hb18 hb19 hb20 ρ w
  · exact t_does8f a b hb1 hb2 hb3 hb4 hb5 hb6 hb7 hb8 hb9 hb10 hb11 hb12 hb13 hb14 hb15 hb16 hb17 hb18 hb19 hb20 ρ w
  · exact t_does8t a b hb1 hb2 hb3 hb4 hb5 hb6 hb7 hb8 hb9 hb10 hb11 hb12 hb13 hb14 hb15 hb16 hb17 hb18 hb19 hb20 ρ w
  · exact t_does9f a b hb1 hb2 hb3 hb4 hb5 hb6 hb7 hb8 hb9 hb10 hb11 hb12 hb13 hb14 hb15 hb16 hb17 hb18 hb19 hb20 ρ w
  · exact t_does9t a b hb1 hb2 hb3 hb4 hb5 hb6 hb7 hb8 hb9 hb10 hb11 hb12 hb13 hb14 hb15 hb16 hb17 hb18 hb19 hb20 ρ w
  · exact t_does10f a b hb1 hb2 hb3 hb4 hb5 hb6 hb7 hb8 hb9 hb10 hb11 hb12 hb13 hb14 hb15 hb16 hb17 hb18 hb19 hb20 ρ w
  · exact t_does10t a b hb1 hb2 hb3 hb4 hb5 hb6 hb7 hb8 hb9 hb10 hb11 hb12 hb13 hb14 hb15 hb16 hb17 hb18 hb19 hb20 ρ w
  · exact t_does11f a b hb1 hb2 hb3 hb4 hb5 hb6 hb7 hb8 hb9 hb10 hb11 hb12 hb13 hb14 hb15 hb16 hb17 hb18 hb19 hb20 ρ w
  · exact t_does11t a b hb1 hb2 hb3 hb4 hb5 hb6 hb7 hb8 hb9 hb10 hb11 hb12 hb13 hb14 hb15 hb16 hb17 hb18 hb19 hb20 ρ w
  · exact t_does12f a b hb1 hb2 hb3 hb4 hb5 hb6 hb7 hb8 hb9 hb10 hb11 hb12 hb13 hb14 hb15 hb16 hb17 hb18 hb19 hb20 ρ w
  · exact t_does12t a b hb1 hb2 hb3 hb4 hb5 hb6 hb7 hb8 hb9 hb10 hb11 hb12 hb13 hb14 hb15 hb16 hb17 hb18 hb19 hb20 ρ w
  · exact t_does13f a b hb1 hb2 hb3 hb4 hb5 hb6 hb7 hb8 hb9 hb10 hb11 hb12 hb13 hb14 hb15 hb16 hb17 hb18 hb19 hb20 ρ w
  · exact t_does13t a b hb1 hb2 hb3 hb4 hb5 hb6 hb7 hb8 hb9 hb10 hb11 hb12 hb13 hb14 hb15 hb16 hb17 hb18 hb19 hb20 ρ w
  · exact t_does14f a b hb1 hb2 hb3 hb4 hb5 hb6 hb7 hb8 hb9 hb10 hb11 hb12 hb13 hb14 hb15 hb16 hb17 hb18 hb19 hb20 ρ w
  · exact t_does14t a b hb1 hb2 hb3 hb4 hb5 hb6 hb7 hb8 hb9 hb10 hb11 hb12 hb13 hb14 hb15 hb16 hb17 hb18 hb19 hb20 ρ w
  · exact t_does15f a b hb1 hb2 hb3 hb4 hb5 hb6 hb7 hb8 hb9 hb10 hb11 hb12 hb13 hb14 hb15 hb16 hb17 hb18 hb19 hb20 ρ w
  · exact t_does15t a b hb1 hb2 hb3 hb4 hb5 hb6 hb7 hb8 hb9 hb10 hb11 hb12 hb13 hb14 hb15 hb16 hb17 hb18 hb19 hb20 ρ w
def s_does : Sum := bySum 17 [.s (some .u8), .s none, .a [some .u64, some .u64, some .u64, some .u64, some .i64, some .i64, some .u64, some .u64, some .i64, some .i64], .a [some .u64, some .u64, some .u64, some .u64, some .i64, some .i64, some .u64, some .u64, some .i64, some .i64]] fun
  | [a0, a1, a2, a3, a4, a5, a6, a7, a8, a9, a10, a11, a12, a13, a14, a15, a16, a17, a18, a19, a20], [o0] => some ([isC a0, isU (Bd.mk (P2.mk a1 a2) (P2.mk a3 a4) (P2.mk a5 a6) (P2.mk a7 a8) (P2.mk a9 a10)).1.1, isU (Bd.mk (P2.mk a1 a2) (P2.mk a3 a4) (P2.mk a5 a6) (P2.mk a7 a8) (P2.mk a9 a10)).1.2, isU (Bd.mk (P2.mk a1 a2) (P2.mk a3 a4) (P2.mk a5 a6) (P2.mk a7 a8) (P2.mk a9 a10)).2.1, isU (Bd.mk (P2.mk a1 a2) (P2.mk a3 a4) (P2.mk a5 a6) (P2.mk a7 a8) (P2.mk a9 a10)).2.2, isI (Bd.mk (P2.mk a1 a2) (P2.mk a3 a4) (P2.mk a5 a6) (P2.mk a7 a8) (P2.mk a9 a10)).3.1, isI (Bd.mk (P2.mk a1 a2) (P2.mk a3 a4) (P2.mk a5 a6) (P2.mk a7 a8) (P2.mk a9 a10)).3.2, isU (Bd.mk (P2.mk a1 a2) (P2.mk a3 a4) (P2.mk a5 a6) (P2.mk a7 a8) (P2.mk a9 a10)).4.1, isU (Bd.mk (P2.mk a1 a2) (P2.mk a3 a4) (P2.mk a5 a6) (P2.mk a7 a8) (P2.mk a9 a10)).4.2, isI (Bd.mk (P2.mk a1 a2) (P2.mk a3 a4) (P2.mk a5 a6) (P2.mk a7 a8) (P2.mk a9 a10)).5.1, isI (Bd.mk (P2.mk a1 a2) (P2.mk a3 a4) (P2.mk a5 a6) (P2.mk a7 a8) (P2.mk a9 a10)).5.2, isU (Bd.mk (P2.mk a11 a12) (P2.mk a13 a14) (P2.mk a15 a16) (P2.mk a17 a18) (P2.mk a19 a20)).1.1, isU (Bd.mk (P2.mk a11 a12) (P2.mk a13 a14) (P2.mk a15 a16) (P2.mk a17 a18) (P2.mk a19 a20)).1.2, isU (Bd.mk (P2.mk a11 a12) (P2.mk a13 a14) (P2.mk a15 a16) (P2.mk a17 a18) (P2.mk a19 a20)).2.1, isU (Bd.mk (P2.mk a11 a12) (P2.mk a13 a14) (P2.mk a15 a16) (P2.mk a17 a18) (P2.mk a19 a20)).2.2, isI (Bd.mk (P2.mk a11 a12) (P2.mk a13 a14) (P2.mk a15 a16) (P2.mk a17 a18) (P2.mk a19 a20)).3.1, isI (Bd.mk (P2.mk a11 a12) (P2.mk a13 a14) (P2.mk a15 a16) (P2.mk a17 a18) (P2.mk a19 a20)).3.2, isU (Bd.mk (P2.mk a11 a12) (P2.mk a13 a14) (P2.mk a15 a16) (P2.mk a17 a18) (P2.mk a19 a20)).4.1, isU (Bd.mk (P2.mk a11 a12) (P2.mk a13 a14) (P2.mk a15 a16) (P2.mk a17 a18) (P2.mk a19 a20)).4.2, isI (Bd.mk (P2.mk a11 a12) (P2.mk a13 a14) (P2.mk a15 a16) (P2.mk a17 a18) (P2.mk a19 a20)).5.1, isI (Bd.mk (P2.mk a11 a12) (P2.mk a13 a14) (P2.mk a15 a16) (P2.mk a17 a18) (P2.mk a19 a20)).5.2], .tup [.agg (cB (doesB a0 o0 (Bd.mk (P2.mk a1 a2) (P2.mk a3 a4) (P2.mk a5 a6) (P2.mk a7 a8) (P2.mk a9 a10)) (Bd.mk (P2.mk a11 a12) (P2.mk a13 a14) (P2.mk a15 a16) (P2.mk a17 a18) (P2.mk a19 a20)))), .c (.si .i64 (doesE a0))])
  | _, _ => none
theorem s_does_ok : SumOK Tryz.prog s_does := by
  refine bySum_ok ⟨_, Tryz.func17, by kernel_rfl⟩ ?_
  intro ns os bs r hm hb ρ w
  split at hm
  · rename_i a0 a1 a2 a3 a4 a5 a6 a7 a8 a9 a10 a11 a12 a13 a14 a15 a16 a17 a18 a19 a20 o0
    cases hm
    exact t_does a0 o0 (Bd.mk (P2.mk a1 a2) (P2.mk a3 a4) (P2.mk a5 a6) (P2.mk a7 a8) (P2.mk a9 a10)) (Bd.mk (P2.mk a11 a12) (P2.mk a13 a14) (P2.mk a15 a16) (P2.mk a17 a18) (P2.mk a19 a20)) (hb _ (by simp)) (hb _ (by simp)) (hb _ (by simp)) (hb _ (by simp)) (hb _ (by simp)) (hb _ (by simp)) (hb _ (by simp)) (hb _ (by simp)) (hb _ (by simp)) (hb _ (by simp)) (hb _ (by simp)) (hb _ (by simp)) (hb _ (by simp)) (hb _ (by simp)) (hb _ (by simp)) (hb _ (by simp)) (hb _ (by simp)) (hb _ (by simp)) (hb _ (by simp)) (hb _ (by simp)) (hb _ (by simp)) ρ w
  · cases hm
end Go.Proofs.YtafpbibpahjnhaaGreat.L05P
