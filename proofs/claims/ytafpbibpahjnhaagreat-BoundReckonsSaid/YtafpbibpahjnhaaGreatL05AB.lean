/- Layers 3 to 5: what the document's answer is shown to do. Printed by a program of the session's own (genb.py). -/
import Derived.Test.YtafpbibpahjnhaaGreatL05X
import Derived.Test.YtafpbibpahjnhaaGreatL05AA
namespace Go.Proofs.YtafpbibpahjnhaaGreat.L05X
open Go Go.RowKit Go.Proofs.YtafpbibpahjnhaaGreat.Sx Go.Proofs.YtafpbibpahjnhaaGreat.L05 Go.Proofs.YtafpbibpahjnhaaGreat.L05J Go.Proofs.YtafpbibpahjnhaaGreat.L05P
set_option linter.unusedVariables false
set_option linter.unusedSimpArgs false
open Go.Proofs.YtafpbibpahjnhaaGreat.L04 (mAdd1 mAdd2 mSub1 mSub2 mMul1 mMul2 mDiv1 mDiv2 mMod1 mMod2 mPlus1 mPlus2 mMinus1 mMinus2 mShl1 mShl2 mShr1 mShr2 mSar1 mSar2)
theorem oks_L05AB_0 : ∀ q ∈ [s_rBNone, s_rLowT, s_rsync], SumOK Tryz.prog q := (okc s_rBNone_ok (okc s_rLowT_ok (okc s_rsync_ok okn)))
theorem t_rlow (b : Bd) (n : Int) (hb0 : invB b = true) (ρ : Nat → Nat) (w : World) : Calls Tryz.prog 22 (enV [.a [some .u64, some .u64, some .u64, some .u64, some .i64, some .i64, some .u64, some .u64, some .i64, some .i64], .s (some .u64)] ([b.1.1, b.1.2, b.2.1, b.2.2, b.3.1, b.3.2, b.4.1, b.4.2, b.5.1, b.5.2, n], [])).toArray w fun e w' => e = .returned (V.den ρ (.u (.agg (cB (lowB b n))))) ∧ Below w.heap.size w w' := by
  refine pure_to nameOK oks_L05AB_0 (dOK oks_L05AB_0) 300 [.u (.agg (cB b)), .u (.c (.si .u64 n))] (T := (.br (iNe n 8) (.br (iNe n 16) (.br (iNe n 32) (.leaf (.val (.u (.agg (cB b))))) (.br (bNone b) (.leaf (.val (.u (.agg cN)))) (.br (isU b.1.1) (.br (isU b.1.2) (.br (tMay b.1) (.br (isN n) (.br (iEq n 32) (.br (isU (tLowN b.1 n).1) (.br (isU (tLowN b.1 n).2) (.br (isU b.4.1) (.br (isU b.4.2) (.br (isI (-9223372036854775808)) (.br (isI 9223372036854775807) (.br (isU b.4.1) (.br (isU b.4.2) (.br (isI b.5.1) (.br (isI b.5.2) (.leaf (.val (.u (.agg (cB (sync (.mk (tLowN b.1 n) b.4 (.mk (-9223372036854775808) 9223372036854775807) b.4 b.5))))))) (.no 98)) (.no 98)) (.no 98)) (.no 98)) (.no 98)) (.no 98)) (.no 98)) (.no 98)) (.no 98)) (.no 98)) (.br (isU (tLowN b.1 n).1) (.br (isU (tLowN b.1 n).2) (.br (isU 0) (.br (isU 18446744073709551615) (.br (isI (-9223372036854775808)) (.br (isI 9223372036854775807) (.br (isU 0) (.br (isU 4294967295) (.br (isI (-2147483648)) (.br (isI 2147483647) (.leaf (.val (.u (.agg (cB (sync (.mk (tLowN b.1 n) (.mk 0 18446744073709551615) (.mk (-9223372036854775808) 9223372036854775807) (.mk 0 4294967295) (.mk (-2147483648) 2147483647)))))))) (.no 98)) (.no 98)) (.no 98)) (.no 98)) (.no 98)) (.no 98)) (.no 98)) (.no 98)) (.no 98)) (.no 98))) (.no 98)) (.no 98)) (.no 98)) (.no 98)))) (.br (bNone b) (.leaf (.val (.u (.agg cN)))) (.br (isU b.1.1) (.br (isU b.1.2) (.br (tMay b.1) (.br (isN n) (.br (iEq n 32) (.br (isU (tLowN b.1 n).1) (.br (isU (tLowN b.1 n).2) (.br (isU b.4.1) (.br (isU b.4.2) (.br (isI (-9223372036854775808)) (.br (isI 9223372036854775807) (.br (isU b.4.1) (.br (isU b.4.2) (.br (isI b.5.1) (.br (isI b.5.2) (.leaf (.val (.u (.agg (cB (sync (.mk (tLowN b.1 n) b.4 (.mk (-9223372036854775808) 9223372036854775807) b.4 b.5))))))) (.no 98)) (.no 98)) (.no 98)) (.no 98)) (.no 98)) (.no 98)) (.no 98)) (.no 98)) (.no 98)) (.no 98)) (.br (isU (tLowN b.1 n).1) (.br (isU (tLowN b.1 n).2) (.br (isU 0) (.br (isU 18446744073709551615) (.br (isI (-9223372036854775808)) (.br (isI 9223372036854775807) (.br (isU 0) (.br (isU 4294967295) (.br (isI (-2147483648)) (.br (isI 2147483647) (.leaf (.val (.u (.agg (cB (sync (.mk (tLowN b.1 n) (.mk 0 18446744073709551615) (.mk (-9223372036854775808) 9223372036854775807) (.mk 0 4294967295) (.mk (-2147483648) 2147483647)))))))) (.no 98)) (.no 98)) (.no 98)) (.no 98)) (.no 98)) (.no 98)) (.no 98)) (.no 98)) (.no 98)) (.no 98))) (.no 98)) (.no 98)) (.no 98)) (.no 98)))) (.br (bNone b) (.leaf (.val (.u (.agg cN)))) (.br (isU b.1.1) (.br (isU b.1.2) (.br (tMay b.1) (.br (isN n) (.br (iEq n 32) (.br (isU (tLowN b.1 n).1) (.br (isU (tLowN b.1 n).2) (.br (isU b.4.1) (.br (isU b.4.2) (.br (isI (-9223372036854775808)) (.br (isI 9223372036854775807) (.br (isU b.4.1) (.br (isU b.4.2) (.br (isI b.5.1) (.br (isI b.5.2) (.leaf (.val (.u (.agg (cB (sync (.mk (tLowN b.1 n) b.4 (.mk (-9223372036854775808) 9223372036854775807) b.4 b.5))))))) (.no 98)) (.no 98)) (.no 98)) (.no 98)) (.no 98)) (.no 98)) (.no 98)) (.no 98)) (.no 98)) (.no 98)) (.br (isU (tLowN b.1 n).1) (.br (isU (tLowN b.1 n).2) (.br (isU 0) (.br (isU 18446744073709551615) (.br (isI (-9223372036854775808)) (.br (isI 9223372036854775807) (.br (isU 0) (.br (isU 4294967295) (.br (isI (-2147483648)) (.br (isI 2147483647) (.leaf (.val (.u (.agg (cB (sync (.mk (tLowN b.1 n) (.mk 0 18446744073709551615) (.mk (-9223372036854775808) 9223372036854775807) (.mk 0 4294967295) (.mk (-2147483648) 2147483647)))))))) (.no 98)) (.no 98)) (.no 98)) (.no 98)) (.no 98)) (.no 98)) (.no 98)) (.no 98)) (.no 98)) (.no 98))) (.no 98)) (.no 98)) (.no 98)) (.no 98))))) (by kernel_rfl) ρ rfl ?_ w
  · have ib : Inv5 b := invB_iff.1 hb0
    refine br2 (fun k1 => ?_) (fun k1 => ?_)
    · refine br2 (fun k2 => ?_) (fun k2 => ?_)
      · refine br2 (fun k3 => ?_) (fun k3 => ?_)
        · have e : lowB b n = b := by have q0 := ne_t.1 (k1); have q1 := ne_t.1 (k2); have q2 := ne_t.1 (k3); unfold lowB; rw [if_neg (by omega), if_neg (by omega)]
          simp only [Tr.all]; rw [e]; try rfl
        · refine br2 (fun k4 => ?_) (fun k4 => ?_)
          · have e : lowB b n = nothing := by have q0 := ne_t.1 (k1); have q1 := ne_t.1 (k2); have q2 := ne_f.1 (k3); unfold lowB; by_cases h32 : n = 32; (rw [if_pos h32, k4]); (rw [if_neg h32, if_pos (by omega), k4])
            simp only [Tr.all]; rw [e]; try rfl
          · refine askB (ib.t.1.1) ?_
            refine askB (ib.t.1.2) ?_
            refine askB ((tMay_iff ib.t.1).2 ib.t) ?_
            refine askB (isN_iff.2 (by have q0 := ne_t.1 (k1); have q1 := ne_t.1 (k2); have q2 := ne_f.1 (k3); omega)) ?_
            refine brT (eq_t.2 (ne_f.1 k3)) ?_
            refine askB ((lowN_uu ib.t.1 n).1) ?_
            refine askB ((lowN_uu ib.t.1 n).2) ?_
            refine askB ((ww_uu ib.w).1) ?_
            refine askB ((ww_uu ib.w).2) ?_
            refine askB (by decide) ?_
            refine askB (by decide) ?_
            refine askB ((ww_uu ib.w).1) ?_
            refine askB ((ww_uu ib.w).2) ?_
            refine askB (isI_iff.2 ib.raw.v.1) ?_
            refine askB (isI_iff.2 ib.raw.v.2) ?_
            have e : lowB b n = sync (lowQ32 b) := by have q0 := ne_t.1 (k1); have q1 := ne_t.1 (k2); have q2 := ne_f.1 (k3); have q4 := eq_t.1 (eq_t.2 (ne_f.1 k3)); unfold lowB; rw [if_pos (by omega), k4]
            have e2 : tLowN b.1 n = tLowN b.1 32 := by rw [eq_t.1 (eq_t.2 (ne_f.1 k3))]
            simp only [Tr.all]; rw [e, e2]; try rfl
      · refine br2 (fun k5 => ?_) (fun k5 => ?_)
        · have e : lowB b n = nothing := by have q0 := ne_t.1 (k1); have q1 := ne_f.1 (k2); unfold lowB; by_cases h32 : n = 32; (rw [if_pos h32, k5]); (rw [if_neg h32, if_pos (by omega), k5])
          simp only [Tr.all]; rw [e]; try rfl
        · refine askB (ib.t.1.1) ?_
          refine askB (ib.t.1.2) ?_
          refine askB ((tMay_iff ib.t.1).2 ib.t) ?_
          refine askB (isN_iff.2 (by have q0 := ne_t.1 (k1); have q1 := ne_f.1 (k2); omega)) ?_
          refine br2 (fun k6 => ?_) (fun k6 => ?_)
          · refine askB ((lowN_uu ib.t.1 n).1) ?_
            refine askB ((lowN_uu ib.t.1 n).2) ?_
            refine askB ((ww_uu ib.w).1) ?_
            refine askB ((ww_uu ib.w).2) ?_
            refine askB (by decide) ?_
            refine askB (by decide) ?_
            refine askB ((ww_uu ib.w).1) ?_
            refine askB ((ww_uu ib.w).2) ?_
            refine askB (isI_iff.2 ib.raw.v.1) ?_
            refine askB (isI_iff.2 ib.raw.v.2) ?_
            have e : lowB b n = sync (lowQ32 b) := by have q0 := ne_t.1 (k1); have q1 := ne_f.1 (k2); have q3 := eq_t.1 (k6); unfold lowB; rw [if_pos (by omega), k5]
            have e2 : tLowN b.1 n = tLowN b.1 32 := by rw [eq_t.1 (k6)]
            simp only [Tr.all]; rw [e, e2]; try rfl
          · refine askB ((lowN_uu ib.t.1 n).1) ?_
            refine askB ((lowN_uu ib.t.1 n).2) ?_
            iterate 8 (refine askB (by decide) ?_)
            have e : lowB b n = sync (lowQ b n) := by have q0 := ne_t.1 (k1); have q1 := ne_f.1 (k2); have q3 := eq_f.1 (k6); unfold lowB; rw [if_neg (by omega), if_pos (by omega), k5]
            simp only [Tr.all]; rw [e]; try rfl
    · refine br2 (fun k7 => ?_) (fun k7 => ?_)
      · have e : lowB b n = nothing := by have q0 := ne_f.1 (k1); unfold lowB; by_cases h32 : n = 32; (rw [if_pos h32, k7]); (rw [if_neg h32, if_pos (by omega), k7])
        simp only [Tr.all]; rw [e]; try rfl
      · refine askB (ib.t.1.1) ?_
        refine askB (ib.t.1.2) ?_
        refine askB ((tMay_iff ib.t.1).2 ib.t) ?_
        refine askB (isN_iff.2 (by have q0 := ne_f.1 (k1); omega)) ?_
        refine br2 (fun k8 => ?_) (fun k8 => ?_)
        · refine askB ((lowN_uu ib.t.1 n).1) ?_
          refine askB ((lowN_uu ib.t.1 n).2) ?_
          refine askB ((ww_uu ib.w).1) ?_
          refine askB ((ww_uu ib.w).2) ?_
          refine askB (by decide) ?_
          refine askB (by decide) ?_
          refine askB ((ww_uu ib.w).1) ?_
          refine askB ((ww_uu ib.w).2) ?_
          refine askB (isI_iff.2 ib.raw.v.1) ?_
          refine askB (isI_iff.2 ib.raw.v.2) ?_
          have e : lowB b n = sync (lowQ32 b) := by have q0 := ne_f.1 (k1); have q2 := eq_t.1 (k8); unfold lowB; rw [if_pos (by omega), k7]
          have e2 : tLowN b.1 n = tLowN b.1 32 := by rw [eq_t.1 (k8)]
          simp only [Tr.all]; rw [e, e2]; try rfl
        · refine askB ((lowN_uu ib.t.1 n).1) ?_
          refine askB ((lowN_uu ib.t.1 n).2) ?_
          iterate 8 (refine askB (by decide) ?_)
          have e : lowB b n = sync (lowQ b n) := by have q0 := ne_f.1 (k1); have q2 := eq_f.1 (k8); unfold lowB; rw [if_neg (by omega), if_pos (by omega), k7]
          simp only [Tr.all]; rw [e]; try rfl
def s_rlow : Sum := bySum 22 [.a [some .u64, some .u64, some .u64, some .u64, some .i64, some .i64, some .u64, some .u64, some .i64, some .i64], .s (some .u64)] fun
  | [a0, a1, a2, a3, a4, a5, a6, a7, a8, a9, a10], [] => some ([invB (Bd.mk (P2.mk a0 a1) (P2.mk a2 a3) (P2.mk a4 a5) (P2.mk a6 a7) (P2.mk a8 a9))], .u (.agg (cB (lowB (Bd.mk (P2.mk a0 a1) (P2.mk a2 a3) (P2.mk a4 a5) (P2.mk a6 a7) (P2.mk a8 a9)) a10))))
  | _, _ => none
theorem s_rlow_ok : SumOK Tryz.prog s_rlow := by
  refine bySum_ok ⟨_, Tryz.func22, by kernel_rfl⟩ ?_
  intro ns os bs r hm hb ρ w
  split at hm
  · rename_i a0 a1 a2 a3 a4 a5 a6 a7 a8 a9 a10
    cases hm
    exact t_rlow (Bd.mk (P2.mk a0 a1) (P2.mk a2 a3) (P2.mk a4 a5) (P2.mk a6 a7) (P2.mk a8 a9)) a10 (hb _ (by simp)) ρ w
  · cases hm
theorem t_rlong (a : Bd) (hb0 : invB a = true) (ρ : Nat → Nat) (w : World) : Calls Tryz.prog 151 (enV [.a [some .u64, some .u64, some .u64, some .u64, some .i64, some .i64, some .u64, some .u64, some .i64, some .i64]] ([a.1.1, a.1.2, a.2.1, a.2.2, a.3.1, a.3.2, a.4.1, a.4.2, a.5.1, a.5.2], [])).toArray w fun e w' => e = .returned (V.den ρ (.u (.agg (cB (longB a))))) ∧ Below w.heap.size w w' := by
  refine pure_to nameOK (okc s_rLowT_ok (okc s_rsync_ok okn)) (dOK (okc s_rLowT_ok (okc s_rsync_ok okn))) 300 [.u (.agg (cB a))] (T := (.br (isU a.1.1) (.br (isU a.1.2) (.br (tMay a.1) (.br (isN 32) (.br (iEq (iShr .u64 (tLowN a.1 32).1 31) 1) (.br (iEq (iShr .u64 (tLowN a.1 32).2 31) 1) (.br (isU (iBit .or .u64 (tLowN a.1 32).1 18446744069414584320)) (.br (isU (iBit .or .u64 (tLowN a.1 32).2 18446744069414584320)) (.br (isU 0) (.br (isU 18446744073709551615) (.br (isI a.5.1) (.br (isI a.5.2) (.br (isU 0) (.br (isU 4294967295) (.br (isI (-2147483648)) (.br (isI 2147483647) (.leaf (.val (.u (.agg (cB (sync (.mk (.mk (iBit .or .u64 (tLowN a.1 32).1 18446744069414584320) (iBit .or .u64 (tLowN a.1 32).2 18446744069414584320)) (.mk 0 18446744073709551615) a.5 (.mk 0 4294967295) (.mk (-2147483648) 2147483647)))))))) (.no 98)) (.no 98)) (.no 98)) (.no 98)) (.no 98)) (.no 98)) (.no 98)) (.no 98)) (.no 98)) (.no 98)) (.br (isU (iBit .or .u64 (tLowN a.1 32).1 18446744069414584320)) (.br (isU (tLowN a.1 32).2) (.br (isU 0) (.br (isU 18446744073709551615) (.br (isI a.5.1) (.br (isI a.5.2) (.br (isU 0) (.br (isU 4294967295) (.br (isI (-2147483648)) (.br (isI 2147483647) (.leaf (.val (.u (.agg (cB (sync (.mk (.mk (iBit .or .u64 (tLowN a.1 32).1 18446744069414584320) (tLowN a.1 32).2) (.mk 0 18446744073709551615) a.5 (.mk 0 4294967295) (.mk (-2147483648) 2147483647)))))))) (.no 98)) (.no 98)) (.no 98)) (.no 98)) (.no 98)) (.no 98)) (.no 98)) (.no 98)) (.no 98)) (.no 98))) (.br (iEq (iShr .u64 (tLowN a.1 32).2 31) 1) (.br (isU (tLowN a.1 32).1) (.br (isU (iBit .or .u64 (tLowN a.1 32).2 18446744069414584320)) (.br (isU 0) (.br (isU 18446744073709551615) (.br (isI a.5.1) (.br (isI a.5.2) (.br (isU 0) (.br (isU 4294967295) (.br (isI (-2147483648)) (.br (isI 2147483647) (.leaf (.val (.u (.agg (cB (sync (.mk (.mk (tLowN a.1 32).1 (iBit .or .u64 (tLowN a.1 32).2 18446744069414584320)) (.mk 0 18446744073709551615) a.5 (.mk 0 4294967295) (.mk (-2147483648) 2147483647)))))))) (.no 98)) (.no 98)) (.no 98)) (.no 98)) (.no 98)) (.no 98)) (.no 98)) (.no 98)) (.no 98)) (.no 98)) (.br (isU (tLowN a.1 32).1) (.br (isU (tLowN a.1 32).2) (.br (isU 0) (.br (isU 18446744073709551615) (.br (isI a.5.1) (.br (isI a.5.2) (.br (isU 0) (.br (isU 4294967295) (.br (isI (-2147483648)) (.br (isI 2147483647) (.leaf (.val (.u (.agg (cB (sync (.mk (tLowN a.1 32) (.mk 0 18446744073709551615) a.5 (.mk 0 4294967295) (.mk (-2147483648) 2147483647)))))))) (.no 98)) (.no 98)) (.no 98)) (.no 98)) (.no 98)) (.no 98)) (.no 98)) (.no 98)) (.no 98)) (.no 98)))) (.no 98)) (.no 98)) (.no 98)) (.no 98))) (by kernel_rfl) ρ rfl ?_ w
  · have ia : Inv5 a := invB_iff.1 hb0
    have hr := low_range ia.t.1
    have hl := lowN_uu ia.t.1 32
    have g1 := long_bit hr.1.1 hr.1.2
    have g2 := long_bit hr.2.1 hr.2.2
    have o1 : isU (iBit .or .u64 (tLowN a.1 32).1 18446744069414584320) = true := or_u hl.1 high32
    have o2 : isU (iBit .or .u64 (tLowN a.1 32).2 18446744069414584320) = true := or_u hl.2 high32
    refine askB (ia.t.1.1) ?_
    refine askB (ia.t.1.2) ?_
    refine askB ((tMay_iff ia.t.1).2 ia.t) ?_
    refine askB (by decide) ?_
    refine br2 (fun k1 => ?_) (fun k1 => ?_)
    · refine br2 (fun k2 => ?_) (fun k2 => ?_)
      · refine askB (by with_reducible assumption) ?_
        refine askB (by with_reducible assumption) ?_
        refine askB (by decide) ?_
        refine askB (by decide) ?_
        refine askB (isI_iff.2 ia.raw.v.1) ?_
        refine askB (isI_iff.2 ia.raw.v.2) ?_
        iterate 4 (refine askB (by decide) ?_)
        have e1 := g1.1 k1
        have e2 := g2.1 k2
        have e : longB a = sync ⟨⟨iBit .or .u64 (tLowN a.1 32).1 18446744069414584320, iBit .or .u64 (tLowN a.1 32).2 18446744069414584320⟩, anyB.u, a.v, anyB.w, anyB.v⟩ := by unfold longB longQ; rw [← e1, ← e2]
        simp only [Tr.all]; rw [e]; try rfl
      · refine askB (by with_reducible assumption) ?_
        refine askB ((lowN_uu ia.t.1 32).2) ?_
        refine askB (by decide) ?_
        refine askB (by decide) ?_
        refine askB (isI_iff.2 ia.raw.v.1) ?_
        refine askB (isI_iff.2 ia.raw.v.2) ?_
        iterate 4 (refine askB (by decide) ?_)
        have e1 := g1.1 k1
        have e2 := g2.2 k2
        have e : longB a = sync ⟨⟨iBit .or .u64 (tLowN a.1 32).1 18446744069414584320, (tLowN a.1 32).2⟩, anyB.u, a.v, anyB.w, anyB.v⟩ := by unfold longB longQ; rw [← e1, ← e2]
        simp only [Tr.all]; rw [e]; try rfl
    · refine br2 (fun k3 => ?_) (fun k3 => ?_)
      · refine askB ((lowN_uu ia.t.1 32).1) ?_
        refine askB (by with_reducible assumption) ?_
        refine askB (by decide) ?_
        refine askB (by decide) ?_
        refine askB (isI_iff.2 ia.raw.v.1) ?_
        refine askB (isI_iff.2 ia.raw.v.2) ?_
        iterate 4 (refine askB (by decide) ?_)
        have e1 := g1.2 k1
        have e2 := g2.1 k3
        have e : longB a = sync ⟨⟨(tLowN a.1 32).1, iBit .or .u64 (tLowN a.1 32).2 18446744069414584320⟩, anyB.u, a.v, anyB.w, anyB.v⟩ := by unfold longB longQ; rw [← e1, ← e2]
        simp only [Tr.all]; rw [e]; try rfl
      · refine askB ((lowN_uu ia.t.1 32).1) ?_
        refine askB ((lowN_uu ia.t.1 32).2) ?_
        refine askB (by decide) ?_
        refine askB (by decide) ?_
        refine askB (isI_iff.2 ia.raw.v.1) ?_
        refine askB (isI_iff.2 ia.raw.v.2) ?_
        iterate 4 (refine askB (by decide) ?_)
        have e1 := g1.2 k1
        have e2 := g2.2 k3
        have e : longB a = sync ⟨⟨(tLowN a.1 32).1, (tLowN a.1 32).2⟩, anyB.u, a.v, anyB.w, anyB.v⟩ := by unfold longB longQ; rw [← e1, ← e2]
        simp only [Tr.all]; rw [e]; try rfl
def s_rlongF (longB : Bd → Bd) : Sum := bySum 151 [.a [some .u64, some .u64, some .u64, some .u64, some .i64, some .i64, some .u64, some .u64, some .i64, some .i64]] fun
  | [a0, a1, a2, a3, a4, a5, a6, a7, a8, a9], [] => some ([invB (Bd.mk (P2.mk a0 a1) (P2.mk a2 a3) (P2.mk a4 a5) (P2.mk a6 a7) (P2.mk a8 a9))], .u (.agg (cB (longB (Bd.mk (P2.mk a0 a1) (P2.mk a2 a3) (P2.mk a4 a5) (P2.mk a6 a7) (P2.mk a8 a9))))))
  | _, _ => none
def s_rlong : Sum := s_rlongF longB
theorem s_rlong_ok : SumOK Tryz.prog s_rlong := by
  refine bySum_ok ⟨_, Tryz.func151, by kernel_rfl⟩ ?_
  intro ns os bs r hm hb ρ w
  split at hm
  · rename_i a0 a1 a2 a3 a4 a5 a6 a7 a8 a9
    cases hm
    exact t_rlong (Bd.mk (P2.mk a0 a1) (P2.mk a2 a3) (P2.mk a4 a5) (P2.mk a6 a7) (P2.mk a8 a9)) (hb _ (by simp)) ρ w
  · cases hm
theorem t_rwithin (p : P2) (d : Bool) (ρ : Nat → Nat) (w : World) : Calls Tryz.prog 155 (enV [.a [some .u64, some .u64], .s none] ([p.1, p.2], [d])).toArray w fun e w' => e = .returned (V.den ρ (.u (.agg [.si .u64 (withinM p d).1, .si .u64 (withinM p d).2]))) ∧ Below w.heap.size w w' := by
  refine pure_to nameOK okn (dOK okn) 300 [.u (.agg [.si .u64 p.1, .si .u64 p.2]), .u (.c (.sb d))] (T := (.br (bNot d) (.leaf (.val (.u (.agg [(.li .u64 0), (.li .u64 4294967295)])))) (.br (iGt p.2 4294967295) (.leaf (.val (.u (.agg [(.li .u64 0), (.li .u64 4294967295)])))) (.leaf (.val (.u (.agg [(.si .u64 p.1), (.si .u64 p.2)]))))))) (by kernel_rfl) ρ rfl ?_ w
  · refine brn2 (fun k1 => ?_) (fun k1 => ?_)
    · refine br2 (fun k2 => ?_) (fun k2 => ?_)
      · have q := gt_t.1 k2
        have e : withinM p d = ⟨0, 4294967295⟩ := by rw [k1]; unfold withinM; dsimp only; rw [if_pos (by omega)]
        simp only [Tr.all]; rw [e]; try rfl
      · have q := gt_f.1 k2
        have e : withinM p d = p := by rw [k1]; unfold withinM; dsimp only; rw [if_neg (by omega)]
        simp only [Tr.all]; rw [e]; try rfl
    · subst k1
      simp only [Tr.all]; rfl
def s_rwithin : Sum := bySum 155 [.a [some .u64, some .u64], .s none] fun
  | [a0, a1], [o0] => some ([], .u (.agg [.si .u64 (withinM (P2.mk a0 a1) o0).1, .si .u64 (withinM (P2.mk a0 a1) o0).2]))
  | _, _ => none
theorem s_rwithin_ok : SumOK Tryz.prog s_rwithin := by
  refine bySum_ok ⟨_, Tryz.func155, by kernel_rfl⟩ ?_
  intro ns os bs r hm hb ρ w
  split at hm
  · rename_i a0 a1 o0
    cases hm
    exact t_rwithin (P2.mk a0 a1) o0 ρ w
  · cases hm
theorem t_rinner (p : P2) (ρ : Nat → Nat) (w : World) : Calls Tryz.prog 156 (enV [.a [some .i64, some .i64]] ([p.1, p.2], [])).toArray w fun e w' => e = .returned (V.den ρ (.u (.agg [.si .i64 (innerR p).1, .si .i64 (innerR p).2]))) ∧ Below w.heap.size w w' := by
  refine pure_to nameOK okn (dOK okn) 300 [.u (.agg [.si .i64 p.1, .si .i64 p.2])] (T := (.br (iLt p.1 (-2147483648)) (.leaf (.val (.u (.agg [(.li .i64 (-2147483648)), (.li .i64 2147483647)])))) (.br (iGt p.2 2147483647) (.leaf (.val (.u (.agg [(.li .i64 (-2147483648)), (.li .i64 2147483647)])))) (.leaf (.val (.u (.agg [(.si .i64 p.1), (.si .i64 p.2)]))))))) (by kernel_rfl) ρ rfl ?_ w
  · refine br2 (fun k1 => ?_) (fun k1 => ?_)
    · have q0 := lt_t.1 k1
      have e : innerR p = ⟨-2147483648, 2147483647⟩ := by unfold innerR; rw [if_pos (by omega)]
      simp only [Tr.all]; rw [e]; try rfl
    · refine br2 (fun k2 => ?_) (fun k2 => ?_)
      · have q0 := lt_f.1 k1
        have q1 := gt_t.1 k2
        have e : innerR p = ⟨-2147483648, 2147483647⟩ := by unfold innerR; rw [if_pos (by omega)]
        simp only [Tr.all]; rw [e]; try rfl
      · have q0 := lt_f.1 k1
        have q1 := gt_f.1 k2
        have e : innerR p = p := by unfold innerR; rw [if_neg (by omega)]
        simp only [Tr.all]; rw [e]; try rfl
def s_rinner : Sum := bySum 156 [.a [some .i64, some .i64]] fun
  | [a0, a1], [] => some ([], .u (.agg [.si .i64 (innerR (P2.mk a0 a1)).1, .si .i64 (innerR (P2.mk a0 a1)).2]))
  | _, _ => none
theorem s_rinner_ok : SumOK Tryz.prog s_rinner := by
  refine bySum_ok ⟨_, Tryz.func156, by kernel_rfl⟩ ?_
  intro ns os bs r hm hb ρ w
  split at hm
  · rename_i a0 a1
    cases hm
    exact t_rinner (P2.mk a0 a1) ρ w
  · cases hm
theorem t_rConst (x : Int) (hb0 : isU x = true) (ρ : Nat → Nat) (w : World) : Calls Tryz.prog 52 (enV [.s (some .u64)] ([x], [])).toArray w fun e w' => e = .returned (V.den ρ (.u (.agg (cB (bConst x))))) ∧ Below w.heap.size w w' := by
  refine pure_to nameOK (okc s_rsign_ok okn) (dOK (okc s_rsign_ok okn)) 300 [.u (.c (.si .u64 x))] (T := (.br (isU (iRem x 4294967296)) (.br (isU (iRem x 4294967296)) (.leaf (.val (.u (.agg [(.si .u64 x), (.li .u64 0), (.si .u64 x), (.si .u64 x), (.si .i64 (iConv .i64 x)), (.si .i64 (iConv .i64 x)), (.si .u64 (iRem x 4294967296)), (.si .u64 (iRem x 4294967296)), (.si .i64 (sg32 (iRem x 4294967296))), (.si .i64 (sg32 (iRem x 4294967296)))])))) (.no 98)) (.no 98))) (by kernel_rfl) ρ rfl ?_ w
  · have e1 : iConv .i64 x = sgn x := conv_sgn hb0
    have e2 : iRem x 4294967296 = x % 4294967296 := rem_p hb0 _
    have hm : isU (iRem x 4294967296) = true := by rw [e2]; exact mod_u hb0
    refine askB (by assumption) ?_
    refine askB (by assumption) ?_
    simp only [Tr.all, e1, e2, sg32_mod]; rfl
def s_rConst : Sum := bySum 52 [.s (some .u64)] fun
  | [a0], [] => some ([isU a0], .u (.agg (cB (bConst a0))))
  | _, _ => none
theorem s_rConst_ok : SumOK Tryz.prog s_rConst := by
  refine bySum_ok ⟨_, Tryz.func52, by kernel_rfl⟩ ?_
  intro ns os bs r hm hb ρ w
  split at hm
  · rename_i a0
    cases hm
    exact t_rConst a0 (hb _ (by simp)) ρ w
  · cases hm
theorem t_rBitsH (p : P2) (q : P2) (how : Int) (hb0 : isU p.1 = true) (hb1 : isU p.2 = true) (hb2 : isU q.1 = true) (hb3 : isU q.2 = true) (hb4 : tMay p = true) (hb5 : tMay q = true) (hb6 : isH how = true) (ρ : Nat → Nat) (w : World) : Calls Tryz.prog 164 (enV [.a [some .u64, some .u64], .a [some .u64, some .u64], .s (some .i64)] ([p.1, p.2, q.1, q.2, how], [])).toArray w fun e w' => e = .returned (V.den ρ (.u (.agg [.si .u64 (bitsH how p q).1, .si .u64 (bitsH how p q).2]))) ∧ Below w.heap.size w w' := by
  have hcs := of_decide_eq_true hb6
  rcases hcs with rfl | rfl | rfl
  · exact t_rBits1 p q hb0 hb1 hb2 hb3 hb4 hb5 ρ w
  · exact t_rBits2 p q hb0 hb1 hb2 hb3 hb4 hb5 ρ w
  · exact t_rBits3 p q hb0 hb1 hb2 hb3 hb4 hb5 ρ w
def s_rBitsH : Sum := bySum 164 [.a [some .u64, some .u64], .a [some .u64, some .u64], .s (some .i64)] fun
  | [a0, a1, a2, a3, a4], [] => some ([isU (P2.mk a0 a1).1, isU (P2.mk a0 a1).2, isU (P2.mk a2 a3).1, isU (P2.mk a2 a3).2, tMay (P2.mk a0 a1), tMay (P2.mk a2 a3), isH a4], .u (.agg [.si .u64 (bitsH a4 (P2.mk a0 a1) (P2.mk a2 a3)).1, .si .u64 (bitsH a4 (P2.mk a0 a1) (P2.mk a2 a3)).2]))
  | _, _ => none
theorem s_rBitsH_ok : SumOK Tryz.prog s_rBitsH := by
  refine bySum_ok ⟨_, Tryz.func164, by kernel_rfl⟩ ?_
  intro ns os bs r hm hb ρ w
  split at hm
  · rename_i a0 a1 a2 a3 a4
    cases hm
    exact t_rBitsH (P2.mk a0 a1) (P2.mk a2 a3) a4 (hb _ (by simp)) (hb _ (by simp)) (hb _ (by simp)) (hb _ (by simp)) (hb _ (by simp)) (hb _ (by simp)) (hb _ (by simp)) ρ w
  · cases hm
theorem t_rShiftH (t : P2) (n : Int) (how : Int) (hb0 : isU t.1 = true) (hb1 : isU t.2 = true) (hb2 : tMay t = true) (hb3 : isU n = true) (hb4 : isH0 how = true) (ρ : Nat → Nat) (w : World) : Calls Tryz.prog 160 (enV [.a [some .u64, some .u64], .s (some .u64), .s (some .i64)] ([t.1, t.2, n, how], [])).toArray w fun e w' => e = .returned (V.den ρ (.u (.agg [.si .u64 (shH how t n).1, .si .u64 (shH how t n).2]))) ∧ Below w.heap.size w w' := by
  have hcs := of_decide_eq_true hb4
  rcases hcs with rfl | rfl | rfl
  · exact t_rShift0 t n hb0 hb1 hb2 hb3 ρ w
  · exact t_rShift1 t n hb0 hb1 hb2 hb3 ρ w
  · exact t_rShift2 t n hb0 hb1 hb2 hb3 ρ w
def s_rShiftH : Sum := bySum 160 [.a [some .u64, some .u64], .s (some .u64), .s (some .i64)] fun
  | [a0, a1, a2, a3], [] => some ([isU (P2.mk a0 a1).1, isU (P2.mk a0 a1).2, tMay (P2.mk a0 a1), isU a2, isH0 a3], .u (.agg [.si .u64 (shH a3 (P2.mk a0 a1) a2).1, .si .u64 (shH a3 (P2.mk a0 a1) a2).2]))
  | _, _ => none
theorem s_rShiftH_ok : SumOK Tryz.prog s_rShiftH := by
  refine bySum_ok ⟨_, Tryz.func160, by kernel_rfl⟩ ?_
  intro ns os bs r hm hb ρ w
  split at hm
  · rename_i a0 a1 a2 a3
    cases hm
    exact t_rShiftH (P2.mk a0 a1) a2 a3 (hb _ (by simp)) (hb _ (by simp)) (hb _ (by simp)) (hb _ (by simp)) (hb _ (by simp)) ρ w
  · cases hm
theorem oks_L05AB_1 : ∀ q ∈ [s_rAddT, s_rSubT, s_rMulT, L04.s_rDo, L04.s_rPlus, L04.s_rMinus, s_rwithin, s_rinner, s_rsync], SumOK Tryz.prog q := (okc s_rAddT_ok (okc s_rSubT_ok (okc s_rMulT_ok (okc L04.s_rDo_ok (okc L04.s_rPlus_ok (okc L04.s_rMinus_ok (okc s_rwithin_ok (okc s_rinner_ok (okc s_rsync_ok okn)))))))))
theorem t_rreck0 (a : Bd) (b : Bd) (hb0 : goodB a = true) (hb1 : goodB b = true) (ρ : Nat → Nat) (w : World) : Calls Tryz.prog 51 (enV [.s (some .u8), .a [some .u64, some .u64, some .u64, some .u64, some .i64, some .i64, some .u64, some .u64, some .i64, some .i64], .a [some .u64, some .u64, some .u64, some .u64, some .i64, some .i64, some .u64, some .u64, some .i64, some .i64]] ([0, a.1.1, a.1.2, a.2.1, a.2.2, a.3.1, a.3.2, a.4.1, a.4.2, a.5.1, a.5.2, b.1.1, b.1.2, b.2.1, b.2.2, b.3.1, b.3.2, b.4.1, b.4.2, b.5.1, b.5.2], [])).toArray w fun e w' => e = .returned (V.den ρ (.u (.agg (cB (sync (opB 0 a b)))))) ∧ Below w.heap.size w w' := by
  refine pure_to nameOK oks_L05AB_1 (dOK oks_L05AB_1) 300 [.u (.c (.li .u8 0)), .u (.agg (cB a)), .u (.agg (cB b))] (T := (.br (isU a.2.1) (.br (isU a.2.2) (.br (isU b.2.1) (.br (isU b.2.2) (.br (isI a.3.1) (.br (isI a.3.2) (.br (isI b.3.1) (.br (isI b.3.2) (.br (isU (tAdd a.1 b.1).1) (.br (isU (tAdd a.1 b.1).2) (.br (isU (mAdd1 a.2.1 a.2.2 b.2.1 b.2.2)) (.br (isU (mAdd2 a.2.1 a.2.2 b.2.1 b.2.2)) (.br (isI (mPlus1 a.3.1 a.3.2 b.3.1 b.3.2)) (.br (isI (mPlus2 a.3.1 a.3.2 b.3.1 b.3.2)) (.br (isU (withinM (.mk (iAdd .u64 a.4.1 b.4.1) (iAdd .u64 a.4.2 b.4.2)) true).1) (.br (isU (withinM (.mk (iAdd .u64 a.4.1 b.4.1) (iAdd .u64 a.4.2 b.4.2)) true).2) (.br (isI (innerR (.mk (iAdd .i64 a.5.1 b.5.1) (iAdd .i64 a.5.2 b.5.2))).1) (.br (isI (innerR (.mk (iAdd .i64 a.5.1 b.5.1) (iAdd .i64 a.5.2 b.5.2))).2) (.leaf (.val (.u (.agg (cB (sync (.mk (tAdd a.1 b.1) (.mk (mAdd1 a.2.1 a.2.2 b.2.1 b.2.2) (mAdd2 a.2.1 a.2.2 b.2.1 b.2.2)) (.mk (mPlus1 a.3.1 a.3.2 b.3.1 b.3.2) (mPlus2 a.3.1 a.3.2 b.3.1 b.3.2)) (withinM (.mk (iAdd .u64 a.4.1 b.4.1) (iAdd .u64 a.4.2 b.4.2)) true) (innerR (.mk (iAdd .i64 a.5.1 b.5.1) (iAdd .i64 a.5.2 b.5.2)))))))))) (.no 98)) (.no 98)) (.no 98)) (.no 98)) (.no 98)) (.no 98)) (.no 98)) (.no 98)) (.no 98)) (.no 98)) (.no 98)) (.no 98)) (.no 98)) (.no 98)) (.no 98)) (.no 98)) (.no 98)) (.no 98))) (by kernel_rfl) ρ rfl ?_ w
  · obtain ⟨ia, na⟩ := goodB_iff.1 hb0
    obtain ⟨ib, nb⟩ := goodB_iff.1 hb1
    have ro : Raw5 (opB 0 a b) := opB_raw ia.raw ib.raw
    refine askB (ia.u.1) ?_
    refine askB (ia.u.2) ?_
    refine askB (ib.u.1) ?_
    refine askB (ib.u.2) ?_
    refine askB (isI_iff.2 ia.s.1) ?_
    refine askB (isI_iff.2 ia.s.2) ?_
    refine askB (isI_iff.2 ib.s.1) ?_
    refine askB (isI_iff.2 ib.s.2) ?_
    refine askB (ro.t.1) ?_
    refine askB (ro.t.2) ?_
    refine askB (ro.u.1) ?_
    refine askB (ro.u.2) ?_
    refine askB (isI_iff.2 ro.s.1) ?_
    refine askB (isI_iff.2 ro.s.2) ?_
    refine askB (by rw [add_w ia na ib nb]; exact ro.w.1) ?_
    refine askB (by rw [add_w ia na ib nb]; exact ro.w.2) ?_
    refine askB (isI_iff.2 (by rw [add_v ia na ib nb]; exact ro.v.1)) ?_
    refine askB (isI_iff.2 (by rw [add_v ia na ib nb]; exact ro.v.2)) ?_
    simp only [Tr.all]; rw [add_w ia na ib nb, add_v ia na ib nb]; rfl
theorem t_rreck1 (a : Bd) (b : Bd) (hb0 : goodB a = true) (hb1 : goodB b = true) (ρ : Nat → Nat) (w : World) : Calls Tryz.prog 51 (enV [.s (some .u8), .a [some .u64, some .u64, some .u64, some .u64, some .i64, some .i64, some .u64, some .u64, some .i64, some .i64], .a [some .u64, some .u64, some .u64, some .u64, some .i64, some .i64, some .u64, some .u64, some .i64, some .i64]] ([1, a.1.1, a.1.2, a.2.1, a.2.2, a.3.1, a.3.2, a.4.1, a.4.2, a.5.1, a.5.2, b.1.1, b.1.2, b.2.1, b.2.2, b.3.1, b.3.2, b.4.1, b.4.2, b.5.1, b.5.2], [])).toArray w fun e w' => e = .returned (V.den ρ (.u (.agg (cB (sync (opB 1 a b)))))) ∧ Below w.heap.size w w' := by
  refine pure_to nameOK oks_L05AB_1 (dOK oks_L05AB_1) 300 [.u (.c (.li .u8 1)), .u (.agg (cB a)), .u (.agg (cB b))] (T := (.br (isU a.2.1) (.br (isU a.2.2) (.br (isU b.2.1) (.br (isU b.2.2) (.br (isI a.3.1) (.br (isI a.3.2) (.br (isI b.3.1) (.br (isI b.3.2) (.br (isU (tSub a.1 b.1).1) (.br (isU (tSub a.1 b.1).2) (.br (isU (mSub1 a.2.1 a.2.2 b.2.1 b.2.2)) (.br (isU (mSub2 a.2.1 a.2.2 b.2.1 b.2.2)) (.br (isI (mMinus1 a.3.1 a.3.2 b.3.1 b.3.2)) (.br (isI (mMinus2 a.3.1 a.3.2 b.3.1 b.3.2)) (.br (isU (withinM (.mk (iSub .u64 a.4.1 b.4.2) (iSub .u64 a.4.2 b.4.1)) (iGe a.4.1 b.4.2)).1) (.br (isU (withinM (.mk (iSub .u64 a.4.1 b.4.2) (iSub .u64 a.4.2 b.4.1)) (iGe a.4.1 b.4.2)).2) (.br (isI (innerR (.mk (iSub .i64 a.5.1 b.5.2) (iSub .i64 a.5.2 b.5.1))).1) (.br (isI (innerR (.mk (iSub .i64 a.5.1 b.5.2) (iSub .i64 a.5.2 b.5.1))).2) (.leaf (.val (.u (.agg (cB (sync (.mk (tSub a.1 b.1) (.mk (mSub1 a.2.1 a.2.2 b.2.1 b.2.2) (mSub2 a.2.1 a.2.2 b.2.1 b.2.2)) (.mk (mMinus1 a.3.1 a.3.2 b.3.1 b.3.2) (mMinus2 a.3.1 a.3.2 b.3.1 b.3.2)) (withinM (.mk (iSub .u64 a.4.1 b.4.2) (iSub .u64 a.4.2 b.4.1)) (iGe a.4.1 b.4.2)) (innerR (.mk (iSub .i64 a.5.1 b.5.2) (iSub .i64 a.5.2 b.5.1)))))))))) (.no 98)) (.no 98)) (.no 98)) (.no 98)) (.no 98)) (.no 98)) (.no 98)) (.no 98)) (.no 98)) (.no 98)) (.no 98)) (.no 98)) (.no 98)) (.no 98)) (.no 98)) (.no 98)) (.no 98)) (.no 98))) (by kernel_rfl) ρ rfl ?_ w
  · obtain ⟨ia, na⟩ := goodB_iff.1 hb0
    obtain ⟨ib, nb⟩ := goodB_iff.1 hb1
    have ro : Raw5 (opB 1 a b) := opB_raw ia.raw ib.raw
    refine askB (ia.u.1) ?_
    refine askB (ia.u.2) ?_
    refine askB (ib.u.1) ?_
    refine askB (ib.u.2) ?_
    refine askB (isI_iff.2 ia.s.1) ?_
    refine askB (isI_iff.2 ia.s.2) ?_
    refine askB (isI_iff.2 ib.s.1) ?_
    refine askB (isI_iff.2 ib.s.2) ?_
    refine askB (ro.t.1) ?_
    refine askB (ro.t.2) ?_
    refine askB (ro.u.1) ?_
    refine askB (ro.u.2) ?_
    refine askB (isI_iff.2 ro.s.1) ?_
    refine askB (isI_iff.2 ro.s.2) ?_
    refine askB (by rw [sub_w ia na ib nb]; exact ro.w.1) ?_
    refine askB (by rw [sub_w ia na ib nb]; exact ro.w.2) ?_
    refine askB (isI_iff.2 (by rw [sub_v ia na ib nb]; exact ro.v.1)) ?_
    refine askB (isI_iff.2 (by rw [sub_v ia na ib nb]; exact ro.v.2)) ?_
    simp only [Tr.all]; rw [sub_w ia na ib nb, sub_v ia na ib nb]; rfl
theorem t_rreck2 (a : Bd) (b : Bd) (hb0 : goodB a = true) (hb1 : goodB b = true) (ρ : Nat → Nat) (w : World) : Calls Tryz.prog 51 (enV [.s (some .u8), .a [some .u64, some .u64, some .u64, some .u64, some .i64, some .i64, some .u64, some .u64, some .i64, some .i64], .a [some .u64, some .u64, some .u64, some .u64, some .i64, some .i64, some .u64, some .u64, some .i64, some .i64]] ([2, a.1.1, a.1.2, a.2.1, a.2.2, a.3.1, a.3.2, a.4.1, a.4.2, a.5.1, a.5.2, b.1.1, b.1.2, b.2.1, b.2.2, b.3.1, b.3.2, b.4.1, b.4.2, b.5.1, b.5.2], [])).toArray w fun e w' => e = .returned (V.den ρ (.u (.agg (cB (sync (opB 2 a b)))))) ∧ Below w.heap.size w w' := by
  refine pure_to nameOK oks_L05AB_1 (dOK oks_L05AB_1) 300 [.u (.c (.li .u8 2)), .u (.agg (cB a)), .u (.agg (cB b))] (T := (.br (isU a.1.1) (.br (isU a.1.2) (.br (isU b.1.1) (.br (isU b.1.2) (.br (tMay a.1) (.br (tMay b.1) (.br (isU a.2.1) (.br (isU a.2.2) (.br (isU b.2.1) (.br (isU b.2.2) (.br (isU (tMul a.1 b.1).1) (.br (isU (tMul a.1 b.1).2) (.br (isU (mMul1 a.2.1 a.2.2 b.2.1 b.2.2)) (.br (isU (mMul2 a.2.1 a.2.2 b.2.1 b.2.2)) (.br (isI (-9223372036854775808)) (.br (isI 9223372036854775807) (.br (isU (withinM (.mk (iMul .u64 a.4.1 b.4.1) (iMul .u64 a.4.2 b.4.2)) true).1) (.br (isU (withinM (.mk (iMul .u64 a.4.1 b.4.1) (iMul .u64 a.4.2 b.4.2)) true).2) (.br (isI (-2147483648)) (.br (isI 2147483647) (.leaf (.val (.u (.agg (cB (sync (.mk (tMul a.1 b.1) (.mk (mMul1 a.2.1 a.2.2 b.2.1 b.2.2) (mMul2 a.2.1 a.2.2 b.2.1 b.2.2)) (.mk (-9223372036854775808) 9223372036854775807) (withinM (.mk (iMul .u64 a.4.1 b.4.1) (iMul .u64 a.4.2 b.4.2)) true) (.mk (-2147483648) 2147483647)))))))) (.no 98)) (.no 98)) (.no 98)) (.no 98)) (.no 98)) (.no 98)) (.no 98)) (.no 98)) (.no 98)) (.no 98)) (.no 98)) (.no 98)) (.no 98)) (.no 98)) (.no 98)) (.no 98)) (.no 98)) (.no 98)) (.no 98)) (.no 98))) (by kernel_rfl) ρ rfl ?_ w
  · obtain ⟨ia, na⟩ := goodB_iff.1 hb0
    obtain ⟨ib, nb⟩ := goodB_iff.1 hb1
    have ro : Raw5 (opB 2 a b) := opB_raw ia.raw ib.raw
    refine askB (ia.t.1.1) ?_
    refine askB (ia.t.1.2) ?_
    refine askB (ib.t.1.1) ?_
    refine askB (ib.t.1.2) ?_
    refine askB ((tMay_iff ia.t.1).2 ia.t) ?_
    refine askB ((tMay_iff ib.t.1).2 ib.t) ?_
    refine askB (ia.u.1) ?_
    refine askB (ia.u.2) ?_
    refine askB (ib.u.1) ?_
    refine askB (ib.u.2) ?_
    refine askB (ro.t.1) ?_
    refine askB (ro.t.2) ?_
    refine askB (ro.u.1) ?_
    refine askB (ro.u.2) ?_
    refine askB (by decide) ?_
    refine askB (by decide) ?_
    refine askB (by rw [mul_w ia na ib nb]; exact ro.w.1) ?_
    refine askB (by rw [mul_w ia na ib nb]; exact ro.w.2) ?_
    refine askB (by decide) ?_
    refine askB (by decide) ?_
    simp only [Tr.all]; rw [mul_w ia na ib nb]; rfl
theorem t_rreck3 (a : Bd) (b : Bd) (hb0 : goodB a = true) (hb1 : goodB b = true) (ρ : Nat → Nat) (w : World) : Calls Tryz.prog 51 (enV [.s (some .u8), .a [some .u64, some .u64, some .u64, some .u64, some .i64, some .i64, some .u64, some .u64, some .i64, some .i64], .a [some .u64, some .u64, some .u64, some .u64, some .i64, some .i64, some .u64, some .u64, some .i64, some .i64]] ([3, a.1.1, a.1.2, a.2.1, a.2.2, a.3.1, a.3.2, a.4.1, a.4.2, a.5.1, a.5.2, b.1.1, b.1.2, b.2.1, b.2.2, b.3.1, b.3.2, b.4.1, b.4.2, b.5.1, b.5.2], [])).toArray w fun e w' => e = .returned (V.den ρ (.u (.agg (cB (sync (opB 3 a b)))))) ∧ Below w.heap.size w w' := by
  refine pure_to nameOK oks_L05AB_1 (dOK oks_L05AB_1) 300 [.u (.c (.li .u8 3)), .u (.agg (cB a)), .u (.agg (cB b))] (T := (.br (isU a.2.1) (.br (isU a.2.2) (.br (isU b.2.1) (.br (isU b.2.2) (.br (isU 0) (.br (isU 18446744073709551615) (.br (isU (mDiv1 a.2.1 a.2.2 b.2.1 b.2.2)) (.br (isU (mDiv2 a.2.1 a.2.2 b.2.1 b.2.2)) (.br (isI (-9223372036854775808)) (.br (isI 9223372036854775807) (.br (isU 0) (.br (isU 4294967295) (.br (isI (-2147483648)) (.br (isI 2147483647) (.leaf (.val (.u (.agg (cB (sync (.mk (.mk 0 18446744073709551615) (.mk (mDiv1 a.2.1 a.2.2 b.2.1 b.2.2) (mDiv2 a.2.1 a.2.2 b.2.1 b.2.2)) (.mk (-9223372036854775808) 9223372036854775807) (.mk 0 4294967295) (.mk (-2147483648) 2147483647)))))))) (.no 98)) (.no 98)) (.no 98)) (.no 98)) (.no 98)) (.no 98)) (.no 98)) (.no 98)) (.no 98)) (.no 98)) (.no 98)) (.no 98)) (.no 98)) (.no 98))) (by kernel_rfl) ρ rfl ?_ w
  · obtain ⟨ia, na⟩ := goodB_iff.1 hb0
    obtain ⟨ib, nb⟩ := goodB_iff.1 hb1
    have ro : Raw5 (opB 3 a b) := opB_raw ia.raw ib.raw
    refine askB (ia.u.1) ?_
    refine askB (ia.u.2) ?_
    refine askB (ib.u.1) ?_
    refine askB (ib.u.2) ?_
    refine askB (by decide) ?_
    refine askB (by decide) ?_
    refine askB (ro.u.1) ?_
    refine askB (ro.u.2) ?_
    iterate 6 (refine askB (by decide) ?_)
    simp only [Tr.all]; rfl
theorem t_rreck9 (a : Bd) (b : Bd) (hb0 : goodB a = true) (hb1 : goodB b = true) (ρ : Nat → Nat) (w : World) : Calls Tryz.prog 51 (enV [.s (some .u8), .a [some .u64, some .u64, some .u64, some .u64, some .i64, some .i64, some .u64, some .u64, some .i64, some .i64], .a [some .u64, some .u64, some .u64, some .u64, some .i64, some .i64, some .u64, some .u64, some .i64, some .i64]] ([9, a.1.1, a.1.2, a.2.1, a.2.2, a.3.1, a.3.2, a.4.1, a.4.2, a.5.1, a.5.2, b.1.1, b.1.2, b.2.1, b.2.2, b.3.1, b.3.2, b.4.1, b.4.2, b.5.1, b.5.2], [])).toArray w fun e w' => e = .returned (V.den ρ (.u (.agg (cB (sync (opB 9 a b)))))) ∧ Below w.heap.size w w' := by
  refine pure_to nameOK oks_L05AB_1 (dOK oks_L05AB_1) 300 [.u (.c (.li .u8 9)), .u (.agg (cB a)), .u (.agg (cB b))] (T := (.br (isU a.2.1) (.br (isU a.2.2) (.br (isU b.2.1) (.br (isU b.2.2) (.br (isU 0) (.br (isU 18446744073709551615) (.br (isU (mMod1 a.2.1 a.2.2 b.2.1 b.2.2)) (.br (isU (mMod2 a.2.1 a.2.2 b.2.1 b.2.2)) (.br (isI (-9223372036854775808)) (.br (isI 9223372036854775807) (.br (isU 0) (.br (isU 4294967295) (.br (isI (-2147483648)) (.br (isI 2147483647) (.leaf (.val (.u (.agg (cB (sync (.mk (.mk 0 18446744073709551615) (.mk (mMod1 a.2.1 a.2.2 b.2.1 b.2.2) (mMod2 a.2.1 a.2.2 b.2.1 b.2.2)) (.mk (-9223372036854775808) 9223372036854775807) (.mk 0 4294967295) (.mk (-2147483648) 2147483647)))))))) (.no 98)) (.no 98)) (.no 98)) (.no 98)) (.no 98)) (.no 98)) (.no 98)) (.no 98)) (.no 98)) (.no 98)) (.no 98)) (.no 98)) (.no 98)) (.no 98))) (by kernel_rfl) ρ rfl ?_ w
  · obtain ⟨ia, na⟩ := goodB_iff.1 hb0
    obtain ⟨ib, nb⟩ := goodB_iff.1 hb1
    have ro : Raw5 (opB 9 a b) := opB_raw ia.raw ib.raw
    refine askB (ia.u.1) ?_
    refine askB (ia.u.2) ?_
    refine askB (ib.u.1) ?_
    refine askB (ib.u.2) ?_
    refine askB (by decide) ?_
    refine askB (by decide) ?_
    refine askB (ro.u.1) ?_
    refine askB (ro.u.2) ?_
    iterate 6 (refine askB (by decide) ?_)
    simp only [Tr.all]; rfl
theorem t_rbits4 (a : Bd) (b : Bd) (hb0 : goodB a = true) (hb1 : goodB b = true) (ρ : Nat → Nat) (w : World) : Calls Tryz.prog 55 (enV [.s (some .u8), .a [some .u64, some .u64, some .u64, some .u64, some .i64, some .i64, some .u64, some .u64, some .i64, some .i64], .a [some .u64, some .u64, some .u64, some .u64, some .i64, some .i64, some .u64, some .u64, some .i64, some .i64]] ([4, a.1.1, a.1.2, a.2.1, a.2.2, a.3.1, a.3.2, a.4.1, a.4.2, a.5.1, a.5.2, b.1.1, b.1.2, b.2.1, b.2.2, b.3.1, b.3.2, b.4.1, b.4.2, b.5.1, b.5.2], [])).toArray w fun e w' => e = .returned (V.den ρ (.u (.agg (cB (sync (opB 4 a b)))))) ∧ Below w.heap.size w w' := by
  refine pure_to nameOK (okc s_rBitsH_ok (okc s_rsync_ok okn)) (dOK (okc s_rBitsH_ok (okc s_rsync_ok okn))) 300 [.u (.c (.li .u8 4)), .u (.agg (cB a)), .u (.agg (cB b))] (T := (.br (isU a.1.1) (.br (isU a.1.2) (.br (isU b.1.1) (.br (isU b.1.2) (.br (tMay a.1) (.br (tMay b.1) (.br (isH 2) (.br (isU (bitsH 2 a.1 b.1).1) (.br (isU (bitsH 2 a.1 b.1).2) (.br (isU (iMax2 a.2.1 b.2.1)) (.br (isU 18446744073709551615) (.br (isI (-9223372036854775808)) (.br (isI 9223372036854775807) (.br (isU (iMax2 a.4.1 b.4.1)) (.br (isU 4294967295) (.br (isI (-2147483648)) (.br (isI 2147483647) (.leaf (.val (.u (.agg (cB (sync (.mk (bitsH 2 a.1 b.1) (.mk (iMax2 a.2.1 b.2.1) 18446744073709551615) (.mk (-9223372036854775808) 9223372036854775807) (.mk (iMax2 a.4.1 b.4.1) 4294967295) (.mk (-2147483648) 2147483647)))))))) (.no 98)) (.no 98)) (.no 98)) (.no 98)) (.no 98)) (.no 98)) (.no 98)) (.no 98)) (.no 98)) (.no 98)) (.no 98)) (.no 98)) (.no 98)) (.no 98)) (.no 98)) (.no 98)) (.no 98))) (by kernel_rfl) ρ rfl ?_ w
  · obtain ⟨ia, na⟩ := goodB_iff.1 hb0
    obtain ⟨ib, nb⟩ := goodB_iff.1 hb1
    have ro : Raw5 (opB 4 a b) := opB_raw ia.raw ib.raw
    refine askB (ia.t.1.1) ?_
    refine askB (ia.t.1.2) ?_
    refine askB (ib.t.1.1) ?_
    refine askB (ib.t.1.2) ?_
    refine askB ((tMay_iff ia.t.1).2 ia.t) ?_
    refine askB ((tMay_iff ib.t.1).2 ib.t) ?_
    refine askB (by decide) ?_
    refine askB (ro.t.1) ?_
    refine askB (ro.t.2) ?_
    refine askB (ro.u.1) ?_
    iterate 3 (refine askB (by decide) ?_)
    refine askB (ro.w.1) ?_
    iterate 3 (refine askB (by decide) ?_)
    simp only [Tr.all]; rfl
theorem t_rbits5 (a : Bd) (b : Bd) (hb0 : goodB a = true) (hb1 : goodB b = true) (ρ : Nat → Nat) (w : World) : Calls Tryz.prog 55 (enV [.s (some .u8), .a [some .u64, some .u64, some .u64, some .u64, some .i64, some .i64, some .u64, some .u64, some .i64, some .i64], .a [some .u64, some .u64, some .u64, some .u64, some .i64, some .i64, some .u64, some .u64, some .i64, some .i64]] ([5, a.1.1, a.1.2, a.2.1, a.2.2, a.3.1, a.3.2, a.4.1, a.4.2, a.5.1, a.5.2, b.1.1, b.1.2, b.2.1, b.2.2, b.3.1, b.3.2, b.4.1, b.4.2, b.5.1, b.5.2], [])).toArray w fun e w' => e = .returned (V.den ρ (.u (.agg (cB (sync (opB 5 a b)))))) ∧ Below w.heap.size w w' := by
  refine pure_to nameOK (okc s_rBitsH_ok (okc s_rsync_ok okn)) (dOK (okc s_rBitsH_ok (okc s_rsync_ok okn))) 300 [.u (.c (.li .u8 5)), .u (.agg (cB a)), .u (.agg (cB b))] (T := (.br (isU a.1.1) (.br (isU a.1.2) (.br (isU b.1.1) (.br (isU b.1.2) (.br (tMay a.1) (.br (tMay b.1) (.br (isH 1) (.br (isU (bitsH 1 a.1 b.1).1) (.br (isU (bitsH 1 a.1 b.1).2) (.br (isU 0) (.br (isU (iMin2 a.2.2 b.2.2)) (.br (isI (-9223372036854775808)) (.br (isI 9223372036854775807) (.br (isU 0) (.br (isU (iMin2 a.4.2 b.4.2)) (.br (isI (-2147483648)) (.br (isI 2147483647) (.leaf (.val (.u (.agg (cB (sync (.mk (bitsH 1 a.1 b.1) (.mk 0 (iMin2 a.2.2 b.2.2)) (.mk (-9223372036854775808) 9223372036854775807) (.mk 0 (iMin2 a.4.2 b.4.2)) (.mk (-2147483648) 2147483647)))))))) (.no 98)) (.no 98)) (.no 98)) (.no 98)) (.no 98)) (.no 98)) (.no 98)) (.no 98)) (.no 98)) (.no 98)) (.no 98)) (.no 98)) (.no 98)) (.no 98)) (.no 98)) (.no 98)) (.no 98))) (by kernel_rfl) ρ rfl ?_ w
  · obtain ⟨ia, na⟩ := goodB_iff.1 hb0
    obtain ⟨ib, nb⟩ := goodB_iff.1 hb1
    have ro : Raw5 (opB 5 a b) := opB_raw ia.raw ib.raw
    refine askB (ia.t.1.1) ?_
    refine askB (ia.t.1.2) ?_
    refine askB (ib.t.1.1) ?_
    refine askB (ib.t.1.2) ?_
    refine askB ((tMay_iff ia.t.1).2 ia.t) ?_
    refine askB ((tMay_iff ib.t.1).2 ib.t) ?_
    refine askB (by decide) ?_
    refine askB (ro.t.1) ?_
    refine askB (ro.t.2) ?_
    refine askB (by decide) ?_
    refine askB (ro.u.2) ?_
    iterate 3 (refine askB (by decide) ?_)
    refine askB (ro.w.2) ?_
    refine askB (by decide) ?_
    refine askB (by decide) ?_
    simp only [Tr.all]; rfl
theorem t_rbits10 (a : Bd) (b : Bd) (hb0 : goodB a = true) (hb1 : goodB b = true) (ρ : Nat → Nat) (w : World) : Calls Tryz.prog 55 (enV [.s (some .u8), .a [some .u64, some .u64, some .u64, some .u64, some .i64, some .i64, some .u64, some .u64, some .i64, some .i64], .a [some .u64, some .u64, some .u64, some .u64, some .i64, some .i64, some .u64, some .u64, some .i64, some .i64]] ([10, a.1.1, a.1.2, a.2.1, a.2.2, a.3.1, a.3.2, a.4.1, a.4.2, a.5.1, a.5.2, b.1.1, b.1.2, b.2.1, b.2.2, b.3.1, b.3.2, b.4.1, b.4.2, b.5.1, b.5.2], [])).toArray w fun e w' => e = .returned (V.den ρ (.u (.agg (cB (sync (opB 10 a b)))))) ∧ Below w.heap.size w w' := by
  refine pure_to nameOK (okc s_rBitsH_ok (okc s_rsync_ok okn)) (dOK (okc s_rBitsH_ok (okc s_rsync_ok okn))) 300 [.u (.c (.li .u8 10)), .u (.agg (cB a)), .u (.agg (cB b))] (T := (.br (isU a.1.1) (.br (isU a.1.2) (.br (isU b.1.1) (.br (isU b.1.2) (.br (tMay a.1) (.br (tMay b.1) (.br (isH 3) (.br (isU (bitsH 3 a.1 b.1).1) (.br (isU (bitsH 3 a.1 b.1).2) (.br (isU 0) (.br (isU 18446744073709551615) (.br (isI (-9223372036854775808)) (.br (isI 9223372036854775807) (.br (isU 0) (.br (isU 4294967295) (.br (isI (-2147483648)) (.br (isI 2147483647) (.leaf (.val (.u (.agg (cB (sync (.mk (bitsH 3 a.1 b.1) (.mk 0 18446744073709551615) (.mk (-9223372036854775808) 9223372036854775807) (.mk 0 4294967295) (.mk (-2147483648) 2147483647)))))))) (.no 98)) (.no 98)) (.no 98)) (.no 98)) (.no 98)) (.no 98)) (.no 98)) (.no 98)) (.no 98)) (.no 98)) (.no 98)) (.no 98)) (.no 98)) (.no 98)) (.no 98)) (.no 98)) (.no 98))) (by kernel_rfl) ρ rfl ?_ w
  · obtain ⟨ia, na⟩ := goodB_iff.1 hb0
    obtain ⟨ib, nb⟩ := goodB_iff.1 hb1
    have ro : Raw5 (opB 10 a b) := opB_raw ia.raw ib.raw
    refine askB (ia.t.1.1) ?_
    refine askB (ia.t.1.2) ?_
    refine askB (ib.t.1.1) ?_
    refine askB (ib.t.1.2) ?_
    refine askB ((tMay_iff ia.t.1).2 ia.t) ?_
    refine askB ((tMay_iff ib.t.1).2 ib.t) ?_
    refine askB (by decide) ?_
    refine askB (ro.t.1) ?_
    refine askB (ro.t.2) ?_
    iterate 8 (refine askB (by decide) ?_)
    simp only [Tr.all]; rfl
theorem oks_L05AB_2 : ∀ q ∈ [s_rShiftH, L04.s_rShl, L04.s_rShr, L04.s_rSar, s_rsync], SumOK Tryz.prog q := (okc s_rShiftH_ok (okc L04.s_rShl_ok (okc L04.s_rShr_ok (okc L04.s_rSar_ok (okc s_rsync_ok okn)))))
theorem t_rshifts6 (a : Bd) (n : Int) (known : Bool) (hb0 : invB a = true) (hb1 : isU n = true) (ρ : Nat → Nat) (w : World) : Calls Tryz.prog 54 (enV [.s (some .u8), .a [some .u64, some .u64, some .u64, some .u64, some .i64, some .i64, some .u64, some .u64, some .i64, some .i64], .s (some .u64), .s none] ([6, a.1.1, a.1.2, a.2.1, a.2.2, a.3.1, a.3.2, a.4.1, a.4.2, a.5.1, a.5.2, n], [known])).toArray w fun e w' => e = .returned (V.den ρ (.u (.agg (cB (shiftB 6 a n known))))) ∧ Below w.heap.size w w' := by
  refine pure_to nameOK oks_L05AB_2 (dOK oks_L05AB_2) 300 [.u (.c (.li .u8 6)), .u (.agg (cB a)), .u (.c (.si .u64 n)), .u (.c (.sb known))] (T := (.br (bNot known) (.br (isU 0) (.br (isU 18446744073709551615) (.br (isU 0) (.br (isU 18446744073709551615) (.br (isI (-9223372036854775808)) (.br (isI 9223372036854775807) (.br (isU 0) (.br (isU 4294967295) (.br (isI (-2147483648)) (.br (isI 2147483647) (.leaf (.val (.u (.agg (cB (sync (.mk (.mk 0 18446744073709551615) (.mk 0 18446744073709551615) (.mk (-9223372036854775808) 9223372036854775807) (.mk 0 4294967295) (.mk (-2147483648) 2147483647)))))))) (.no 98)) (.no 98)) (.no 98)) (.no 98)) (.no 98)) (.no 98)) (.no 98)) (.no 98)) (.no 98)) (.no 98)) (.br (isU a.1.1) (.br (isU a.1.2) (.br (tMay a.1) (.br (isU n) (.br (isH0 0) (.br (isU a.2.1) (.br (isU a.2.2) (.br (isU n) (.br (isU (shH 0 a.1 n).1) (.br (isU (shH 0 a.1 n).2) (.br (isU (mShl1 a.2.1 a.2.2 n)) (.br (isU (mShl2 a.2.1 a.2.2 n)) (.br (isI (-9223372036854775808)) (.br (isI 9223372036854775807) (.br (isU 0) (.br (isU 4294967295) (.br (isI (-2147483648)) (.br (isI 2147483647) (.leaf (.val (.u (.agg (cB (sync (.mk (shH 0 a.1 n) (.mk (mShl1 a.2.1 a.2.2 n) (mShl2 a.2.1 a.2.2 n)) (.mk (-9223372036854775808) 9223372036854775807) (.mk 0 4294967295) (.mk (-2147483648) 2147483647)))))))) (.no 98)) (.no 98)) (.no 98)) (.no 98)) (.no 98)) (.no 98)) (.no 98)) (.no 98)) (.no 98)) (.no 98)) (.no 98)) (.no 98)) (.no 98)) (.no 98)) (.no 98)) (.no 98)) (.no 98)) (.no 98)))) (by kernel_rfl) ρ rfl ?_ w
  · have ia : Inv5 a := invB_iff.1 hb0
    have ro : Raw5 (shlB a n) := shlB_raw ia.raw
    have hn : isU n = true := hb1
    refine brn2 (fun k1 => ?_) (fun k1 => ?_)
    · refine askB (ia.t.1.1) ?_
      refine askB (ia.t.1.2) ?_
      refine askB ((tMay_iff ia.t.1).2 ia.t) ?_
      refine askB (hn) ?_
      refine askB (by decide) ?_
      refine askB (ia.u.1) ?_
      refine askB (ia.u.2) ?_
      refine askB (hn) ?_
      refine askB (ro.t.1) ?_
      refine askB (ro.t.2) ?_
      refine askB (ro.u.1) ?_
      refine askB (ro.u.2) ?_
      iterate 6 (refine askB (by decide) ?_)
      have e : shiftB 6 a n known = sync (shlB a n) := by rw [k1]; rfl
      simp only [Tr.all]; rw [e]; try rfl
    · iterate 10 (refine askB (by decide) ?_)
      have e : shiftB 6 a n known = sync anyB := by rw [k1]; rfl
      simp only [Tr.all]; rw [e]; try rfl
theorem t_rshifts7 (a : Bd) (n : Int) (known : Bool) (hb0 : invB a = true) (hb1 : isU n = true) (ρ : Nat → Nat) (w : World) : Calls Tryz.prog 54 (enV [.s (some .u8), .a [some .u64, some .u64, some .u64, some .u64, some .i64, some .i64, some .u64, some .u64, some .i64, some .i64], .s (some .u64), .s none] ([7, a.1.1, a.1.2, a.2.1, a.2.2, a.3.1, a.3.2, a.4.1, a.4.2, a.5.1, a.5.2, n], [known])).toArray w fun e w' => e = .returned (V.den ρ (.u (.agg (cB (shiftB 7 a n known))))) ∧ Below w.heap.size w w' := by
  refine pure_to nameOK oks_L05AB_2 (dOK oks_L05AB_2) 300 [.u (.c (.li .u8 7)), .u (.agg (cB a)), .u (.c (.si .u64 n)), .u (.c (.sb known))] (T := (.br (bNot known) (.br (isU 0) (.br (isU 18446744073709551615) (.br (isU 0) (.br (isU a.2.2) (.br (isI (-9223372036854775808)) (.br (isI 9223372036854775807) (.br (isU 0) (.br (isU 4294967295) (.br (isI (-2147483648)) (.br (isI 2147483647) (.leaf (.val (.u (.agg (cB (sync (.mk (.mk 0 18446744073709551615) (.mk 0 a.2.2) (.mk (-9223372036854775808) 9223372036854775807) (.mk 0 4294967295) (.mk (-2147483648) 2147483647)))))))) (.no 98)) (.no 98)) (.no 98)) (.no 98)) (.no 98)) (.no 98)) (.no 98)) (.no 98)) (.no 98)) (.no 98)) (.br (isU a.1.1) (.br (isU a.1.2) (.br (tMay a.1) (.br (isU n) (.br (isH0 1) (.br (isU a.2.1) (.br (isU a.2.2) (.br (isU n) (.br (isU (shH 1 a.1 n).1) (.br (isU (shH 1 a.1 n).2) (.br (isU (mShr1 a.2.1 a.2.2 n)) (.br (isU (mShr2 a.2.1 a.2.2 n)) (.br (isI (-9223372036854775808)) (.br (isI 9223372036854775807) (.br (isU 0) (.br (isU 4294967295) (.br (isI (-2147483648)) (.br (isI 2147483647) (.leaf (.val (.u (.agg (cB (sync (.mk (shH 1 a.1 n) (.mk (mShr1 a.2.1 a.2.2 n) (mShr2 a.2.1 a.2.2 n)) (.mk (-9223372036854775808) 9223372036854775807) (.mk 0 4294967295) (.mk (-2147483648) 2147483647)))))))) (.no 98)) (.no 98)) (.no 98)) (.no 98)) (.no 98)) (.no 98)) (.no 98)) (.no 98)) (.no 98)) (.no 98)) (.no 98)) (.no 98)) (.no 98)) (.no 98)) (.no 98)) (.no 98)) (.no 98)) (.no 98)))) (by kernel_rfl) ρ rfl ?_ w
  · have ia : Inv5 a := invB_iff.1 hb0
    have ro : Raw5 (shrB a n) := shrB_raw ia.raw
    have hn : isU n = true := hb1
    refine brn2 (fun k1 => ?_) (fun k1 => ?_)
    · refine askB (ia.t.1.1) ?_
      refine askB (ia.t.1.2) ?_
      refine askB ((tMay_iff ia.t.1).2 ia.t) ?_
      refine askB (hn) ?_
      refine askB (by decide) ?_
      refine askB (ia.u.1) ?_
      refine askB (ia.u.2) ?_
      refine askB (hn) ?_
      refine askB (ro.t.1) ?_
      refine askB (ro.t.2) ?_
      refine askB (ro.u.1) ?_
      refine askB (ro.u.2) ?_
      iterate 6 (refine askB (by decide) ?_)
      have e : shiftB 7 a n known = sync (shrB a n) := by rw [k1]; rfl
      simp only [Tr.all]; rw [e]; try rfl
    · iterate 3 (refine askB (by decide) ?_)
      refine askB (ia.u.2) ?_
      iterate 6 (refine askB (by decide) ?_)
      have e : shiftB 7 a n known = sync (shrQ a) := by rw [k1]; rfl
      simp only [Tr.all]; rw [e]; try rfl
theorem t_rshifts12 (a : Bd) (n : Int) (known : Bool) (hb0 : invB a = true) (hb1 : isU n = true) (ρ : Nat → Nat) (w : World) : Calls Tryz.prog 54 (enV [.s (some .u8), .a [some .u64, some .u64, some .u64, some .u64, some .i64, some .i64, some .u64, some .u64, some .i64, some .i64], .s (some .u64), .s none] ([12, a.1.1, a.1.2, a.2.1, a.2.2, a.3.1, a.3.2, a.4.1, a.4.2, a.5.1, a.5.2, n], [known])).toArray w fun e w' => e = .returned (V.den ρ (.u (.agg (cB (shiftB 12 a n known))))) ∧ Below w.heap.size w w' := by
  refine pure_to nameOK oks_L05AB_2 (dOK oks_L05AB_2) 300 [.u (.c (.li .u8 12)), .u (.agg (cB a)), .u (.c (.si .u64 n)), .u (.c (.sb known))] (T := (.br (bNot known) (.br (isU 0) (.br (isU 18446744073709551615) (.br (isU 0) (.br (isU 18446744073709551615) (.br (isI (-9223372036854775808)) (.br (isI 9223372036854775807) (.br (isU 0) (.br (isU 4294967295) (.br (isI (-2147483648)) (.br (isI 2147483647) (.leaf (.val (.u (.agg (cB (sync (.mk (.mk 0 18446744073709551615) (.mk 0 18446744073709551615) (.mk (-9223372036854775808) 9223372036854775807) (.mk 0 4294967295) (.mk (-2147483648) 2147483647)))))))) (.no 98)) (.no 98)) (.no 98)) (.no 98)) (.no 98)) (.no 98)) (.no 98)) (.no 98)) (.no 98)) (.no 98)) (.br (isU a.1.1) (.br (isU a.1.2) (.br (tMay a.1) (.br (isU n) (.br (isH0 2) (.br (isI a.3.1) (.br (isI a.3.2) (.br (isU n) (.br (isU (shH 2 a.1 n).1) (.br (isU (shH 2 a.1 n).2) (.br (isU 0) (.br (isU 18446744073709551615) (.br (isI (mSar1 a.3.1 a.3.2 n)) (.br (isI (mSar2 a.3.1 a.3.2 n)) (.br (isU 0) (.br (isU 4294967295) (.br (isI (-2147483648)) (.br (isI 2147483647) (.leaf (.val (.u (.agg (cB (sync (.mk (shH 2 a.1 n) (.mk 0 18446744073709551615) (.mk (mSar1 a.3.1 a.3.2 n) (mSar2 a.3.1 a.3.2 n)) (.mk 0 4294967295) (.mk (-2147483648) 2147483647)))))))) (.no 98)) (.no 98)) (.no 98)) (.no 98)) (.no 98)) (.no 98)) (.no 98)) (.no 98)) (.no 98)) (.no 98)) (.no 98)) (.no 98)) (.no 98)) (.no 98)) (.no 98)) (.no 98)) (.no 98)) (.no 98)))) (by kernel_rfl) ρ rfl ?_ w
  · have ia : Inv5 a := invB_iff.1 hb0
    have ro : Raw5 (sarB a n) := sarB_raw ia.raw
    have hn : isU n = true := hb1
    refine brn2 (fun k1 => ?_) (fun k1 => ?_)
    · refine askB (ia.t.1.1) ?_
      refine askB (ia.t.1.2) ?_
      refine askB ((tMay_iff ia.t.1).2 ia.t) ?_
      refine askB (hn) ?_
      refine askB (by decide) ?_
      refine askB (isI_iff.2 ia.s.1) ?_
      refine askB (isI_iff.2 ia.s.2) ?_
      refine askB (hn) ?_
      refine askB (ro.t.1) ?_
      refine askB (ro.t.2) ?_
      refine askB (by decide) ?_
      refine askB (by decide) ?_
      refine askB (isI_iff.2 ro.s.1) ?_
      refine askB (isI_iff.2 ro.s.2) ?_
      iterate 4 (refine askB (by decide) ?_)
      have e : shiftB 12 a n known = sync (sarB a n) := by rw [k1]; rfl
      simp only [Tr.all]; rw [e]; try rfl
    · iterate 10 (refine askB (by decide) ?_)
      have e : shiftB 12 a n known = sync anyB := by rw [k1]; rfl
      simp only [Tr.all]; rw [e]; try rfl
theorem t_rreckH (c : Int) (a : Bd) (b : Bd) (hb0 : isR c = true) (hb1 : goodB a = true) (hb2 : goodB b = true) (ρ : Nat → Nat) (w : World) : Calls Tryz.prog 51 (enV [.s (some .u8), .a [some .u64, some .u64, some .u64, some .u64, some .i64, some .i64, some .u64, some .u64, some .i64, some .i64], .a [some .u64, some .u64, some .u64, some .u64, some .i64, some .i64, some .u64, some .u64, some .i64, some .i64]] ([c, a.1.1, a.1.2, a.2.1, a.2.2, a.3.1, a.3.2, a.4.1, a.4.2, a.5.1, a.5.2, b.1.1, b.1.2, b.2.1, b.2.2, b.3.1, b.3.2, b.4.1, b.4.2, b.5.1, b.5.2], [])).toArray w fun e w' => e = .returned (V.den ρ (.u (.agg (cB (sync (opB c a b)))))) ∧ Below w.heap.size w w' := by
  have hcs := of_decide_eq_true hb0
  rcases hcs with rfl | rfl | rfl | rfl | rfl
  · exact t_rreck0 a b hb1 hb2 ρ w
  · exact t_rreck1 a b hb1 hb2 ρ w
  · exact t_rreck2 a b hb1 hb2 ρ w
  · exact t_rreck3 a b hb1 hb2 ρ w
  · exact t_rreck9 a b hb1 hb2 ρ w
def s_rreckH : Sum := bySum 51 [.s (some .u8), .a [some .u64, some .u64, some .u64, some .u64, some .i64, some .i64, some .u64, some .u64, some .i64, some .i64], .a [some .u64, some .u64, some .u64, some .u64, some .i64, some .i64, some .u64, some .u64, some .i64, some .i64]] fun
  | [a0, a1, a2, a3, a4, a5, a6, a7, a8, a9, a10, a11, a12, a13, a14, a15, a16, a17, a18, a19, a20], [] => some ([isR a0, goodB (Bd.mk (P2.mk a1 a2) (P2.mk a3 a4) (P2.mk a5 a6) (P2.mk a7 a8) (P2.mk a9 a10)), goodB (Bd.mk (P2.mk a11 a12) (P2.mk a13 a14) (P2.mk a15 a16) (P2.mk a17 a18) (P2.mk a19 a20))], .u (.agg (cB (sync (opB a0 (Bd.mk (P2.mk a1 a2) (P2.mk a3 a4) (P2.mk a5 a6) (P2.mk a7 a8) (P2.mk a9 a10)) (Bd.mk (P2.mk a11 a12) (P2.mk a13 a14) (P2.mk a15 a16) (P2.mk a17 a18) (P2.mk a19 a20)))))))
  | _, _ => none
theorem s_rreckH_ok : SumOK Tryz.prog s_rreckH := by
  refine bySum_ok ⟨_, Tryz.func51, by kernel_rfl⟩ ?_
  intro ns os bs r hm hb ρ w
  split at hm
  · rename_i a0 a1 a2 a3 a4 a5 a6 a7 a8 a9 a10 a11 a12 a13 a14 a15 a16 a17 a18 a19 a20
    cases hm
    exact t_rreckH a0 (Bd.mk (P2.mk a1 a2) (P2.mk a3 a4) (P2.mk a5 a6) (P2.mk a7 a8) (P2.mk a9 a10)) (Bd.mk (P2.mk a11 a12) (P2.mk a13 a14) (P2.mk a15 a16) (P2.mk a17 a18) (P2.mk a19 a20)) (hb _ (by simp)) (hb _ (by simp)) (hb _ (by simp)) ρ w
  · cases hm
theorem t_rbitsH (c : Int) (a : Bd) (b : Bd) (hb0 : isB c = true) (hb1 : goodB a = true) (hb2 : goodB b = true) (ρ : Nat → Nat) (w : World) : Calls Tryz.prog 55 (enV [.s (some .u8), .a [some .u64, some .u64, some .u64, some .u64, some .i64, some .i64, some .u64, some .u64, some .i64, some .i64], .a [some .u64, some .u64, some .u64, some .u64, some .i64, some .i64, some .u64, some .u64, some .i64, some .i64]] ([c, a.1.1, a.1.2, a.2.1, a.2.2, a.3.1, a.3.2, a.4.1, a.4.2, a.5.1, a.5.2, b.1.1, b.1.2, b.2.1, b.2.2, b.3.1, b.3.2, b.4.1, b.4.2, b.5.1, b.5.2], [])).toArray w fun e w' => e = .returned (V.den ρ (.u (.agg (cB (sync (opB c a b)))))) ∧ Below w.heap.size w w' := by
  have hcs := of_decide_eq_true hb0
  rcases hcs with rfl | rfl | rfl
  · exact t_rbits4 a b hb1 hb2 ρ w
  · exact t_rbits5 a b hb1 hb2 ρ w
  · exact t_rbits10 a b hb1 hb2 ρ w
def s_rbitsH : Sum := bySum 55 [.s (some .u8), .a [some .u64, some .u64, some .u64, some .u64, some .i64, some .i64, some .u64, some .u64, some .i64, some .i64], .a [some .u64, some .u64, some .u64, some .u64, some .i64, some .i64, some .u64, some .u64, some .i64, some .i64]] fun
  | [a0, a1, a2, a3, a4, a5, a6, a7, a8, a9, a10, a11, a12, a13, a14, a15, a16, a17, a18, a19, a20], [] => some ([isB a0, goodB (Bd.mk (P2.mk a1 a2) (P2.mk a3 a4) (P2.mk a5 a6) (P2.mk a7 a8) (P2.mk a9 a10)), goodB (Bd.mk (P2.mk a11 a12) (P2.mk a13 a14) (P2.mk a15 a16) (P2.mk a17 a18) (P2.mk a19 a20))], .u (.agg (cB (sync (opB a0 (Bd.mk (P2.mk a1 a2) (P2.mk a3 a4) (P2.mk a5 a6) (P2.mk a7 a8) (P2.mk a9 a10)) (Bd.mk (P2.mk a11 a12) (P2.mk a13 a14) (P2.mk a15 a16) (P2.mk a17 a18) (P2.mk a19 a20)))))))
  | _, _ => none
theorem s_rbitsH_ok : SumOK Tryz.prog s_rbitsH := by
  refine bySum_ok ⟨_, Tryz.func55, by kernel_rfl⟩ ?_
  intro ns os bs r hm hb ρ w
  split at hm
  · rename_i a0 a1 a2 a3 a4 a5 a6 a7 a8 a9 a10 a11 a12 a13 a14 a15 a16 a17 a18 a19 a20
    cases hm
    exact t_rbitsH a0 (Bd.mk (P2.mk a1 a2) (P2.mk a3 a4) (P2.mk a5 a6) (P2.mk a7 a8) (P2.mk a9 a10)) (Bd.mk (P2.mk a11 a12) (P2.mk a13 a14) (P2.mk a15 a16) (P2.mk a17 a18) (P2.mk a19 a20)) (hb _ (by simp)) (hb _ (by simp)) (hb _ (by simp)) ρ w
  · cases hm
theorem t_rshiftsH (c : Int) (a : Bd) (n : Int) (known : Bool) (hb0 : isSh c = true) (hb1 : invB a = true) (hb2 : isU n = true) (ρ : Nat → Nat) (w : World) : Calls Tryz.prog 54 (enV [.s (some .u8), .a [some .u64, some .u64, some .u64, some .u64, some .i64, some .i64, some .u64, some .u64, some .i64, some .i64], .s (some .u64), .s none] ([c, a.1.1, a.1.2, a.2.1, a.2.2, a.3.1, a.3.2, a.4.1, a.4.2, a.5.1, a.5.2, n], [known])).toArray w fun e w' => e = .returned (V.den ρ (.u (.agg (cB (shiftB c a n known))))) ∧ Below w.heap.size w w' := by
  have hcs := of_decide_eq_true hb0
  rcases hcs with rfl | rfl | rfl
  · exact t_rshifts6 a n known hb1 hb2 ρ w
  · exact t_rshifts7 a n known hb1 hb2 ρ w
  · exact t_rshifts12 a n known hb1 hb2 ρ w
def s_rshiftsH : Sum := bySum 54 [.s (some .u8), .a [some .u64, some .u64, some .u64, some .u64, some .i64, some .i64, some .u64, some .u64, some .i64, some .i64], .s (some .u64), .s none] fun
  | [a0, a1, a2, a3, a4, a5, a6, a7, a8, a9, a10, a11], [o0] => some ([isSh a0, invB (Bd.mk (P2.mk a1 a2) (P2.mk a3 a4) (P2.mk a5 a6) (P2.mk a7 a8) (P2.mk a9 a10)), isU a11], .u (.agg (cB (shiftB a0 (Bd.mk (P2.mk a1 a2) (P2.mk a3 a4) (P2.mk a5 a6) (P2.mk a7 a8) (P2.mk a9 a10)) a11 o0))))
  | _, _ => none
theorem s_rshiftsH_ok : SumOK Tryz.prog s_rshiftsH := by
  refine bySum_ok ⟨_, Tryz.func54, by kernel_rfl⟩ ?_
  intro ns os bs r hm hb ρ w
  split at hm
  · rename_i a0 a1 a2 a3 a4 a5 a6 a7 a8 a9 a10 a11 o0
    cases hm
    exact t_rshiftsH a0 (Bd.mk (P2.mk a1 a2) (P2.mk a3 a4) (P2.mk a5 a6) (P2.mk a7 a8) (P2.mk a9 a10)) a11 o0 (hb _ (by simp)) (hb _ (by simp)) (hb _ (by simp)) ρ w
  · cases hm
theorem oks_L05AB_3 : ∀ q ∈ [s_rBNone, s_rlow, s_rLowT, s_rlong, s_rshiftsH, s_rbitsH, s_rreckH, s_rConst], SumOK Tryz.prog q := (okc s_rBNone_ok (okc s_rlow_ok (okc s_rLowT_ok (okc s_rlong_ok (okc s_rshiftsH_ok (okc s_rbitsH_ok (okc s_rreckH_ok (okc s_rConst_ok okn))))))))
theorem t_rdoes0t (a : Bd) (b : Bd) (hb0 : invB a = true) (hb1 : invB b = true) (ρ : Nat → Nat) (w : World) : Calls Tryz.prog 20 (enV [.s (some .u8), .s none, .a [some .u64, some .u64, some .u64, some .u64, some .i64, some .i64, some .u64, some .u64, some .i64, some .i64], .a [some .u64, some .u64, some .u64, some .u64, some .i64, some .i64, some .u64, some .u64, some .i64, some .i64]] ([0, a.1.1, a.1.2, a.2.1, a.2.2, a.3.1, a.3.2, a.4.1, a.4.2, a.5.1, a.5.2, b.1.1, b.1.2, b.2.1, b.2.2, b.3.1, b.3.2, b.4.1, b.4.2, b.5.1, b.5.2], [true])).toArray w fun e w' => e = .returned (V.den ρ (.u (.agg (cB (doesB 0 true a b))))) ∧ Below w.heap.size w w' := by
  refine pure_to nameOK oks_L05AB_3 (dOK oks_L05AB_3) 300 [.u (.c (.li .u8 0)), .u (.c (.lb true)), .u (.agg (cB a)), .u (.agg (cB b))] (T := (.br (bNone a) (.leaf (.val (.u (.agg cN)))) (.br (bNone b) (.leaf (.val (.u (.agg cN)))) (.br (isR 0) (.br (goodB a) (.br (goodB b) (.leaf (.val (.u (.agg (cB (sync (opB 0 a b))))))) (.no 98)) (.no 98)) (.no 98))))) (by kernel_rfl) ρ rfl ?_ w
  · have ia : Inv5 a := invB_iff.1 hb0
    have ib : Inv5 b := invB_iff.1 hb1
    refine br2 (fun k1 => ?_) (fun k1 => ?_)
    · have e : doesB 0 true a b = nothing := does_na (by decide) k1
      simp only [Tr.all]; rw [e]; try rfl
    · refine br2 (fun k2 => ?_) (fun k2 => ?_)
      · have e : doesB 0 true a b = nothing := does_nb (by decide) k1 k2
        simp only [Tr.all]; rw [e]; try rfl
      · refine askB (by decide) ?_
        refine askB (goodB_iff.2 ⟨ia, k1⟩) ?_
        refine askB (goodB_iff.2 ⟨ib, k2⟩) ?_
        have e : doesB 0 true a b = sync (opB 0 a b) := (does_w (by decide) k1 k2).trans ((wide_op rfl).trans rfl)
        simp only [Tr.all]; rw [e]; try rfl
theorem t_rdoes0f (a : Bd) (b : Bd) (hb0 : invB a = true) (hb1 : invB b = true) (ρ : Nat → Nat) (w : World) : Calls Tryz.prog 20 (enV [.s (some .u8), .s none, .a [some .u64, some .u64, some .u64, some .u64, some .i64, some .i64, some .u64, some .u64, some .i64, some .i64], .a [some .u64, some .u64, some .u64, some .u64, some .i64, some .i64, some .u64, some .u64, some .i64, some .i64]] ([0, a.1.1, a.1.2, a.2.1, a.2.2, a.3.1, a.3.2, a.4.1, a.4.2, a.5.1, a.5.2, b.1.1, b.1.2, b.2.1, b.2.2, b.3.1, b.3.2, b.4.1, b.4.2, b.5.1, b.5.2], [false])).toArray w fun e w' => e = .returned (V.den ρ (.u (.agg (cB (doesB 0 false a b))))) ∧ Below w.heap.size w w' := by
  refine pure_to nameOK oks_L05AB_3 (dOK oks_L05AB_3) 300 [.u (.c (.li .u8 0)), .u (.c (.lb false)), .u (.agg (cB a)), .u (.agg (cB b))] (T := (.br (bNone a) (.leaf (.val (.u (.agg cN)))) (.br (bNone b) (.leaf (.val (.u (.agg cN)))) (.br (invB a) (.br (invB b) (.br (bNone (lowB a 32)) (.br (invB (.mk (.mk 0 0) (.mk 1 0) (.mk 1 0) (.mk 1 0) (.mk 1 0))) (.leaf (.val (.u (.agg (cB (lowB (.mk (.mk 0 0) (.mk 1 0) (.mk 1 0) (.mk 1 0) (.mk 1 0)) 32)))))) (.no 98)) (.br (bNone (lowB b 32)) (.br (invB (.mk (.mk 0 0) (.mk 1 0) (.mk 1 0) (.mk 1 0) (.mk 1 0))) (.leaf (.val (.u (.agg (cB (lowB (.mk (.mk 0 0) (.mk 1 0) (.mk 1 0) (.mk 1 0) (.mk 1 0)) 32)))))) (.no 98)) (.br (isR 0) (.br (goodB (lowB a 32)) (.br (goodB (lowB b 32)) (.br (invB (sync (opB 0 (lowB a 32) (lowB b 32)))) (.leaf (.val (.u (.agg (cB (lowB (sync (opB 0 (lowB a 32) (lowB b 32))) 32)))))) (.no 98)) (.no 98)) (.no 98)) (.no 98)))) (.no 98)) (.no 98))))) (by kernel_rfl) ρ rfl ?_ w
  · have ia : Inv5 a := invB_iff.1 hb0
    have ib : Inv5 b := invB_iff.1 hb1
    refine br2 (fun k1 => ?_) (fun k1 => ?_)
    · have e : doesB 0 false a b = nothing := does_na (by decide) k1
      simp only [Tr.all]; rw [e]; try rfl
    · refine br2 (fun k2 => ?_) (fun k2 => ?_)
      · have e : doesB 0 false a b = nothing := does_nb (by decide) k1 k2
        simp only [Tr.all]; rw [e]; try rfl
      · refine askB (invB_iff.2 ia) ?_
        refine askB (invB_iff.2 ib) ?_
        refine br2 (fun k3 => ?_) (fun k3 => ?_)
        · refine askB (invB_iff.2 nothing_inv) ?_
          have e : doesB 0 false a b = nothing := (does_h (by decide) k1 k2).trans (half_na rfl k3)
          simp only [Tr.all]; rw [e]; try rfl
        · refine br2 (fun k4 => ?_) (fun k4 => ?_)
          · refine askB (invB_iff.2 nothing_inv) ?_
            have e : doesB 0 false a b = nothing := (does_h (by decide) k1 k2).trans (half_nb rfl k3 k4)
            simp only [Tr.all]; rw [e]; try rfl
          · refine askB (by decide) ?_
            refine askB (goodB_iff.2 ⟨(lowB_inv ia), k3⟩) ?_
            refine askB (goodB_iff.2 ⟨(lowB_inv ib), k4⟩) ?_
            refine askB (invB_iff.2 (opS_inv (lowB_inv ia) (lowB_inv ib))) ?_
            have e : doesB 0 false a b = lowB (sync (opB 0 (lowB a 32) (lowB b 32))) 32 := (does_h (by decide) k1 k2).trans ((half_op rfl k3 k4).trans rfl)
            simp only [Tr.all]; rw [e]; try rfl
theorem t_rdoes1t (a : Bd) (b : Bd) (hb0 : invB a = true) (hb1 : invB b = true) (ρ : Nat → Nat) (w : World) : Calls Tryz.prog 20 (enV [.s (some .u8), .s none, .a [some .u64, some .u64, some .u64, some .u64, some .i64, some .i64, some .u64, some .u64, some .i64, some .i64], .a [some .u64, some .u64, some .u64, some .u64, some .i64, some .i64, some .u64, some .u64, some .i64, some .i64]] ([1, a.1.1, a.1.2, a.2.1, a.2.2, a.3.1, a.3.2, a.4.1, a.4.2, a.5.1, a.5.2, b.1.1, b.1.2, b.2.1, b.2.2, b.3.1, b.3.2, b.4.1, b.4.2, b.5.1, b.5.2], [true])).toArray w fun e w' => e = .returned (V.den ρ (.u (.agg (cB (doesB 1 true a b))))) ∧ Below w.heap.size w w' := by
  refine pure_to nameOK oks_L05AB_3 (dOK oks_L05AB_3) 300 [.u (.c (.li .u8 1)), .u (.c (.lb true)), .u (.agg (cB a)), .u (.agg (cB b))] (T := (.br (bNone a) (.leaf (.val (.u (.agg cN)))) (.br (bNone b) (.leaf (.val (.u (.agg cN)))) (.br (isR 1) (.br (goodB a) (.br (goodB b) (.leaf (.val (.u (.agg (cB (sync (opB 1 a b))))))) (.no 98)) (.no 98)) (.no 98))))) (by kernel_rfl) ρ rfl ?_ w
  · have ia : Inv5 a := invB_iff.1 hb0
    have ib : Inv5 b := invB_iff.1 hb1
    refine br2 (fun k1 => ?_) (fun k1 => ?_)
    · have e : doesB 1 true a b = nothing := does_na (by decide) k1
      simp only [Tr.all]; rw [e]; try rfl
    · refine br2 (fun k2 => ?_) (fun k2 => ?_)
      · have e : doesB 1 true a b = nothing := does_nb (by decide) k1 k2
        simp only [Tr.all]; rw [e]; try rfl
      · refine askB (by decide) ?_
        refine askB (goodB_iff.2 ⟨ia, k1⟩) ?_
        refine askB (goodB_iff.2 ⟨ib, k2⟩) ?_
        have e : doesB 1 true a b = sync (opB 1 a b) := (does_w (by decide) k1 k2).trans ((wide_op rfl).trans rfl)
        simp only [Tr.all]; rw [e]; try rfl
theorem t_rdoes1f (a : Bd) (b : Bd) (hb0 : invB a = true) (hb1 : invB b = true) (ρ : Nat → Nat) (w : World) : Calls Tryz.prog 20 (enV [.s (some .u8), .s none, .a [some .u64, some .u64, some .u64, some .u64, some .i64, some .i64, some .u64, some .u64, some .i64, some .i64], .a [some .u64, some .u64, some .u64, some .u64, some .i64, some .i64, some .u64, some .u64, some .i64, some .i64]] ([1, a.1.1, a.1.2, a.2.1, a.2.2, a.3.1, a.3.2, a.4.1, a.4.2, a.5.1, a.5.2, b.1.1, b.1.2, b.2.1, b.2.2, b.3.1, b.3.2, b.4.1, b.4.2, b.5.1, b.5.2], [false])).toArray w fun e w' => e = .returned (V.den ρ (.u (.agg (cB (doesB 1 false a b))))) ∧ Below w.heap.size w w' := by
  refine pure_to nameOK oks_L05AB_3 (dOK oks_L05AB_3) 300 [.u (.c (.li .u8 1)), .u (.c (.lb false)), .u (.agg (cB a)), .u (.agg (cB b))] (T := (.br (bNone a) (.leaf (.val (.u (.agg cN)))) (.br (bNone b) (.leaf (.val (.u (.agg cN)))) (.br (invB a) (.br (invB b) (.br (bNone (lowB a 32)) (.br (invB (.mk (.mk 0 0) (.mk 1 0) (.mk 1 0) (.mk 1 0) (.mk 1 0))) (.leaf (.val (.u (.agg (cB (lowB (.mk (.mk 0 0) (.mk 1 0) (.mk 1 0) (.mk 1 0) (.mk 1 0)) 32)))))) (.no 98)) (.br (bNone (lowB b 32)) (.br (invB (.mk (.mk 0 0) (.mk 1 0) (.mk 1 0) (.mk 1 0) (.mk 1 0))) (.leaf (.val (.u (.agg (cB (lowB (.mk (.mk 0 0) (.mk 1 0) (.mk 1 0) (.mk 1 0) (.mk 1 0)) 32)))))) (.no 98)) (.br (isR 1) (.br (goodB (lowB a 32)) (.br (goodB (lowB b 32)) (.br (invB (sync (opB 1 (lowB a 32) (lowB b 32)))) (.leaf (.val (.u (.agg (cB (lowB (sync (opB 1 (lowB a 32) (lowB b 32))) 32)))))) (.no 98)) (.no 98)) (.no 98)) (.no 98)))) (.no 98)) (.no 98))))) (by kernel_rfl) ρ rfl ?_ w
  · have ia : Inv5 a := invB_iff.1 hb0
    have ib : Inv5 b := invB_iff.1 hb1
    refine br2 (fun k1 => ?_) (fun k1 => ?_)
    · have e : doesB 1 false a b = nothing := does_na (by decide) k1
      simp only [Tr.all]; rw [e]; try rfl
    · refine br2 (fun k2 => ?_) (fun k2 => ?_)
      · have e : doesB 1 false a b = nothing := does_nb (by decide) k1 k2
        simp only [Tr.all]; rw [e]; try rfl
      · refine askB (invB_iff.2 ia) ?_
        refine askB (invB_iff.2 ib) ?_
        refine br2 (fun k3 => ?_) (fun k3 => ?_)
        · refine askB (invB_iff.2 nothing_inv) ?_
          have e : doesB 1 false a b = nothing := (does_h (by decide) k1 k2).trans (half_na rfl k3)
          simp only [Tr.all]; rw [e]; try rfl
        · refine br2 (fun k4 => ?_) (fun k4 => ?_)
          · refine askB (invB_iff.2 nothing_inv) ?_
            have e : doesB 1 false a b = nothing := (does_h (by decide) k1 k2).trans (half_nb rfl k3 k4)
            simp only [Tr.all]; rw [e]; try rfl
          · refine askB (by decide) ?_
            refine askB (goodB_iff.2 ⟨(lowB_inv ia), k3⟩) ?_
            refine askB (goodB_iff.2 ⟨(lowB_inv ib), k4⟩) ?_
            refine askB (invB_iff.2 (opS_inv (lowB_inv ia) (lowB_inv ib))) ?_
            have e : doesB 1 false a b = lowB (sync (opB 1 (lowB a 32) (lowB b 32))) 32 := (does_h (by decide) k1 k2).trans ((half_op rfl k3 k4).trans rfl)
            simp only [Tr.all]; rw [e]; try rfl
theorem t_rdoes2t (a : Bd) (b : Bd) (hb0 : invB a = true) (hb1 : invB b = true) (ρ : Nat → Nat) (w : World) : Calls Tryz.prog 20 (enV [.s (some .u8), .s none, .a [some .u64, some .u64, some .u64, some .u64, some .i64, some .i64, some .u64, some .u64, some .i64, some .i64], .a [some .u64, some .u64, some .u64, some .u64, some .i64, some .i64, some .u64, some .u64, some .i64, some .i64]] ([2, a.1.1, a.1.2, a.2.1, a.2.2, a.3.1, a.3.2, a.4.1, a.4.2, a.5.1, a.5.2, b.1.1, b.1.2, b.2.1, b.2.2, b.3.1, b.3.2, b.4.1, b.4.2, b.5.1, b.5.2], [true])).toArray w fun e w' => e = .returned (V.den ρ (.u (.agg (cB (doesB 2 true a b))))) ∧ Below w.heap.size w w' := by
  refine pure_to nameOK oks_L05AB_3 (dOK oks_L05AB_3) 300 [.u (.c (.li .u8 2)), .u (.c (.lb true)), .u (.agg (cB a)), .u (.agg (cB b))] (T := (.br (bNone a) (.leaf (.val (.u (.agg cN)))) (.br (bNone b) (.leaf (.val (.u (.agg cN)))) (.br (isR 2) (.br (goodB a) (.br (goodB b) (.leaf (.val (.u (.agg (cB (sync (opB 2 a b))))))) (.no 98)) (.no 98)) (.no 98))))) (by kernel_rfl) ρ rfl ?_ w
  · have ia : Inv5 a := invB_iff.1 hb0
    have ib : Inv5 b := invB_iff.1 hb1
    refine br2 (fun k1 => ?_) (fun k1 => ?_)
    · have e : doesB 2 true a b = nothing := does_na (by decide) k1
      simp only [Tr.all]; rw [e]; try rfl
    · refine br2 (fun k2 => ?_) (fun k2 => ?_)
      · have e : doesB 2 true a b = nothing := does_nb (by decide) k1 k2
        simp only [Tr.all]; rw [e]; try rfl
      · refine askB (by decide) ?_
        refine askB (goodB_iff.2 ⟨ia, k1⟩) ?_
        refine askB (goodB_iff.2 ⟨ib, k2⟩) ?_
        have e : doesB 2 true a b = sync (opB 2 a b) := (does_w (by decide) k1 k2).trans ((wide_op rfl).trans rfl)
        simp only [Tr.all]; rw [e]; try rfl
theorem t_rdoes2f (a : Bd) (b : Bd) (hb0 : invB a = true) (hb1 : invB b = true) (ρ : Nat → Nat) (w : World) : Calls Tryz.prog 20 (enV [.s (some .u8), .s none, .a [some .u64, some .u64, some .u64, some .u64, some .i64, some .i64, some .u64, some .u64, some .i64, some .i64], .a [some .u64, some .u64, some .u64, some .u64, some .i64, some .i64, some .u64, some .u64, some .i64, some .i64]] ([2, a.1.1, a.1.2, a.2.1, a.2.2, a.3.1, a.3.2, a.4.1, a.4.2, a.5.1, a.5.2, b.1.1, b.1.2, b.2.1, b.2.2, b.3.1, b.3.2, b.4.1, b.4.2, b.5.1, b.5.2], [false])).toArray w fun e w' => e = .returned (V.den ρ (.u (.agg (cB (doesB 2 false a b))))) ∧ Below w.heap.size w w' := by
  refine pure_to nameOK oks_L05AB_3 (dOK oks_L05AB_3) 300 [.u (.c (.li .u8 2)), .u (.c (.lb false)), .u (.agg (cB a)), .u (.agg (cB b))] (T := (.br (bNone a) (.leaf (.val (.u (.agg cN)))) (.br (bNone b) (.leaf (.val (.u (.agg cN)))) (.br (invB a) (.br (invB b) (.br (bNone (lowB a 32)) (.br (invB (.mk (.mk 0 0) (.mk 1 0) (.mk 1 0) (.mk 1 0) (.mk 1 0))) (.leaf (.val (.u (.agg (cB (lowB (.mk (.mk 0 0) (.mk 1 0) (.mk 1 0) (.mk 1 0) (.mk 1 0)) 32)))))) (.no 98)) (.br (bNone (lowB b 32)) (.br (invB (.mk (.mk 0 0) (.mk 1 0) (.mk 1 0) (.mk 1 0) (.mk 1 0))) (.leaf (.val (.u (.agg (cB (lowB (.mk (.mk 0 0) (.mk 1 0) (.mk 1 0) (.mk 1 0) (.mk 1 0)) 32)))))) (.no 98)) (.br (isR 2) (.br (goodB (lowB a 32)) (.br (goodB (lowB b 32)) (.br (invB (sync (opB 2 (lowB a 32) (lowB b 32)))) (.leaf (.val (.u (.agg (cB (lowB (sync (opB 2 (lowB a 32) (lowB b 32))) 32)))))) (.no 98)) (.no 98)) (.no 98)) (.no 98)))) (.no 98)) (.no 98))))) (by kernel_rfl) ρ rfl ?_ w
  · have ia : Inv5 a := invB_iff.1 hb0
    have ib : Inv5 b := invB_iff.1 hb1
    refine br2 (fun k1 => ?_) (fun k1 => ?_)
    · have e : doesB 2 false a b = nothing := does_na (by decide) k1
      simp only [Tr.all]; rw [e]; try rfl
    · refine br2 (fun k2 => ?_) (fun k2 => ?_)
      · have e : doesB 2 false a b = nothing := does_nb (by decide) k1 k2
        simp only [Tr.all]; rw [e]; try rfl
      · refine askB (invB_iff.2 ia) ?_
        refine askB (invB_iff.2 ib) ?_
        refine br2 (fun k3 => ?_) (fun k3 => ?_)
        · refine askB (invB_iff.2 nothing_inv) ?_
          have e : doesB 2 false a b = nothing := (does_h (by decide) k1 k2).trans (half_na rfl k3)
          simp only [Tr.all]; rw [e]; try rfl
        · refine br2 (fun k4 => ?_) (fun k4 => ?_)
          · refine askB (invB_iff.2 nothing_inv) ?_
            have e : doesB 2 false a b = nothing := (does_h (by decide) k1 k2).trans (half_nb rfl k3 k4)
            simp only [Tr.all]; rw [e]; try rfl
          · refine askB (by decide) ?_
            refine askB (goodB_iff.2 ⟨(lowB_inv ia), k3⟩) ?_
            refine askB (goodB_iff.2 ⟨(lowB_inv ib), k4⟩) ?_
            refine askB (invB_iff.2 (opS_inv (lowB_inv ia) (lowB_inv ib))) ?_
            have e : doesB 2 false a b = lowB (sync (opB 2 (lowB a 32) (lowB b 32))) 32 := (does_h (by decide) k1 k2).trans ((half_op rfl k3 k4).trans rfl)
            simp only [Tr.all]; rw [e]; try rfl
theorem t_rdoes3t (a : Bd) (b : Bd) (hb0 : invB a = true) (hb1 : invB b = true) (ρ : Nat → Nat) (w : World) : Calls Tryz.prog 20 (enV [.s (some .u8), .s none, .a [some .u64, some .u64, some .u64, some .u64, some .i64, some .i64, some .u64, some .u64, some .i64, some .i64], .a [some .u64, some .u64, some .u64, some .u64, some .i64, some .i64, some .u64, some .u64, some .i64, some .i64]] ([3, a.1.1, a.1.2, a.2.1, a.2.2, a.3.1, a.3.2, a.4.1, a.4.2, a.5.1, a.5.2, b.1.1, b.1.2, b.2.1, b.2.2, b.3.1, b.3.2, b.4.1, b.4.2, b.5.1, b.5.2], [true])).toArray w fun e w' => e = .returned (V.den ρ (.u (.agg (cB (doesB 3 true a b))))) ∧ Below w.heap.size w w' := by
  refine pure_to nameOK oks_L05AB_3 (dOK oks_L05AB_3) 300 [.u (.c (.li .u8 3)), .u (.c (.lb true)), .u (.agg (cB a)), .u (.agg (cB b))] (T := (.br (bNone a) (.leaf (.val (.u (.agg cN)))) (.br (bNone b) (.leaf (.val (.u (.agg cN)))) (.br (isR 3) (.br (goodB a) (.br (goodB b) (.leaf (.val (.u (.agg (cB (sync (opB 3 a b))))))) (.no 98)) (.no 98)) (.no 98))))) (by kernel_rfl) ρ rfl ?_ w
  · have ia : Inv5 a := invB_iff.1 hb0
    have ib : Inv5 b := invB_iff.1 hb1
    refine br2 (fun k1 => ?_) (fun k1 => ?_)
    · have e : doesB 3 true a b = nothing := does_na (by decide) k1
      simp only [Tr.all]; rw [e]; try rfl
    · refine br2 (fun k2 => ?_) (fun k2 => ?_)
      · have e : doesB 3 true a b = nothing := does_nb (by decide) k1 k2
        simp only [Tr.all]; rw [e]; try rfl
      · refine askB (by decide) ?_
        refine askB (goodB_iff.2 ⟨ia, k1⟩) ?_
        refine askB (goodB_iff.2 ⟨ib, k2⟩) ?_
        have e : doesB 3 true a b = sync (opB 3 a b) := (does_w (by decide) k1 k2).trans ((wide_op rfl).trans rfl)
        simp only [Tr.all]; rw [e]; try rfl
theorem t_rdoes3f (a : Bd) (b : Bd) (hb0 : invB a = true) (hb1 : invB b = true) (ρ : Nat → Nat) (w : World) : Calls Tryz.prog 20 (enV [.s (some .u8), .s none, .a [some .u64, some .u64, some .u64, some .u64, some .i64, some .i64, some .u64, some .u64, some .i64, some .i64], .a [some .u64, some .u64, some .u64, some .u64, some .i64, some .i64, some .u64, some .u64, some .i64, some .i64]] ([3, a.1.1, a.1.2, a.2.1, a.2.2, a.3.1, a.3.2, a.4.1, a.4.2, a.5.1, a.5.2, b.1.1, b.1.2, b.2.1, b.2.2, b.3.1, b.3.2, b.4.1, b.4.2, b.5.1, b.5.2], [false])).toArray w fun e w' => e = .returned (V.den ρ (.u (.agg (cB (doesB 3 false a b))))) ∧ Below w.heap.size w w' := by
  refine pure_to nameOK oks_L05AB_3 (dOK oks_L05AB_3) 300 [.u (.c (.li .u8 3)), .u (.c (.lb false)), .u (.agg (cB a)), .u (.agg (cB b))] (T := (.br (bNone a) (.leaf (.val (.u (.agg cN)))) (.br (bNone b) (.leaf (.val (.u (.agg cN)))) (.br (invB a) (.br (invB b) (.br (bNone (lowB a 32)) (.br (invB (.mk (.mk 0 0) (.mk 1 0) (.mk 1 0) (.mk 1 0) (.mk 1 0))) (.leaf (.val (.u (.agg (cB (lowB (.mk (.mk 0 0) (.mk 1 0) (.mk 1 0) (.mk 1 0) (.mk 1 0)) 32)))))) (.no 98)) (.br (bNone (lowB b 32)) (.br (invB (.mk (.mk 0 0) (.mk 1 0) (.mk 1 0) (.mk 1 0) (.mk 1 0))) (.leaf (.val (.u (.agg (cB (lowB (.mk (.mk 0 0) (.mk 1 0) (.mk 1 0) (.mk 1 0) (.mk 1 0)) 32)))))) (.no 98)) (.br (isR 3) (.br (goodB (lowB a 32)) (.br (goodB (lowB b 32)) (.br (invB (sync (opB 3 (lowB a 32) (lowB b 32)))) (.leaf (.val (.u (.agg (cB (lowB (sync (opB 3 (lowB a 32) (lowB b 32))) 32)))))) (.no 98)) (.no 98)) (.no 98)) (.no 98)))) (.no 98)) (.no 98))))) (by kernel_rfl) ρ rfl ?_ w
  · have ia : Inv5 a := invB_iff.1 hb0
    have ib : Inv5 b := invB_iff.1 hb1
    refine br2 (fun k1 => ?_) (fun k1 => ?_)
    · have e : doesB 3 false a b = nothing := does_na (by decide) k1
      simp only [Tr.all]; rw [e]; try rfl
    · refine br2 (fun k2 => ?_) (fun k2 => ?_)
      · have e : doesB 3 false a b = nothing := does_nb (by decide) k1 k2
        simp only [Tr.all]; rw [e]; try rfl
      · refine askB (invB_iff.2 ia) ?_
        refine askB (invB_iff.2 ib) ?_
        refine br2 (fun k3 => ?_) (fun k3 => ?_)
        · refine askB (invB_iff.2 nothing_inv) ?_
          have e : doesB 3 false a b = nothing := (does_h (by decide) k1 k2).trans (half_na rfl k3)
          simp only [Tr.all]; rw [e]; try rfl
        · refine br2 (fun k4 => ?_) (fun k4 => ?_)
          · refine askB (invB_iff.2 nothing_inv) ?_
            have e : doesB 3 false a b = nothing := (does_h (by decide) k1 k2).trans (half_nb rfl k3 k4)
            simp only [Tr.all]; rw [e]; try rfl
          · refine askB (by decide) ?_
            refine askB (goodB_iff.2 ⟨(lowB_inv ia), k3⟩) ?_
            refine askB (goodB_iff.2 ⟨(lowB_inv ib), k4⟩) ?_
            refine askB (invB_iff.2 (opS_inv (lowB_inv ia) (lowB_inv ib))) ?_
            have e : doesB 3 false a b = lowB (sync (opB 3 (lowB a 32) (lowB b 32))) 32 := (does_h (by decide) k1 k2).trans ((half_op rfl k3 k4).trans rfl)
            simp only [Tr.all]; rw [e]; try rfl
theorem t_rdoes4t (a : Bd) (b : Bd) (hb0 : invB a = true) (hb1 : invB b = true) (ρ : Nat → Nat) (w : World) : Calls Tryz.prog 20 (enV [.s (some .u8), .s none, .a [some .u64, some .u64, some .u64, some .u64, some .i64, some .i64, some .u64, some .u64, some .i64, some .i64], .a [some .u64, some .u64, some .u64, some .u64, some .i64, some .i64, some .u64, some .u64, some .i64, some .i64]] ([4, a.1.1, a.1.2, a.2.1, a.2.2, a.3.1, a.3.2, a.4.1, a.4.2, a.5.1, a.5.2, b.1.1, b.1.2, b.2.1, b.2.2, b.3.1, b.3.2, b.4.1, b.4.2, b.5.1, b.5.2], [true])).toArray w fun e w' => e = .returned (V.den ρ (.u (.agg (cB (doesB 4 true a b))))) ∧ Below w.heap.size w w' := by
  refine pure_to nameOK oks_L05AB_3 (dOK oks_L05AB_3) 300 [.u (.c (.li .u8 4)), .u (.c (.lb true)), .u (.agg (cB a)), .u (.agg (cB b))] (T := (.br (bNone a) (.leaf (.val (.u (.agg cN)))) (.br (bNone b) (.leaf (.val (.u (.agg cN)))) (.br (isB 4) (.br (goodB a) (.br (goodB b) (.leaf (.val (.u (.agg (cB (sync (opB 4 a b))))))) (.no 98)) (.no 98)) (.no 98))))) (by kernel_rfl) ρ rfl ?_ w
  · have ia : Inv5 a := invB_iff.1 hb0
    have ib : Inv5 b := invB_iff.1 hb1
    refine br2 (fun k1 => ?_) (fun k1 => ?_)
    · have e : doesB 4 true a b = nothing := does_na (by decide) k1
      simp only [Tr.all]; rw [e]; try rfl
    · refine br2 (fun k2 => ?_) (fun k2 => ?_)
      · have e : doesB 4 true a b = nothing := does_nb (by decide) k1 k2
        simp only [Tr.all]; rw [e]; try rfl
      · refine askB (by decide) ?_
        refine askB (goodB_iff.2 ⟨ia, k1⟩) ?_
        refine askB (goodB_iff.2 ⟨ib, k2⟩) ?_
        have e : doesB 4 true a b = sync (opB 4 a b) := (does_w (by decide) k1 k2).trans ((wide_op rfl).trans rfl)
        simp only [Tr.all]; rw [e]; try rfl
theorem t_rdoes4f (a : Bd) (b : Bd) (hb0 : invB a = true) (hb1 : invB b = true) (ρ : Nat → Nat) (w : World) : Calls Tryz.prog 20 (enV [.s (some .u8), .s none, .a [some .u64, some .u64, some .u64, some .u64, some .i64, some .i64, some .u64, some .u64, some .i64, some .i64], .a [some .u64, some .u64, some .u64, some .u64, some .i64, some .i64, some .u64, some .u64, some .i64, some .i64]] ([4, a.1.1, a.1.2, a.2.1, a.2.2, a.3.1, a.3.2, a.4.1, a.4.2, a.5.1, a.5.2, b.1.1, b.1.2, b.2.1, b.2.2, b.3.1, b.3.2, b.4.1, b.4.2, b.5.1, b.5.2], [false])).toArray w fun e w' => e = .returned (V.den ρ (.u (.agg (cB (doesB 4 false a b))))) ∧ Below w.heap.size w w' := by
  refine pure_to nameOK oks_L05AB_3 (dOK oks_L05AB_3) 300 [.u (.c (.li .u8 4)), .u (.c (.lb false)), .u (.agg (cB a)), .u (.agg (cB b))] (T := (.br (bNone a) (.leaf (.val (.u (.agg cN)))) (.br (bNone b) (.leaf (.val (.u (.agg cN)))) (.br (invB a) (.br (invB b) (.br (bNone (lowB a 32)) (.br (invB (.mk (.mk 0 0) (.mk 1 0) (.mk 1 0) (.mk 1 0) (.mk 1 0))) (.leaf (.val (.u (.agg (cB (lowB (.mk (.mk 0 0) (.mk 1 0) (.mk 1 0) (.mk 1 0) (.mk 1 0)) 32)))))) (.no 98)) (.br (bNone (lowB b 32)) (.br (invB (.mk (.mk 0 0) (.mk 1 0) (.mk 1 0) (.mk 1 0) (.mk 1 0))) (.leaf (.val (.u (.agg (cB (lowB (.mk (.mk 0 0) (.mk 1 0) (.mk 1 0) (.mk 1 0) (.mk 1 0)) 32)))))) (.no 98)) (.br (isB 4) (.br (goodB (lowB a 32)) (.br (goodB (lowB b 32)) (.br (invB (sync (opB 4 (lowB a 32) (lowB b 32)))) (.leaf (.val (.u (.agg (cB (lowB (sync (opB 4 (lowB a 32) (lowB b 32))) 32)))))) (.no 98)) (.no 98)) (.no 98)) (.no 98)))) (.no 98)) (.no 98))))) (by kernel_rfl) ρ rfl ?_ w
  · have ia : Inv5 a := invB_iff.1 hb0
    have ib : Inv5 b := invB_iff.1 hb1
    refine br2 (fun k1 => ?_) (fun k1 => ?_)
    · have e : doesB 4 false a b = nothing := does_na (by decide) k1
      simp only [Tr.all]; rw [e]; try rfl
    · refine br2 (fun k2 => ?_) (fun k2 => ?_)
      · have e : doesB 4 false a b = nothing := does_nb (by decide) k1 k2
        simp only [Tr.all]; rw [e]; try rfl
      · refine askB (invB_iff.2 ia) ?_
        refine askB (invB_iff.2 ib) ?_
        refine br2 (fun k3 => ?_) (fun k3 => ?_)
        · refine askB (invB_iff.2 nothing_inv) ?_
          have e : doesB 4 false a b = nothing := (does_h (by decide) k1 k2).trans (half_na rfl k3)
          simp only [Tr.all]; rw [e]; try rfl
        · refine br2 (fun k4 => ?_) (fun k4 => ?_)
          · refine askB (invB_iff.2 nothing_inv) ?_
            have e : doesB 4 false a b = nothing := (does_h (by decide) k1 k2).trans (half_nb rfl k3 k4)
            simp only [Tr.all]; rw [e]; try rfl
          · refine askB (by decide) ?_
            refine askB (goodB_iff.2 ⟨(lowB_inv ia), k3⟩) ?_
            refine askB (goodB_iff.2 ⟨(lowB_inv ib), k4⟩) ?_
            refine askB (invB_iff.2 (opS_inv (lowB_inv ia) (lowB_inv ib))) ?_
            have e : doesB 4 false a b = lowB (sync (opB 4 (lowB a 32) (lowB b 32))) 32 := (does_h (by decide) k1 k2).trans ((half_op rfl k3 k4).trans rfl)
            simp only [Tr.all]; rw [e]; try rfl
theorem t_rdoes5t (a : Bd) (b : Bd) (hb0 : invB a = true) (hb1 : invB b = true) (ρ : Nat → Nat) (w : World) : Calls Tryz.prog 20 (enV [.s (some .u8), .s none, .a [some .u64, some .u64, some .u64, some .u64, some .i64, some .i64, some .u64, some .u64, some .i64, some .i64], .a [some .u64, some .u64, some .u64, some .u64, some .i64, some .i64, some .u64, some .u64, some .i64, some .i64]] ([5, a.1.1, a.1.2, a.2.1, a.2.2, a.3.1, a.3.2, a.4.1, a.4.2, a.5.1, a.5.2, b.1.1, b.1.2, b.2.1, b.2.2, b.3.1, b.3.2, b.4.1, b.4.2, b.5.1, b.5.2], [true])).toArray w fun e w' => e = .returned (V.den ρ (.u (.agg (cB (doesB 5 true a b))))) ∧ Below w.heap.size w w' := by
  refine pure_to nameOK oks_L05AB_3 (dOK oks_L05AB_3) 300 [.u (.c (.li .u8 5)), .u (.c (.lb true)), .u (.agg (cB a)), .u (.agg (cB b))] (T := (.br (bNone a) (.leaf (.val (.u (.agg cN)))) (.br (bNone b) (.leaf (.val (.u (.agg cN)))) (.br (isB 5) (.br (goodB a) (.br (goodB b) (.leaf (.val (.u (.agg (cB (sync (opB 5 a b))))))) (.no 98)) (.no 98)) (.no 98))))) (by kernel_rfl) ρ rfl ?_ w
  · have ia : Inv5 a := invB_iff.1 hb0
    have ib : Inv5 b := invB_iff.1 hb1
    refine br2 (fun k1 => ?_) (fun k1 => ?_)
    · have e : doesB 5 true a b = nothing := does_na (by decide) k1
      simp only [Tr.all]; rw [e]; try rfl
    · refine br2 (fun k2 => ?_) (fun k2 => ?_)
      · have e : doesB 5 true a b = nothing := does_nb (by decide) k1 k2
        simp only [Tr.all]; rw [e]; try rfl
      · refine askB (by decide) ?_
        refine askB (goodB_iff.2 ⟨ia, k1⟩) ?_
        refine askB (goodB_iff.2 ⟨ib, k2⟩) ?_
        have e : doesB 5 true a b = sync (opB 5 a b) := (does_w (by decide) k1 k2).trans ((wide_op rfl).trans rfl)
        simp only [Tr.all]; rw [e]; try rfl
theorem t_rdoes5f (a : Bd) (b : Bd) (hb0 : invB a = true) (hb1 : invB b = true) (ρ : Nat → Nat) (w : World) : Calls Tryz.prog 20 (enV [.s (some .u8), .s none, .a [some .u64, some .u64, some .u64, some .u64, some .i64, some .i64, some .u64, some .u64, some .i64, some .i64], .a [some .u64, some .u64, some .u64, some .u64, some .i64, some .i64, some .u64, some .u64, some .i64, some .i64]] ([5, a.1.1, a.1.2, a.2.1, a.2.2, a.3.1, a.3.2, a.4.1, a.4.2, a.5.1, a.5.2, b.1.1, b.1.2, b.2.1, b.2.2, b.3.1, b.3.2, b.4.1, b.4.2, b.5.1, b.5.2], [false])).toArray w fun e w' => e = .returned (V.den ρ (.u (.agg (cB (doesB 5 false a b))))) ∧ Below w.heap.size w w' := by
  refine pure_to nameOK oks_L05AB_3 (dOK oks_L05AB_3) 300 [.u (.c (.li .u8 5)), .u (.c (.lb false)), .u (.agg (cB a)), .u (.agg (cB b))] (T := (.br (bNone a) (.leaf (.val (.u (.agg cN)))) (.br (bNone b) (.leaf (.val (.u (.agg cN)))) (.br (invB a) (.br (invB b) (.br (bNone (lowB a 32)) (.br (invB (.mk (.mk 0 0) (.mk 1 0) (.mk 1 0) (.mk 1 0) (.mk 1 0))) (.leaf (.val (.u (.agg (cB (lowB (.mk (.mk 0 0) (.mk 1 0) (.mk 1 0) (.mk 1 0) (.mk 1 0)) 32)))))) (.no 98)) (.br (bNone (lowB b 32)) (.br (invB (.mk (.mk 0 0) (.mk 1 0) (.mk 1 0) (.mk 1 0) (.mk 1 0))) (.leaf (.val (.u (.agg (cB (lowB (.mk (.mk 0 0) (.mk 1 0) (.mk 1 0) (.mk 1 0) (.mk 1 0)) 32)))))) (.no 98)) (.br (isB 5) (.br (goodB (lowB a 32)) (.br (goodB (lowB b 32)) (.br (invB (sync (opB 5 (lowB a 32) (lowB b 32)))) (.leaf (.val (.u (.agg (cB (lowB (sync (opB 5 (lowB a 32) (lowB b 32))) 32)))))) (.no 98)) (.no 98)) (.no 98)) (.no 98)))) (.no 98)) (.no 98))))) (by kernel_rfl) ρ rfl ?_ w
  · have ia : Inv5 a := invB_iff.1 hb0
    have ib : Inv5 b := invB_iff.1 hb1
    refine br2 (fun k1 => ?_) (fun k1 => ?_)
    · have e : doesB 5 false a b = nothing := does_na (by decide) k1
      simp only [Tr.all]; rw [e]; try rfl
    · refine br2 (fun k2 => ?_) (fun k2 => ?_)
      · have e : doesB 5 false a b = nothing := does_nb (by decide) k1 k2
        simp only [Tr.all]; rw [e]; try rfl
      · refine askB (invB_iff.2 ia) ?_
        refine askB (invB_iff.2 ib) ?_
        refine br2 (fun k3 => ?_) (fun k3 => ?_)
        · refine askB (invB_iff.2 nothing_inv) ?_
          have e : doesB 5 false a b = nothing := (does_h (by decide) k1 k2).trans (half_na rfl k3)
          simp only [Tr.all]; rw [e]; try rfl
        · refine br2 (fun k4 => ?_) (fun k4 => ?_)
          · refine askB (invB_iff.2 nothing_inv) ?_
            have e : doesB 5 false a b = nothing := (does_h (by decide) k1 k2).trans (half_nb rfl k3 k4)
            simp only [Tr.all]; rw [e]; try rfl
          · refine askB (by decide) ?_
            refine askB (goodB_iff.2 ⟨(lowB_inv ia), k3⟩) ?_
            refine askB (goodB_iff.2 ⟨(lowB_inv ib), k4⟩) ?_
            refine askB (invB_iff.2 (opS_inv (lowB_inv ia) (lowB_inv ib))) ?_
            have e : doesB 5 false a b = lowB (sync (opB 5 (lowB a 32) (lowB b 32))) 32 := (does_h (by decide) k1 k2).trans ((half_op rfl k3 k4).trans rfl)
            simp only [Tr.all]; rw [e]; try rfl
theorem t_rdoes6t (a : Bd) (b : Bd) (hb0 : invB a = true) (hb1 : invB b = true) (ρ : Nat → Nat) (w : World) : Calls Tryz.prog 20 (enV [.s (some .u8), .s none, .a [some .u64, some .u64, some .u64, some .u64, some .i64, some .i64, some .u64, some .u64, some .i64, some .i64], .a [some .u64, some .u64, some .u64, some .u64, some .i64, some .i64, some .u64, some .u64, some .i64, some .i64]] ([6, a.1.1, a.1.2, a.2.1, a.2.2, a.3.1, a.3.2, a.4.1, a.4.2, a.5.1, a.5.2, b.1.1, b.1.2, b.2.1, b.2.2, b.3.1, b.3.2, b.4.1, b.4.2, b.5.1, b.5.2], [true])).toArray w fun e w' => e = .returned (V.den ρ (.u (.agg (cB (doesB 6 true a b))))) ∧ Below w.heap.size w w' := by
  refine pure_to nameOK oks_L05AB_3 (dOK oks_L05AB_3) 300 [.u (.c (.li .u8 6)), .u (.c (.lb true)), .u (.agg (cB a)), .u (.agg (cB b))] (T := (.br (bNone a) (.leaf (.val (.u (.agg cN)))) (.br (bNone b) (.leaf (.val (.u (.agg cN)))) (.br (isU b.1.1) (.br (isU b.1.2) (.br (tMay b.1) (.br (isN 6) (.br (isSh 6) (.br (invB a) (.br (isU (tLowN b.1 6).1) (.leaf (.val (.u (.agg (cB (shiftB 6 a (tLowN b.1 6).1 (iEq (tLowN b.1 6).2 0))))))) (.no 98)) (.no 98)) (.no 98)) (.no 98)) (.no 98)) (.no 98)) (.no 98))))) (by kernel_rfl) ρ rfl ?_ w
  · have ia : Inv5 a := invB_iff.1 hb0
    have ib : Inv5 b := invB_iff.1 hb1
    refine br2 (fun k1 => ?_) (fun k1 => ?_)
    · have e : doesB 6 true a b = nothing := does_na (by decide) k1
      simp only [Tr.all]; rw [e]; try rfl
    · refine br2 (fun k2 => ?_) (fun k2 => ?_)
      · have e : doesB 6 true a b = nothing := does_nb (by decide) k1 k2
        simp only [Tr.all]; rw [e]; try rfl
      · refine askB (ib.t.1.1) ?_
        refine askB (ib.t.1.2) ?_
        refine askB ((tMay_iff ib.t.1).2 ib.t) ?_
        refine askB (by decide) ?_
        refine askB (by decide) ?_
        refine askB (invB_iff.2 ia) ?_
        refine askB ((lowN_uu ib.t.1 6).1) ?_
        have e : doesB 6 true a b = shiftB 6 a (tLowN b.t 6).lo (iEq (tLowN b.t 6).hi 0) := (does_w (by decide) k1 k2).trans (wide_sh rfl)
        simp only [Tr.all]; rw [e]; try rfl
theorem t_rdoes6f (a : Bd) (b : Bd) (hb0 : invB a = true) (hb1 : invB b = true) (ρ : Nat → Nat) (w : World) : Calls Tryz.prog 20 (enV [.s (some .u8), .s none, .a [some .u64, some .u64, some .u64, some .u64, some .i64, some .i64, some .u64, some .u64, some .i64, some .i64], .a [some .u64, some .u64, some .u64, some .u64, some .i64, some .i64, some .u64, some .u64, some .i64, some .i64]] ([6, a.1.1, a.1.2, a.2.1, a.2.2, a.3.1, a.3.2, a.4.1, a.4.2, a.5.1, a.5.2, b.1.1, b.1.2, b.2.1, b.2.2, b.3.1, b.3.2, b.4.1, b.4.2, b.5.1, b.5.2], [false])).toArray w fun e w' => e = .returned (V.den ρ (.u (.agg (cB (doesB 6 false a b))))) ∧ Below w.heap.size w w' := by
  refine pure_to nameOK oks_L05AB_3 (dOK oks_L05AB_3) 300 [.u (.c (.li .u8 6)), .u (.c (.lb false)), .u (.agg (cB a)), .u (.agg (cB b))] (T := (.br (bNone a) (.leaf (.val (.u (.agg cN)))) (.br (bNone b) (.leaf (.val (.u (.agg cN)))) (.br (invB a) (.br (invB b) (.br (isU b.1.1) (.br (isU b.1.2) (.br (tMay b.1) (.br (isN 5) (.br (isSh 6) (.br (invB (lowB a 32)) (.br (isU (tLowN b.1 5).1) (.br (invB (shiftB 6 (lowB a 32) (tLowN b.1 5).1 (iEq (tLowN b.1 5).2 0))) (.leaf (.val (.u (.agg (cB (lowB (shiftB 6 (lowB a 32) (tLowN b.1 5).1 (iEq (tLowN b.1 5).2 0)) 32)))))) (.no 98)) (.no 98)) (.no 98)) (.no 98)) (.no 98)) (.no 98)) (.no 98)) (.no 98)) (.no 98)) (.no 98))))) (by kernel_rfl) ρ rfl ?_ w
  · have ia : Inv5 a := invB_iff.1 hb0
    have ib : Inv5 b := invB_iff.1 hb1
    refine br2 (fun k1 => ?_) (fun k1 => ?_)
    · have e : doesB 6 false a b = nothing := does_na (by decide) k1
      simp only [Tr.all]; rw [e]; try rfl
    · refine br2 (fun k2 => ?_) (fun k2 => ?_)
      · have e : doesB 6 false a b = nothing := does_nb (by decide) k1 k2
        simp only [Tr.all]; rw [e]; try rfl
      · refine askB (invB_iff.2 ia) ?_
        refine askB (invB_iff.2 ib) ?_
        refine askB (ib.t.1.1) ?_
        refine askB (ib.t.1.2) ?_
        refine askB ((tMay_iff ib.t.1).2 ib.t) ?_
        refine askB (by decide) ?_
        refine askB (by decide) ?_
        refine askB (invB_iff.2 (lowB_inv ia)) ?_
        refine askB ((lowN_uu ib.t.1 5).1) ?_
        refine askB (invB_iff.2 (shiftB_inv (lowB_inv ia))) ?_
        have e : doesB 6 false a b = lowB (shiftB 6 (lowB a 32) (tLowN b.t 5).lo (iEq (tLowN b.t 5).hi 0)) 32 := (does_h (by decide) k1 k2).trans ((half_sh rfl).trans (by rw [if_neg (by decide)]))
        simp only [Tr.all]; rw [e]; try rfl
theorem t_rdoes7t (a : Bd) (b : Bd) (hb0 : invB a = true) (hb1 : invB b = true) (ρ : Nat → Nat) (w : World) : Calls Tryz.prog 20 (enV [.s (some .u8), .s none, .a [some .u64, some .u64, some .u64, some .u64, some .i64, some .i64, some .u64, some .u64, some .i64, some .i64], .a [some .u64, some .u64, some .u64, some .u64, some .i64, some .i64, some .u64, some .u64, some .i64, some .i64]] ([7, a.1.1, a.1.2, a.2.1, a.2.2, a.3.1, a.3.2, a.4.1, a.4.2, a.5.1, a.5.2, b.1.1, b.1.2, b.2.1, b.2.2, b.3.1, b.3.2, b.4.1, b.4.2, b.5.1, b.5.2], [true])).toArray w fun e w' => e = .returned (V.den ρ (.u (.agg (cB (doesB 7 true a b))))) ∧ Below w.heap.size w w' := by
  refine pure_to nameOK oks_L05AB_3 (dOK oks_L05AB_3) 300 [.u (.c (.li .u8 7)), .u (.c (.lb true)), .u (.agg (cB a)), .u (.agg (cB b))] (T := (.br (bNone a) (.leaf (.val (.u (.agg cN)))) (.br (bNone b) (.leaf (.val (.u (.agg cN)))) (.br (isU b.1.1) (.br (isU b.1.2) (.br (tMay b.1) (.br (isN 6) (.br (isSh 7) (.br (invB a) (.br (isU (tLowN b.1 6).1) (.leaf (.val (.u (.agg (cB (shiftB 7 a (tLowN b.1 6).1 (iEq (tLowN b.1 6).2 0))))))) (.no 98)) (.no 98)) (.no 98)) (.no 98)) (.no 98)) (.no 98)) (.no 98))))) (by kernel_rfl) ρ rfl ?_ w
  · have ia : Inv5 a := invB_iff.1 hb0
    have ib : Inv5 b := invB_iff.1 hb1
    refine br2 (fun k1 => ?_) (fun k1 => ?_)
    · have e : doesB 7 true a b = nothing := does_na (by decide) k1
      simp only [Tr.all]; rw [e]; try rfl
    · refine br2 (fun k2 => ?_) (fun k2 => ?_)
      · have e : doesB 7 true a b = nothing := does_nb (by decide) k1 k2
        simp only [Tr.all]; rw [e]; try rfl
      · refine askB (ib.t.1.1) ?_
        refine askB (ib.t.1.2) ?_
        refine askB ((tMay_iff ib.t.1).2 ib.t) ?_
        refine askB (by decide) ?_
        refine askB (by decide) ?_
        refine askB (invB_iff.2 ia) ?_
        refine askB ((lowN_uu ib.t.1 6).1) ?_
        have e : doesB 7 true a b = shiftB 7 a (tLowN b.t 6).lo (iEq (tLowN b.t 6).hi 0) := (does_w (by decide) k1 k2).trans (wide_sh rfl)
        simp only [Tr.all]; rw [e]; try rfl
theorem t_rdoes7f (a : Bd) (b : Bd) (hb0 : invB a = true) (hb1 : invB b = true) (ρ : Nat → Nat) (w : World) : Calls Tryz.prog 20 (enV [.s (some .u8), .s none, .a [some .u64, some .u64, some .u64, some .u64, some .i64, some .i64, some .u64, some .u64, some .i64, some .i64], .a [some .u64, some .u64, some .u64, some .u64, some .i64, some .i64, some .u64, some .u64, some .i64, some .i64]] ([7, a.1.1, a.1.2, a.2.1, a.2.2, a.3.1, a.3.2, a.4.1, a.4.2, a.5.1, a.5.2, b.1.1, b.1.2, b.2.1, b.2.2, b.3.1, b.3.2, b.4.1, b.4.2, b.5.1, b.5.2], [false])).toArray w fun e w' => e = .returned (V.den ρ (.u (.agg (cB (doesB 7 false a b))))) ∧ Below w.heap.size w w' := by
  refine pure_to nameOK oks_L05AB_3 (dOK oks_L05AB_3) 300 [.u (.c (.li .u8 7)), .u (.c (.lb false)), .u (.agg (cB a)), .u (.agg (cB b))] (T := (.br (bNone a) (.leaf (.val (.u (.agg cN)))) (.br (bNone b) (.leaf (.val (.u (.agg cN)))) (.br (invB a) (.br (invB b) (.br (isU b.1.1) (.br (isU b.1.2) (.br (tMay b.1) (.br (isN 5) (.br (isSh 7) (.br (invB (lowB a 32)) (.br (isU (tLowN b.1 5).1) (.br (invB (shiftB 7 (lowB a 32) (tLowN b.1 5).1 (iEq (tLowN b.1 5).2 0))) (.leaf (.val (.u (.agg (cB (lowB (shiftB 7 (lowB a 32) (tLowN b.1 5).1 (iEq (tLowN b.1 5).2 0)) 32)))))) (.no 98)) (.no 98)) (.no 98)) (.no 98)) (.no 98)) (.no 98)) (.no 98)) (.no 98)) (.no 98)) (.no 98))))) (by kernel_rfl) ρ rfl ?_ w
  · have ia : Inv5 a := invB_iff.1 hb0
    have ib : Inv5 b := invB_iff.1 hb1
    refine br2 (fun k1 => ?_) (fun k1 => ?_)
    · have e : doesB 7 false a b = nothing := does_na (by decide) k1
      simp only [Tr.all]; rw [e]; try rfl
    · refine br2 (fun k2 => ?_) (fun k2 => ?_)
      · have e : doesB 7 false a b = nothing := does_nb (by decide) k1 k2
        simp only [Tr.all]; rw [e]; try rfl
      · refine askB (invB_iff.2 ia) ?_
        refine askB (invB_iff.2 ib) ?_
        refine askB (ib.t.1.1) ?_
        refine askB (ib.t.1.2) ?_
        refine askB ((tMay_iff ib.t.1).2 ib.t) ?_
        refine askB (by decide) ?_
        refine askB (by decide) ?_
        refine askB (invB_iff.2 (lowB_inv ia)) ?_
        refine askB ((lowN_uu ib.t.1 5).1) ?_
        refine askB (invB_iff.2 (shiftB_inv (lowB_inv ia))) ?_
        have e : doesB 7 false a b = lowB (shiftB 7 (lowB a 32) (tLowN b.t 5).lo (iEq (tLowN b.t 5).hi 0)) 32 := (does_h (by decide) k1 k2).trans ((half_sh rfl).trans (by rw [if_neg (by decide)]))
        simp only [Tr.all]; rw [e]; try rfl
theorem t_rdoes8t (a : Bd) (b : Bd) (hb0 : invB a = true) (hb1 : invB b = true) (ρ : Nat → Nat) (w : World) : Calls Tryz.prog 20 (enV [.s (some .u8), .s none, .a [some .u64, some .u64, some .u64, some .u64, some .i64, some .i64, some .u64, some .u64, some .i64, some .i64], .a [some .u64, some .u64, some .u64, some .u64, some .i64, some .i64, some .u64, some .u64, some .i64, some .i64]] ([8, a.1.1, a.1.2, a.2.1, a.2.2, a.3.1, a.3.2, a.4.1, a.4.2, a.5.1, a.5.2, b.1.1, b.1.2, b.2.1, b.2.2, b.3.1, b.3.2, b.4.1, b.4.2, b.5.1, b.5.2], [true])).toArray w fun e w' => e = .returned (V.den ρ (.u (.agg (cB (doesB 8 true a b))))) ∧ Below w.heap.size w w' := by
  refine pure_to nameOK oks_L05AB_3 (dOK oks_L05AB_3) 300 [.u (.c (.li .u8 8)), .u (.c (.lb true)), .u (.agg (cB a)), .u (.agg (cB b))] (T := (.br (bNone a) (.leaf (.val (.u (.agg cN)))) (.br (bNone b) (.leaf (.val (.u (.agg cN)))) (.br (isU 0) (.br (isR 1) (.br (goodB (bConst 0)) (.br (goodB a) (.leaf (.val (.u (.agg (cB (sync (opB 1 (bConst 0) a))))))) (.no 98)) (.no 98)) (.no 98)) (.no 98))))) (by kernel_rfl) ρ rfl ?_ w
  · have ia : Inv5 a := invB_iff.1 hb0
    have ib : Inv5 b := invB_iff.1 hb1
    refine br2 (fun k1 => ?_) (fun k1 => ?_)
    · have e : doesB 8 true a b = nothing := does_na (by decide) k1
      simp only [Tr.all]; rw [e]; try rfl
    · refine br2 (fun k2 => ?_) (fun k2 => ?_)
      · have e : doesB 8 true a b = nothing := does_nb (by decide) k1 k2
        simp only [Tr.all]; rw [e]; try rfl
      · refine askB (by decide) ?_
        refine askB (by decide) ?_
        refine askB (goodB_iff.2 ⟨const0.1, const0.2⟩) ?_
        refine askB (goodB_iff.2 ⟨ia, k1⟩) ?_
        have e : doesB 8 true a b = sync (opB 8 a b) := (does_w (by decide) k1 k2).trans ((wide_op rfl).trans rfl)
        simp only [Tr.all]; rw [e]; try rfl
theorem t_rdoes8f (a : Bd) (b : Bd) (hb0 : invB a = true) (hb1 : invB b = true) (ρ : Nat → Nat) (w : World) : Calls Tryz.prog 20 (enV [.s (some .u8), .s none, .a [some .u64, some .u64, some .u64, some .u64, some .i64, some .i64, some .u64, some .u64, some .i64, some .i64], .a [some .u64, some .u64, some .u64, some .u64, some .i64, some .i64, some .u64, some .u64, some .i64, some .i64]] ([8, a.1.1, a.1.2, a.2.1, a.2.2, a.3.1, a.3.2, a.4.1, a.4.2, a.5.1, a.5.2, b.1.1, b.1.2, b.2.1, b.2.2, b.3.1, b.3.2, b.4.1, b.4.2, b.5.1, b.5.2], [false])).toArray w fun e w' => e = .returned (V.den ρ (.u (.agg (cB (doesB 8 false a b))))) ∧ Below w.heap.size w w' := by
  refine pure_to nameOK oks_L05AB_3 (dOK oks_L05AB_3) 300 [.u (.c (.li .u8 8)), .u (.c (.lb false)), .u (.agg (cB a)), .u (.agg (cB b))] (T := (.br (bNone a) (.leaf (.val (.u (.agg cN)))) (.br (bNone b) (.leaf (.val (.u (.agg cN)))) (.br (invB a) (.br (invB b) (.br (bNone (lowB a 32)) (.br (invB (.mk (.mk 0 0) (.mk 1 0) (.mk 1 0) (.mk 1 0) (.mk 1 0))) (.leaf (.val (.u (.agg (cB (lowB (.mk (.mk 0 0) (.mk 1 0) (.mk 1 0) (.mk 1 0) (.mk 1 0)) 32)))))) (.no 98)) (.br (bNone (lowB b 32)) (.br (invB (.mk (.mk 0 0) (.mk 1 0) (.mk 1 0) (.mk 1 0) (.mk 1 0))) (.leaf (.val (.u (.agg (cB (lowB (.mk (.mk 0 0) (.mk 1 0) (.mk 1 0) (.mk 1 0) (.mk 1 0)) 32)))))) (.no 98)) (.br (isU 0) (.br (isR 1) (.br (goodB (bConst 0)) (.br (goodB (lowB a 32)) (.br (invB (sync (opB 1 (bConst 0) (lowB a 32)))) (.leaf (.val (.u (.agg (cB (lowB (sync (opB 1 (bConst 0) (lowB a 32))) 32)))))) (.no 98)) (.no 98)) (.no 98)) (.no 98)) (.no 98)))) (.no 98)) (.no 98))))) (by kernel_rfl) ρ rfl ?_ w
  · have ia : Inv5 a := invB_iff.1 hb0
    have ib : Inv5 b := invB_iff.1 hb1
    refine br2 (fun k1 => ?_) (fun k1 => ?_)
    · have e : doesB 8 false a b = nothing := does_na (by decide) k1
      simp only [Tr.all]; rw [e]; try rfl
    · refine br2 (fun k2 => ?_) (fun k2 => ?_)
      · have e : doesB 8 false a b = nothing := does_nb (by decide) k1 k2
        simp only [Tr.all]; rw [e]; try rfl
      · refine askB (invB_iff.2 ia) ?_
        refine askB (invB_iff.2 ib) ?_
        refine br2 (fun k3 => ?_) (fun k3 => ?_)
        · refine askB (invB_iff.2 nothing_inv) ?_
          have e : doesB 8 false a b = nothing := (does_h (by decide) k1 k2).trans (half_na rfl k3)
          simp only [Tr.all]; rw [e]; try rfl
        · refine br2 (fun k4 => ?_) (fun k4 => ?_)
          · refine askB (invB_iff.2 nothing_inv) ?_
            have e : doesB 8 false a b = nothing := (does_h (by decide) k1 k2).trans (half_nb rfl k3 k4)
            simp only [Tr.all]; rw [e]; try rfl
          · refine askB (by decide) ?_
            refine askB (by decide) ?_
            refine askB (goodB_iff.2 ⟨const0.1, const0.2⟩) ?_
            refine askB (goodB_iff.2 ⟨(lowB_inv ia), k3⟩) ?_
            refine askB (invB_iff.2 (opS_inv const0.1 (lowB_inv ia))) ?_
            have e : doesB 8 false a b = lowB (sync (opB 8 (lowB a 32) (lowB b 32))) 32 := (does_h (by decide) k1 k2).trans ((half_op rfl k3 k4).trans rfl)
            simp only [Tr.all]; rw [e]; try rfl
theorem t_rdoes9t (a : Bd) (b : Bd) (hb0 : invB a = true) (hb1 : invB b = true) (ρ : Nat → Nat) (w : World) : Calls Tryz.prog 20 (enV [.s (some .u8), .s none, .a [some .u64, some .u64, some .u64, some .u64, some .i64, some .i64, some .u64, some .u64, some .i64, some .i64], .a [some .u64, some .u64, some .u64, some .u64, some .i64, some .i64, some .u64, some .u64, some .i64, some .i64]] ([9, a.1.1, a.1.2, a.2.1, a.2.2, a.3.1, a.3.2, a.4.1, a.4.2, a.5.1, a.5.2, b.1.1, b.1.2, b.2.1, b.2.2, b.3.1, b.3.2, b.4.1, b.4.2, b.5.1, b.5.2], [true])).toArray w fun e w' => e = .returned (V.den ρ (.u (.agg (cB (doesB 9 true a b))))) ∧ Below w.heap.size w w' := by
  refine pure_to nameOK oks_L05AB_3 (dOK oks_L05AB_3) 300 [.u (.c (.li .u8 9)), .u (.c (.lb true)), .u (.agg (cB a)), .u (.agg (cB b))] (T := (.br (bNone a) (.leaf (.val (.u (.agg cN)))) (.br (bNone b) (.leaf (.val (.u (.agg cN)))) (.br (isR 9) (.br (goodB a) (.br (goodB b) (.leaf (.val (.u (.agg (cB (sync (opB 9 a b))))))) (.no 98)) (.no 98)) (.no 98))))) (by kernel_rfl) ρ rfl ?_ w
  · have ia : Inv5 a := invB_iff.1 hb0
    have ib : Inv5 b := invB_iff.1 hb1
    refine br2 (fun k1 => ?_) (fun k1 => ?_)
    · have e : doesB 9 true a b = nothing := does_na (by decide) k1
      simp only [Tr.all]; rw [e]; try rfl
    · refine br2 (fun k2 => ?_) (fun k2 => ?_)
      · have e : doesB 9 true a b = nothing := does_nb (by decide) k1 k2
        simp only [Tr.all]; rw [e]; try rfl
      · refine askB (by decide) ?_
        refine askB (goodB_iff.2 ⟨ia, k1⟩) ?_
        refine askB (goodB_iff.2 ⟨ib, k2⟩) ?_
        have e : doesB 9 true a b = sync (opB 9 a b) := (does_w (by decide) k1 k2).trans ((wide_op rfl).trans rfl)
        simp only [Tr.all]; rw [e]; try rfl
theorem t_rdoes9f (a : Bd) (b : Bd) (hb0 : invB a = true) (hb1 : invB b = true) (ρ : Nat → Nat) (w : World) : Calls Tryz.prog 20 (enV [.s (some .u8), .s none, .a [some .u64, some .u64, some .u64, some .u64, some .i64, some .i64, some .u64, some .u64, some .i64, some .i64], .a [some .u64, some .u64, some .u64, some .u64, some .i64, some .i64, some .u64, some .u64, some .i64, some .i64]] ([9, a.1.1, a.1.2, a.2.1, a.2.2, a.3.1, a.3.2, a.4.1, a.4.2, a.5.1, a.5.2, b.1.1, b.1.2, b.2.1, b.2.2, b.3.1, b.3.2, b.4.1, b.4.2, b.5.1, b.5.2], [false])).toArray w fun e w' => e = .returned (V.den ρ (.u (.agg (cB (doesB 9 false a b))))) ∧ Below w.heap.size w w' := by
  refine pure_to nameOK oks_L05AB_3 (dOK oks_L05AB_3) 300 [.u (.c (.li .u8 9)), .u (.c (.lb false)), .u (.agg (cB a)), .u (.agg (cB b))] (T := (.br (bNone a) (.leaf (.val (.u (.agg cN)))) (.br (bNone b) (.leaf (.val (.u (.agg cN)))) (.br (invB a) (.br (invB b) (.br (bNone (lowB a 32)) (.br (invB (.mk (.mk 0 0) (.mk 1 0) (.mk 1 0) (.mk 1 0) (.mk 1 0))) (.leaf (.val (.u (.agg (cB (lowB (.mk (.mk 0 0) (.mk 1 0) (.mk 1 0) (.mk 1 0) (.mk 1 0)) 32)))))) (.no 98)) (.br (bNone (lowB b 32)) (.br (invB (.mk (.mk 0 0) (.mk 1 0) (.mk 1 0) (.mk 1 0) (.mk 1 0))) (.leaf (.val (.u (.agg (cB (lowB (.mk (.mk 0 0) (.mk 1 0) (.mk 1 0) (.mk 1 0) (.mk 1 0)) 32)))))) (.no 98)) (.br (isR 9) (.br (goodB (lowB a 32)) (.br (goodB (lowB b 32)) (.br (invB (sync (opB 9 (lowB a 32) (lowB b 32)))) (.leaf (.val (.u (.agg (cB (lowB (sync (opB 9 (lowB a 32) (lowB b 32))) 32)))))) (.no 98)) (.no 98)) (.no 98)) (.no 98)))) (.no 98)) (.no 98))))) (by kernel_rfl) ρ rfl ?_ w
  · have ia : Inv5 a := invB_iff.1 hb0
    have ib : Inv5 b := invB_iff.1 hb1
    refine br2 (fun k1 => ?_) (fun k1 => ?_)
    · have e : doesB 9 false a b = nothing := does_na (by decide) k1
      simp only [Tr.all]; rw [e]; try rfl
    · refine br2 (fun k2 => ?_) (fun k2 => ?_)
      · have e : doesB 9 false a b = nothing := does_nb (by decide) k1 k2
        simp only [Tr.all]; rw [e]; try rfl
      · refine askB (invB_iff.2 ia) ?_
        refine askB (invB_iff.2 ib) ?_
        refine br2 (fun k3 => ?_) (fun k3 => ?_)
        · refine askB (invB_iff.2 nothing_inv) ?_
          have e : doesB 9 false a b = nothing := (does_h (by decide) k1 k2).trans (half_na rfl k3)
          simp only [Tr.all]; rw [e]; try rfl
        · refine br2 (fun k4 => ?_) (fun k4 => ?_)
          · refine askB (invB_iff.2 nothing_inv) ?_
            have e : doesB 9 false a b = nothing := (does_h (by decide) k1 k2).trans (half_nb rfl k3 k4)
            simp only [Tr.all]; rw [e]; try rfl
          · refine askB (by decide) ?_
            refine askB (goodB_iff.2 ⟨(lowB_inv ia), k3⟩) ?_
            refine askB (goodB_iff.2 ⟨(lowB_inv ib), k4⟩) ?_
            refine askB (invB_iff.2 (opS_inv (lowB_inv ia) (lowB_inv ib))) ?_
            have e : doesB 9 false a b = lowB (sync (opB 9 (lowB a 32) (lowB b 32))) 32 := (does_h (by decide) k1 k2).trans ((half_op rfl k3 k4).trans rfl)
            simp only [Tr.all]; rw [e]; try rfl
theorem t_rdoes10t (a : Bd) (b : Bd) (hb0 : invB a = true) (hb1 : invB b = true) (ρ : Nat → Nat) (w : World) : Calls Tryz.prog 20 (enV [.s (some .u8), .s none, .a [some .u64, some .u64, some .u64, some .u64, some .i64, some .i64, some .u64, some .u64, some .i64, some .i64], .a [some .u64, some .u64, some .u64, some .u64, some .i64, some .i64, some .u64, some .u64, some .i64, some .i64]] ([10, a.1.1, a.1.2, a.2.1, a.2.2, a.3.1, a.3.2, a.4.1, a.4.2, a.5.1, a.5.2, b.1.1, b.1.2, b.2.1, b.2.2, b.3.1, b.3.2, b.4.1, b.4.2, b.5.1, b.5.2], [true])).toArray w fun e w' => e = .returned (V.den ρ (.u (.agg (cB (doesB 10 true a b))))) ∧ Below w.heap.size w w' := by
  refine pure_to nameOK oks_L05AB_3 (dOK oks_L05AB_3) 300 [.u (.c (.li .u8 10)), .u (.c (.lb true)), .u (.agg (cB a)), .u (.agg (cB b))] (T := (.br (bNone a) (.leaf (.val (.u (.agg cN)))) (.br (bNone b) (.leaf (.val (.u (.agg cN)))) (.br (isB 10) (.br (goodB a) (.br (goodB b) (.leaf (.val (.u (.agg (cB (sync (opB 10 a b))))))) (.no 98)) (.no 98)) (.no 98))))) (by kernel_rfl) ρ rfl ?_ w
  · have ia : Inv5 a := invB_iff.1 hb0
    have ib : Inv5 b := invB_iff.1 hb1
    refine br2 (fun k1 => ?_) (fun k1 => ?_)
    · have e : doesB 10 true a b = nothing := does_na (by decide) k1
      simp only [Tr.all]; rw [e]; try rfl
    · refine br2 (fun k2 => ?_) (fun k2 => ?_)
      · have e : doesB 10 true a b = nothing := does_nb (by decide) k1 k2
        simp only [Tr.all]; rw [e]; try rfl
      · refine askB (by decide) ?_
        refine askB (goodB_iff.2 ⟨ia, k1⟩) ?_
        refine askB (goodB_iff.2 ⟨ib, k2⟩) ?_
        have e : doesB 10 true a b = sync (opB 10 a b) := (does_w (by decide) k1 k2).trans ((wide_op rfl).trans rfl)
        simp only [Tr.all]; rw [e]; try rfl
theorem t_rdoes10f (a : Bd) (b : Bd) (hb0 : invB a = true) (hb1 : invB b = true) (ρ : Nat → Nat) (w : World) : Calls Tryz.prog 20 (enV [.s (some .u8), .s none, .a [some .u64, some .u64, some .u64, some .u64, some .i64, some .i64, some .u64, some .u64, some .i64, some .i64], .a [some .u64, some .u64, some .u64, some .u64, some .i64, some .i64, some .u64, some .u64, some .i64, some .i64]] ([10, a.1.1, a.1.2, a.2.1, a.2.2, a.3.1, a.3.2, a.4.1, a.4.2, a.5.1, a.5.2, b.1.1, b.1.2, b.2.1, b.2.2, b.3.1, b.3.2, b.4.1, b.4.2, b.5.1, b.5.2], [false])).toArray w fun e w' => e = .returned (V.den ρ (.u (.agg (cB (doesB 10 false a b))))) ∧ Below w.heap.size w w' := by
  refine pure_to nameOK oks_L05AB_3 (dOK oks_L05AB_3) 300 [.u (.c (.li .u8 10)), .u (.c (.lb false)), .u (.agg (cB a)), .u (.agg (cB b))] (T := (.br (bNone a) (.leaf (.val (.u (.agg cN)))) (.br (bNone b) (.leaf (.val (.u (.agg cN)))) (.br (invB a) (.br (invB b) (.br (bNone (lowB a 32)) (.br (invB (.mk (.mk 0 0) (.mk 1 0) (.mk 1 0) (.mk 1 0) (.mk 1 0))) (.leaf (.val (.u (.agg (cB (lowB (.mk (.mk 0 0) (.mk 1 0) (.mk 1 0) (.mk 1 0) (.mk 1 0)) 32)))))) (.no 98)) (.br (bNone (lowB b 32)) (.br (invB (.mk (.mk 0 0) (.mk 1 0) (.mk 1 0) (.mk 1 0) (.mk 1 0))) (.leaf (.val (.u (.agg (cB (lowB (.mk (.mk 0 0) (.mk 1 0) (.mk 1 0) (.mk 1 0) (.mk 1 0)) 32)))))) (.no 98)) (.br (isB 10) (.br (goodB (lowB a 32)) (.br (goodB (lowB b 32)) (.br (invB (sync (opB 10 (lowB a 32) (lowB b 32)))) (.leaf (.val (.u (.agg (cB (lowB (sync (opB 10 (lowB a 32) (lowB b 32))) 32)))))) (.no 98)) (.no 98)) (.no 98)) (.no 98)))) (.no 98)) (.no 98))))) (by kernel_rfl) ρ rfl ?_ w
  · have ia : Inv5 a := invB_iff.1 hb0
    have ib : Inv5 b := invB_iff.1 hb1
    refine br2 (fun k1 => ?_) (fun k1 => ?_)
    · have e : doesB 10 false a b = nothing := does_na (by decide) k1
      simp only [Tr.all]; rw [e]; try rfl
    · refine br2 (fun k2 => ?_) (fun k2 => ?_)
      · have e : doesB 10 false a b = nothing := does_nb (by decide) k1 k2
        simp only [Tr.all]; rw [e]; try rfl
      · refine askB (invB_iff.2 ia) ?_
        refine askB (invB_iff.2 ib) ?_
        refine br2 (fun k3 => ?_) (fun k3 => ?_)
        · refine askB (invB_iff.2 nothing_inv) ?_
          have e : doesB 10 false a b = nothing := (does_h (by decide) k1 k2).trans (half_na rfl k3)
          simp only [Tr.all]; rw [e]; try rfl
        · refine br2 (fun k4 => ?_) (fun k4 => ?_)
          · refine askB (invB_iff.2 nothing_inv) ?_
            have e : doesB 10 false a b = nothing := (does_h (by decide) k1 k2).trans (half_nb rfl k3 k4)
            simp only [Tr.all]; rw [e]; try rfl
          · refine askB (by decide) ?_
            refine askB (goodB_iff.2 ⟨(lowB_inv ia), k3⟩) ?_
            refine askB (goodB_iff.2 ⟨(lowB_inv ib), k4⟩) ?_
            refine askB (invB_iff.2 (opS_inv (lowB_inv ia) (lowB_inv ib))) ?_
            have e : doesB 10 false a b = lowB (sync (opB 10 (lowB a 32) (lowB b 32))) 32 := (does_h (by decide) k1 k2).trans ((half_op rfl k3 k4).trans rfl)
            simp only [Tr.all]; rw [e]; try rfl
theorem t_rdoes11t (a : Bd) (b : Bd) (hb0 : invB a = true) (hb1 : invB b = true) (ρ : Nat → Nat) (w : World) : Calls Tryz.prog 20 (enV [.s (some .u8), .s none, .a [some .u64, some .u64, some .u64, some .u64, some .i64, some .i64, some .u64, some .u64, some .i64, some .i64], .a [some .u64, some .u64, some .u64, some .u64, some .i64, some .i64, some .u64, some .u64, some .i64, some .i64]] ([11, a.1.1, a.1.2, a.2.1, a.2.2, a.3.1, a.3.2, a.4.1, a.4.2, a.5.1, a.5.2, b.1.1, b.1.2, b.2.1, b.2.2, b.3.1, b.3.2, b.4.1, b.4.2, b.5.1, b.5.2], [true])).toArray w fun e w' => e = .returned (V.den ρ (.u (.agg (cB (doesB 11 true a b))))) ∧ Below w.heap.size w w' := by
  refine pure_to nameOK oks_L05AB_3 (dOK oks_L05AB_3) 300 [.u (.c (.li .u8 11)), .u (.c (.lb true)), .u (.agg (cB a)), .u (.agg (cB b))] (T := (.br (bNone a) (.leaf (.val (.u (.agg cN)))) (.br (bNone b) (.leaf (.val (.u (.agg cN)))) (.leaf (.val (.u (.agg (cB b)))))))) (by kernel_rfl) ρ rfl ?_ w
  · have ia : Inv5 a := invB_iff.1 hb0
    have ib : Inv5 b := invB_iff.1 hb1
    refine br2 (fun k1 => ?_) (fun k1 => ?_)
    · have e : doesB 11 true a b = nothing := does_na (by decide) k1
      simp only [Tr.all]; rw [e]; try rfl
    · refine br2 (fun k2 => ?_) (fun k2 => ?_)
      · have e : doesB 11 true a b = nothing := does_nb (by decide) k1 k2
        simp only [Tr.all]; rw [e]; try rfl
      · have e : doesB 11 true a b = b := (does_w (by decide) k1 k2).trans ((wide_op rfl).trans rfl)
        simp only [Tr.all]; rw [e]; try rfl
theorem t_rdoes11f (a : Bd) (b : Bd) (hb0 : invB a = true) (hb1 : invB b = true) (ρ : Nat → Nat) (w : World) : Calls Tryz.prog 20 (enV [.s (some .u8), .s none, .a [some .u64, some .u64, some .u64, some .u64, some .i64, some .i64, some .u64, some .u64, some .i64, some .i64], .a [some .u64, some .u64, some .u64, some .u64, some .i64, some .i64, some .u64, some .u64, some .i64, some .i64]] ([11, a.1.1, a.1.2, a.2.1, a.2.2, a.3.1, a.3.2, a.4.1, a.4.2, a.5.1, a.5.2, b.1.1, b.1.2, b.2.1, b.2.2, b.3.1, b.3.2, b.4.1, b.4.2, b.5.1, b.5.2], [false])).toArray w fun e w' => e = .returned (V.den ρ (.u (.agg (cB (doesB 11 false a b))))) ∧ Below w.heap.size w w' := by
  refine pure_to nameOK oks_L05AB_3 (dOK oks_L05AB_3) 300 [.u (.c (.li .u8 11)), .u (.c (.lb false)), .u (.agg (cB a)), .u (.agg (cB b))] (T := (.br (bNone a) (.leaf (.val (.u (.agg cN)))) (.br (bNone b) (.leaf (.val (.u (.agg cN)))) (.br (invB a) (.br (invB b) (.br (bNone (lowB a 32)) (.br (invB (.mk (.mk 0 0) (.mk 1 0) (.mk 1 0) (.mk 1 0) (.mk 1 0))) (.leaf (.val (.u (.agg (cB (lowB (.mk (.mk 0 0) (.mk 1 0) (.mk 1 0) (.mk 1 0) (.mk 1 0)) 32)))))) (.no 98)) (.br (bNone (lowB b 32)) (.br (invB (.mk (.mk 0 0) (.mk 1 0) (.mk 1 0) (.mk 1 0) (.mk 1 0))) (.leaf (.val (.u (.agg (cB (lowB (.mk (.mk 0 0) (.mk 1 0) (.mk 1 0) (.mk 1 0) (.mk 1 0)) 32)))))) (.no 98)) (.br (invB (lowB b 32)) (.leaf (.val (.u (.agg (cB (lowB (lowB b 32) 32)))))) (.no 98)))) (.no 98)) (.no 98))))) (by kernel_rfl) ρ rfl ?_ w
  · have ia : Inv5 a := invB_iff.1 hb0
    have ib : Inv5 b := invB_iff.1 hb1
    refine br2 (fun k1 => ?_) (fun k1 => ?_)
    · have e : doesB 11 false a b = nothing := does_na (by decide) k1
      simp only [Tr.all]; rw [e]; try rfl
    · refine br2 (fun k2 => ?_) (fun k2 => ?_)
      · have e : doesB 11 false a b = nothing := does_nb (by decide) k1 k2
        simp only [Tr.all]; rw [e]; try rfl
      · refine askB (invB_iff.2 ia) ?_
        refine askB (invB_iff.2 ib) ?_
        refine br2 (fun k3 => ?_) (fun k3 => ?_)
        · refine askB (invB_iff.2 nothing_inv) ?_
          have e : doesB 11 false a b = nothing := (does_h (by decide) k1 k2).trans (half_na rfl k3)
          simp only [Tr.all]; rw [e]; try rfl
        · refine br2 (fun k4 => ?_) (fun k4 => ?_)
          · refine askB (invB_iff.2 nothing_inv) ?_
            have e : doesB 11 false a b = nothing := (does_h (by decide) k1 k2).trans (half_nb rfl k3 k4)
            simp only [Tr.all]; rw [e]; try rfl
          · refine askB (invB_iff.2 (lowB_inv ib)) ?_
            have e : doesB 11 false a b = lowB (lowB b 32) 32 := (does_h (by decide) k1 k2).trans ((half_op rfl k3 k4).trans rfl)
            simp only [Tr.all]; rw [e]; try rfl
theorem t_rdoes12t (a : Bd) (b : Bd) (hb0 : invB a = true) (hb1 : invB b = true) (ρ : Nat → Nat) (w : World) : Calls Tryz.prog 20 (enV [.s (some .u8), .s none, .a [some .u64, some .u64, some .u64, some .u64, some .i64, some .i64, some .u64, some .u64, some .i64, some .i64], .a [some .u64, some .u64, some .u64, some .u64, some .i64, some .i64, some .u64, some .u64, some .i64, some .i64]] ([12, a.1.1, a.1.2, a.2.1, a.2.2, a.3.1, a.3.2, a.4.1, a.4.2, a.5.1, a.5.2, b.1.1, b.1.2, b.2.1, b.2.2, b.3.1, b.3.2, b.4.1, b.4.2, b.5.1, b.5.2], [true])).toArray w fun e w' => e = .returned (V.den ρ (.u (.agg (cB (doesB 12 true a b))))) ∧ Below w.heap.size w w' := by
  refine pure_to nameOK oks_L05AB_3 (dOK oks_L05AB_3) 300 [.u (.c (.li .u8 12)), .u (.c (.lb true)), .u (.agg (cB a)), .u (.agg (cB b))] (T := (.br (bNone a) (.leaf (.val (.u (.agg cN)))) (.br (bNone b) (.leaf (.val (.u (.agg cN)))) (.br (isU b.1.1) (.br (isU b.1.2) (.br (tMay b.1) (.br (isN 6) (.br (isSh 12) (.br (invB a) (.br (isU (tLowN b.1 6).1) (.leaf (.val (.u (.agg (cB (shiftB 12 a (tLowN b.1 6).1 (iEq (tLowN b.1 6).2 0))))))) (.no 98)) (.no 98)) (.no 98)) (.no 98)) (.no 98)) (.no 98)) (.no 98))))) (by kernel_rfl) ρ rfl ?_ w
  · have ia : Inv5 a := invB_iff.1 hb0
    have ib : Inv5 b := invB_iff.1 hb1
    refine br2 (fun k1 => ?_) (fun k1 => ?_)
    · have e : doesB 12 true a b = nothing := does_na (by decide) k1
      simp only [Tr.all]; rw [e]; try rfl
    · refine br2 (fun k2 => ?_) (fun k2 => ?_)
      · have e : doesB 12 true a b = nothing := does_nb (by decide) k1 k2
        simp only [Tr.all]; rw [e]; try rfl
      · refine askB (ib.t.1.1) ?_
        refine askB (ib.t.1.2) ?_
        refine askB ((tMay_iff ib.t.1).2 ib.t) ?_
        refine askB (by decide) ?_
        refine askB (by decide) ?_
        refine askB (invB_iff.2 ia) ?_
        refine askB ((lowN_uu ib.t.1 6).1) ?_
        have e : doesB 12 true a b = shiftB 12 a (tLowN b.t 6).lo (iEq (tLowN b.t 6).hi 0) := (does_w (by decide) k1 k2).trans (wide_sh rfl)
        simp only [Tr.all]; rw [e]; try rfl
theorem t_rdoes12f (a : Bd) (b : Bd) (hb0 : invB a = true) (hb1 : invB b = true) (ρ : Nat → Nat) (w : World) : Calls Tryz.prog 20 (enV [.s (some .u8), .s none, .a [some .u64, some .u64, some .u64, some .u64, some .i64, some .i64, some .u64, some .u64, some .i64, some .i64], .a [some .u64, some .u64, some .u64, some .u64, some .i64, some .i64, some .u64, some .u64, some .i64, some .i64]] ([12, a.1.1, a.1.2, a.2.1, a.2.2, a.3.1, a.3.2, a.4.1, a.4.2, a.5.1, a.5.2, b.1.1, b.1.2, b.2.1, b.2.2, b.3.1, b.3.2, b.4.1, b.4.2, b.5.1, b.5.2], [false])).toArray w fun e w' => e = .returned (V.den ρ (.u (.agg (cB (doesB 12 false a b))))) ∧ Below w.heap.size w w' := by
  have key : ∀ longB : Bd → Bd, runp Tryz.prog [s_rBNone, s_rlow, s_rLowT, s_rlongF longB, s_rshiftsH, s_rbitsH, s_rreckH, s_rConst] (drawx Tryz.prog [s_rBNone, s_rlow, s_rLowT, s_rlongF longB, s_rshiftsH, s_rbitsH, s_rreckH, s_rConst]) 300 20 [.u (.c (.li .u8 12)), .u (.c (.lb false)), .u (.agg (cB a)), .u (.agg (cB b))] = (.br (bNone a) (.leaf (.val (.u (.agg cN)))) (.br (bNone b) (.leaf (.val (.u (.agg cN)))) (.br (invB a) (.br (invB b) (.br (isU b.1.1) (.br (isU b.1.2) (.br (tMay b.1) (.br (isN 5) (.br (invB (lowB a 32)) (.br (isSh 12) (.br (invB (longB (lowB a 32))) (.br (isU (tLowN b.1 5).1) (.br (invB (shiftB 12 (longB (lowB a 32)) (tLowN b.1 5).1 (iEq (tLowN b.1 5).2 0))) (.leaf (.val (.u (.agg [(.si .u64 (lowB (shiftB 12 (longB (lowB a 32)) (tLowN b.1 5).1 (iEq (tLowN b.1 5).2 0)) 32).1.1), (.si .u64 (lowB (shiftB 12 (longB (lowB a 32)) (tLowN b.1 5).1 (iEq (tLowN b.1 5).2 0)) 32).1.2), (.si .u64 (lowB (shiftB 12 (longB (lowB a 32)) (tLowN b.1 5).1 (iEq (tLowN b.1 5).2 0)) 32).2.1), (.si .u64 (lowB (shiftB 12 (longB (lowB a 32)) (tLowN b.1 5).1 (iEq (tLowN b.1 5).2 0)) 32).2.2), (.si .i64 (lowB (shiftB 12 (longB (lowB a 32)) (tLowN b.1 5).1 (iEq (tLowN b.1 5).2 0)) 32).3.1), (.si .i64 (lowB (shiftB 12 (longB (lowB a 32)) (tLowN b.1 5).1 (iEq (tLowN b.1 5).2 0)) 32).3.2), (.si .u64 (lowB (shiftB 12 (longB (lowB a 32)) (tLowN b.1 5).1 (iEq (tLowN b.1 5).2 0)) 32).4.1), (.si .u64 (lowB (shiftB 12 (longB (lowB a 32)) (tLowN b.1 5).1 (iEq (tLowN b.1 5).2 0)) 32).4.2), (.si .i64 (lowB (shiftB 12 (longB (lowB a 32)) (tLowN b.1 5).1 (iEq (tLowN b.1 5).2 0)) 32).5.1), (.si .i64 (lowB (shiftB 12 (longB (lowB a 32)) (tLowN b.1 5).1 (iEq (tLowN b.1 5).2 0)) 32).5.2)])))) (.no 98)) (.no 98)) (.no 98)) (.no 98)) (.no 98)) (.no 98)) (.no 98)) (.no 98)) (.no 98)) (.no 98)) (.no 98)))) := fun longB => by kernel_rfl
  refine pure_to nameOK oks_L05AB_3 (dOK oks_L05AB_3) 300 [.u (.c (.li .u8 12)), .u (.c (.lb false)), .u (.agg (cB a)), .u (.agg (cB b))] (T := (.br (bNone a) (.leaf (.val (.u (.agg cN)))) (.br (bNone b) (.leaf (.val (.u (.agg cN)))) (.br (invB a) (.br (invB b) (.br (isU b.1.1) (.br (isU b.1.2) (.br (tMay b.1) (.br (isN 5) (.br (invB (lowB a 32)) (.br (isSh 12) (.br (invB (longB (lowB a 32))) (.br (isU (tLowN b.1 5).1) (.br (invB (shiftB 12 (longB (lowB a 32)) (tLowN b.1 5).1 (iEq (tLowN b.1 5).2 0))) (.leaf (.val (.u (.agg (cB (lowB (shiftB 12 (longB (lowB a 32)) (tLowN b.1 5).1 (iEq (tLowN b.1 5).2 0)) 32)))))) (.no 98)) (.no 98)) (.no 98)) (.no 98)) (.no 98)) (.no 98)) (.no 98)) (.no 98)) (.no 98)) (.no 98)) (.no 98))))) (key longB) ρ rfl ?_ w
  · have ia : Inv5 a := invB_iff.1 hb0
    have ib : Inv5 b := invB_iff.1 hb1
    refine br2 (fun k1 => ?_) (fun k1 => ?_)
    · have e : doesB 12 false a b = nothing := does_na (by decide) k1
      simp only [Tr.all]; rw [e]; try rfl
    · refine br2 (fun k2 => ?_) (fun k2 => ?_)
      · have e : doesB 12 false a b = nothing := does_nb (by decide) k1 k2
        simp only [Tr.all]; rw [e]; try rfl
      · refine askB (invB_iff.2 ia) ?_
        refine askB (invB_iff.2 ib) ?_
        refine askB (ib.t.1.1) ?_
        refine askB (ib.t.1.2) ?_
        refine askB ((tMay_iff ib.t.1).2 ib.t) ?_
        refine askB (by decide) ?_
        refine askB (invB_iff.2 (lowB_inv ia)) ?_
        refine askB (by decide) ?_
        refine askB (invB_iff.2 (longB_inv (lowB_inv ia))) ?_
        refine askB ((lowN_uu ib.t.1 5).1) ?_
        refine askB (invB_iff.2 (shiftB_inv (longB_inv (lowB_inv ia)))) ?_
        have e : doesB 12 false a b = lowB (shiftB 12 (longB (lowB a 32)) (tLowN b.t 5).lo (iEq (tLowN b.t 5).hi 0)) 32 := (does_h (by decide) k1 k2).trans ((half_sh rfl).trans (by rw [if_pos rfl]))
        simp only [Tr.all]; rw [e]; try rfl
theorem t_rdoes (c : Int) (wide : Bool) (a : Bd) (b : Bd) (hb0 : isD c = true) (hb1 : invB a = true) (hb2 : invB b = true) (ρ : Nat → Nat) (w : World) : Calls Tryz.prog 20 (enV [.s (some .u8), .s none, .a [some .u64, some .u64, some .u64, some .u64, some .i64, some .i64, some .u64, some .u64, some .i64, some .i64], .a [some .u64, some .u64, some .u64, some .u64, some .i64, some .i64, some .u64, some .u64, some .i64, some .i64]] ([c, a.1.1, a.1.2, a.2.1, a.2.2, a.3.1, a.3.2, a.4.1, a.4.2, a.5.1, a.5.2, b.1.1, b.1.2, b.2.1, b.2.2, b.3.1, b.3.2, b.4.1, b.4.2, b.5.1, b.5.2], [wide])).toArray w fun e w' => e = .returned (V.den ρ (.u (.agg (cB (doesB c wide a b))))) ∧ Below w.heap.size w w' := by
  have hc := isD_iff.1 hb0
  have hcs : c = 0 ∨ c = 1 ∨ c = 2 ∨ c = 3 ∨ c = 4 ∨ c = 5 ∨ c = 6 ∨ c = 7 ∨ c = 8 ∨ c = 9 ∨ c = 10 ∨ c = 11 ∨ c = 12 := by omega
  rcases hcs with rfl | rfl | rfl | rfl | rfl | rfl | rfl | rfl | rfl | rfl | rfl | rfl | rfl <;> cases wide
  · exact t_rdoes0f a b hb1 hb2 ρ w
  · exact t_rdoes0t a b hb1 hb2 ρ w
  · exact t_rdoes1f a b hb1 hb2 ρ w
  · exact t_rdoes1t a b hb1 hb2 ρ w
  · exact t_rdoes2f a b hb1 hb2 ρ w
  · exact t_rdoes2t a b hb1 hb2 ρ w
  · exact t_rdoes3f a b hb1 hb2 ρ w
  · exact t_rdoes3t a b hb1 hb2 ρ w
  · exact t_rdoes4f a b hb1 hb2 ρ w
  · exact t_rdoes4t a b hb1 hb2 ρ w
  · exact t_rdoes5f a b hb1 hb2 ρ w
  · exact t_rdoes5t a b hb1 hb2 ρ w
  · exact t_rdoes6f a b hb1 hb2 ρ w
  · exact t_rdoes6t a b hb1 hb2 ρ w
  · exact t_rdoes7f a b hb1 hb2 ρ w
  · exact t_rdoes7t a b hb1 hb2 ρ w
  · exact t_rdoes8f a b hb1 hb2 ρ w
  · exact t_rdoes8t a b hb1 hb2 ρ w
  · exact t_rdoes9f a b hb1 hb2 ρ w
  · exact t_rdoes9t a b hb1 hb2 ρ w
  · exact t_rdoes10f a b hb1 hb2 ρ w
  · exact t_rdoes10t a b hb1 hb2 ρ w
  · exact t_rdoes11f a b hb1 hb2 ρ w
  · exact t_rdoes11t a b hb1 hb2 ρ w
  · exact t_rdoes12f a b hb1 hb2 ρ w
  · exact t_rdoes12t a b hb1 hb2 ρ w
def s_rdoes : Sum := bySum 20 [.s (some .u8), .s none, .a [some .u64, some .u64, some .u64, some .u64, some .i64, some .i64, some .u64, some .u64, some .i64, some .i64], .a [some .u64, some .u64, some .u64, some .u64, some .i64, some .i64, some .u64, some .u64, some .i64, some .i64]] fun
  | [a0, a1, a2, a3, a4, a5, a6, a7, a8, a9, a10, a11, a12, a13, a14, a15, a16, a17, a18, a19, a20], [o0] => some ([isD a0, invB (Bd.mk (P2.mk a1 a2) (P2.mk a3 a4) (P2.mk a5 a6) (P2.mk a7 a8) (P2.mk a9 a10)), invB (Bd.mk (P2.mk a11 a12) (P2.mk a13 a14) (P2.mk a15 a16) (P2.mk a17 a18) (P2.mk a19 a20))], .u (.agg (cB (doesB a0 o0 (Bd.mk (P2.mk a1 a2) (P2.mk a3 a4) (P2.mk a5 a6) (P2.mk a7 a8) (P2.mk a9 a10)) (Bd.mk (P2.mk a11 a12) (P2.mk a13 a14) (P2.mk a15 a16) (P2.mk a17 a18) (P2.mk a19 a20))))))
  | _, _ => none
theorem s_rdoes_ok : SumOK Tryz.prog s_rdoes := by
  refine bySum_ok ⟨_, Tryz.func20, by kernel_rfl⟩ ?_
  intro ns os bs r hm hb ρ w
  split at hm
  · rename_i a0 a1 a2 a3 a4 a5 a6 a7 a8 a9 a10 a11 a12 a13 a14 a15 a16 a17 a18 a19 a20 o0
    cases hm
    exact t_rdoes a0 o0 (Bd.mk (P2.mk a1 a2) (P2.mk a3 a4) (P2.mk a5 a6) (P2.mk a7 a8) (P2.mk a9 a10)) (Bd.mk (P2.mk a11 a12) (P2.mk a13 a14) (P2.mk a15 a16) (P2.mk a17 a18) (P2.mk a19 a20)) (hb _ (by simp)) (hb _ (by simp)) (hb _ (by simp)) ρ w
  · cases hm
end Go.Proofs.YtafpbibpahjnhaaGreat.L05X
