/- Layer 5: the law's own examples. Printed by a program of the session's own (genb.py). -/
import Derived.Test.YtafpbibpahjnhaaGreatL05AB
namespace Go.Proofs.YtafpbibpahjnhaaGreat.L05AC
open Go Go.RowKit Go.Proofs.YtafpbibpahjnhaaGreat.Sx Go.Proofs.YtafpbibpahjnhaaGreat.L05 Go.Proofs.YtafpbibpahjnhaaGreat.L05J Go.Proofs.YtafpbibpahjnhaaGreat.L05P Go.Proofs.YtafpbibpahjnhaaGreat.L05X
set_option linter.unusedVariables false
set_option linter.unusedSimpArgs false
open Go.Proofs.YtafpbibpahjnhaaGreat.L04 (mAdd1 mAdd2 mSub1 mSub2 mMul1 mMul2 mDiv1 mDiv2 mMod1 mMod2 mPlus1 mPlus2 mMinus1 mMinus2 mShl1 mShl2 mShr1 mShr2 mSar1 mSar2)
theorem oks_L05AC_0 : ∀ q ∈ [s_bConst, s_bOne, s_sync, s_bHas, s_bNone, s_tAnd, s_does], SumOK Tryz.prog q := (okc s_bConst_ok (okc s_bOne_ok (okc s_sync_ok (okc s_bHas_ok (okc s_bNone_ok (okc s_tAnd_ok (okc s_does_ok okn)))))))
theorem t_works  (ρ : Nat → Nat) (w : World) : Calls Tryz.prog 19 (enV [] ([], [])).toArray w fun e w' => e = .returned (V.den ρ (.u (.c (.sb (true))))) ∧ Below w.heap.size w w' := by
  refine pure_to nameOK oks_L05AC_0 (dOK oks_L05AC_0) 300 [] (T := (.br (isU 5) (.br (isU 7) (.br (isC 5) (.br (isU 0) (.br (isU 18446744073709551615) (.br (isU 0) (.br (isU 18446744073709551615) (.br (isI (-9223372036854775808)) (.br (isI 9223372036854775807) (.br (isU 0) (.br (isU 4294967295) (.br (isI (-2147483648)) (.br (isI 2147483647) (a10 (bConst 7) (a10 (bConst 5) (.br (isC 15) (a10 (bConst 5) (a10 (bConst 5) (a10 (bConst 5) (.br (isU 5) (.br (bHas (bConst 5) 5) (a10 (bConst 5) (.br (isU 6) (.br (bNot (bHas (bConst 5) 6)) (.br (iEq (oneV (bConst 5)) 5) (.br (oneIs (bConst 5)) (.br (iEq (doesE 5) 0) (.br (bAnd (iEq (doesB 5 true (.mk (.mk 0 18446744073709551615) (.mk 0 18446744073709551615) (.mk (-9223372036854775808) 9223372036854775807) (.mk 0 4294967295) (.mk (-2147483648) 2147483647)) (bConst 7)).2.1 0) (iEq (doesB 5 true (.mk (.mk 0 18446744073709551615) (.mk 0 18446744073709551615) (.mk (-9223372036854775808) 9223372036854775807) (.mk 0 4294967295) (.mk (-2147483648) 2147483647)) (bConst 7)).2.2 7)) (.br (iEq (doesE 15) 20) (.leaf (.val (.u (.c (.sb (bNot (bNone (doesB 5 true (.mk (.mk 0 18446744073709551615) (.mk 0 18446744073709551615) (.mk (-9223372036854775808) 9223372036854775807) (.mk 0 4294967295) (.mk (-2147483648) 2147483647)) (bConst 7))))))))) (.leaf (.val (.u (.c (.lb false)))))) (.leaf (.val (.u (.c (.lb false)))))) (.leaf (.val (.u (.c (.lb false)))))) (.leaf (.val (.u (.c (.lb false)))))) (.leaf (.val (.u (.c (.lb false)))))) (.leaf (.val (.u (.c (.lb false)))))) (.no 98))) (.leaf (.val (.u (.c (.lb false)))))) (.no 98))))) (.no 98)))) (.no 98)) (.no 98)) (.no 98)) (.no 98)) (.no 98)) (.no 98)) (.no 98)) (.no 98)) (.no 98)) (.no 98)) (.no 98)) (.no 98)) (.no 98))) (by kernel_rfl) ρ rfl ?_ w
  · iterate 65 (refine askB (by first | decide | kernel_rfl) ?_)
    refine brT (by kernel_rfl) ?_
    iterate 11 (refine askB (by first | decide | kernel_rfl) ?_)
    refine brnF (by kernel_rfl) ?_
    iterate 5 (refine brT (by kernel_rfl) ?_)
    simp only [Tr.all]; try rfl
def s_works : Sum := bySum 19 [] fun
  | [], [] => some ([], .u (.c (.sb (true))))
  | _, _ => none
theorem s_works_ok : SumOK Tryz.prog s_works := by
  refine bySum_ok ⟨_, Tryz.func19, by kernel_rfl⟩ ?_
  intro ns os bs r hm hb ρ w
  split at hm
  · cases hm
    exact t_works  ρ w
  · cases hm
end Go.Proofs.YtafpbibpahjnhaaGreat.L05AC
