/- Layer 5: the walks of laws of single bounds. Printed by a program of the session's own (genb.py). -/
import Derived.Test.YtafpbibpahjnhaaGreatL05J
namespace Go.Proofs.YtafpbibpahjnhaaGreat.L05J
open Go Go.RowKit Go.Proofs.YtafpbibpahjnhaaGreat.Sx Go.Proofs.YtafpbibpahjnhaaGreat.L05
set_option linter.unusedVariables false
set_option linter.unusedSimpArgs false
theorem t_works  (ρ : Nat → Nat) (w : World) : Calls Tryz.prog 19 (enV [] ([], [])).toArray w fun e w' => e = .returned (V.den ρ (.u (.c (.sb (true))))) ∧ Below w.heap.size w w' := by
  refine pure_to nameOK (okc s_bConst_ok (okc s_bOne_ok (okc s_sync_ok (okc s_bHas_ok (okc s_bNone_ok (okc s_tAnd_ok okn)))))) (dOK (okc s_bConst_ok (okc s_bOne_ok (okc s_sync_ok (okc s_bHas_ok (okc s_bNone_ok (okc s_tAnd_ok okn))))))) 300 [] (T := (.br (isU 5) (.br (isU 7) (.br (bNone (.mk (.mk 0 18446744073709551615) (.mk 0 18446744073709551615) (.mk (-9223372036854775808) 9223372036854775807) (.mk 0 4294967295) (.mk (-2147483648) 2147483647))) (.br (isU (bConst 5).1.1) (.br (isU (bConst 5).1.2) (.br (isU (bConst 5).2.1) (.br (isU (bConst 5).2.2) (.br (isI (bConst 5).3.1) (.br (isI (bConst 5).3.2) (.br (isU (bConst 5).4.1) (.br (isU (bConst 5).4.2) (.br (isI (bConst 5).5.1) (.br (isI (bConst 5).5.2) (.br (isU (bConst 5).1.1) (.br (isU (bConst 5).1.2) (.br (isU (bConst 5).2.1) (.br (isU (bConst 5).2.2) (.br (isI (bConst 5).3.1) (.br (isI (bConst 5).3.2) (.br (isU (bConst 5).4.1) (.br (isU (bConst 5).4.2) (.br (isI (bConst 5).5.1) (.br (isI (bConst 5).5.2) (.br (isU 5) (.br (bHas (bConst 5) 5) (.br (isU (bConst 5).1.1) (.br (isU (bConst 5).1.2) (.br (isU (bConst 5).2.1) (.br (isU (bConst 5).2.2) (.br (isI (bConst 5).3.1) (.br (isI (bConst 5).3.2) (.br (isU (bConst 5).4.1) (.br (isU (bConst 5).4.2) (.br (isI (bConst 5).5.1) (.br (isI (bConst 5).5.2) (.br (isU 6) (.br (bNot (bHas (bConst 5) 6)) (.br (iEq (oneV (bConst 5)) 5) (.br (oneIs (bConst 5)) (.leaf (.val (.u (.c (.lb false))))) (.leaf (.val (.u (.c (.lb false)))))) (.leaf (.val (.u (.c (.lb false)))))) (.leaf (.val (.u (.c (.lb false)))))) (.no 98)) (.no 98)) (.no 98)) (.no 98)) (.no 98)) (.no 98)) (.no 98)) (.no 98)) (.no 98)) (.no 98)) (.no 98)) (.leaf (.val (.u (.c (.lb false)))))) (.no 98)) (.no 98)) (.no 98)) (.no 98)) (.no 98)) (.no 98)) (.no 98)) (.no 98)) (.no 98)) (.no 98)) (.no 98)) (.no 98)) (.no 98)) (.no 98)) (.no 98)) (.no 98)) (.no 98)) (.no 98)) (.no 98)) (.no 98)) (.no 98)) (.br (bNone (bConst 7)) (.br (isU (bConst 5).1.1) (.br (isU (bConst 5).1.2) (.br (isU (bConst 5).2.1) (.br (isU (bConst 5).2.2) (.br (isI (bConst 5).3.1) (.br (isI (bConst 5).3.2) (.br (isU (bConst 5).4.1) (.br (isU (bConst 5).4.2) (.br (isI (bConst 5).5.1) (.br (isI (bConst 5).5.2) (.br (isU (bConst 5).1.1) (.br (isU (bConst 5).1.2) (.br (isU (bConst 5).2.1) (.br (isU (bConst 5).2.2) (.br (isI (bConst 5).3.1) (.br (isI (bConst 5).3.2) (.br (isU (bConst 5).4.1) (.br (isU (bConst 5).4.2) (.br (isI (bConst 5).5.1) (.br (isI (bConst 5).5.2) (.br (isU 5) (.br (bHas (bConst 5) 5) (.br (isU (bConst 5).1.1) (.br (isU (bConst 5).1.2) (.br (isU (bConst 5).2.1) (.br (isU (bConst 5).2.2) (.br (isI (bConst 5).3.1) (.br (isI (bConst 5).3.2) (.br (isU (bConst 5).4.1) (.br (isU (bConst 5).4.2) (.br (isI (bConst 5).5.1) (.br (isI (bConst 5).5.2) (.br (isU 6) (.br (bNot (bHas (bConst 5) 6)) (.br (iEq (oneV (bConst 5)) 5) (.br (oneIs (bConst 5)) (.leaf (.val (.u (.c (.lb false))))) (.leaf (.val (.u (.c (.lb false)))))) (.leaf (.val (.u (.c (.lb false)))))) (.leaf (.val (.u (.c (.lb false)))))) (.no 98)) (.no 98)) (.no 98)) (.no 98)) (.no 98)) (.no 98)) (.no 98)) (.no 98)) (.no 98)) (.no 98)) (.no 98)) (.leaf (.val (.u (.c (.lb false)))))) (.no 98)) (.no 98)) (.no 98)) (.no 98)) (.no 98)) (.no 98)) (.no 98)) (.no 98)) (.no 98)) (.no 98)) (.no 98)) (.no 98)) (.no 98)) (.no 98)) (.no 98)) (.no 98)) (.no 98)) (.no 98)) (.no 98)) (.no 98)) (.no 98)) (.br (isU (tAndM (.mk 0 18446744073709551615) (bConst 7).1).1) (.br (isU (tAndM (.mk 0 18446744073709551615) (bConst 7).1).2) (.br (isU 0) (.br (isU (iMin2 18446744073709551615 (bConst 7).2.2)) (.br (isI (-9223372036854775808)) (.br (isI 9223372036854775807) (.br (isU 0) (.br (isU (iMin2 4294967295 (bConst 7).4.2)) (.br (isI (-2147483648)) (.br (isI 2147483647) (.br (isU (bConst 5).1.1) (.br (isU (bConst 5).1.2) (.br (isU (bConst 5).2.1) (.br (isU (bConst 5).2.2) (.br (isI (bConst 5).3.1) (.br (isI (bConst 5).3.2) (.br (isU (bConst 5).4.1) (.br (isU (bConst 5).4.2) (.br (isI (bConst 5).5.1) (.br (isI (bConst 5).5.2) (.br (isU (bConst 5).1.1) (.br (isU (bConst 5).1.2) (.br (isU (bConst 5).2.1) (.br (isU (bConst 5).2.2) (.br (isI (bConst 5).3.1) (.br (isI (bConst 5).3.2) (.br (isU (bConst 5).4.1) (.br (isU (bConst 5).4.2) (.br (isI (bConst 5).5.1) (.br (isI (bConst 5).5.2) (.br (isU 5) (.br (bHas (bConst 5) 5) (.br (isU (bConst 5).1.1) (.br (isU (bConst 5).1.2) (.br (isU (bConst 5).2.1) (.br (isU (bConst 5).2.2) (.br (isI (bConst 5).3.1) (.br (isI (bConst 5).3.2) (.br (isU (bConst 5).4.1) (.br (isU (bConst 5).4.2) (.br (isI (bConst 5).5.1) (.br (isI (bConst 5).5.2) (.br (isU 6) (.br (bNot (bHas (bConst 5) 6)) (.br (iEq (oneV (bConst 5)) 5) (.br (oneIs (bConst 5)) (.br (bAnd (iEq (sync (.mk (tAndM (.mk 0 18446744073709551615) (bConst 7).1) (.mk 0 (iMin2 18446744073709551615 (bConst 7).2.2)) (.mk (-9223372036854775808) 9223372036854775807) (.mk 0 (iMin2 4294967295 (bConst 7).4.2)) (.mk (-2147483648) 2147483647))).2.1 0) (iEq (sync (.mk (tAndM (.mk 0 18446744073709551615) (bConst 7).1) (.mk 0 (iMin2 18446744073709551615 (bConst 7).2.2)) (.mk (-9223372036854775808) 9223372036854775807) (.mk 0 (iMin2 4294967295 (bConst 7).4.2)) (.mk (-2147483648) 2147483647))).2.2 7)) (.leaf (.val (.u (.c (.sb (bNot (bNone (sync (.mk (tAndM (.mk 0 18446744073709551615) (bConst 7).1) (.mk 0 (iMin2 18446744073709551615 (bConst 7).2.2)) (.mk (-9223372036854775808) 9223372036854775807) (.mk 0 (iMin2 4294967295 (bConst 7).4.2)) (.mk (-2147483648) 2147483647)))))))))) (.leaf (.val (.u (.c (.lb false)))))) (.leaf (.val (.u (.c (.lb false)))))) (.leaf (.val (.u (.c (.lb false)))))) (.leaf (.val (.u (.c (.lb false)))))) (.no 98)) (.no 98)) (.no 98)) (.no 98)) (.no 98)) (.no 98)) (.no 98)) (.no 98)) (.no 98)) (.no 98)) (.no 98)) (.leaf (.val (.u (.c (.lb false)))))) (.no 98)) (.no 98)) (.no 98)) (.no 98)) (.no 98)) (.no 98)) (.no 98)) (.no 98)) (.no 98)) (.no 98)) (.no 98)) (.no 98)) (.no 98)) (.no 98)) (.no 98)) (.no 98)) (.no 98)) (.no 98)) (.no 98)) (.no 98)) (.no 98)) (.no 98)) (.no 98)) (.no 98)) (.no 98)) (.no 98)) (.no 98)) (.no 98)) (.no 98)) (.no 98)) (.no 98)))) (.no 98)) (.no 98))) (by kernel_rfl) ρ rfl ?_ w
  · skip
    refine askB (by first | decide | kernel_rfl) ?_
    refine askB (by first | decide | kernel_rfl) ?_
    refine brF (by kernel_rfl) ?_
    refine brF (by kernel_rfl) ?_
    refine askB (by first | decide | kernel_rfl) ?_
    refine askB (by first | decide | kernel_rfl) ?_
    refine askB (by first | decide | kernel_rfl) ?_
    refine askB (by first | decide | kernel_rfl) ?_
    refine askB (by first | decide | kernel_rfl) ?_
    refine askB (by first | decide | kernel_rfl) ?_
    refine askB (by first | decide | kernel_rfl) ?_
    refine askB (by first | decide | kernel_rfl) ?_
    refine askB (by first | decide | kernel_rfl) ?_
    refine askB (by first | decide | kernel_rfl) ?_
    refine askB (by first | decide | kernel_rfl) ?_
    refine askB (by first | decide | kernel_rfl) ?_
    refine askB (by first | decide | kernel_rfl) ?_
    refine askB (by first | decide | kernel_rfl) ?_
    refine askB (by first | decide | kernel_rfl) ?_
    refine askB (by first | decide | kernel_rfl) ?_
    refine askB (by first | decide | kernel_rfl) ?_
    refine askB (by first | decide | kernel_rfl) ?_
    refine askB (by first | decide | kernel_rfl) ?_
    refine askB (by first | decide | kernel_rfl) ?_
    refine askB (by first | decide | kernel_rfl) ?_
    refine askB (by first | decide | kernel_rfl) ?_
    refine askB (by first | decide | kernel_rfl) ?_
    refine askB (by first | decide | kernel_rfl) ?_
    refine askB (by first | decide | kernel_rfl) ?_
    refine askB (by first | decide | kernel_rfl) ?_
    refine askB (by first | decide | kernel_rfl) ?_
    refine askB (by first | decide | kernel_rfl) ?_
    refine askB (by first | decide | kernel_rfl) ?_
    refine askB (by first | decide | kernel_rfl) ?_
    refine askB (by first | decide | kernel_rfl) ?_
    refine brT (by kernel_rfl) ?_
    refine askB (by first | decide | kernel_rfl) ?_
    refine askB (by first | decide | kernel_rfl) ?_
    refine askB (by first | decide | kernel_rfl) ?_
    refine askB (by first | decide | kernel_rfl) ?_
    refine askB (by first | decide | kernel_rfl) ?_
    refine askB (by first | decide | kernel_rfl) ?_
    refine askB (by first | decide | kernel_rfl) ?_
    refine askB (by first | decide | kernel_rfl) ?_
    refine askB (by first | decide | kernel_rfl) ?_
    refine askB (by first | decide | kernel_rfl) ?_
    refine askB (by first | decide | kernel_rfl) ?_
    refine brnF (by kernel_rfl) ?_
    refine brT (by kernel_rfl) ?_
    refine brT (by kernel_rfl) ?_
    refine brT (by kernel_rfl) ?_
    simp only [Tr.all]; try rfl
def s_works : Sum := bySum 19 [] fun
  | [], [] => some ([], .u (.c (.sb (true))))
  | _, _ => none
theorem s_works_ok : SumOK Tryz.prog s_works := by
  refine bySum_ok ⟨_, Tryz.func19, by kernel_rfl⟩ ?_
  intro ns os bs r hm hb ρ w
  split at hm
  · skip
    cases hm
    exact t_works  ρ w
  · cases hm
theorem t_BoundOne (x : Int) (y : Int) (v : Ab) (hb0 : isU x = true) (hb1 : isU y = true) (hb2 : isU v.1 = true) (hb3 : isU v.2 = true) (hb4 : isU v.3 = true) (hb5 : isU v.4 = true) (hb6 : isU v.5 = true) (hb7 : isW v.6 = true) (hb8 : isW v.7 = true) (ρ : Nat → Nat) (w : World) : Calls Tryz.prog 5 (enV [.s (some .u64), .s (some .u64), .a [some .u64, some .u64, some .u64, some .u64, some .u64, some .u32, some .u32]] ([x, y, v.1, v.2, v.3, v.4, v.5, v.6, v.7], [])).toArray w fun e w' => e = .returned (V.den ρ (.u (.c (.sb (true))))) ∧ Below w.heap.size w w' := by
  refine pure_to nameOK (okc s_bConst_ok (okc s_bOne_ok (okc s_works_ok (okc s_sync_ok (okc s_aOf_ok (okc s_bHas_ok (okc s_bNone_ok (okc s_bIn_ok (okc s_bMeet_ok okn))))))))) (dOK (okc s_bConst_ok (okc s_bOne_ok (okc s_works_ok (okc s_sync_ok (okc s_aOf_ok (okc s_bHas_ok (okc s_bNone_ok (okc s_bIn_ok (okc s_bMeet_ok okn)))))))))) 300 [.u (.c (.si .u64 x)), .u (.c (.si .u64 y)), .u (.agg [.si .u64 v.1, .si .u64 v.2, .si .u64 v.3, .si .u64 v.4, .si .u64 v.5, .si .u32 v.6, .si .u32 v.7])] (T := (.br (isU (aOf v x).1.1) (.br (isU (aOf v x).1.2) (.br (isU (aOf v x).2.1) (.br (isU (aOf v x).2.2) (.br (isI (aOf v x).3.1) (.br (isI (aOf v x).3.2) (.br (isU (aOf v x).4.1) (.br (isU (aOf v x).4.2) (.br (isI (aOf v x).5.1) (.br (isI (aOf v x).5.2) (.br (isU (sync (aOf v x)).1.1) (.br (isU (sync (aOf v x)).1.2) (.br (isU (sync (aOf v x)).2.1) (.br (isU (sync (aOf v x)).2.2) (.br (isI (sync (aOf v x)).3.1) (.br (isI (sync (aOf v x)).3.2) (.br (isU (sync (aOf v x)).4.1) (.br (isU (sync (aOf v x)).4.2) (.br (isI (sync (aOf v x)).5.1) (.br (isI (sync (aOf v x)).5.2) (.br (oneIs (sync (aOf v x))) (.br (iNe (oneV (sync (aOf v x))) x) (.leaf (.val (.u (.c (.lb false))))) (.br (isU (sync (aOf v x)).1.1) (.br (isU (sync (aOf v x)).1.2) (.br (isU (sync (aOf v x)).2.1) (.br (isU (sync (aOf v x)).2.2) (.br (isI (sync (aOf v x)).3.1) (.br (isI (sync (aOf v x)).3.2) (.br (isU (sync (aOf v x)).4.1) (.br (isU (sync (aOf v x)).4.2) (.br (isI (sync (aOf v x)).5.1) (.br (isI (sync (aOf v x)).5.2) (.br (isU x) (.br (bNot (bHas (sync (aOf v x)) x)) (.leaf (.val (.u (.c (.lb false))))) (.br (iNe y x) (.br (isU (sync (aOf v x)).1.1) (.br (isU (sync (aOf v x)).1.2) (.br (isU (sync (aOf v x)).2.1) (.br (isU (sync (aOf v x)).2.2) (.br (isI (sync (aOf v x)).3.1) (.br (isI (sync (aOf v x)).3.2) (.br (isU (sync (aOf v x)).4.1) (.br (isU (sync (aOf v x)).4.2) (.br (isI (sync (aOf v x)).5.1) (.br (isI (sync (aOf v x)).5.2) (.br (isU y) (.br (bHas (sync (aOf v x)) y) (.leaf (.val (.u (.c (.lb false))))) (.br (bNot (oneIs (sync (aOf v x)))) (.br (iEq (sync (aOf v x)).1.2 0) (.leaf (.val (.u (.c (.lb false))))) (.br (isU x) (.br (isU (bConst x).1.1) (.br (isU (bConst x).1.2) (.br (isU (bConst x).2.1) (.br (isU (bConst x).2.2) (.br (isI (bConst x).3.1) (.br (isI (bConst x).3.2) (.br (isU (bConst x).4.1) (.br (isU (bConst x).4.2) (.br (isI (bConst x).5.1) (.br (isI (bConst x).5.2) (.br (oneIs (bConst x)) (.br (iEq (oneV (bConst x)) x) (.br (isU x) (.br (isU (bConst x).1.1) (.br (isU (bConst x).1.2) (.br (isU (bConst x).2.1) (.br (isU (bConst x).2.2) (.br (isI (bConst x).3.1) (.br (isI (bConst x).3.2) (.br (isU (bConst x).4.1) (.br (isU (bConst x).4.2) (.br (isI (bConst x).5.1) (.br (isI (bConst x).5.2) (.br (isU y) (.br (bEq (bHas (bConst x) y) (iEq x y)) (.br (isU x) (.br (bIn (bConst x) (.mk (.mk 0 18446744073709551615) (.mk 0 18446744073709551615) (.mk (-9223372036854775808) 9223372036854775807) (.mk 0 4294967295) (.mk (-2147483648) 2147483647))) (.leaf (.val (.u (.c (.sb true))))) (.leaf (.val (.u (.c (.lb false)))))) (.no 98)) (.leaf (.val (.u (.c (.lb false)))))) (.no 98)) (.no 98)) (.no 98)) (.no 98)) (.no 98)) (.no 98)) (.no 98)) (.no 98)) (.no 98)) (.no 98)) (.no 98)) (.no 98)) (.leaf (.val (.u (.c (.lb false)))))) (.leaf (.val (.u (.c (.lb false)))))) (.no 98)) (.no 98)) (.no 98)) (.no 98)) (.no 98)) (.no 98)) (.no 98)) (.no 98)) (.no 98)) (.no 98)) (.no 98))) (.br (isU x) (.br (isU (bConst x).1.1) (.br (isU (bConst x).1.2) (.br (isU (bConst x).2.1) (.br (isU (bConst x).2.2) (.br (isI (bConst x).3.1) (.br (isI (bConst x).3.2) (.br (isU (bConst x).4.1) (.br (isU (bConst x).4.2) (.br (isI (bConst x).5.1) (.br (isI (bConst x).5.2) (.br (oneIs (bConst x)) (.br (iEq (oneV (bConst x)) x) (.br (isU x) (.br (isU (bConst x).1.1) (.br (isU (bConst x).1.2) (.br (isU (bConst x).2.1) (.br (isU (bConst x).2.2) (.br (isI (bConst x).3.1) (.br (isI (bConst x).3.2) (.br (isU (bConst x).4.1) (.br (isU (bConst x).4.2) (.br (isI (bConst x).5.1) (.br (isI (bConst x).5.2) (.br (isU y) (.br (bEq (bHas (bConst x) y) (iEq x y)) (.br (isU x) (.br (bIn (bConst x) (.mk (.mk 0 18446744073709551615) (.mk 0 18446744073709551615) (.mk (-9223372036854775808) 9223372036854775807) (.mk 0 4294967295) (.mk (-2147483648) 2147483647))) (.leaf (.val (.u (.c (.sb true))))) (.leaf (.val (.u (.c (.lb false)))))) (.no 98)) (.leaf (.val (.u (.c (.lb false)))))) (.no 98)) (.no 98)) (.no 98)) (.no 98)) (.no 98)) (.no 98)) (.no 98)) (.no 98)) (.no 98)) (.no 98)) (.no 98)) (.no 98)) (.leaf (.val (.u (.c (.lb false)))))) (.leaf (.val (.u (.c (.lb false)))))) (.no 98)) (.no 98)) (.no 98)) (.no 98)) (.no 98)) (.no 98)) (.no 98)) (.no 98)) (.no 98)) (.no 98)) (.no 98)))) (.no 98)) (.no 98)) (.no 98)) (.no 98)) (.no 98)) (.no 98)) (.no 98)) (.no 98)) (.no 98)) (.no 98)) (.no 98)) (.br (bNot (oneIs (sync (aOf v x)))) (.br (iEq (sync (aOf v x)).1.2 0) (.leaf (.val (.u (.c (.lb false))))) (.br (isU x) (.br (isU (bConst x).1.1) (.br (isU (bConst x).1.2) (.br (isU (bConst x).2.1) (.br (isU (bConst x).2.2) (.br (isI (bConst x).3.1) (.br (isI (bConst x).3.2) (.br (isU (bConst x).4.1) (.br (isU (bConst x).4.2) (.br (isI (bConst x).5.1) (.br (isI (bConst x).5.2) (.br (oneIs (bConst x)) (.br (iEq (oneV (bConst x)) x) (.br (isU x) (.br (isU (bConst x).1.1) (.br (isU (bConst x).1.2) (.br (isU (bConst x).2.1) (.br (isU (bConst x).2.2) (.br (isI (bConst x).3.1) (.br (isI (bConst x).3.2) (.br (isU (bConst x).4.1) (.br (isU (bConst x).4.2) (.br (isI (bConst x).5.1) (.br (isI (bConst x).5.2) (.br (isU y) (.br (bEq (bHas (bConst x) y) (iEq x y)) (.br (isU x) (.br (bIn (bConst x) (.mk (.mk 0 18446744073709551615) (.mk 0 18446744073709551615) (.mk (-9223372036854775808) 9223372036854775807) (.mk 0 4294967295) (.mk (-2147483648) 2147483647))) (.leaf (.val (.u (.c (.sb true))))) (.leaf (.val (.u (.c (.lb false)))))) (.no 98)) (.leaf (.val (.u (.c (.lb false)))))) (.no 98)) (.no 98)) (.no 98)) (.no 98)) (.no 98)) (.no 98)) (.no 98)) (.no 98)) (.no 98)) (.no 98)) (.no 98)) (.no 98)) (.leaf (.val (.u (.c (.lb false)))))) (.leaf (.val (.u (.c (.lb false)))))) (.no 98)) (.no 98)) (.no 98)) (.no 98)) (.no 98)) (.no 98)) (.no 98)) (.no 98)) (.no 98)) (.no 98)) (.no 98))) (.br (isU x) (.br (isU (bConst x).1.1) (.br (isU (bConst x).1.2) (.br (isU (bConst x).2.1) (.br (isU (bConst x).2.2) (.br (isI (bConst x).3.1) (.br (isI (bConst x).3.2) (.br (isU (bConst x).4.1) (.br (isU (bConst x).4.2) (.br (isI (bConst x).5.1) (.br (isI (bConst x).5.2) (.br (oneIs (bConst x)) (.br (iEq (oneV (bConst x)) x) (.br (isU x) (.br (isU (bConst x).1.1) (.br (isU (bConst x).1.2) (.br (isU (bConst x).2.1) (.br (isU (bConst x).2.2) (.br (isI (bConst x).3.1) (.br (isI (bConst x).3.2) (.br (isU (bConst x).4.1) (.br (isU (bConst x).4.2) (.br (isI (bConst x).5.1) (.br (isI (bConst x).5.2) (.br (isU y) (.br (bEq (bHas (bConst x) y) (iEq x y)) (.br (isU x) (.br (bIn (bConst x) (.mk (.mk 0 18446744073709551615) (.mk 0 18446744073709551615) (.mk (-9223372036854775808) 9223372036854775807) (.mk 0 4294967295) (.mk (-2147483648) 2147483647))) (.leaf (.val (.u (.c (.sb true))))) (.leaf (.val (.u (.c (.lb false)))))) (.no 98)) (.leaf (.val (.u (.c (.lb false)))))) (.no 98)) (.no 98)) (.no 98)) (.no 98)) (.no 98)) (.no 98)) (.no 98)) (.no 98)) (.no 98)) (.no 98)) (.no 98)) (.no 98)) (.leaf (.val (.u (.c (.lb false)))))) (.leaf (.val (.u (.c (.lb false)))))) (.no 98)) (.no 98)) (.no 98)) (.no 98)) (.no 98)) (.no 98)) (.no 98)) (.no 98)) (.no 98)) (.no 98)) (.no 98))))) (.no 98)) (.no 98)) (.no 98)) (.no 98)) (.no 98)) (.no 98)) (.no 98)) (.no 98)) (.no 98)) (.no 98)) (.no 98))) (.br (bNot (oneIs (sync (aOf v x)))) (.br (iEq (sync (aOf v x)).1.2 0) (.leaf (.val (.u (.c (.lb false))))) (.br (isU x) (.br (isU (bConst x).1.1) (.br (isU (bConst x).1.2) (.br (isU (bConst x).2.1) (.br (isU (bConst x).2.2) (.br (isI (bConst x).3.1) (.br (isI (bConst x).3.2) (.br (isU (bConst x).4.1) (.br (isU (bConst x).4.2) (.br (isI (bConst x).5.1) (.br (isI (bConst x).5.2) (.br (oneIs (bConst x)) (.br (iEq (oneV (bConst x)) x) (.br (isU x) (.br (isU (bConst x).1.1) (.br (isU (bConst x).1.2) (.br (isU (bConst x).2.1) (.br (isU (bConst x).2.2) (.br (isI (bConst x).3.1) (.br (isI (bConst x).3.2) (.br (isU (bConst x).4.1) (.br (isU (bConst x).4.2) (.br (isI (bConst x).5.1) (.br (isI (bConst x).5.2) (.br (isU y) (.br (bEq (bHas (bConst x) y) (iEq x y)) (.br (isU x) (.br (bIn (bConst x) (.mk (.mk 0 18446744073709551615) (.mk 0 18446744073709551615) (.mk (-9223372036854775808) 9223372036854775807) (.mk 0 4294967295) (.mk (-2147483648) 2147483647))) (.leaf (.val (.u (.c (.sb true))))) (.leaf (.val (.u (.c (.lb false)))))) (.no 98)) (.leaf (.val (.u (.c (.lb false)))))) (.no 98)) (.no 98)) (.no 98)) (.no 98)) (.no 98)) (.no 98)) (.no 98)) (.no 98)) (.no 98)) (.no 98)) (.no 98)) (.no 98)) (.leaf (.val (.u (.c (.lb false)))))) (.leaf (.val (.u (.c (.lb false)))))) (.no 98)) (.no 98)) (.no 98)) (.no 98)) (.no 98)) (.no 98)) (.no 98)) (.no 98)) (.no 98)) (.no 98)) (.no 98))) (.br (isU x) (.br (isU (bConst x).1.1) (.br (isU (bConst x).1.2) (.br (isU (bConst x).2.1) (.br (isU (bConst x).2.2) (.br (isI (bConst x).3.1) (.br (isI (bConst x).3.2) (.br (isU (bConst x).4.1) (.br (isU (bConst x).4.2) (.br (isI (bConst x).5.1) (.br (isI (bConst x).5.2) (.br (oneIs (bConst x)) (.br (iEq (oneV (bConst x)) x) (.br (isU x) (.br (isU (bConst x).1.1) (.br (isU (bConst x).1.2) (.br (isU (bConst x).2.1) (.br (isU (bConst x).2.2) (.br (isI (bConst x).3.1) (.br (isI (bConst x).3.2) (.br (isU (bConst x).4.1) (.br (isU (bConst x).4.2) (.br (isI (bConst x).5.1) (.br (isI (bConst x).5.2) (.br (isU y) (.br (bEq (bHas (bConst x) y) (iEq x y)) (.br (isU x) (.br (bIn (bConst x) (.mk (.mk 0 18446744073709551615) (.mk 0 18446744073709551615) (.mk (-9223372036854775808) 9223372036854775807) (.mk 0 4294967295) (.mk (-2147483648) 2147483647))) (.leaf (.val (.u (.c (.sb true))))) (.leaf (.val (.u (.c (.lb false)))))) (.no 98)) (.leaf (.val (.u (.c (.lb false)))))) (.no 98)) (.no 98)) (.no 98)) (.no 98)) (.no 98)) (.no 98)) (.no 98)) (.no 98)) (.no 98)) (.no 98)) (.no 98)) (.no 98)) (.leaf (.val (.u (.c (.lb false)))))) (.leaf (.val (.u (.c (.lb false)))))) (.no 98)) (.no 98)) (.no 98)) (.no 98)) (.no 98)) (.no 98)) (.no 98)) (.no 98)) (.no 98)) (.no 98)) (.no 98)))) (.no 98)) (.no 98)) (.no 98)) (.no 98)) (.no 98)) (.no 98)) (.no 98)) (.no 98)) (.no 98)) (.no 98)) (.no 98)) (.no 98)) (.no 98)) (.no 98)) (.no 98)) (.no 98)) (.no 98)) (.no 98)) (.no 98)) (.no 98))) (by kernel_rfl) ρ rfl ?_ w
  · skip
    have hx : isU x = true := hb0
    have hy : isU y = true := hb1
    have hv : AbOK v := ⟨hb2, hb3, hb4, hb5, hb6, hb7, hb8⟩
    obtain ⟨iv, kv⟩ := aOf_ok hv hx
    have iA := (sync_ok iv.raw).1
    have kA := sync_has iv hx kv
    have h1 := one_of iA hx kA
    have h2 := one_const hx
    refine ask10 (b := (aOf v x)) ((aOf_ok hv hx).1.raw) ?_
    refine ask10 (b := (sync (aOf v x))) (sync_raw ((aOf_ok hv hx).1.raw)) ?_
    refine br2 (fun k1 => ?_) (fun k1 => ?_)
    · skip
      refine brF (by unfold oneV; rw [k1]; exact ne_f.2 (h1.2 (h1.1.1 k1))) ?_
      refine ask10 (b := (sync (aOf v x))) (sync_raw ((aOf_ok hv hx).1.raw)) ?_
      refine askB (by first | with_reducible assumption | decide) ?_
      refine brnT ((bHas_iff iA.t.1 hx).2 kA) ?_
      refine br2 (fun k2 => ?_) (fun k2 => ?_)
      · skip
        refine ask10 (b := (sync (aOf v x))) (sync_raw ((aOf_ok hv hx).1.raw)) ?_
        refine askB (by first | with_reducible assumption | decide) ?_
        refine brF (by cases e : bHas (sync (aOf v x)) y with | false => rfl | true => exact absurd (one_only iA hx hy kA ((bHas_iff iA.t.1 hy).1 e) (h1.1.1 k1)).symm (ne_t.1 k2)) ?_
        refine brnT (k1) ?_
        refine askB (by first | with_reducible assumption | decide) ?_
        refine ask10 (b := (bConst x)) ((const_ok hx).1.raw) ?_
        refine brT (h2.1) ?_
        refine brT (by rw [h2.2]; exact eq_t.2 rfl) ?_
        refine askB (by first | with_reducible assumption | decide) ?_
        refine ask10 (b := (bConst x)) ((const_ok hx).1.raw) ?_
        refine askB (by first | with_reducible assumption | decide) ?_
        refine brT (by rw [const_has hx hy]; exact beq_t.2 (by rw [eq_t, decide_eq_true_eq])) ?_
        refine askB (by first | with_reducible assumption | decide) ?_
        refine brT (const_in hx any_inv (any_has hx)) ?_
        simp only [Tr.all]; try rfl
      · skip
        refine brnT (k1) ?_
        refine askB (by first | with_reducible assumption | decide) ?_
        refine ask10 (b := (bConst x)) ((const_ok hx).1.raw) ?_
        refine brT (h2.1) ?_
        refine brT (by rw [h2.2]; exact eq_t.2 rfl) ?_
        refine askB (by first | with_reducible assumption | decide) ?_
        refine ask10 (b := (bConst x)) ((const_ok hx).1.raw) ?_
        refine askB (by first | with_reducible assumption | decide) ?_
        refine brT (by rw [const_has hx hy]; exact beq_t.2 (by rw [eq_t, decide_eq_true_eq])) ?_
        refine askB (by first | with_reducible assumption | decide) ?_
        refine brT (const_in hx any_inv (any_has hx)) ?_
        simp only [Tr.all]; try rfl
    · skip
      refine brnF (k1) ?_
      refine brF (eq_f.2 fun e => by rw [h1.1.2 e] at k1; cases k1) ?_
      refine askB (by first | with_reducible assumption | decide) ?_
      refine ask10 (b := (bConst x)) ((const_ok hx).1.raw) ?_
      refine brT (h2.1) ?_
      refine brT (by rw [h2.2]; exact eq_t.2 rfl) ?_
      refine askB (by first | with_reducible assumption | decide) ?_
      refine ask10 (b := (bConst x)) ((const_ok hx).1.raw) ?_
      refine askB (by first | with_reducible assumption | decide) ?_
      refine brT (by rw [const_has hx hy]; exact beq_t.2 (by rw [eq_t, decide_eq_true_eq])) ?_
      refine askB (by first | with_reducible assumption | decide) ?_
      refine brT (const_in hx any_inv (any_has hx)) ?_
      simp only [Tr.all]; try rfl
def s_BoundOne : Sum := bySum 5 [.s (some .u64), .s (some .u64), .a [some .u64, some .u64, some .u64, some .u64, some .u64, some .u32, some .u32]] fun
  | [a0, a1, a2, a3, a4, a5, a6, a7, a8], [] => some ([isU a0, isU a1, isU (Ab.mk a2 a3 a4 a5 a6 a7 a8).1, isU (Ab.mk a2 a3 a4 a5 a6 a7 a8).2, isU (Ab.mk a2 a3 a4 a5 a6 a7 a8).3, isU (Ab.mk a2 a3 a4 a5 a6 a7 a8).4, isU (Ab.mk a2 a3 a4 a5 a6 a7 a8).5, isW (Ab.mk a2 a3 a4 a5 a6 a7 a8).6, isW (Ab.mk a2 a3 a4 a5 a6 a7 a8).7], .u (.c (.sb (true))))
  | _, _ => none
theorem s_BoundOne_ok : SumOK Tryz.prog s_BoundOne := by
  refine bySum_ok ⟨_, Tryz.func5, by kernel_rfl⟩ ?_
  intro ns os bs r hm hb ρ w
  split at hm
  · rename_i a0 a1 a2 a3 a4 a5 a6 a7 a8
    cases hm
    exact t_BoundOne a0 a1 (Ab.mk a2 a3 a4 a5 a6 a7 a8) (hb _ (by simp)) (hb _ (by simp)) (hb _ (by simp)) (hb _ (by simp)) (hb _ (by simp)) (hb _ (by simp)) (hb _ (by simp)) (hb _ (by simp)) (hb _ (by simp)) ρ w
  · cases hm
theorem t_BoundKeeps (x : Int) (v : Ab) (q : Ab) (y : Int) (hb0 : isU x = true) (hb1 : isU v.1 = true) (hb2 : isU v.2 = true) (hb3 : isU v.3 = true) (hb4 : isU v.4 = true) (hb5 : isU v.5 = true) (hb6 : isW v.6 = true) (hb7 : isW v.7 = true) (hb8 : isU q.1 = true) (hb9 : isU q.2 = true) (hb10 : isU q.3 = true) (hb11 : isU q.4 = true) (hb12 : isU q.5 = true) (hb13 : isW q.6 = true) (hb14 : isW q.7 = true) (hb15 : isU y = true) (ρ : Nat → Nat) (w : World) : Calls Tryz.prog 6 (enV [.s (some .u64), .a [some .u64, some .u64, some .u64, some .u64, some .u64, some .u32, some .u32], .a [some .u64, some .u64, some .u64, some .u64, some .u64, some .u32, some .u32], .s (some .u64)] ([x, v.1, v.2, v.3, v.4, v.5, v.6, v.7, q.1, q.2, q.3, q.4, q.5, q.6, q.7, y], [])).toArray w fun e w' => e = .returned (V.den ρ (.u (.c (.sb (true))))) ∧ Below w.heap.size w w' := by
  refine pure_to nameOK (okc s_bConst_ok (okc s_bOne_ok (okc s_works_ok (okc s_sync_ok (okc s_aOf_ok (okc s_bHas_ok (okc s_bNone_ok (okc s_bIn_ok (okc s_bMeet_ok okn))))))))) (dOK (okc s_bConst_ok (okc s_bOne_ok (okc s_works_ok (okc s_sync_ok (okc s_aOf_ok (okc s_bHas_ok (okc s_bNone_ok (okc s_bIn_ok (okc s_bMeet_ok okn)))))))))) 300 [.u (.c (.si .u64 x)), .u (.agg [.si .u64 v.1, .si .u64 v.2, .si .u64 v.3, .si .u64 v.4, .si .u64 v.5, .si .u32 v.6, .si .u32 v.7]), .u (.agg [.si .u64 q.1, .si .u64 q.2, .si .u64 q.3, .si .u64 q.4, .si .u64 q.5, .si .u32 q.6, .si .u32 q.7]), .u (.c (.si .u64 y))] (T := (.br (isU (aOf v x).1.1) (.br (isU (aOf v x).1.2) (.br (isU (aOf v x).2.1) (.br (isU (aOf v x).2.2) (.br (isI (aOf v x).3.1) (.br (isI (aOf v x).3.2) (.br (isU (aOf v x).4.1) (.br (isU (aOf v x).4.2) (.br (isI (aOf v x).5.1) (.br (isI (aOf v x).5.2) (.br (isU (aOf v x).1.1) (.br (isU (aOf v x).1.2) (.br (isU (aOf v x).2.1) (.br (isU (aOf v x).2.2) (.br (isI (aOf v x).3.1) (.br (isI (aOf v x).3.2) (.br (isU (aOf v x).4.1) (.br (isU (aOf v x).4.2) (.br (isI (aOf v x).5.1) (.br (isI (aOf v x).5.2) (.br (isU (aOf q x).1.1) (.br (isU (aOf q x).1.2) (.br (isU (aOf q x).2.1) (.br (isU (aOf q x).2.2) (.br (isI (aOf q x).3.1) (.br (isI (aOf q x).3.2) (.br (isU (aOf q x).4.1) (.br (isU (aOf q x).4.2) (.br (isI (aOf q x).5.1) (.br (isI (aOf q x).5.2) (.br (isU (aOf v x).1.1) (.br (isU (aOf v x).1.2) (.br (isU (aOf v x).2.1) (.br (isU (aOf v x).2.2) (.br (isI (aOf v x).3.1) (.br (isI (aOf v x).3.2) (.br (isU (aOf v x).4.1) (.br (isU (aOf v x).4.2) (.br (isI (aOf v x).5.1) (.br (isI (aOf v x).5.2) (.br (isU x) (.br (bNot (bHas (aOf v x) x)) (.leaf (.val (.u (.c (.lb false))))) (.br (isU (sync (aOf v x)).1.1) (.br (isU (sync (aOf v x)).1.2) (.br (isU (sync (aOf v x)).2.1) (.br (isU (sync (aOf v x)).2.2) (.br (isI (sync (aOf v x)).3.1) (.br (isI (sync (aOf v x)).3.2) (.br (isU (sync (aOf v x)).4.1) (.br (isU (sync (aOf v x)).4.2) (.br (isI (sync (aOf v x)).5.1) (.br (isI (sync (aOf v x)).5.2) (.br (isU x) (.br (bNot (bHas (sync (aOf v x)) x)) (.leaf (.val (.u (.c (.lb false))))) (.br (isU (meet5 (aOf v x) (aOf q x)).1.1) (.br (isU (meet5 (aOf v x) (aOf q x)).1.2) (.br (isU (meet5 (aOf v x) (aOf q x)).2.1) (.br (isU (meet5 (aOf v x) (aOf q x)).2.2) (.br (isI (meet5 (aOf v x) (aOf q x)).3.1) (.br (isI (meet5 (aOf v x) (aOf q x)).3.2) (.br (isU (meet5 (aOf v x) (aOf q x)).4.1) (.br (isU (meet5 (aOf v x) (aOf q x)).4.2) (.br (isI (meet5 (aOf v x) (aOf q x)).5.1) (.br (isI (meet5 (aOf v x) (aOf q x)).5.2) (.br (isU x) (.br (bNot (bHas (meet5 (aOf v x) (aOf q x)) x)) (.leaf (.val (.u (.c (.lb false))))) (.br (bNone (sync (aOf v x))) (.leaf (.val (.u (.c (.lb false))))) (.br (bNot (bIn (sync (aOf v x)) (aOf v x))) (.leaf (.val (.u (.c (.lb false))))) (.br (bNot (bIn (meet5 (aOf v x) (aOf q x)) (aOf v x))) (.leaf (.val (.u (.c (.lb false))))) (.br (bNot (bIn (meet5 (aOf v x) (aOf q x)) (aOf q x))) (.leaf (.val (.u (.c (.lb false))))) (.br (isU (sync (aOf v x)).1.1) (.br (isU (sync (aOf v x)).1.2) (.br (isU (sync (aOf v x)).2.1) (.br (isU (sync (aOf v x)).2.2) (.br (isI (sync (aOf v x)).3.1) (.br (isI (sync (aOf v x)).3.2) (.br (isU (sync (aOf v x)).4.1) (.br (isU (sync (aOf v x)).4.2) (.br (isI (sync (aOf v x)).5.1) (.br (isI (sync (aOf v x)).5.2) (.br (isU y) (.br (isU (aOf v x).1.1) (.br (isU (aOf v x).1.2) (.br (isU (aOf v x).2.1) (.br (isU (aOf v x).2.2) (.br (isI (aOf v x).3.1) (.br (isI (aOf v x).3.2) (.br (isU (aOf v x).4.1) (.br (isU (aOf v x).4.2) (.br (isI (aOf v x).5.1) (.br (isI (aOf v x).5.2) (.br (isU y) (.br (bEq (bHas (sync (aOf v x)) y) (bHas (aOf v x) y)) (.br (isU (meet5 (aOf v x) (aOf q x)).1.1) (.br (isU (meet5 (aOf v x) (aOf q x)).1.2) (.br (isU (meet5 (aOf v x) (aOf q x)).2.1) (.br (isU (meet5 (aOf v x) (aOf q x)).2.2) (.br (isI (meet5 (aOf v x) (aOf q x)).3.1) (.br (isI (meet5 (aOf v x) (aOf q x)).3.2) (.br (isU (meet5 (aOf v x) (aOf q x)).4.1) (.br (isU (meet5 (aOf v x) (aOf q x)).4.2) (.br (isI (meet5 (aOf v x) (aOf q x)).5.1) (.br (isI (meet5 (aOf v x) (aOf q x)).5.2) (.br (isU y) (.br (isU (aOf v x).1.1) (.br (isU (aOf v x).1.2) (.br (isU (aOf v x).2.1) (.br (isU (aOf v x).2.2) (.br (isI (aOf v x).3.1) (.br (isI (aOf v x).3.2) (.br (isU (aOf v x).4.1) (.br (isU (aOf v x).4.2) (.br (isI (aOf v x).5.1) (.br (isI (aOf v x).5.2) (.br (isU y) (.br (bHas (aOf v x) y) (.br (isU (aOf q x).1.1) (.br (isU (aOf q x).1.2) (.br (isU (aOf q x).2.1) (.br (isU (aOf q x).2.2) (.br (isI (aOf q x).3.1) (.br (isI (aOf q x).3.2) (.br (isU (aOf q x).4.1) (.br (isU (aOf q x).4.2) (.br (isI (aOf q x).5.1) (.br (isI (aOf q x).5.2) (.br (isU y) (.br (bEq (bHas (meet5 (aOf v x) (aOf q x)) y) (bHas (aOf q x) y)) (.leaf (.val (.u (.c (.sb true))))) (.leaf (.val (.u (.c (.lb false)))))) (.no 98)) (.no 98)) (.no 98)) (.no 98)) (.no 98)) (.no 98)) (.no 98)) (.no 98)) (.no 98)) (.no 98)) (.no 98)) (.br (bEq (bHas (meet5 (aOf v x) (aOf q x)) y) false) (.leaf (.val (.u (.c (.sb true))))) (.leaf (.val (.u (.c (.lb false))))))) (.no 98)) (.no 98)) (.no 98)) (.no 98)) (.no 98)) (.no 98)) (.no 98)) (.no 98)) (.no 98)) (.no 98)) (.no 98)) (.no 98)) (.no 98)) (.no 98)) (.no 98)) (.no 98)) (.no 98)) (.no 98)) (.no 98)) (.no 98)) (.no 98)) (.no 98)) (.leaf (.val (.u (.c (.lb false)))))) (.no 98)) (.no 98)) (.no 98)) (.no 98)) (.no 98)) (.no 98)) (.no 98)) (.no 98)) (.no 98)) (.no 98)) (.no 98)) (.no 98)) (.no 98)) (.no 98)) (.no 98)) (.no 98)) (.no 98)) (.no 98)) (.no 98)) (.no 98)) (.no 98)) (.no 98))))))) (.no 98)) (.no 98)) (.no 98)) (.no 98)) (.no 98)) (.no 98)) (.no 98)) (.no 98)) (.no 98)) (.no 98)) (.no 98))) (.no 98)) (.no 98)) (.no 98)) (.no 98)) (.no 98)) (.no 98)) (.no 98)) (.no 98)) (.no 98)) (.no 98)) (.no 98))) (.no 98)) (.no 98)) (.no 98)) (.no 98)) (.no 98)) (.no 98)) (.no 98)) (.no 98)) (.no 98)) (.no 98)) (.no 98)) (.no 98)) (.no 98)) (.no 98)) (.no 98)) (.no 98)) (.no 98)) (.no 98)) (.no 98)) (.no 98)) (.no 98)) (.no 98)) (.no 98)) (.no 98)) (.no 98)) (.no 98)) (.no 98)) (.no 98)) (.no 98)) (.no 98)) (.no 98)) (.no 98)) (.no 98)) (.no 98)) (.no 98)) (.no 98)) (.no 98)) (.no 98)) (.no 98)) (.no 98)) (.no 98))) (by kernel_rfl) ρ rfl ?_ w
  · skip
    have hx : isU x = true := hb0
    have hv : AbOK v := ⟨hb1, hb2, hb3, hb4, hb5, hb6, hb7⟩
    have hq : AbOK q := ⟨hb8, hb9, hb10, hb11, hb12, hb13, hb14⟩
    have hy : isU y = true := hb15
    obtain ⟨iv, kv⟩ := aOf_ok hv hx
    obtain ⟨iq, kq⟩ := aOf_ok hq hx
    have kS := sync_has iv hx kv
    have kM := meet5_has iv iq hx kv kq
    refine ask10 (b := (aOf v x)) ((aOf_ok hv hx).1.raw) ?_
    refine ask10 (b := (aOf v x)) ((aOf_ok hv hx).1.raw) ?_
    refine ask10 (b := (aOf q x)) ((aOf_ok hq hx).1.raw) ?_
    refine ask10 (b := (aOf v x)) ((aOf_ok hv hx).1.raw) ?_
    refine askB (by first | with_reducible assumption | decide) ?_
    refine brnT ((bHas_iff iv.t.1 hx).2 kv) ?_
    refine ask10 (b := (sync (aOf v x))) (sync_raw ((aOf_ok hv hx).1.raw)) ?_
    refine askB (by first | with_reducible assumption | decide) ?_
    refine brnT ((bHas_iff (sync_ok iv.raw).1.t.1 hx).2 kS) ?_
    refine ask10 (b := (meet5 (aOf v x) (aOf q x))) (meet5_raw ((aOf_ok hv hx).1.raw) ((aOf_ok hq hx).1.raw)) ?_
    refine askB (by first | with_reducible assumption | decide) ?_
    refine brnT ((bHas_iff (meet5_inv iv iq).t.1 hx).2 kM) ?_
    refine brF (kS.some) ?_
    refine brnT (sync_in iv) ?_
    refine brnT (meet_in1 iv iq) ?_
    refine brnT (meet_in2 iv iq) ?_
    refine ask10 (b := (sync (aOf v x))) (sync_raw ((aOf_ok hv hx).1.raw)) ?_
    refine askB (by first | with_reducible assumption | decide) ?_
    refine ask10 (b := (aOf v x)) ((aOf_ok hv hx).1.raw) ?_
    refine askB (by first | with_reducible assumption | decide) ?_
    refine brT (by rw [sync_has_eq iv hy]; simp [bEq]) ?_
    refine ask10 (b := (meet5 (aOf v x) (aOf q x))) (meet5_raw ((aOf_ok hv hx).1.raw) ((aOf_ok hq hx).1.raw)) ?_
    refine askB (by first | with_reducible assumption | decide) ?_
    refine ask10 (b := (aOf v x)) ((aOf_ok hv hx).1.raw) ?_
    refine askB (by first | with_reducible assumption | decide) ?_
    refine br2 (fun k1 => ?_) (fun k1 => ?_)
    · skip
      refine ask10 (b := (aOf q x)) ((aOf_ok hq hx).1.raw) ?_
      refine askB (by first | with_reducible assumption | decide) ?_
      refine brT (by rw [meet_has_eq iv iq hy, k1, Bool.true_and]; simp [bEq]) ?_
      simp only [Tr.all]; try rfl
    · skip
      refine brT (by rw [meet_has_eq iv iq hy, k1, Bool.false_and]; rfl) ?_
      simp only [Tr.all]; try rfl
def s_BoundKeeps : Sum := bySum 6 [.s (some .u64), .a [some .u64, some .u64, some .u64, some .u64, some .u64, some .u32, some .u32], .a [some .u64, some .u64, some .u64, some .u64, some .u64, some .u32, some .u32], .s (some .u64)] fun
  | [a0, a1, a2, a3, a4, a5, a6, a7, a8, a9, a10, a11, a12, a13, a14, a15], [] => some ([isU a0, isU (Ab.mk a1 a2 a3 a4 a5 a6 a7).1, isU (Ab.mk a1 a2 a3 a4 a5 a6 a7).2, isU (Ab.mk a1 a2 a3 a4 a5 a6 a7).3, isU (Ab.mk a1 a2 a3 a4 a5 a6 a7).4, isU (Ab.mk a1 a2 a3 a4 a5 a6 a7).5, isW (Ab.mk a1 a2 a3 a4 a5 a6 a7).6, isW (Ab.mk a1 a2 a3 a4 a5 a6 a7).7, isU (Ab.mk a8 a9 a10 a11 a12 a13 a14).1, isU (Ab.mk a8 a9 a10 a11 a12 a13 a14).2, isU (Ab.mk a8 a9 a10 a11 a12 a13 a14).3, isU (Ab.mk a8 a9 a10 a11 a12 a13 a14).4, isU (Ab.mk a8 a9 a10 a11 a12 a13 a14).5, isW (Ab.mk a8 a9 a10 a11 a12 a13 a14).6, isW (Ab.mk a8 a9 a10 a11 a12 a13 a14).7, isU a15], .u (.c (.sb (true))))
  | _, _ => none
theorem s_BoundKeeps_ok : SumOK Tryz.prog s_BoundKeeps := by
  refine bySum_ok ⟨_, Tryz.func6, by kernel_rfl⟩ ?_
  intro ns os bs r hm hb ρ w
  split at hm
  · rename_i a0 a1 a2 a3 a4 a5 a6 a7 a8 a9 a10 a11 a12 a13 a14 a15
    cases hm
    exact t_BoundKeeps a0 (Ab.mk a1 a2 a3 a4 a5 a6 a7) (Ab.mk a8 a9 a10 a11 a12 a13 a14) a15 (hb _ (by simp)) (hb _ (by simp)) (hb _ (by simp)) (hb _ (by simp)) (hb _ (by simp)) (hb _ (by simp)) (hb _ (by simp)) (hb _ (by simp)) (hb _ (by simp)) (hb _ (by simp)) (hb _ (by simp)) (hb _ (by simp)) (hb _ (by simp)) (hb _ (by simp)) (hb _ (by simp)) (hb _ (by simp)) ρ w
  · cases hm
theorem t_BoundMeets (x : Int) (p : Ab) (q : Ab) (v : Ab) (hb0 : isU x = true) (hb1 : isU p.1 = true) (hb2 : isU p.2 = true) (hb3 : isU p.3 = true) (hb4 : isU p.4 = true) (hb5 : isU p.5 = true) (hb6 : isW p.6 = true) (hb7 : isW p.7 = true) (hb8 : isU q.1 = true) (hb9 : isU q.2 = true) (hb10 : isU q.3 = true) (hb11 : isU q.4 = true) (hb12 : isU q.5 = true) (hb13 : isW q.6 = true) (hb14 : isW q.7 = true) (hb15 : isU v.1 = true) (hb16 : isU v.2 = true) (hb17 : isU v.3 = true) (hb18 : isU v.4 = true) (hb19 : isU v.5 = true) (hb20 : isW v.6 = true) (hb21 : isW v.7 = true) (ρ : Nat → Nat) (w : World) : Calls Tryz.prog 7 (enV [.s (some .u64), .a [some .u64, some .u64, some .u64, some .u64, some .u64, some .u32, some .u32], .a [some .u64, some .u64, some .u64, some .u64, some .u64, some .u32, some .u32], .a [some .u64, some .u64, some .u64, some .u64, some .u64, some .u32, some .u32]] ([x, p.1, p.2, p.3, p.4, p.5, p.6, p.7, q.1, q.2, q.3, q.4, q.5, q.6, q.7, v.1, v.2, v.3, v.4, v.5, v.6, v.7], [])).toArray w fun e w' => e = .returned (V.den ρ (.u (.c (.sb (true))))) ∧ Below w.heap.size w w' := by
  refine pure_to nameOK (okc s_bConst_ok (okc s_bOne_ok (okc s_works_ok (okc s_sync_ok (okc s_aOf_ok (okc s_bHas_ok (okc s_bNone_ok (okc s_bIn_ok (okc s_bMeet_ok okn))))))))) (dOK (okc s_bConst_ok (okc s_bOne_ok (okc s_works_ok (okc s_sync_ok (okc s_aOf_ok (okc s_bHas_ok (okc s_bNone_ok (okc s_bIn_ok (okc s_bMeet_ok okn)))))))))) 300 [.u (.c (.si .u64 x)), .u (.agg [.si .u64 p.1, .si .u64 p.2, .si .u64 p.3, .si .u64 p.4, .si .u64 p.5, .si .u32 p.6, .si .u32 p.7]), .u (.agg [.si .u64 q.1, .si .u64 q.2, .si .u64 q.3, .si .u64 q.4, .si .u64 q.5, .si .u32 q.6, .si .u32 q.7]), .u (.agg [.si .u64 v.1, .si .u64 v.2, .si .u64 v.3, .si .u64 v.4, .si .u64 v.5, .si .u32 v.6, .si .u32 v.7])] (T := (.br (isU (aOf p x).1.1) (.br (isU (aOf p x).1.2) (.br (isU (aOf p x).2.1) (.br (isU (aOf p x).2.2) (.br (isI (aOf p x).3.1) (.br (isI (aOf p x).3.2) (.br (isU (aOf p x).4.1) (.br (isU (aOf p x).4.2) (.br (isI (aOf p x).5.1) (.br (isI (aOf p x).5.2) (.br (isU (aOf q x).1.1) (.br (isU (aOf q x).1.2) (.br (isU (aOf q x).2.1) (.br (isU (aOf q x).2.2) (.br (isI (aOf q x).3.1) (.br (isI (aOf q x).3.2) (.br (isU (aOf q x).4.1) (.br (isU (aOf q x).4.2) (.br (isI (aOf q x).5.1) (.br (isI (aOf q x).5.2) (.br (isU (aOf v x).1.1) (.br (isU (aOf v x).1.2) (.br (isU (aOf v x).2.1) (.br (isU (aOf v x).2.2) (.br (isI (aOf v x).3.1) (.br (isI (aOf v x).3.2) (.br (isU (aOf v x).4.1) (.br (isU (aOf v x).4.2) (.br (isI (aOf v x).5.1) (.br (isI (aOf v x).5.2) (.br (isU (sync (aOf p x)).1.1) (.br (isU (sync (aOf p x)).1.2) (.br (isU (sync (aOf p x)).2.1) (.br (isU (sync (aOf p x)).2.2) (.br (isI (sync (aOf p x)).3.1) (.br (isI (sync (aOf p x)).3.2) (.br (isU (sync (aOf p x)).4.1) (.br (isU (sync (aOf p x)).4.2) (.br (isI (sync (aOf p x)).5.1) (.br (isI (sync (aOf p x)).5.2) (.br (isU (sync (aOf q x)).1.1) (.br (isU (sync (aOf q x)).1.2) (.br (isU (sync (aOf q x)).2.1) (.br (isU (sync (aOf q x)).2.2) (.br (isI (sync (aOf q x)).3.1) (.br (isI (sync (aOf q x)).3.2) (.br (isU (sync (aOf q x)).4.1) (.br (isU (sync (aOf q x)).4.2) (.br (isI (sync (aOf q x)).5.1) (.br (isI (sync (aOf q x)).5.2) (.br (isU (meet5 (sync (aOf p x)) (sync (aOf q x))).1.1) (.br (isU (meet5 (sync (aOf p x)) (sync (aOf q x))).1.2) (.br (isU (meet5 (sync (aOf p x)) (sync (aOf q x))).2.1) (.br (isU (meet5 (sync (aOf p x)) (sync (aOf q x))).2.2) (.br (isI (meet5 (sync (aOf p x)) (sync (aOf q x))).3.1) (.br (isI (meet5 (sync (aOf p x)) (sync (aOf q x))).3.2) (.br (isU (meet5 (sync (aOf p x)) (sync (aOf q x))).4.1) (.br (isU (meet5 (sync (aOf p x)) (sync (aOf q x))).4.2) (.br (isI (meet5 (sync (aOf p x)) (sync (aOf q x))).5.1) (.br (isI (meet5 (sync (aOf p x)) (sync (aOf q x))).5.2) (.br (isU (sync (aOf v x)).1.1) (.br (isU (sync (aOf v x)).1.2) (.br (isU (sync (aOf v x)).2.1) (.br (isU (sync (aOf v x)).2.2) (.br (isI (sync (aOf v x)).3.1) (.br (isI (sync (aOf v x)).3.2) (.br (isU (sync (aOf v x)).4.1) (.br (isU (sync (aOf v x)).4.2) (.br (isI (sync (aOf v x)).5.1) (.br (isI (sync (aOf v x)).5.2) (.br (isU (sync (aOf q x)).1.1) (.br (isU (sync (aOf q x)).1.2) (.br (isU (sync (aOf q x)).2.1) (.br (isU (sync (aOf q x)).2.2) (.br (isI (sync (aOf q x)).3.1) (.br (isI (sync (aOf q x)).3.2) (.br (isU (sync (aOf q x)).4.1) (.br (isU (sync (aOf q x)).4.2) (.br (isI (sync (aOf q x)).5.1) (.br (isI (sync (aOf q x)).5.2) (.br (isU (sync (aOf p x)).1.1) (.br (isU (sync (aOf p x)).1.2) (.br (isU (sync (aOf p x)).2.1) (.br (isU (sync (aOf p x)).2.2) (.br (isI (sync (aOf p x)).3.1) (.br (isI (sync (aOf p x)).3.2) (.br (isU (sync (aOf p x)).4.1) (.br (isU (sync (aOf p x)).4.2) (.br (isI (sync (aOf p x)).5.1) (.br (isI (sync (aOf p x)).5.2) (.br (bNot (bAnd (bAnd (iEq (meet5 (sync (aOf p x)) (sync (aOf q x))).1.1 (meet5 (sync (aOf q x)) (sync (aOf p x))).1.1) (iEq (meet5 (sync (aOf p x)) (sync (aOf q x))).1.2 (meet5 (sync (aOf q x)) (sync (aOf p x))).1.2)) (bAnd (bAnd (iEq (meet5 (sync (aOf p x)) (sync (aOf q x))).2.1 (meet5 (sync (aOf q x)) (sync (aOf p x))).2.1) (iEq (meet5 (sync (aOf p x)) (sync (aOf q x))).2.2 (meet5 (sync (aOf q x)) (sync (aOf p x))).2.2)) (bAnd (bAnd (iEq (meet5 (sync (aOf p x)) (sync (aOf q x))).3.1 (meet5 (sync (aOf q x)) (sync (aOf p x))).3.1) (iEq (meet5 (sync (aOf p x)) (sync (aOf q x))).3.2 (meet5 (sync (aOf q x)) (sync (aOf p x))).3.2)) (bAnd (bAnd (iEq (meet5 (sync (aOf p x)) (sync (aOf q x))).4.1 (meet5 (sync (aOf q x)) (sync (aOf p x))).4.1) (iEq (meet5 (sync (aOf p x)) (sync (aOf q x))).4.2 (meet5 (sync (aOf q x)) (sync (aOf p x))).4.2)) (bAnd (iEq (meet5 (sync (aOf p x)) (sync (aOf q x))).5.1 (meet5 (sync (aOf q x)) (sync (aOf p x))).5.1) (iEq (meet5 (sync (aOf p x)) (sync (aOf q x))).5.2 (meet5 (sync (aOf q x)) (sync (aOf p x))).5.2))))))) (.leaf (.val (.u (.c (.lb false))))) (.br (bNot (bIn (sync (aOf p x)) (sync (aOf p x)))) (.leaf (.val (.u (.c (.lb false))))) (.br (bNot (bIn (meet5 (sync (aOf p x)) (sync (aOf q x))) (sync (aOf p x)))) (.leaf (.val (.u (.c (.lb false))))) (.br (bNot (bIn (meet5 (sync (aOf p x)) (sync (aOf q x))) (sync (aOf q x)))) (.leaf (.val (.u (.c (.lb false))))) (.br (bNot (bIn (meet5 (meet5 (sync (aOf p x)) (sync (aOf q x))) (sync (aOf v x))) (meet5 (sync (aOf p x)) (sync (aOf q x))))) (.leaf (.val (.u (.c (.lb false))))) (.br (bNot (bIn (meet5 (meet5 (sync (aOf p x)) (sync (aOf q x))) (sync (aOf v x))) (sync (aOf p x)))) (.leaf (.val (.u (.c (.lb false))))) (.br (bNot (bIn (meet5 (meet5 (sync (aOf p x)) (sync (aOf q x))) (sync (aOf v x))) (sync (aOf v x)))) (.leaf (.val (.u (.c (.lb false))))) (.br (isU (meet5 (meet5 (sync (aOf p x)) (sync (aOf q x))) (sync (aOf v x))).1.1) (.br (isU (meet5 (meet5 (sync (aOf p x)) (sync (aOf q x))) (sync (aOf v x))).1.2) (.br (isU (meet5 (meet5 (sync (aOf p x)) (sync (aOf q x))) (sync (aOf v x))).2.1) (.br (isU (meet5 (meet5 (sync (aOf p x)) (sync (aOf q x))) (sync (aOf v x))).2.2) (.br (isI (meet5 (meet5 (sync (aOf p x)) (sync (aOf q x))) (sync (aOf v x))).3.1) (.br (isI (meet5 (meet5 (sync (aOf p x)) (sync (aOf q x))) (sync (aOf v x))).3.2) (.br (isU (meet5 (meet5 (sync (aOf p x)) (sync (aOf q x))) (sync (aOf v x))).4.1) (.br (isU (meet5 (meet5 (sync (aOf p x)) (sync (aOf q x))) (sync (aOf v x))).4.2) (.br (isI (meet5 (meet5 (sync (aOf p x)) (sync (aOf q x))) (sync (aOf v x))).5.1) (.br (isI (meet5 (meet5 (sync (aOf p x)) (sync (aOf q x))) (sync (aOf v x))).5.2) (.br (isU x) (.br (bNot (bHas (meet5 (meet5 (sync (aOf p x)) (sync (aOf q x))) (sync (aOf v x))) x)) (.leaf (.val (.u (.c (.lb false))))) (.br (bNot (bIn (sync (aOf p x)) (sync (aOf q x)))) (.br (isU x) (.br (bIn (bConst x) (meet5 (meet5 (sync (aOf p x)) (sync (aOf q x))) (sync (aOf v x)))) (.leaf (.val (.u (.c (.sb true))))) (.leaf (.val (.u (.c (.lb false)))))) (.no 98)) (.br (bNot (bIn (sync (aOf q x)) (sync (aOf v x)))) (.br (isU x) (.br (bIn (bConst x) (meet5 (meet5 (sync (aOf p x)) (sync (aOf q x))) (sync (aOf v x)))) (.leaf (.val (.u (.c (.sb true))))) (.leaf (.val (.u (.c (.lb false)))))) (.no 98)) (.br (bIn (sync (aOf p x)) (sync (aOf v x))) (.br (isU x) (.br (bIn (bConst x) (meet5 (meet5 (sync (aOf p x)) (sync (aOf q x))) (sync (aOf v x)))) (.leaf (.val (.u (.c (.sb true))))) (.leaf (.val (.u (.c (.lb false)))))) (.no 98)) (.leaf (.val (.u (.c (.lb false))))))))) (.no 98)) (.no 98)) (.no 98)) (.no 98)) (.no 98)) (.no 98)) (.no 98)) (.no 98)) (.no 98)) (.no 98)) (.no 98))))))))) (.no 98)) (.no 98)) (.no 98)) (.no 98)) (.no 98)) (.no 98)) (.no 98)) (.no 98)) (.no 98)) (.no 98)) (.no 98)) (.no 98)) (.no 98)) (.no 98)) (.no 98)) (.no 98)) (.no 98)) (.no 98)) (.no 98)) (.no 98)) (.no 98)) (.no 98)) (.no 98)) (.no 98)) (.no 98)) (.no 98)) (.no 98)) (.no 98)) (.no 98)) (.no 98)) (.no 98)) (.no 98)) (.no 98)) (.no 98)) (.no 98)) (.no 98)) (.no 98)) (.no 98)) (.no 98)) (.no 98)) (.no 98)) (.no 98)) (.no 98)) (.no 98)) (.no 98)) (.no 98)) (.no 98)) (.no 98)) (.no 98)) (.no 98)) (.no 98)) (.no 98)) (.no 98)) (.no 98)) (.no 98)) (.no 98)) (.no 98)) (.no 98)) (.no 98)) (.no 98)) (.no 98)) (.no 98)) (.no 98)) (.no 98)) (.no 98)) (.no 98)) (.no 98)) (.no 98)) (.no 98)) (.no 98)) (.no 98)) (.no 98)) (.no 98)) (.no 98)) (.no 98)) (.no 98)) (.no 98)) (.no 98)) (.no 98)) (.no 98)) (.no 98)) (.no 98)) (.no 98)) (.no 98)) (.no 98)) (.no 98)) (.no 98)) (.no 98)) (.no 98)) (.no 98))) (by kernel_rfl) ρ rfl ?_ w
  · skip
    have hx : isU x = true := hb0
    have hp : AbOK p := ⟨hb1, hb2, hb3, hb4, hb5, hb6, hb7⟩
    have hq : AbOK q := ⟨hb8, hb9, hb10, hb11, hb12, hb13, hb14⟩
    have hv : AbOK v := ⟨hb15, hb16, hb17, hb18, hb19, hb20, hb21⟩
    obtain ⟨ip, kp⟩ := aOf_ok hp hx
    obtain ⟨iq, kq⟩ := aOf_ok hq hx
    obtain ⟨iv, kv⟩ := aOf_ok hv hx
    have iA := (sync_ok ip.raw).1
    have kA := sync_has ip hx kp
    have iB := (sync_ok iq.raw).1
    have kB := sync_has iq hx kq
    have iC := (sync_ok iv.raw).1
    have kC := sync_has iv hx kv
    have iM := meet5_inv iA iB
    have kM := meet5_has iA iB hx kA kB
    have iN := meet5_inv iM iC
    have kN := meet5_has iM iC hx kM kC
    refine ask10 (b := (aOf p x)) ((aOf_ok hp hx).1.raw) ?_
    refine ask10 (b := (aOf q x)) ((aOf_ok hq hx).1.raw) ?_
    refine ask10 (b := (aOf v x)) ((aOf_ok hv hx).1.raw) ?_
    refine ask10 (b := (sync (aOf p x))) (sync_raw ((aOf_ok hp hx).1.raw)) ?_
    refine ask10 (b := (sync (aOf q x))) (sync_raw ((aOf_ok hq hx).1.raw)) ?_
    refine ask10 (b := (meet5 (sync (aOf p x)) (sync (aOf q x)))) (meet5_raw (sync_raw ((aOf_ok hp hx).1.raw)) (sync_raw ((aOf_ok hq hx).1.raw))) ?_
    refine ask10 (b := (sync (aOf v x))) (sync_raw ((aOf_ok hv hx).1.raw)) ?_
    refine ask10 (b := (sync (aOf q x))) (sync_raw ((aOf_ok hq hx).1.raw)) ?_
    refine ask10 (b := (sync (aOf p x))) (sync_raw ((aOf_ok hp hx).1.raw)) ?_
    refine brnT (by rw [meet5_comm iA.t.1 iB.t.1]; simp [bAnd, iEq]) ?_
    refine brnT (in_refl iA) ?_
    refine brnT (meet_in1 iA iB) ?_
    refine brnT (meet_in2 iA iB) ?_
    refine brnT (meet_in1 iM iC) ?_
    refine brnT (in_trans iN.raw iM.raw iA.raw (meet_in1 iM iC) (meet_in1 iA iB)) ?_
    refine brnT (meet_in2 iM iC) ?_
    refine ask10 (b := (meet5 (meet5 (sync (aOf p x)) (sync (aOf q x))) (sync (aOf v x)))) (meet5_raw (meet5_raw (sync_raw ((aOf_ok hp hx).1.raw)) (sync_raw ((aOf_ok hq hx).1.raw))) (sync_raw ((aOf_ok hv hx).1.raw))) ?_
    refine askB (by first | with_reducible assumption | decide) ?_
    refine brnT ((bHas_iff iN.t.1 hx).2 kN) ?_
    refine brn2 (fun k1 => ?_) (fun k1 => ?_)
    · skip
      refine brn2 (fun k2 => ?_) (fun k2 => ?_)
      · skip
        refine brT (in_trans iA.raw iB.raw iC.raw k1 k2) ?_
        refine askB (by first | with_reducible assumption | decide) ?_
        refine brT (const_in hx iN kN) ?_
        simp only [Tr.all]; try rfl
      · skip
        refine askB (by first | with_reducible assumption | decide) ?_
        refine brT (const_in hx iN kN) ?_
        simp only [Tr.all]; try rfl
    · skip
      refine askB (by first | with_reducible assumption | decide) ?_
      refine brT (const_in hx iN kN) ?_
      simp only [Tr.all]; try rfl
def s_BoundMeets : Sum := bySum 7 [.s (some .u64), .a [some .u64, some .u64, some .u64, some .u64, some .u64, some .u32, some .u32], .a [some .u64, some .u64, some .u64, some .u64, some .u64, some .u32, some .u32], .a [some .u64, some .u64, some .u64, some .u64, some .u64, some .u32, some .u32]] fun
  | [a0, a1, a2, a3, a4, a5, a6, a7, a8, a9, a10, a11, a12, a13, a14, a15, a16, a17, a18, a19, a20, a21], [] => some ([isU a0, isU (Ab.mk a1 a2 a3 a4 a5 a6 a7).1, isU (Ab.mk a1 a2 a3 a4 a5 a6 a7).2, isU (Ab.mk a1 a2 a3 a4 a5 a6 a7).3, isU (Ab.mk a1 a2 a3 a4 a5 a6 a7).4, isU (Ab.mk a1 a2 a3 a4 a5 a6 a7).5, isW (Ab.mk a1 a2 a3 a4 a5 a6 a7).6, isW (Ab.mk a1 a2 a3 a4 a5 a6 a7).7, isU (Ab.mk a8 a9 a10 a11 a12 a13 a14).1, isU (Ab.mk a8 a9 a10 a11 a12 a13 a14).2, isU (Ab.mk a8 a9 a10 a11 a12 a13 a14).3, isU (Ab.mk a8 a9 a10 a11 a12 a13 a14).4, isU (Ab.mk a8 a9 a10 a11 a12 a13 a14).5, isW (Ab.mk a8 a9 a10 a11 a12 a13 a14).6, isW (Ab.mk a8 a9 a10 a11 a12 a13 a14).7, isU (Ab.mk a15 a16 a17 a18 a19 a20 a21).1, isU (Ab.mk a15 a16 a17 a18 a19 a20 a21).2, isU (Ab.mk a15 a16 a17 a18 a19 a20 a21).3, isU (Ab.mk a15 a16 a17 a18 a19 a20 a21).4, isU (Ab.mk a15 a16 a17 a18 a19 a20 a21).5, isW (Ab.mk a15 a16 a17 a18 a19 a20 a21).6, isW (Ab.mk a15 a16 a17 a18 a19 a20 a21).7], .u (.c (.sb (true))))
  | _, _ => none
theorem s_BoundMeets_ok : SumOK Tryz.prog s_BoundMeets := by
  refine bySum_ok ⟨_, Tryz.func7, by kernel_rfl⟩ ?_
  intro ns os bs r hm hb ρ w
  split at hm
  · rename_i a0 a1 a2 a3 a4 a5 a6 a7 a8 a9 a10 a11 a12 a13 a14 a15 a16 a17 a18 a19 a20 a21
    cases hm
    exact t_BoundMeets a0 (Ab.mk a1 a2 a3 a4 a5 a6 a7) (Ab.mk a8 a9 a10 a11 a12 a13 a14) (Ab.mk a15 a16 a17 a18 a19 a20 a21) (hb _ (by simp)) (hb _ (by simp)) (hb _ (by simp)) (hb _ (by simp)) (hb _ (by simp)) (hb _ (by simp)) (hb _ (by simp)) (hb _ (by simp)) (hb _ (by simp)) (hb _ (by simp)) (hb _ (by simp)) (hb _ (by simp)) (hb _ (by simp)) (hb _ (by simp)) (hb _ (by simp)) (hb _ (by simp)) (hb _ (by simp)) (hb _ (by simp)) (hb _ (by simp)) (hb _ (by simp)) (hb _ (by simp)) (hb _ (by simp)) ρ w
  · cases hm
end Go.Proofs.YtafpbibpahjnhaaGreat.L05J
