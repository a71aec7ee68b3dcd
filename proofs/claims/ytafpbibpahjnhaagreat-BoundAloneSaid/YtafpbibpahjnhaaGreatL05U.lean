/- Layer 5: the walks of BoundSound and BoundAlone. Printed by a program of the session's own (genb.py). -/
import Derived.Test.YtafpbibpahjnhaaGreatL05T
import Derived.Test.YtafpbibpahjnhaaGreatL05K
namespace Go.Proofs.YtafpbibpahjnhaaGreat.L05U
open Go Go.RowKit Go.Proofs.YtafpbibpahjnhaaGreat.Sx Go.Proofs.YtafpbibpahjnhaaGreat.L05 Go.Proofs.YtafpbibpahjnhaaGreat.L05J Go.Proofs.YtafpbibpahjnhaaGreat.L05P
set_option linter.unusedVariables false
set_option linter.unusedSimpArgs false
open Go.Proofs.YtafpbibpahjnhaaGreat.L04 (mAdd1 mAdd2 mSub1 mSub2 mMul1 mMul2 mDiv1 mDiv2 mMod1 mMod2 mPlus1 mPlus2 mMinus1 mMinus2 mShl1 mShl2 mShr1 mShr2 mSar1 mSar2)
theorem t_BoundSound (x : Int) (y : Int) (v : Ab) (q : Ab) (c : Int) (wide : Bool) (hb0 : isU x = true) (hb1 : isU y = true) (hb2 : isU v.1 = true) (hb3 : isU v.2 = true) (hb4 : isU v.3 = true) (hb5 : isU v.4 = true) (hb6 : isU v.5 = true) (hb7 : isW v.6 = true) (hb8 : isW v.7 = true) (hb9 : isU q.1 = true) (hb10 : isU q.2 = true) (hb11 : isU q.3 = true) (hb12 : isU q.4 = true) (hb13 : isU q.5 = true) (hb14 : isW q.6 = true) (hb15 : isW q.7 = true) (hb16 : isY c = true) (ρ : Nat → Nat) (w : World) : Calls Tryz.prog 8 (enV [.s (some .u64), .s (some .u64), .a [some .u64, some .u64, some .u64, some .u64, some .u64, some .u32, some .u32], .a [some .u64, some .u64, some .u64, some .u64, some .u64, some .u32, some .u32], .s (some .u8), .s none] ([x, y, v.1, v.2, v.3, v.4, v.5, v.6, v.7, q.1, q.2, q.3, q.4, q.5, q.6, q.7, c], [wide])).toArray w fun e w' => e = .returned (V.den ρ (.u (.c (.sb (true))))) ∧ Below w.heap.size w w' := by
  refine pure_to nameOK (okc s_bConst_ok (okc s_bOne_ok (okc s_works_ok (okc s_sync_ok (okc s_aOf_ok (okc s_bHas_ok (okc s_bNone_ok (okc s_does_ok (okc s_alu_ok (okc s_lowB_ok okn)))))))))) (dOK (okc s_bConst_ok (okc s_bOne_ok (okc s_works_ok (okc s_sync_ok (okc s_aOf_ok (okc s_bHas_ok (okc s_bNone_ok (okc s_does_ok (okc s_alu_ok (okc s_lowB_ok okn))))))))))) 300 [.u (.c (.si .u64 x)), .u (.c (.si .u64 y)), .u (.agg [.si .u64 v.1, .si .u64 v.2, .si .u64 v.3, .si .u64 v.4, .si .u64 v.5, .si .u32 v.6, .si .u32 v.7]), .u (.agg [.si .u64 q.1, .si .u64 q.2, .si .u64 q.3, .si .u64 q.4, .si .u64 q.5, .si .u32 q.6, .si .u32 q.7]), .u (.c (.si .u8 c)), .u (.c (.sb wide))] (T := (.br (isC (iRem c 13)) (.br (isU (aOf v x).1.1) (.br (isU (aOf v x).1.2) (.br (isU (aOf v x).2.1) (.br (isU (aOf v x).2.2) (.br (isI (aOf v x).3.1) (.br (isI (aOf v x).3.2) (.br (isU (aOf v x).4.1) (.br (isU (aOf v x).4.2) (.br (isI (aOf v x).5.1) (.br (isI (aOf v x).5.2) (.br (isU (aOf q y).1.1) (.br (isU (aOf q y).1.2) (.br (isU (aOf q y).2.1) (.br (isU (aOf q y).2.2) (.br (isI (aOf q y).3.1) (.br (isI (aOf q y).3.2) (.br (isU (aOf q y).4.1) (.br (isU (aOf q y).4.2) (.br (isI (aOf q y).5.1) (.br (isI (aOf q y).5.2) (.br (isC (iRem c 13)) (.br (isU x) (.br (isU y) (.br (iNe (doesE (iRem c 13)) 0) (.leaf (.val (.u (.c (.lb false))))) (.br (iNe (doesE (iRem c 13)) 0) (.leaf (.val (.u (.c (.lb false))))) (.br (isU (doesB (iRem c 13) wide (aOf v x) (aOf q y)).1.1) (.br (isU (doesB (iRem c 13) wide (aOf v x) (aOf q y)).1.2) (.br (isU (doesB (iRem c 13) wide (aOf v x) (aOf q y)).2.1) (.br (isU (doesB (iRem c 13) wide (aOf v x) (aOf q y)).2.2) (.br (isI (doesB (iRem c 13) wide (aOf v x) (aOf q y)).3.1) (.br (isI (doesB (iRem c 13) wide (aOf v x) (aOf q y)).3.2) (.br (isU (doesB (iRem c 13) wide (aOf v x) (aOf q y)).4.1) (.br (isU (doesB (iRem c 13) wide (aOf v x) (aOf q y)).4.2) (.br (isI (doesB (iRem c 13) wide (aOf v x) (aOf q y)).5.1) (.br (isI (doesB (iRem c 13) wide (aOf v x) (aOf q y)).5.2) (.br (isU (aluN (iRem c 13) wide x y)) (.br (bNot (bHas (doesB (iRem c 13) wide (aOf v x) (aOf q y)) (aluN (iRem c 13) wide x y))) (.leaf (.val (.u (.c (.lb false))))) (.br (isU (aOf v x).1.1) (.br (isU (aOf v x).1.2) (.br (isU (aOf v x).2.1) (.br (isU (aOf v x).2.2) (.br (isI (aOf v x).3.1) (.br (isI (aOf v x).3.2) (.br (isU (aOf v x).4.1) (.br (isU (aOf v x).4.2) (.br (isI (aOf v x).5.1) (.br (isI (aOf v x).5.2) (.br (isU (aOf q y).1.1) (.br (isU (aOf q y).1.2) (.br (isU (aOf q y).2.1) (.br (isU (aOf q y).2.2) (.br (isI (aOf q y).3.1) (.br (isI (aOf q y).3.2) (.br (isU (aOf q y).4.1) (.br (isU (aOf q y).4.2) (.br (isI (aOf q y).5.1) (.br (isI (aOf q y).5.2) (.br (isC (iRem c 13)) (.br (isU (sync (aOf v x)).1.1) (.br (isU (sync (aOf v x)).1.2) (.br (isU (sync (aOf v x)).2.1) (.br (isU (sync (aOf v x)).2.2) (.br (isI (sync (aOf v x)).3.1) (.br (isI (sync (aOf v x)).3.2) (.br (isU (sync (aOf v x)).4.1) (.br (isU (sync (aOf v x)).4.2) (.br (isI (sync (aOf v x)).5.1) (.br (isI (sync (aOf v x)).5.2) (.br (isU (sync (aOf q y)).1.1) (.br (isU (sync (aOf q y)).1.2) (.br (isU (sync (aOf q y)).2.1) (.br (isU (sync (aOf q y)).2.2) (.br (isI (sync (aOf q y)).3.1) (.br (isI (sync (aOf q y)).3.2) (.br (isU (sync (aOf q y)).4.1) (.br (isU (sync (aOf q y)).4.2) (.br (isI (sync (aOf q y)).5.1) (.br (isI (sync (aOf q y)).5.2) (.br (iNe (doesE (iRem c 13)) 0) (.leaf (.val (.u (.c (.lb false))))) (.br (isU (doesB (iRem c 13) wide (sync (aOf v x)) (sync (aOf q y))).1.1) (.br (isU (doesB (iRem c 13) wide (sync (aOf v x)) (sync (aOf q y))).1.2) (.br (isU (doesB (iRem c 13) wide (sync (aOf v x)) (sync (aOf q y))).2.1) (.br (isU (doesB (iRem c 13) wide (sync (aOf v x)) (sync (aOf q y))).2.2) (.br (isI (doesB (iRem c 13) wide (sync (aOf v x)) (sync (aOf q y))).3.1) (.br (isI (doesB (iRem c 13) wide (sync (aOf v x)) (sync (aOf q y))).3.2) (.br (isU (doesB (iRem c 13) wide (sync (aOf v x)) (sync (aOf q y))).4.1) (.br (isU (doesB (iRem c 13) wide (sync (aOf v x)) (sync (aOf q y))).4.2) (.br (isI (doesB (iRem c 13) wide (sync (aOf v x)) (sync (aOf q y))).5.1) (.br (isI (doesB (iRem c 13) wide (sync (aOf v x)) (sync (aOf q y))).5.2) (.br (isU (aluN (iRem c 13) wide x y)) (.br (bNot (bHas (doesB (iRem c 13) wide (sync (aOf v x)) (sync (aOf q y))) (aluN (iRem c 13) wide x y))) (.leaf (.val (.u (.c (.lb false))))) (.br (bNone (doesB (iRem c 13) wide (sync (aOf v x)) (sync (aOf q y)))) (.leaf (.val (.u (.c (.lb false))))) (.br (isU (sync (aOf v x)).1.1) (.br (isU (sync (aOf v x)).1.2) (.br (isU (sync (aOf v x)).2.1) (.br (isU (sync (aOf v x)).2.2) (.br (isI (sync (aOf v x)).3.1) (.br (isI (sync (aOf v x)).3.2) (.br (isU (sync (aOf v x)).4.1) (.br (isU (sync (aOf v x)).4.2) (.br (isI (sync (aOf v x)).5.1) (.br (isI (sync (aOf v x)).5.2) (.br (isU 8) (.br (isU (lowB (sync (aOf v x)) 8).1.1) (.br (isU (lowB (sync (aOf v x)) 8).1.2) (.br (isU (lowB (sync (aOf v x)) 8).2.1) (.br (isU (lowB (sync (aOf v x)) 8).2.2) (.br (isI (lowB (sync (aOf v x)) 8).3.1) (.br (isI (lowB (sync (aOf v x)) 8).3.2) (.br (isU (lowB (sync (aOf v x)) 8).4.1) (.br (isU (lowB (sync (aOf v x)) 8).4.2) (.br (isI (lowB (sync (aOf v x)) 8).5.1) (.br (isI (lowB (sync (aOf v x)) 8).5.2) (.br (isU (iRem x 256)) (.br (bHas (lowB (sync (aOf v x)) 8) (iRem x 256)) (.br (isU (sync (aOf v x)).1.1) (.br (isU (sync (aOf v x)).1.2) (.br (isU (sync (aOf v x)).2.1) (.br (isU (sync (aOf v x)).2.2) (.br (isI (sync (aOf v x)).3.1) (.br (isI (sync (aOf v x)).3.2) (.br (isU (sync (aOf v x)).4.1) (.br (isU (sync (aOf v x)).4.2) (.br (isI (sync (aOf v x)).5.1) (.br (isI (sync (aOf v x)).5.2) (.br (isU 16) (.br (isU (lowB (sync (aOf v x)) 16).1.1) (.br (isU (lowB (sync (aOf v x)) 16).1.2) (.br (isU (lowB (sync (aOf v x)) 16).2.1) (.br (isU (lowB (sync (aOf v x)) 16).2.2) (.br (isI (lowB (sync (aOf v x)) 16).3.1) (.br (isI (lowB (sync (aOf v x)) 16).3.2) (.br (isU (lowB (sync (aOf v x)) 16).4.1) (.br (isU (lowB (sync (aOf v x)) 16).4.2) (.br (isI (lowB (sync (aOf v x)) 16).5.1) (.br (isI (lowB (sync (aOf v x)) 16).5.2) (.br (isU (iRem x 65536)) (.br (bHas (lowB (sync (aOf v x)) 16) (iRem x 65536)) (.br (isU (sync (aOf v x)).1.1) (.br (isU (sync (aOf v x)).1.2) (.br (isU (sync (aOf v x)).2.1) (.br (isU (sync (aOf v x)).2.2) (.br (isI (sync (aOf v x)).3.1) (.br (isI (sync (aOf v x)).3.2) (.br (isU (sync (aOf v x)).4.1) (.br (isU (sync (aOf v x)).4.2) (.br (isI (sync (aOf v x)).5.1) (.br (isI (sync (aOf v x)).5.2) (.br (isU 32) (.br (isU (lowB (sync (aOf v x)) 32).1.1) (.br (isU (lowB (sync (aOf v x)) 32).1.2) (.br (isU (lowB (sync (aOf v x)) 32).2.1) (.br (isU (lowB (sync (aOf v x)) 32).2.2) (.br (isI (lowB (sync (aOf v x)) 32).3.1) (.br (isI (lowB (sync (aOf v x)) 32).3.2) (.br (isU (lowB (sync (aOf v x)) 32).4.1) (.br (isU (lowB (sync (aOf v x)) 32).4.2) (.br (isI (lowB (sync (aOf v x)) 32).5.1) (.br (isI (lowB (sync (aOf v x)) 32).5.2) (.br (isU (iRem x 4294967296)) (.br (bHas (lowB (sync (aOf v x)) 32) (iRem x 4294967296)) (.leaf (.val (.u (.c (.sb true))))) (.leaf (.val (.u (.c (.lb false)))))) (.no 98)) (.no 98)) (.no 98)) (.no 98)) (.no 98)) (.no 98)) (.no 98)) (.no 98)) (.no 98)) (.no 98)) (.no 98)) (.no 98)) (.no 98)) (.no 98)) (.no 98)) (.no 98)) (.no 98)) (.no 98)) (.no 98)) (.no 98)) (.no 98)) (.no 98)) (.leaf (.val (.u (.c (.lb false)))))) (.no 98)) (.no 98)) (.no 98)) (.no 98)) (.no 98)) (.no 98)) (.no 98)) (.no 98)) (.no 98)) (.no 98)) (.no 98)) (.no 98)) (.no 98)) (.no 98)) (.no 98)) (.no 98)) (.no 98)) (.no 98)) (.no 98)) (.no 98)) (.no 98)) (.no 98)) (.leaf (.val (.u (.c (.lb false)))))) (.no 98)) (.no 98)) (.no 98)) (.no 98)) (.no 98)) (.no 98)) (.no 98)) (.no 98)) (.no 98)) (.no 98)) (.no 98)) (.no 98)) (.no 98)) (.no 98)) (.no 98)) (.no 98)) (.no 98)) (.no 98)) (.no 98)) (.no 98)) (.no 98)) (.no 98)))) (.no 98)) (.no 98)) (.no 98)) (.no 98)) (.no 98)) (.no 98)) (.no 98)) (.no 98)) (.no 98)) (.no 98)) (.no 98))) (.no 98)) (.no 98)) (.no 98)) (.no 98)) (.no 98)) (.no 98)) (.no 98)) (.no 98)) (.no 98)) (.no 98)) (.no 98)) (.no 98)) (.no 98)) (.no 98)) (.no 98)) (.no 98)) (.no 98)) (.no 98)) (.no 98)) (.no 98)) (.no 98)) (.no 98)) (.no 98)) (.no 98)) (.no 98)) (.no 98)) (.no 98)) (.no 98)) (.no 98)) (.no 98)) (.no 98)) (.no 98)) (.no 98)) (.no 98)) (.no 98)) (.no 98)) (.no 98)) (.no 98)) (.no 98)) (.no 98)) (.no 98))) (.no 98)) (.no 98)) (.no 98)) (.no 98)) (.no 98)) (.no 98)) (.no 98)) (.no 98)) (.no 98)) (.no 98)) (.no 98)))) (.no 98)) (.no 98)) (.no 98)) (.no 98)) (.no 98)) (.no 98)) (.no 98)) (.no 98)) (.no 98)) (.no 98)) (.no 98)) (.no 98)) (.no 98)) (.no 98)) (.no 98)) (.no 98)) (.no 98)) (.no 98)) (.no 98)) (.no 98)) (.no 98)) (.no 98)) (.no 98)) (.no 98))) (by kernel_rfl) ρ rfl ?_ w
  · skip
    have hx : isU x = true := hb0
    have hy : isU y = true := hb1
    have hv : AbOK v := ⟨hb2, hb3, hb4, hb5, hb6, hb7, hb8⟩
    have hq : AbOK q := ⟨hb9, hb10, hb11, hb12, hb13, hb14, hb15⟩
    have hY := isY_iff.1 hb16
    have eK : iRem c 13 = c % 13 := Int.tmod_eq_emod_of_nonneg hY.1
    have hK0 : 0 ≤ iRem c 13 := by omega
    have hK1 : iRem c 13 ≤ 12 := by omega
    have hC : isC (iRem c 13) = true := isC_iff.2 (by omega)
    have hE : doesE (iRem c 13) = 0 := by unfold doesE; rw [if_neg (by omega)]
    obtain ⟨iA, kA⟩ := aOf_ok hv hx
    obtain ⟨iB, kB⟩ := aOf_ok hq hy
    have iSA := (sync_ok iA.raw).1
    have iSB := (sync_ok iB.raw).1
    have kSA := sync_has iA hx kA
    have kSB := sync_has iB hy kB
    obtain ⟨hn, iD, kD⟩ := does_sound iA iB hx hy kA kB (iRem c 13) wide hK0 hK1
    obtain ⟨hn2, iE, kE⟩ := does_sound iSA iSB hx hy kSA kSB (iRem c 13) wide hK0 hK1
    obtain ⟨i8, k8⟩ := lowB_small iSA hx kSA 8 8 rfl (.inl rfl)
    obtain ⟨i16, k16⟩ := lowB_small iSA hx kSA 16 16 rfl (.inr rfl)
    obtain ⟨i32, k32⟩ := lowB_ok iSA hx kSA
    have e8 : iRem x 256 = x % 2 ^ 8 := rem_p hx 256
    have e16 : iRem x 65536 = x % 2 ^ 16 := rem_p hx 65536
    have e32 : iRem x 4294967296 = x % 4294967296 := rem_p hx 4294967296
    have u8 : isU (iRem x 256) = true := by rw [e8]; exact pow_u hx 8
    have u16 : isU (iRem x 65536) = true := by rw [e16]; exact pow_u hx 16
    have u32 : isU (iRem x 4294967296) = true := by rw [e32]; exact mod_u hx
    refine askB (by first | with_reducible assumption | decide) ?_
    refine ask10 (b := (aOf v x)) (iA.raw) ?_
    refine ask10 (b := (aOf q y)) (iB.raw) ?_
    refine askB (by first | with_reducible assumption | decide) ?_
    refine askB (by first | with_reducible assumption | decide) ?_
    refine askB (by first | with_reducible assumption | decide) ?_
    refine brF (by rw [hE]; decide) ?_
    refine brF (by rw [hE]; decide) ?_
    refine ask10 (b := (doesB (iRem c 13) wide (aOf v x) (aOf q y))) (iD.raw) ?_
    refine askB (by first | with_reducible assumption | decide) ?_
    refine brnT ((bHas_iff iD.t.1 hn).2 kD) ?_
    refine ask10 (b := (aOf v x)) (iA.raw) ?_
    refine ask10 (b := (aOf q y)) (iB.raw) ?_
    refine askB (by first | with_reducible assumption | decide) ?_
    refine ask10 (b := (sync (aOf v x))) (iSA.raw) ?_
    refine ask10 (b := (sync (aOf q y))) (iSB.raw) ?_
    refine brF (by rw [hE]; decide) ?_
    refine ask10 (b := (doesB (iRem c 13) wide (sync (aOf v x)) (sync (aOf q y)))) (iE.raw) ?_
    refine askB (by first | with_reducible assumption | decide) ?_
    refine brnT ((bHas_iff iE.t.1 hn).2 kE) ?_
    refine brF (kE.some) ?_
    refine ask10 (b := (sync (aOf v x))) (iSA.raw) ?_
    refine askB (by first | with_reducible assumption | decide) ?_
    refine ask10 (b := (lowB (sync (aOf v x)) 8)) (i8.raw) ?_
    refine askB (by first | with_reducible assumption | decide) ?_
    refine brT ((bHas_iff i8.t.1 u8).2 (by rw [e8]; exact k8)) ?_
    refine ask10 (b := (sync (aOf v x))) (iSA.raw) ?_
    refine askB (by first | with_reducible assumption | decide) ?_
    refine ask10 (b := (lowB (sync (aOf v x)) 16)) (i16.raw) ?_
    refine askB (by first | with_reducible assumption | decide) ?_
    refine brT ((bHas_iff i16.t.1 u16).2 (by rw [e16]; exact k16)) ?_
    refine ask10 (b := (sync (aOf v x))) (iSA.raw) ?_
    refine askB (by first | with_reducible assumption | decide) ?_
    refine ask10 (b := (lowB (sync (aOf v x)) 32)) (i32.raw) ?_
    refine askB (by first | with_reducible assumption | decide) ?_
    refine brT ((bHas_iff i32.t.1 u32).2 (by rw [e32]; exact k32)) ?_
    simp only [Tr.all]; try rfl
def s_BoundSound : Sum := bySum 8 [.s (some .u64), .s (some .u64), .a [some .u64, some .u64, some .u64, some .u64, some .u64, some .u32, some .u32], .a [some .u64, some .u64, some .u64, some .u64, some .u64, some .u32, some .u32], .s (some .u8), .s none] fun
  | [a0, a1, a2, a3, a4, a5, a6, a7, a8, a9, a10, a11, a12, a13, a14, a15, a16], [o0] => some ([isU a0, isU a1, isU (Ab.mk a2 a3 a4 a5 a6 a7 a8).1, isU (Ab.mk a2 a3 a4 a5 a6 a7 a8).2, isU (Ab.mk a2 a3 a4 a5 a6 a7 a8).3, isU (Ab.mk a2 a3 a4 a5 a6 a7 a8).4, isU (Ab.mk a2 a3 a4 a5 a6 a7 a8).5, isW (Ab.mk a2 a3 a4 a5 a6 a7 a8).6, isW (Ab.mk a2 a3 a4 a5 a6 a7 a8).7, isU (Ab.mk a9 a10 a11 a12 a13 a14 a15).1, isU (Ab.mk a9 a10 a11 a12 a13 a14 a15).2, isU (Ab.mk a9 a10 a11 a12 a13 a14 a15).3, isU (Ab.mk a9 a10 a11 a12 a13 a14 a15).4, isU (Ab.mk a9 a10 a11 a12 a13 a14 a15).5, isW (Ab.mk a9 a10 a11 a12 a13 a14 a15).6, isW (Ab.mk a9 a10 a11 a12 a13 a14 a15).7, isY a16], .u (.c (.sb (true))))
  | _, _ => none
theorem s_BoundSound_ok : SumOK Tryz.prog s_BoundSound := by
  refine bySum_ok ⟨_, Tryz.func8, by kernel_rfl⟩ ?_
  intro ns os bs r hm hb ρ w
  split at hm
  · rename_i a0 a1 a2 a3 a4 a5 a6 a7 a8 a9 a10 a11 a12 a13 a14 a15 a16 o0
    cases hm
    exact t_BoundSound a0 a1 (Ab.mk a2 a3 a4 a5 a6 a7 a8) (Ab.mk a9 a10 a11 a12 a13 a14 a15) a16 o0 (hb _ (by simp)) (hb _ (by simp)) (hb _ (by simp)) (hb _ (by simp)) (hb _ (by simp)) (hb _ (by simp)) (hb _ (by simp)) (hb _ (by simp)) (hb _ (by simp)) (hb _ (by simp)) (hb _ (by simp)) (hb _ (by simp)) (hb _ (by simp)) (hb _ (by simp)) (hb _ (by simp)) (hb _ (by simp)) (hb _ (by simp)) ρ w
  · cases hm
theorem t_BoundAlone (x : Int) (y : Int) (c : Int) (wide : Bool) (hb0 : isU x = true) (hb1 : isU y = true) (hb2 : isY c = true) (ρ : Nat → Nat) (w : World) : Calls Tryz.prog 9 (enV [.s (some .u64), .s (some .u64), .s (some .u8), .s none] ([x, y, c], [wide])).toArray w fun e w' => e = .returned (V.den ρ (.u (.c (.sb (true))))) ∧ Below w.heap.size w w' := by
  refine pure_to nameOK (okc s_bConst_ok (okc s_bOne_ok (okc s_works_ok (okc s_sync_ok (okc s_aOf_ok (okc s_bHas_ok (okc s_bNone_ok (okc s_does_ok (okc s_alu_ok (okc s_lowB_ok okn)))))))))) (dOK (okc s_bConst_ok (okc s_bOne_ok (okc s_works_ok (okc s_sync_ok (okc s_aOf_ok (okc s_bHas_ok (okc s_bNone_ok (okc s_does_ok (okc s_alu_ok (okc s_lowB_ok okn))))))))))) 300 [.u (.c (.si .u64 x)), .u (.c (.si .u64 y)), .u (.c (.si .u8 c)), .u (.c (.sb wide))] (T := (.br (bNot wide) (.br (iEq (iRem c 13) 9) (.leaf (.val (.u (.c (.sb true))))) (.br (iEq (iRem c 13) 3) (.br (iEq (iRem y 4294967296) 0) (.leaf (.val (.u (.c (.sb true))))) (.br (isU x) (.br (isU y) (.br (isC (iRem c 13)) (.br (isU (bConst x).1.1) (.br (isU (bConst x).1.2) (.br (isU (bConst x).2.1) (.br (isU (bConst x).2.2) (.br (isI (bConst x).3.1) (.br (isI (bConst x).3.2) (.br (isU (bConst x).4.1) (.br (isU (bConst x).4.2) (.br (isI (bConst x).5.1) (.br (isI (bConst x).5.2) (.br (isU (bConst y).1.1) (.br (isU (bConst y).1.2) (.br (isU (bConst y).2.1) (.br (isU (bConst y).2.2) (.br (isI (bConst y).3.1) (.br (isI (bConst y).3.2) (.br (isU (bConst y).4.1) (.br (isU (bConst y).4.2) (.br (isI (bConst y).5.1) (.br (isI (bConst y).5.2) (.br (isC (iRem c 13)) (.br (isU x) (.br (isU y) (.br (isU (doesB (iRem c 13) wide (bConst x) (bConst y)).1.1) (.br (isU (doesB (iRem c 13) wide (bConst x) (bConst y)).1.2) (.br (isU (doesB (iRem c 13) wide (bConst x) (bConst y)).2.1) (.br (isU (doesB (iRem c 13) wide (bConst x) (bConst y)).2.2) (.br (isI (doesB (iRem c 13) wide (bConst x) (bConst y)).3.1) (.br (isI (doesB (iRem c 13) wide (bConst x) (bConst y)).3.2) (.br (isU (doesB (iRem c 13) wide (bConst x) (bConst y)).4.1) (.br (isU (doesB (iRem c 13) wide (bConst x) (bConst y)).4.2) (.br (isI (doesB (iRem c 13) wide (bConst x) (bConst y)).5.1) (.br (isI (doesB (iRem c 13) wide (bConst x) (bConst y)).5.2) (.br (iEq (doesE (iRem c 13)) 0) (.br (iEq (doesE (iRem c 13)) 0) (.br (oneIs (doesB (iRem c 13) wide (bConst x) (bConst y))) (.br (iEq (oneV (doesB (iRem c 13) wide (bConst x) (bConst y))) (aluN (iRem c 13) wide x y)) (.br (isU (aluN (iRem c 13) wide x y)) (.br (bAnd (bAnd (iEq (doesB (iRem c 13) wide (bConst x) (bConst y)).1.1 (bConst (aluN (iRem c 13) wide x y)).1.1) (iEq (doesB (iRem c 13) wide (bConst x) (bConst y)).1.2 (bConst (aluN (iRem c 13) wide x y)).1.2)) (bAnd (bAnd (iEq (doesB (iRem c 13) wide (bConst x) (bConst y)).2.1 (bConst (aluN (iRem c 13) wide x y)).2.1) (iEq (doesB (iRem c 13) wide (bConst x) (bConst y)).2.2 (bConst (aluN (iRem c 13) wide x y)).2.2)) (bAnd (bAnd (iEq (doesB (iRem c 13) wide (bConst x) (bConst y)).3.1 (bConst (aluN (iRem c 13) wide x y)).3.1) (iEq (doesB (iRem c 13) wide (bConst x) (bConst y)).3.2 (bConst (aluN (iRem c 13) wide x y)).3.2)) (bAnd (bAnd (iEq (doesB (iRem c 13) wide (bConst x) (bConst y)).4.1 (bConst (aluN (iRem c 13) wide x y)).4.1) (iEq (doesB (iRem c 13) wide (bConst x) (bConst y)).4.2 (bConst (aluN (iRem c 13) wide x y)).4.2)) (bAnd (iEq (doesB (iRem c 13) wide (bConst x) (bConst y)).5.1 (bConst (aluN (iRem c 13) wide x y)).5.1) (iEq (doesB (iRem c 13) wide (bConst x) (bConst y)).5.2 (bConst (aluN (iRem c 13) wide x y)).5.2)))))) (.leaf (.val (.u (.c (.sb true))))) (.leaf (.val (.u (.c (.lb false)))))) (.no 98)) (.leaf (.val (.u (.c (.lb false)))))) (.leaf (.val (.u (.c (.lb false)))))) (.leaf (.val (.u (.c (.lb false)))))) (.leaf (.val (.u (.c (.lb false)))))) (.no 98)) (.no 98)) (.no 98)) (.no 98)) (.no 98)) (.no 98)) (.no 98)) (.no 98)) (.no 98)) (.no 98)) (.no 98)) (.no 98)) (.no 98)) (.no 98)) (.no 98)) (.no 98)) (.no 98)) (.no 98)) (.no 98)) (.no 98)) (.no 98)) (.no 98)) (.no 98)) (.no 98)) (.no 98)) (.no 98)) (.no 98)) (.no 98)) (.no 98)) (.no 98)) (.no 98)) (.no 98)) (.no 98)) (.no 98)) (.no 98)) (.no 98))) (.br (isU x) (.br (isU y) (.br (isC (iRem c 13)) (.br (isU (bConst x).1.1) (.br (isU (bConst x).1.2) (.br (isU (bConst x).2.1) (.br (isU (bConst x).2.2) (.br (isI (bConst x).3.1) (.br (isI (bConst x).3.2) (.br (isU (bConst x).4.1) (.br (isU (bConst x).4.2) (.br (isI (bConst x).5.1) (.br (isI (bConst x).5.2) (.br (isU (bConst y).1.1) (.br (isU (bConst y).1.2) (.br (isU (bConst y).2.1) (.br (isU (bConst y).2.2) (.br (isI (bConst y).3.1) (.br (isI (bConst y).3.2) (.br (isU (bConst y).4.1) (.br (isU (bConst y).4.2) (.br (isI (bConst y).5.1) (.br (isI (bConst y).5.2) (.br (isC (iRem c 13)) (.br (isU x) (.br (isU y) (.br (isU (doesB (iRem c 13) wide (bConst x) (bConst y)).1.1) (.br (isU (doesB (iRem c 13) wide (bConst x) (bConst y)).1.2) (.br (isU (doesB (iRem c 13) wide (bConst x) (bConst y)).2.1) (.br (isU (doesB (iRem c 13) wide (bConst x) (bConst y)).2.2) (.br (isI (doesB (iRem c 13) wide (bConst x) (bConst y)).3.1) (.br (isI (doesB (iRem c 13) wide (bConst x) (bConst y)).3.2) (.br (isU (doesB (iRem c 13) wide (bConst x) (bConst y)).4.1) (.br (isU (doesB (iRem c 13) wide (bConst x) (bConst y)).4.2) (.br (isI (doesB (iRem c 13) wide (bConst x) (bConst y)).5.1) (.br (isI (doesB (iRem c 13) wide (bConst x) (bConst y)).5.2) (.br (iEq (doesE (iRem c 13)) 0) (.br (iEq (doesE (iRem c 13)) 0) (.br (oneIs (doesB (iRem c 13) wide (bConst x) (bConst y))) (.br (iEq (oneV (doesB (iRem c 13) wide (bConst x) (bConst y))) (aluN (iRem c 13) wide x y)) (.br (isU (aluN (iRem c 13) wide x y)) (.br (bAnd (bAnd (iEq (doesB (iRem c 13) wide (bConst x) (bConst y)).1.1 (bConst (aluN (iRem c 13) wide x y)).1.1) (iEq (doesB (iRem c 13) wide (bConst x) (bConst y)).1.2 (bConst (aluN (iRem c 13) wide x y)).1.2)) (bAnd (bAnd (iEq (doesB (iRem c 13) wide (bConst x) (bConst y)).2.1 (bConst (aluN (iRem c 13) wide x y)).2.1) (iEq (doesB (iRem c 13) wide (bConst x) (bConst y)).2.2 (bConst (aluN (iRem c 13) wide x y)).2.2)) (bAnd (bAnd (iEq (doesB (iRem c 13) wide (bConst x) (bConst y)).3.1 (bConst (aluN (iRem c 13) wide x y)).3.1) (iEq (doesB (iRem c 13) wide (bConst x) (bConst y)).3.2 (bConst (aluN (iRem c 13) wide x y)).3.2)) (bAnd (bAnd (iEq (doesB (iRem c 13) wide (bConst x) (bConst y)).4.1 (bConst (aluN (iRem c 13) wide x y)).4.1) (iEq (doesB (iRem c 13) wide (bConst x) (bConst y)).4.2 (bConst (aluN (iRem c 13) wide x y)).4.2)) (bAnd (iEq (doesB (iRem c 13) wide (bConst x) (bConst y)).5.1 (bConst (aluN (iRem c 13) wide x y)).5.1) (iEq (doesB (iRem c 13) wide (bConst x) (bConst y)).5.2 (bConst (aluN (iRem c 13) wide x y)).5.2)))))) (.leaf (.val (.u (.c (.sb true))))) (.leaf (.val (.u (.c (.lb false)))))) (.no 98)) (.leaf (.val (.u (.c (.lb false)))))) (.leaf (.val (.u (.c (.lb false)))))) (.leaf (.val (.u (.c (.lb false)))))) (.leaf (.val (.u (.c (.lb false)))))) (.no 98)) (.no 98)) (.no 98)) (.no 98)) (.no 98)) (.no 98)) (.no 98)) (.no 98)) (.no 98)) (.no 98)) (.no 98)) (.no 98)) (.no 98)) (.no 98)) (.no 98)) (.no 98)) (.no 98)) (.no 98)) (.no 98)) (.no 98)) (.no 98)) (.no 98)) (.no 98)) (.no 98)) (.no 98)) (.no 98)) (.no 98)) (.no 98)) (.no 98)) (.no 98)) (.no 98)) (.no 98)) (.no 98)) (.no 98)) (.no 98)) (.no 98)))) (.br (iEq (iRem c 13) 9) (.leaf (.val (.u (.c (.sb true))))) (.br (iEq (iRem c 13) 3) (.br (iEq y 0) (.leaf (.val (.u (.c (.sb true))))) (.br (isU x) (.br (isU y) (.br (isC (iRem c 13)) (.br (isU (bConst x).1.1) (.br (isU (bConst x).1.2) (.br (isU (bConst x).2.1) (.br (isU (bConst x).2.2) (.br (isI (bConst x).3.1) (.br (isI (bConst x).3.2) (.br (isU (bConst x).4.1) (.br (isU (bConst x).4.2) (.br (isI (bConst x).5.1) (.br (isI (bConst x).5.2) (.br (isU (bConst y).1.1) (.br (isU (bConst y).1.2) (.br (isU (bConst y).2.1) (.br (isU (bConst y).2.2) (.br (isI (bConst y).3.1) (.br (isI (bConst y).3.2) (.br (isU (bConst y).4.1) (.br (isU (bConst y).4.2) (.br (isI (bConst y).5.1) (.br (isI (bConst y).5.2) (.br (isC (iRem c 13)) (.br (isU x) (.br (isU y) (.br (isU (doesB (iRem c 13) wide (bConst x) (bConst y)).1.1) (.br (isU (doesB (iRem c 13) wide (bConst x) (bConst y)).1.2) (.br (isU (doesB (iRem c 13) wide (bConst x) (bConst y)).2.1) (.br (isU (doesB (iRem c 13) wide (bConst x) (bConst y)).2.2) (.br (isI (doesB (iRem c 13) wide (bConst x) (bConst y)).3.1) (.br (isI (doesB (iRem c 13) wide (bConst x) (bConst y)).3.2) (.br (isU (doesB (iRem c 13) wide (bConst x) (bConst y)).4.1) (.br (isU (doesB (iRem c 13) wide (bConst x) (bConst y)).4.2) (.br (isI (doesB (iRem c 13) wide (bConst x) (bConst y)).5.1) (.br (isI (doesB (iRem c 13) wide (bConst x) (bConst y)).5.2) (.br (iEq (doesE (iRem c 13)) 0) (.br (iEq (doesE (iRem c 13)) 0) (.br (oneIs (doesB (iRem c 13) wide (bConst x) (bConst y))) (.br (iEq (oneV (doesB (iRem c 13) wide (bConst x) (bConst y))) (aluN (iRem c 13) wide x y)) (.br (isU (aluN (iRem c 13) wide x y)) (.br (bAnd (bAnd (iEq (doesB (iRem c 13) wide (bConst x) (bConst y)).1.1 (bConst (aluN (iRem c 13) wide x y)).1.1) (iEq (doesB (iRem c 13) wide (bConst x) (bConst y)).1.2 (bConst (aluN (iRem c 13) wide x y)).1.2)) (bAnd (bAnd (iEq (doesB (iRem c 13) wide (bConst x) (bConst y)).2.1 (bConst (aluN (iRem c 13) wide x y)).2.1) (iEq (doesB (iRem c 13) wide (bConst x) (bConst y)).2.2 (bConst (aluN (iRem c 13) wide x y)).2.2)) (bAnd (bAnd (iEq (doesB (iRem c 13) wide (bConst x) (bConst y)).3.1 (bConst (aluN (iRem c 13) wide x y)).3.1) (iEq (doesB (iRem c 13) wide (bConst x) (bConst y)).3.2 (bConst (aluN (iRem c 13) wide x y)).3.2)) (bAnd (bAnd (iEq (doesB (iRem c 13) wide (bConst x) (bConst y)).4.1 (bConst (aluN (iRem c 13) wide x y)).4.1) (iEq (doesB (iRem c 13) wide (bConst x) (bConst y)).4.2 (bConst (aluN (iRem c 13) wide x y)).4.2)) (bAnd (iEq (doesB (iRem c 13) wide (bConst x) (bConst y)).5.1 (bConst (aluN (iRem c 13) wide x y)).5.1) (iEq (doesB (iRem c 13) wide (bConst x) (bConst y)).5.2 (bConst (aluN (iRem c 13) wide x y)).5.2)))))) (.leaf (.val (.u (.c (.sb true))))) (.leaf (.val (.u (.c (.lb false)))))) (.no 98)) (.leaf (.val (.u (.c (.lb false)))))) (.leaf (.val (.u (.c (.lb false)))))) (.leaf (.val (.u (.c (.lb false)))))) (.leaf (.val (.u (.c (.lb false)))))) (.no 98)) (.no 98)) (.no 98)) (.no 98)) (.no 98)) (.no 98)) (.no 98)) (.no 98)) (.no 98)) (.no 98)) (.no 98)) (.no 98)) (.no 98)) (.no 98)) (.no 98)) (.no 98)) (.no 98)) (.no 98)) (.no 98)) (.no 98)) (.no 98)) (.no 98)) (.no 98)) (.no 98)) (.no 98)) (.no 98)) (.no 98)) (.no 98)) (.no 98)) (.no 98)) (.no 98)) (.no 98)) (.no 98)) (.no 98)) (.no 98)) (.no 98))) (.br (isU x) (.br (isU y) (.br (isC (iRem c 13)) (.br (isU (bConst x).1.1) (.br (isU (bConst x).1.2) (.br (isU (bConst x).2.1) (.br (isU (bConst x).2.2) (.br (isI (bConst x).3.1) (.br (isI (bConst x).3.2) (.br (isU (bConst x).4.1) (.br (isU (bConst x).4.2) (.br (isI (bConst x).5.1) (.br (isI (bConst x).5.2) (.br (isU (bConst y).1.1) (.br (isU (bConst y).1.2) (.br (isU (bConst y).2.1) (.br (isU (bConst y).2.2) (.br (isI (bConst y).3.1) (.br (isI (bConst y).3.2) (.br (isU (bConst y).4.1) (.br (isU (bConst y).4.2) (.br (isI (bConst y).5.1) (.br (isI (bConst y).5.2) (.br (isC (iRem c 13)) (.br (isU x) (.br (isU y) (.br (isU (doesB (iRem c 13) wide (bConst x) (bConst y)).1.1) (.br (isU (doesB (iRem c 13) wide (bConst x) (bConst y)).1.2) (.br (isU (doesB (iRem c 13) wide (bConst x) (bConst y)).2.1) (.br (isU (doesB (iRem c 13) wide (bConst x) (bConst y)).2.2) (.br (isI (doesB (iRem c 13) wide (bConst x) (bConst y)).3.1) (.br (isI (doesB (iRem c 13) wide (bConst x) (bConst y)).3.2) (.br (isU (doesB (iRem c 13) wide (bConst x) (bConst y)).4.1) (.br (isU (doesB (iRem c 13) wide (bConst x) (bConst y)).4.2) (.br (isI (doesB (iRem c 13) wide (bConst x) (bConst y)).5.1) (.br (isI (doesB (iRem c 13) wide (bConst x) (bConst y)).5.2) (.br (iEq (doesE (iRem c 13)) 0) (.br (iEq (doesE (iRem c 13)) 0) (.br (oneIs (doesB (iRem c 13) wide (bConst x) (bConst y))) (.br (iEq (oneV (doesB (iRem c 13) wide (bConst x) (bConst y))) (aluN (iRem c 13) wide x y)) (.br (isU (aluN (iRem c 13) wide x y)) (.br (bAnd (bAnd (iEq (doesB (iRem c 13) wide (bConst x) (bConst y)).1.1 (bConst (aluN (iRem c 13) wide x y)).1.1) (iEq (doesB (iRem c 13) wide (bConst x) (bConst y)).1.2 (bConst (aluN (iRem c 13) wide x y)).1.2)) (bAnd (bAnd (iEq (doesB (iRem c 13) wide (bConst x) (bConst y)).2.1 (bConst (aluN (iRem c 13) wide x y)).2.1) (iEq (doesB (iRem c 13) wide (bConst x) (bConst y)).2.2 (bConst (aluN (iRem c 13) wide x y)).2.2)) (bAnd (bAnd (iEq (doesB (iRem c 13) wide (bConst x) (bConst y)).3.1 (bConst (aluN (iRem c 13) wide x y)).3.1) (iEq (doesB (iRem c 13) wide (bConst x) (bConst y)).3.2 (bConst (aluN (iRem c 13) wide x y)).3.2)) (bAnd (bAnd (iEq (doesB (iRem c 13) wide (bConst x) (bConst y)).4.1 (bConst (aluN (iRem c 13) wide x y)).4.1) (iEq (doesB (iRem c 13) wide (bConst x) (bConst y)).4.2 (bConst (aluN (iRem c 13) wide x y)).4.2)) (bAnd (iEq (doesB (iRem c 13) wide (bConst x) (bConst y)).5.1 (bConst (aluN (iRem c 13) wide x y)).5.1) (iEq (doesB (iRem c 13) wide (bConst x) (bConst y)).5.2 (bConst (aluN (iRem c 13) wide x y)).5.2)))))) (.leaf (.val (.u (.c (.sb true))))) (.leaf (.val (.u (.c (.lb false)))))) (.no 98)) (.leaf (.val (.u (.c (.lb false)))))) (.leaf (.val (.u (.c (.lb false)))))) (.leaf (.val (.u (.c (.lb false)))))) (.leaf (.val (.u (.c (.lb false)))))) (.no 98)) (.no 98)) (.no 98)) (.no 98)) (.no 98)) (.no 98)) (.no 98)) (.no 98)) (.no 98)) (.no 98)) (.no 98)) (.no 98)) (.no 98)) (.no 98)) (.no 98)) (.no 98)) (.no 98)) (.no 98)) (.no 98)) (.no 98)) (.no 98)) (.no 98)) (.no 98)) (.no 98)) (.no 98)) (.no 98)) (.no 98)) (.no 98)) (.no 98)) (.no 98)) (.no 98)) (.no 98)) (.no 98)) (.no 98)) (.no 98)) (.no 98)))))) (by kernel_rfl) ρ rfl ?_ w
  · skip
    have hx : isU x = true := hb0
    have hy : isU y = true := hb1
    have hY := isY_iff.1 hb2
    have eK : iRem c 13 = c % 13 := Int.tmod_eq_emod_of_nonneg hY.1
    have hK0 : 0 ≤ iRem c 13 := by omega
    have hK1 : iRem c 13 ≤ 12 := by omega
    have hC : isC (iRem c 13) = true := isC_iff.2 (by omega)
    have hE : doesE (iRem c 13) = 0 := by unfold doesE; rw [if_neg (by omega)]
    obtain ⟨iA, kA⟩ := const_ok hx
    obtain ⟨iB, kB⟩ := const_ok hy
    obtain ⟨hn, iD, kD⟩ := does_sound iA iB hx hy kA kB (iRem c 13) wide hK0 hK1
    refine brn2 (fun k1 => ?_) (fun k1 => ?_)
    · skip
      refine br2 (fun k2 => ?_) (fun k2 => ?_)
      · skip
        simp only [Tr.all]; try rfl
      · skip
        refine br2 (fun k3 => ?_) (fun k3 => ?_)
        · skip
          refine br2 (fun k4 => ?_) (fun k4 => ?_)
          · skip
            simp only [Tr.all]; try rfl
          · skip
            refine askB (by first | with_reducible assumption | decide) ?_
            refine askB (by first | with_reducible assumption | decide) ?_
            refine askB (by first | with_reducible assumption | decide) ?_
            refine ask10 (b := (bConst x)) (iA.raw) ?_
            refine ask10 (b := (bConst y)) (iB.raw) ?_
            refine askB (by first | with_reducible assumption | decide) ?_
            refine askB (by first | with_reducible assumption | decide) ?_
            refine askB (by first | with_reducible assumption | decide) ?_
            refine ask10 (b := (doesB (iRem c 13) wide (bConst x) (bConst y))) (iD.raw) ?_
            refine brT (by rw [hE]; decide) ?_
            refine brT (by rw [hE]; decide) ?_
            refine brT (by rw [does_alone hx hy (iRem c 13) wide hK0 hK1 (eq_f.1 k2) (fun _ => by rw [k1]; exact eq_f.1 k4)]; exact (one_const hn).1) ?_
            refine brT (by rw [does_alone hx hy (iRem c 13) wide hK0 hK1 (eq_f.1 k2) (fun _ => by rw [k1]; exact eq_f.1 k4), (one_const hn).2]; exact eq_t.2 rfl) ?_
            refine askB (by first | with_reducible assumption | decide) ?_
            refine brT (by rw [does_alone hx hy (iRem c 13) wide hK0 hK1 (eq_f.1 k2) (fun _ => by rw [k1]; exact eq_f.1 k4)]; simp [bAnd, iEq]) ?_
            simp only [Tr.all]; try rfl
        · skip
          refine askB (by first | with_reducible assumption | decide) ?_
          refine askB (by first | with_reducible assumption | decide) ?_
          refine askB (by first | with_reducible assumption | decide) ?_
          refine ask10 (b := (bConst x)) (iA.raw) ?_
          refine ask10 (b := (bConst y)) (iB.raw) ?_
          refine askB (by first | with_reducible assumption | decide) ?_
          refine askB (by first | with_reducible assumption | decide) ?_
          refine askB (by first | with_reducible assumption | decide) ?_
          refine ask10 (b := (doesB (iRem c 13) wide (bConst x) (bConst y))) (iD.raw) ?_
          refine brT (by rw [hE]; decide) ?_
          refine brT (by rw [hE]; decide) ?_
          refine brT (by rw [does_alone hx hy (iRem c 13) wide hK0 hK1 (eq_f.1 k2) (fun q => absurd q (eq_f.1 k3))]; exact (one_const hn).1) ?_
          refine brT (by rw [does_alone hx hy (iRem c 13) wide hK0 hK1 (eq_f.1 k2) (fun q => absurd q (eq_f.1 k3)), (one_const hn).2]; exact eq_t.2 rfl) ?_
          refine askB (by first | with_reducible assumption | decide) ?_
          refine brT (by rw [does_alone hx hy (iRem c 13) wide hK0 hK1 (eq_f.1 k2) (fun q => absurd q (eq_f.1 k3))]; simp [bAnd, iEq]) ?_
          simp only [Tr.all]; try rfl
    · skip
      refine br2 (fun k5 => ?_) (fun k5 => ?_)
      · skip
        simp only [Tr.all]; try rfl
      · skip
        refine br2 (fun k6 => ?_) (fun k6 => ?_)
        · skip
          refine br2 (fun k7 => ?_) (fun k7 => ?_)
          · skip
            simp only [Tr.all]; try rfl
          · skip
            refine askB (by first | with_reducible assumption | decide) ?_
            refine askB (by first | with_reducible assumption | decide) ?_
            refine askB (by first | with_reducible assumption | decide) ?_
            refine ask10 (b := (bConst x)) (iA.raw) ?_
            refine ask10 (b := (bConst y)) (iB.raw) ?_
            refine askB (by first | with_reducible assumption | decide) ?_
            refine askB (by first | with_reducible assumption | decide) ?_
            refine askB (by first | with_reducible assumption | decide) ?_
            refine ask10 (b := (doesB (iRem c 13) wide (bConst x) (bConst y))) (iD.raw) ?_
            refine brT (by rw [hE]; decide) ?_
            refine brT (by rw [hE]; decide) ?_
            refine brT (by rw [does_alone hx hy (iRem c 13) wide hK0 hK1 (eq_f.1 k5) (fun _ => by rw [k1]; show y % 4294967296 ≠ 0; rw [← rem_p hy]; exact eq_f.1 k7)]; exact (one_const hn).1) ?_
            refine brT (by rw [does_alone hx hy (iRem c 13) wide hK0 hK1 (eq_f.1 k5) (fun _ => by rw [k1]; show y % 4294967296 ≠ 0; rw [← rem_p hy]; exact eq_f.1 k7), (one_const hn).2]; exact eq_t.2 rfl) ?_
            refine askB (by first | with_reducible assumption | decide) ?_
            refine brT (by rw [does_alone hx hy (iRem c 13) wide hK0 hK1 (eq_f.1 k5) (fun _ => by rw [k1]; show y % 4294967296 ≠ 0; rw [← rem_p hy]; exact eq_f.1 k7)]; simp [bAnd, iEq]) ?_
            simp only [Tr.all]; try rfl
        · skip
          refine askB (by first | with_reducible assumption | decide) ?_
          refine askB (by first | with_reducible assumption | decide) ?_
          refine askB (by first | with_reducible assumption | decide) ?_
          refine ask10 (b := (bConst x)) (iA.raw) ?_
          refine ask10 (b := (bConst y)) (iB.raw) ?_
          refine askB (by first | with_reducible assumption | decide) ?_
          refine askB (by first | with_reducible assumption | decide) ?_
          refine askB (by first | with_reducible assumption | decide) ?_
          refine ask10 (b := (doesB (iRem c 13) wide (bConst x) (bConst y))) (iD.raw) ?_
          refine brT (by rw [hE]; decide) ?_
          refine brT (by rw [hE]; decide) ?_
          refine brT (by rw [does_alone hx hy (iRem c 13) wide hK0 hK1 (eq_f.1 k5) (fun q => absurd q (eq_f.1 k6))]; exact (one_const hn).1) ?_
          refine brT (by rw [does_alone hx hy (iRem c 13) wide hK0 hK1 (eq_f.1 k5) (fun q => absurd q (eq_f.1 k6)), (one_const hn).2]; exact eq_t.2 rfl) ?_
          refine askB (by first | with_reducible assumption | decide) ?_
          refine brT (by rw [does_alone hx hy (iRem c 13) wide hK0 hK1 (eq_f.1 k5) (fun q => absurd q (eq_f.1 k6))]; simp [bAnd, iEq]) ?_
          simp only [Tr.all]; try rfl
def s_BoundAlone : Sum := bySum 9 [.s (some .u64), .s (some .u64), .s (some .u8), .s none] fun
  | [a0, a1, a2], [o0] => some ([isU a0, isU a1, isY a2], .u (.c (.sb (true))))
  | _, _ => none
theorem s_BoundAlone_ok : SumOK Tryz.prog s_BoundAlone := by
  refine bySum_ok ⟨_, Tryz.func9, by kernel_rfl⟩ ?_
  intro ns os bs r hm hb ρ w
  split at hm
  · rename_i a0 a1 a2 o0
    cases hm
    exact t_BoundAlone a0 a1 a2 o0 (hb _ (by simp)) (hb _ (by simp)) (hb _ (by simp)) ρ w
  · cases hm
end Go.Proofs.YtafpbibpahjnhaaGreat.L05U
