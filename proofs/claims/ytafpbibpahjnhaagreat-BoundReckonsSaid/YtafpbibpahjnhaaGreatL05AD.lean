/- Layer 5: the walk of BoundReckons. Printed by a program of the session's own (genb.py). -/
import Derived.Test.YtafpbibpahjnhaaGreatL05AC
namespace Go.Proofs.YtafpbibpahjnhaaGreat.L05AD
open Go Go.RowKit Go.Proofs.YtafpbibpahjnhaaGreat.Sx Go.Proofs.YtafpbibpahjnhaaGreat.L05 Go.Proofs.YtafpbibpahjnhaaGreat.L05J Go.Proofs.YtafpbibpahjnhaaGreat.L05P Go.Proofs.YtafpbibpahjnhaaGreat.L05X Go.Proofs.YtafpbibpahjnhaaGreat.L05AC
set_option linter.unusedVariables false
set_option linter.unusedSimpArgs false
open Go.Proofs.YtafpbibpahjnhaaGreat.L04 (mAdd1 mAdd2 mSub1 mSub2 mMul1 mMul2 mDiv1 mDiv2 mMod1 mMod2 mPlus1 mPlus2 mMinus1 mMinus2 mShl1 mShl2 mShr1 mShr2 mSar1 mSar2)
theorem oks_L05AD_0 : ∀ q ∈ [s_works, s_rsync, s_aOf, s_does, s_rdoes, s_lowB, s_rlow], SumOK Tryz.prog q := (okc s_works_ok (okc s_rsync_ok (okc s_aOf_ok (okc s_does_ok (okc s_rdoes_ok (okc s_lowB_ok (okc s_rlow_ok okn)))))))
theorem t_BoundReckons (x : Int) (y : Int) (v : Ab) (q : Ab) (c : Int) (wide : Bool) (hb0 : isU x = true) (hb1 : isU y = true) (hb2 : isU v.1 = true) (hb3 : isU v.2 = true) (hb4 : isU v.3 = true) (hb5 : isU v.4 = true) (hb6 : isU v.5 = true) (hb7 : isW v.6 = true) (hb8 : isW v.7 = true) (hb9 : isU q.1 = true) (hb10 : isU q.2 = true) (hb11 : isU q.3 = true) (hb12 : isU q.4 = true) (hb13 : isU q.5 = true) (hb14 : isW q.6 = true) (hb15 : isW q.7 = true) (hb16 : isY c = true) (ρ : Nat → Nat) (w : World) : Calls Tryz.prog 4 (enV [.s (some .u64), .s (some .u64), .a [some .u64, some .u64, some .u64, some .u64, some .u64, some .u32, some .u32], .a [some .u64, some .u64, some .u64, some .u64, some .u64, some .u32, some .u32], .s (some .u8), .s none] ([x, y, v.1, v.2, v.3, v.4, v.5, v.6, v.7, q.1, q.2, q.3, q.4, q.5, q.6, q.7, c], [wide])).toArray w fun e w' => e = .returned (V.den ρ (.u (.c (.sb (true))))) ∧ Below w.heap.size w w' := by
  refine pure_to nameOK oks_L05AD_0 (dOK oks_L05AD_0) 300 [.u (.c (.si .u64 x)), .u (.c (.si .u64 y)), .u (.agg [.si .u64 v.1, .si .u64 v.2, .si .u64 v.3, .si .u64 v.4, .si .u64 v.5, .si .u32 v.6, .si .u32 v.7]), .u (.agg [.si .u64 q.1, .si .u64 q.2, .si .u64 q.3, .si .u64 q.4, .si .u64 q.5, .si .u32 q.6, .si .u32 q.7]), .u (.c (.si .u8 c)), .u (.c (.sb wide))] (T := (a10 (aOf v x) (a10 (aOf q y) (.br (isC (iRem c 16)) (a10 (sync (aOf v x)) (a10 (sync (aOf q y)) (.br (bNot (iLe (iRem c 16) 12)) (.br (iEq (doesE (iRem c 16)) 20) (.leaf (.val (.u (.c (.sb true))))) (.leaf (.val (.u (.c (.lb false)))))) (.br (iNe (doesE (iRem c 16)) 0) (.leaf (.val (.u (.c (.lb false))))) (.br (isD (iRem c 16)) (.br (invB (sync (aOf v x))) (.br (invB (sync (aOf q y))) (.br (bNot (bAnd (bAnd (iEq (doesB (iRem c 16) wide (sync (aOf v x)) (sync (aOf q y))).1.1 (doesB (iRem c 16) wide (sync (aOf v x)) (sync (aOf q y))).1.1) (iEq (doesB (iRem c 16) wide (sync (aOf v x)) (sync (aOf q y))).1.2 (doesB (iRem c 16) wide (sync (aOf v x)) (sync (aOf q y))).1.2)) (bAnd (bAnd (iEq (doesB (iRem c 16) wide (sync (aOf v x)) (sync (aOf q y))).2.1 (doesB (iRem c 16) wide (sync (aOf v x)) (sync (aOf q y))).2.1) (iEq (doesB (iRem c 16) wide (sync (aOf v x)) (sync (aOf q y))).2.2 (doesB (iRem c 16) wide (sync (aOf v x)) (sync (aOf q y))).2.2)) (bAnd (bAnd (iEq (doesB (iRem c 16) wide (sync (aOf v x)) (sync (aOf q y))).3.1 (doesB (iRem c 16) wide (sync (aOf v x)) (sync (aOf q y))).3.1) (iEq (doesB (iRem c 16) wide (sync (aOf v x)) (sync (aOf q y))).3.2 (doesB (iRem c 16) wide (sync (aOf v x)) (sync (aOf q y))).3.2)) (bAnd (bAnd (iEq (doesB (iRem c 16) wide (sync (aOf v x)) (sync (aOf q y))).4.1 (doesB (iRem c 16) wide (sync (aOf v x)) (sync (aOf q y))).4.1) (iEq (doesB (iRem c 16) wide (sync (aOf v x)) (sync (aOf q y))).4.2 (doesB (iRem c 16) wide (sync (aOf v x)) (sync (aOf q y))).4.2)) (bAnd (iEq (doesB (iRem c 16) wide (sync (aOf v x)) (sync (aOf q y))).5.1 (doesB (iRem c 16) wide (sync (aOf v x)) (sync (aOf q y))).5.1) (iEq (doesB (iRem c 16) wide (sync (aOf v x)) (sync (aOf q y))).5.2 (doesB (iRem c 16) wide (sync (aOf v x)) (sync (aOf q y))).5.2))))))) (.leaf (.val (.u (.c (.lb false))))) (a10 (sync (aOf v x)) (.br (isU 8) (.br (invB (sync (aOf v x))) (.br (bAnd (bAnd (iEq (lowB (sync (aOf v x)) 8).1.1 (lowB (sync (aOf v x)) 8).1.1) (iEq (lowB (sync (aOf v x)) 8).1.2 (lowB (sync (aOf v x)) 8).1.2)) (bAnd (bAnd (iEq (lowB (sync (aOf v x)) 8).2.1 (lowB (sync (aOf v x)) 8).2.1) (iEq (lowB (sync (aOf v x)) 8).2.2 (lowB (sync (aOf v x)) 8).2.2)) (bAnd (bAnd (iEq (lowB (sync (aOf v x)) 8).3.1 (lowB (sync (aOf v x)) 8).3.1) (iEq (lowB (sync (aOf v x)) 8).3.2 (lowB (sync (aOf v x)) 8).3.2)) (bAnd (bAnd (iEq (lowB (sync (aOf v x)) 8).4.1 (lowB (sync (aOf v x)) 8).4.1) (iEq (lowB (sync (aOf v x)) 8).4.2 (lowB (sync (aOf v x)) 8).4.2)) (bAnd (iEq (lowB (sync (aOf v x)) 8).5.1 (lowB (sync (aOf v x)) 8).5.1) (iEq (lowB (sync (aOf v x)) 8).5.2 (lowB (sync (aOf v x)) 8).5.2)))))) (a10 (sync (aOf v x)) (.br (isU 16) (.br (invB (sync (aOf v x))) (.br (bAnd (bAnd (iEq (lowB (sync (aOf v x)) 16).1.1 (lowB (sync (aOf v x)) 16).1.1) (iEq (lowB (sync (aOf v x)) 16).1.2 (lowB (sync (aOf v x)) 16).1.2)) (bAnd (bAnd (iEq (lowB (sync (aOf v x)) 16).2.1 (lowB (sync (aOf v x)) 16).2.1) (iEq (lowB (sync (aOf v x)) 16).2.2 (lowB (sync (aOf v x)) 16).2.2)) (bAnd (bAnd (iEq (lowB (sync (aOf v x)) 16).3.1 (lowB (sync (aOf v x)) 16).3.1) (iEq (lowB (sync (aOf v x)) 16).3.2 (lowB (sync (aOf v x)) 16).3.2)) (bAnd (bAnd (iEq (lowB (sync (aOf v x)) 16).4.1 (lowB (sync (aOf v x)) 16).4.1) (iEq (lowB (sync (aOf v x)) 16).4.2 (lowB (sync (aOf v x)) 16).4.2)) (bAnd (iEq (lowB (sync (aOf v x)) 16).5.1 (lowB (sync (aOf v x)) 16).5.1) (iEq (lowB (sync (aOf v x)) 16).5.2 (lowB (sync (aOf v x)) 16).5.2)))))) (a10 (sync (aOf v x)) (.br (isU 32) (.br (invB (sync (aOf v x))) (.br (bAnd (bAnd (iEq (lowB (sync (aOf v x)) 32).1.1 (lowB (sync (aOf v x)) 32).1.1) (iEq (lowB (sync (aOf v x)) 32).1.2 (lowB (sync (aOf v x)) 32).1.2)) (bAnd (bAnd (iEq (lowB (sync (aOf v x)) 32).2.1 (lowB (sync (aOf v x)) 32).2.1) (iEq (lowB (sync (aOf v x)) 32).2.2 (lowB (sync (aOf v x)) 32).2.2)) (bAnd (bAnd (iEq (lowB (sync (aOf v x)) 32).3.1 (lowB (sync (aOf v x)) 32).3.1) (iEq (lowB (sync (aOf v x)) 32).3.2 (lowB (sync (aOf v x)) 32).3.2)) (bAnd (bAnd (iEq (lowB (sync (aOf v x)) 32).4.1 (lowB (sync (aOf v x)) 32).4.1) (iEq (lowB (sync (aOf v x)) 32).4.2 (lowB (sync (aOf v x)) 32).4.2)) (bAnd (iEq (lowB (sync (aOf v x)) 32).5.1 (lowB (sync (aOf v x)) 32).5.1) (iEq (lowB (sync (aOf v x)) 32).5.2 (lowB (sync (aOf v x)) 32).5.2)))))) (a10 (sync (aOf v x)) (.br (isU 64) (.br (bAnd (bAnd (iEq (lowB (sync (aOf v x)) 64).1.1 (sync (aOf v x)).1.1) (iEq (lowB (sync (aOf v x)) 64).1.2 (sync (aOf v x)).1.2)) (bAnd (bAnd (iEq (lowB (sync (aOf v x)) 64).2.1 (sync (aOf v x)).2.1) (iEq (lowB (sync (aOf v x)) 64).2.2 (sync (aOf v x)).2.2)) (bAnd (bAnd (iEq (lowB (sync (aOf v x)) 64).3.1 (sync (aOf v x)).3.1) (iEq (lowB (sync (aOf v x)) 64).3.2 (sync (aOf v x)).3.2)) (bAnd (bAnd (iEq (lowB (sync (aOf v x)) 64).4.1 (sync (aOf v x)).4.1) (iEq (lowB (sync (aOf v x)) 64).4.2 (sync (aOf v x)).4.2)) (bAnd (iEq (lowB (sync (aOf v x)) 64).5.1 (sync (aOf v x)).5.1) (iEq (lowB (sync (aOf v x)) 64).5.2 (sync (aOf v x)).5.2)))))) (.leaf (.val (.u (.c (.sb true))))) (.leaf (.val (.u (.c (.lb false)))))) (.no 98))) (.leaf (.val (.u (.c (.lb false)))))) (.no 98)) (.no 98))) (.leaf (.val (.u (.c (.lb false)))))) (.no 98)) (.no 98))) (.leaf (.val (.u (.c (.lb false)))))) (.no 98)) (.no 98)))) (.no 98)) (.no 98)) (.no 98)))))) (.no 98))))) (by kernel_rfl) ρ rfl ?_ w
  · have hx : isU x = true := hb0
    have hy : isU y = true := hb1
    have hv : AbOK v := ⟨hb2, hb3, hb4, hb5, hb6, hb7, hb8⟩
    have hq : AbOK q := ⟨hb9, hb10, hb11, hb12, hb13, hb14, hb15⟩
    have hY := isY_iff.1 hb16
    have eK : iRem c 16 = c % 16 := Int.tmod_eq_emod_of_nonneg hY.1
    have hK0 : 0 ≤ iRem c 16 := by omega
    have hK1 : iRem c 16 < 16 := by omega
    have hC : isC (iRem c 16) = true := isC_iff.2 (by omega)
    obtain ⟨iA, kA⟩ := aOf_ok hv hx
    obtain ⟨iB, kB⟩ := aOf_ok hq hy
    have iSA := (sync_ok iA.raw).1
    have iSB := (sync_ok iB.raw).1
    have e64 : lowB (sync (aOf v x)) 64 = (sync (aOf v x)) := by unfold lowB; rw [if_neg (by decide), if_neg (by decide)]
    have vA : invB (sync (aOf v x)) = true := invB_iff.2 iSA
    have vB : invB (sync (aOf q y)) = true := invB_iff.2 iSB
    refine ask10 (b := (aOf v x)) (iA.raw) ?_
    refine ask10 (b := (aOf q y)) (iB.raw) ?_
    refine askB (by first | with_reducible assumption | decide) ?_
    refine ask10 (b := (sync (aOf v x))) (iSA.raw) ?_
    refine ask10 (b := (sync (aOf q y))) (iSB.raw) ?_
    refine brn2 (fun k1 => ?_) (fun k1 => ?_)
    · refine brF (by unfold doesE; rw [if_neg (by have q := le_t.1 k1; omega)]; decide) ?_
      refine askB (isD_iff.2 ⟨hK0, by have q := le_t.1 k1; omega⟩) ?_
      refine askB (by first | with_reducible assumption | decide) ?_
      refine askB (by first | with_reducible assumption | decide) ?_
      refine brnT (by simp [bAnd, iEq]) ?_
      refine ask10 (b := (sync (aOf v x))) (iSA.raw) ?_
      refine askB (by first | with_reducible assumption | decide) ?_
      refine askB (by first | with_reducible assumption | decide) ?_
      refine brT (by simp [bAnd, iEq]) ?_
      refine ask10 (b := (sync (aOf v x))) (iSA.raw) ?_
      refine askB (by first | with_reducible assumption | decide) ?_
      refine askB (by first | with_reducible assumption | decide) ?_
      refine brT (by simp [bAnd, iEq]) ?_
      refine ask10 (b := (sync (aOf v x))) (iSA.raw) ?_
      refine askB (by first | with_reducible assumption | decide) ?_
      refine askB (by first | with_reducible assumption | decide) ?_
      refine brT (by simp [bAnd, iEq]) ?_
      refine ask10 (b := (sync (aOf v x))) (iSA.raw) ?_
      refine askB (by first | with_reducible assumption | decide) ?_
      refine brT (by rw [e64]; simp [bAnd, iEq]) ?_
      simp only [Tr.all]; try rfl
    · refine brT (by unfold doesE; rw [if_pos (by have q := le_f.1 k1; omega)]; decide) ?_
      simp only [Tr.all]; try rfl
def s_BoundReckons : Sum := bySum 4 [.s (some .u64), .s (some .u64), .a [some .u64, some .u64, some .u64, some .u64, some .u64, some .u32, some .u32], .a [some .u64, some .u64, some .u64, some .u64, some .u64, some .u32, some .u32], .s (some .u8), .s none] fun
  | [a0, a1, a2, a3, a4, a5, a6, a7, a8, a9, a10, a11, a12, a13, a14, a15, a16], [o0] => some ([isU a0, isU a1, isU (Ab.mk a2 a3 a4 a5 a6 a7 a8).1, isU (Ab.mk a2 a3 a4 a5 a6 a7 a8).2, isU (Ab.mk a2 a3 a4 a5 a6 a7 a8).3, isU (Ab.mk a2 a3 a4 a5 a6 a7 a8).4, isU (Ab.mk a2 a3 a4 a5 a6 a7 a8).5, isW (Ab.mk a2 a3 a4 a5 a6 a7 a8).6, isW (Ab.mk a2 a3 a4 a5 a6 a7 a8).7, isU (Ab.mk a9 a10 a11 a12 a13 a14 a15).1, isU (Ab.mk a9 a10 a11 a12 a13 a14 a15).2, isU (Ab.mk a9 a10 a11 a12 a13 a14 a15).3, isU (Ab.mk a9 a10 a11 a12 a13 a14 a15).4, isU (Ab.mk a9 a10 a11 a12 a13 a14 a15).5, isW (Ab.mk a9 a10 a11 a12 a13 a14 a15).6, isW (Ab.mk a9 a10 a11 a12 a13 a14 a15).7, isY a16], .u (.c (.sb (true))))
  | _, _ => none
theorem s_BoundReckons_ok : SumOK Tryz.prog s_BoundReckons := by
  refine bySum_ok ⟨_, Tryz.func4, by kernel_rfl⟩ ?_
  intro ns os bs r hm hb ρ w
  split at hm
  · rename_i a0 a1 a2 a3 a4 a5 a6 a7 a8 a9 a10 a11 a12 a13 a14 a15 a16 o0
    cases hm
    exact t_BoundReckons a0 a1 (Ab.mk a2 a3 a4 a5 a6 a7 a8) (Ab.mk a9 a10 a11 a12 a13 a14 a15) a16 o0 (hb _ (by simp)) (hb _ (by simp)) (hb _ (by simp)) (hb _ (by simp)) (hb _ (by simp)) (hb _ (by simp)) (hb _ (by simp)) (hb _ (by simp)) (hb _ (by simp)) (hb _ (by simp)) (hb _ (by simp)) (hb _ (by simp)) (hb _ (by simp)) (hb _ (by simp)) (hb _ (by simp)) (hb _ (by simp)) (hb _ (by simp)) ρ w
  · cases hm
end Go.Proofs.YtafpbibpahjnhaaGreat.L05AD
