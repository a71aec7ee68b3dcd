/- Layer 5: single bounds: what their functions are shown to do. Printed by a program of the session's own (genb.py). -/
import Derived.Test.YtafpbibpahjnhaaGreatProg
import Derived.Test.YtafpbibpahjnhaaGreatL05G
import Derived.Test.YtafpbibpahjnhaaGreatL05I
namespace Go.Proofs.YtafpbibpahjnhaaGreat.L05J
open Go Go.RowKit Go.Proofs.YtafpbibpahjnhaaGreat.Sx Go.Proofs.YtafpbibpahjnhaaGreat.L05
set_option linter.unusedVariables false
set_option linter.unusedSimpArgs false
theorem t_aOf (q : Ab) (x : Int) (ρ : Nat → Nat) (w : World) : Calls Tryz.prog 11 (enV [.a [some .u64, some .u64, some .u64, some .u64, some .u64, some .u32, some .u32], .s (some .u64)] ([q.1, q.2, q.3, q.4, q.5, q.6, q.7, x], [])).toArray w fun e w' => e = .returned (V.den ρ (.u (.agg (cB (aOf q x))))) ∧ Below w.heap.size w w' := by
  refine pure_to nameOK okn (dOK okn) 300 [.u (.agg [.si .u64 q.1, .si .u64 q.2, .si .u64 q.3, .si .u64 q.4, .si .u64 q.5, .si .u32 q.6, .si .u32 q.7]), .u (.c (.si .u64 x))] (T := (.leaf (.val (.u (.agg [(.si .u64 (iBit .andNot .u64 x q.1)), (.si .u64 q.1), (.si .u64 (iSub .u64 x (iMin2 x q.2))), (.si .u64 (iAdd .u64 x (iMin2 (iSub .u64 18446744073709551615 x) q.3))), (.si .i64 (iConv .i64 (iSub .u64 (iSub .u64 (iAdd .u64 x 9223372036854775808) (iMin2 (iAdd .u64 x 9223372036854775808) q.4)) 9223372036854775808))), (.si .i64 (iConv .i64 (iSub .u64 (iAdd .u64 (iAdd .u64 x 9223372036854775808) (iMin2 (iSub .u64 18446744073709551615 (iAdd .u64 x 9223372036854775808)) q.5)) 9223372036854775808))), (.si .u64 (iSub .u64 (iRem x 4294967296) (iMin2 (iRem x 4294967296) (iConv .u64 q.6)))), (.si .u64 (iAdd .u64 (iRem x 4294967296) (iMin2 (iSub .u64 4294967295 (iRem x 4294967296)) (iConv .u64 q.7)))), (.li .i64 (-2147483648)), (.li .i64 2147483647)]))))) (by kernel_rfl) ρ rfl ?_ w
  · simp only [Tr.all]; rfl
def s_aOf : Sum := bySum 11 [.a [some .u64, some .u64, some .u64, some .u64, some .u64, some .u32, some .u32], .s (some .u64)] fun
  | [a0, a1, a2, a3, a4, a5, a6, a7], [] => some ([], .u (.agg (cB (aOf (Ab.mk a0 a1 a2 a3 a4 a5 a6) a7))))
  | _, _ => none
theorem s_aOf_ok : SumOK Tryz.prog s_aOf := by
  refine bySum_ok ⟨_, Tryz.func11, by kernel_rfl⟩ ?_
  intro ns os bs r hm hb ρ w
  split at hm
  · rename_i a0 a1 a2 a3 a4 a5 a6 a7
    cases hm
    exact t_aOf (Ab.mk a0 a1 a2 a3 a4 a5 a6) a7 ρ w
  · cases hm
theorem t_bConst (x : Int) (hb0 : isU x = true) (ρ : Nat → Nat) (w : World) : Calls Tryz.prog 26 (enV [.s (some .u64)] ([x], [])).toArray w fun e w' => e = .returned (V.den ρ (.u (.agg (cB (bConst x))))) ∧ Below w.heap.size w w' := by
  refine pure_to nameOK (okc s_bsign_ok okn) (dOK (okc s_bsign_ok okn)) 300 [.u (.c (.si .u64 x))] (T := (.leaf (.val (.u (.agg [(.si .u64 x), (.li .u64 0), (.si .u64 x), (.si .u64 x), (.si .i64 (iConv .i64 x)), (.si .i64 (iConv .i64 x)), (.si .u64 (iBit .and .u64 x 4294967295)), (.si .u64 (iBit .and .u64 x 4294967295)), (.si .i64 (sg32 x)), (.si .i64 (sg32 x))]))))) (by kernel_rfl) ρ rfl ?_ w
  · have e1 : iConv .i64 x = sgn x := conv_sgn hb0
    have e2 : iBit .and .u64 x 4294967295 = x % 4294967296 := and_low hb0
    simp only [Tr.all, e1, e2]; rfl
def s_bConst : Sum := bySum 26 [.s (some .u64)] fun
  | [a0], [] => some ([isU a0], .u (.agg (cB (bConst a0))))
  | _, _ => none
theorem s_bConst_ok : SumOK Tryz.prog s_bConst := by
  refine bySum_ok ⟨_, Tryz.func26, by kernel_rfl⟩ ?_
  intro ns os bs r hm hb ρ w
  split at hm
  · rename_i a0
    cases hm
    exact t_bConst a0 (hb _ (by simp)) ρ w
  · cases hm
theorem t_tAnd (p : P2) (q : P2) (ρ : Nat → Nat) (w : World) : Calls Tryz.prog 138 (enV [.a [some .u64, some .u64], .a [some .u64, some .u64]] ([p.1, p.2, q.1, q.2], [])).toArray w fun e w' => e = .returned (V.den ρ (.u (.agg [.si .u64 (tAndM p q).1, .si .u64 (tAndM p q).2]))) ∧ Below w.heap.size w w' := by
  refine pure_to nameOK okn (dOK okn) 300 [.u (.agg [.si .u64 p.1, .si .u64 p.2]), .u (.agg [.si .u64 q.1, .si .u64 q.2])] (T := (.leaf (.val (.u (.agg [(.si .u64 (iBit .and .u64 p.1 q.1)), (.si .u64 (iBit .andNot .u64 (iBit .and .u64 (iBit .or .u64 p.1 p.2) (iBit .or .u64 q.1 q.2)) (iBit .and .u64 p.1 q.1)))]))))) (by kernel_rfl) ρ rfl ?_ w
  · simp only [Tr.all]; rfl
def s_tAnd : Sum := bySum 138 [.a [some .u64, some .u64], .a [some .u64, some .u64]] fun
  | [a0, a1, a2, a3], [] => some ([], .u (.agg [.si .u64 (tAndM (P2.mk a0 a1) (P2.mk a2 a3)).1, .si .u64 (tAndM (P2.mk a0 a1) (P2.mk a2 a3)).2]))
  | _, _ => none
theorem s_tAnd_ok : SumOK Tryz.prog s_tAnd := by
  refine bySum_ok ⟨_, Tryz.func138, by kernel_rfl⟩ ?_
  intro ns os bs r hm hb ρ w
  split at hm
  · rename_i a0 a1 a2 a3
    cases hm
    exact t_tAnd (P2.mk a0 a1) (P2.mk a2 a3) ρ w
  · cases hm
theorem t_bOne (b : Bd) (hb0 : isU b.1.1 = true) (hb1 : isU b.1.2 = true) (hb2 : isU b.2.1 = true) (hb3 : isU b.2.2 = true) (hb4 : isI b.3.1 = true) (hb5 : isI b.3.2 = true) (hb6 : isU b.4.1 = true) (hb7 : isU b.4.2 = true) (hb8 : isI b.5.1 = true) (hb9 : isI b.5.2 = true) (ρ : Nat → Nat) (w : World) : Calls Tryz.prog 24 (enV [.a [some .u64, some .u64, some .u64, some .u64, some .i64, some .i64, some .u64, some .u64, some .i64, some .i64]] ([b.1.1, b.1.2, b.2.1, b.2.2, b.3.1, b.3.2, b.4.1, b.4.2, b.5.1, b.5.2], [])).toArray w fun e w' => e = .returned (V.den ρ (.tup [.c (.si .u64 (oneV b)), .c (.sb (oneIs b))])) ∧ Below w.heap.size w w' := by
  refine pure_to nameOK (okc s_bHas_ok okn) (dOK (okc s_bHas_ok okn)) 300 [.u (.agg (cB b))] (T := (.br (iNe b.1.2 0) (.leaf (.val (.tup [(.c (.li .u64 0)), (.c (.lb false))]))) (a10 b (.br (isU b.1.1) (.br (bNot (bHas b b.1.1)) (.leaf (.val (.tup [(.c (.li .u64 0)), (.c (.lb false))]))) (.leaf (.val (.tup [(.c (.si .u64 b.1.1)), (.c (.lb true))])))) (.no 98))))) (by kernel_rfl) ρ rfl ?_ w
  · have rb : Raw5 b := raw_of hb0 hb1 hb2 hb3 hb4 hb5 hb6 hb7 hb8 hb9
    refine br2 (fun k1 => ?_) (fun k1 => ?_)
    · have e : oneIs b = false := by unfold oneIs; rw [decide_eq_false (ne_t.1 k1)]; rfl
      simp only [Tr.all, oneV, e]; rfl
    · refine ask10 (b := b) (by assumption) ?_
      refine askB (by first | with_reducible assumption | with_reducible exact raw_t1 (by assumption) | with_reducible exact raw_t2 (by assumption) | decide) ?_
      refine brn2 (fun k2 => ?_) (fun k2 => ?_)
      · have e : oneIs b = true := by unfold oneIs; rw [decide_eq_true (ne_f.1 k1)]; exact k2
        simp only [Tr.all, oneV, e]; try rfl
      · have e : oneIs b = false := by unfold oneIs; rw [decide_eq_true (ne_f.1 k1)]; exact k2
        simp only [Tr.all, oneV, e]; try rfl
def s_bOne : Sum := bySum 24 [.a [some .u64, some .u64, some .u64, some .u64, some .i64, some .i64, some .u64, some .u64, some .i64, some .i64]] fun
  | [a0, a1, a2, a3, a4, a5, a6, a7, a8, a9], [] => some ([isU (Bd.mk (P2.mk a0 a1) (P2.mk a2 a3) (P2.mk a4 a5) (P2.mk a6 a7) (P2.mk a8 a9)).1.1, isU (Bd.mk (P2.mk a0 a1) (P2.mk a2 a3) (P2.mk a4 a5) (P2.mk a6 a7) (P2.mk a8 a9)).1.2, isU (Bd.mk (P2.mk a0 a1) (P2.mk a2 a3) (P2.mk a4 a5) (P2.mk a6 a7) (P2.mk a8 a9)).2.1, isU (Bd.mk (P2.mk a0 a1) (P2.mk a2 a3) (P2.mk a4 a5) (P2.mk a6 a7) (P2.mk a8 a9)).2.2, isI (Bd.mk (P2.mk a0 a1) (P2.mk a2 a3) (P2.mk a4 a5) (P2.mk a6 a7) (P2.mk a8 a9)).3.1, isI (Bd.mk (P2.mk a0 a1) (P2.mk a2 a3) (P2.mk a4 a5) (P2.mk a6 a7) (P2.mk a8 a9)).3.2, isU (Bd.mk (P2.mk a0 a1) (P2.mk a2 a3) (P2.mk a4 a5) (P2.mk a6 a7) (P2.mk a8 a9)).4.1, isU (Bd.mk (P2.mk a0 a1) (P2.mk a2 a3) (P2.mk a4 a5) (P2.mk a6 a7) (P2.mk a8 a9)).4.2, isI (Bd.mk (P2.mk a0 a1) (P2.mk a2 a3) (P2.mk a4 a5) (P2.mk a6 a7) (P2.mk a8 a9)).5.1, isI (Bd.mk (P2.mk a0 a1) (P2.mk a2 a3) (P2.mk a4 a5) (P2.mk a6 a7) (P2.mk a8 a9)).5.2], .tup [.c (.si .u64 (oneV (Bd.mk (P2.mk a0 a1) (P2.mk a2 a3) (P2.mk a4 a5) (P2.mk a6 a7) (P2.mk a8 a9)))), .c (.sb (oneIs (Bd.mk (P2.mk a0 a1) (P2.mk a2 a3) (P2.mk a4 a5) (P2.mk a6 a7) (P2.mk a8 a9))))])
  | _, _ => none
theorem s_bOne_ok : SumOK Tryz.prog s_bOne := by
  refine bySum_ok ⟨_, Tryz.func24, by kernel_rfl⟩ ?_
  intro ns os bs r hm hb ρ w
  split at hm
  · rename_i a0 a1 a2 a3 a4 a5 a6 a7 a8 a9
    cases hm
    exact t_bOne (Bd.mk (P2.mk a0 a1) (P2.mk a2 a3) (P2.mk a4 a5) (P2.mk a6 a7) (P2.mk a8 a9)) (hb _ (by simp)) (hb _ (by simp)) (hb _ (by simp)) (hb _ (by simp)) (hb _ (by simp)) (hb _ (by simp)) (hb _ (by simp)) (hb _ (by simp)) (hb _ (by simp)) (hb _ (by simp)) ρ w
  · cases hm
end Go.Proofs.YtafpbibpahjnhaaGreat.L05J
