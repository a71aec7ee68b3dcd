/- Layer 16: what no tree answers. Printed by a program of the session's own (genb.py). -/
import Derived.Test.YtnlohongffpkpaaProg
import Derived.Test.YtnlohongffpkpaaSxR
namespace Go.Proofs.Ytnlohongffpkpaa.L16
open Go Go.RowKit Go.Proofs.Ytnlohongffpkpaa.Sx
set_option linter.unusedVariables false
set_option linter.unusedSimpArgs false
structure Hd where
  slot : Int
  gen : Int
theorem nameOK : NameOK Try.prog := nameOK_of (by kernel_rfl)
theorem dOK {S : List Sum} (hS : ∀ q ∈ S, SumOK Try.prog q) : DSnd Try.prog (drawx Try.prog S) := drawx_sound nameOK hS (by kernel_rfl)
def s_one : Sum := { f := 19, s := fun args => match args with | [.u (.c (.li .i64 n))] => some ([], .u (.agg [.li .i64 n, .li .u64 1])) | _ => none }
theorem s_one_ok : SumOK Try.prog s_one := by
  refine .inr ⟨rfl, .inr ⟨rfl, .inr ⟨rfl, ⟨_, Try.func19, by kernel_rfl⟩, fun args bs r ρ w hs hb => ?_⟩⟩⟩
  simp only [s_one] at hs
  split at hs
  · rename_i n
    cases hs
    exact pure_to nameOK okn (dOK okn) 300 [.u (.c (.li .i64 n))] (T := .leaf (.val (.u (.agg [.li .i64 n, .li .u64 1])))) (by kernel_rfl) ρ rfl (by simp only [Tr.all]) w
  · cases hs
theorem t_works  (ρ : Nat → Nat) (w : World) : Calls Try.prog 13 (enV [] ([], [])).toArray w fun e w' => e = .returned (V.den ρ (.u (.c (.sb (true))))) ∧ Below w.heap.size w w' := by
  refine pure_to nameOK (okc s_one_ok okn) (dOK (okc s_one_ok okn)) 300 [] (T := (.leaf (.val (.u (.c (.lb true)))))) (by kernel_rfl) ρ rfl ?_ w
  · skip
    simp only [Tr.all]; try rfl
def s_works : Sum := bySum 13 [] fun
  | [], [] => some ([], .u (.c (.sb (true))))
  | _, _ => none
theorem s_works_ok : SumOK Try.prog s_works := by
  refine bySum_ok ⟨_, Try.func13, by kernel_rfl⟩ ?_
  intro ns os bs r hm hb ρ w
  split at hm
  · skip
    cases hm
    exact t_works  ρ w
  · cases hm
theorem t_TreeNone (i : Int) (h : Hd) (ρ : Nat → Nat) (w : World) : Calls Try.prog 7 (enV [.s (some .i64), .a [some .i64, some .u64]] ([i, h.1, h.2], [])).toArray w fun e w' => e = .returned (V.den ρ (.u (.c (.sb (true))))) ∧ Below w.heap.size w w' := by
  refine pure_to nameOK (okc s_works_ok okn) (dOK (okc s_works_ok okn)) 300 [.u (.c (.si .i64 i)), .u (.agg [.si .i64 h.1, .si .u64 h.2])] (T := (.leaf (.val (.u (.c (.sb true)))))) (by kernel_rfl) ρ rfl ?_ w
  · skip
    simp only [Tr.all]; try rfl
def s_TreeNone : Sum := bySum 7 [.s (some .i64), .a [some .i64, some .u64]] fun
  | [a0, a1, a2], [] => some ([], .u (.c (.sb (true))))
  | _, _ => none
theorem s_TreeNone_ok : SumOK Try.prog s_TreeNone := by
  refine bySum_ok ⟨_, Try.func7, by kernel_rfl⟩ ?_
  intro ns os bs r hm hb ρ w
  split at hm
  · rename_i a0 a1 a2
    cases hm
    exact t_TreeNone a0 (Hd.mk a1 a2) ρ w
  · cases hm
end Go.Proofs.Ytnlohongffpkpaa.L16
