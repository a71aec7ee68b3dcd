/- Layer 17: what no graph answers. Printed by a program of the session's own (genb.py). -/
import Derived.Test.YtnlohongffpkpaaProg
import Derived.Test.YtnlohongffpkpaaSxR
namespace Go.Proofs.Ytnlohongffpkpaa.L17
open Go Go.RowKit Go.Proofs.Ytnlohongffpkpaa.Sx
set_option linter.unusedVariables false
set_option linter.unusedSimpArgs false
structure Hd where
  slot : Int
  gen : Int
structure Pl where
  m : Int
  s : Int
  a : Int
theorem nameOK : NameOK Try.prog := nameOK_of (by kernel_rfl)
theorem dOK {S : List Sum} (hS : ∀ q ∈ S, SumOK Try.prog q) : DSnd Try.prog (drawx Try.prog S) := drawx_sound nameOK hS (by kernel_rfl)
theorem t_works  (ρ : Nat → Nat) (w : World) : Calls Try.prog 28 (enV [] ([], [])).toArray w fun e w' => e = .returned (V.den ρ (.u (.c (.sb (true))))) ∧ Below w.heap.size w w' := by
  refine pure_to nameOK okn (dOK okn) 300 [] (T := (.leaf (.val (.u (.c (.lb true)))))) (by kernel_rfl) ρ rfl ?_ w
  · skip
    simp only [Tr.all]; try rfl
def s_works : Sum := bySum 28 [] fun
  | [], [] => some ([], .u (.c (.sb (true))))
  | _, _ => none
theorem s_works_ok : SumOK Try.prog s_works := by
  refine bySum_ok ⟨_, Try.func28, by kernel_rfl⟩ ?_
  intro ns os bs r hm hb ρ w
  split at hm
  · skip
    cases hm
    exact t_works  ρ w
  · cases hm
theorem t_GraphNone (p : Pl) (h : Hd) (node : Int) (ρ : Nat → Nat) (w : World) : Calls Try.prog 12 (enV [.a [some .i64, some .i64, some .i64], .a [some .i64, some .u64], .s (some .i64)] ([p.1, p.2, p.3, h.1, h.2, node], [])).toArray w fun e w' => e = .returned (V.den ρ (.u (.c (.sb (true))))) ∧ Below w.heap.size w w' := by
  refine pure_to nameOK (okc s_works_ok okn) (dOK (okc s_works_ok okn)) 300 [.u (.agg [.si .i64 p.1, .si .i64 p.2, .si .i64 p.3]), .u (.agg [.si .i64 h.1, .si .u64 h.2]), .u (.c (.si .i64 node))] (T := (.leaf (.val (.u (.c (.sb true)))))) (by kernel_rfl) ρ rfl ?_ w
  · skip
    simp only [Tr.all]; try rfl
def s_GraphNone : Sum := bySum 12 [.a [some .i64, some .i64, some .i64], .a [some .i64, some .u64], .s (some .i64)] fun
  | [a0, a1, a2, a3, a4, a5], [] => some ([], .u (.c (.sb (true))))
  | _, _ => none
theorem s_GraphNone_ok : SumOK Try.prog s_GraphNone := by
  refine bySum_ok ⟨_, Try.func12, by kernel_rfl⟩ ?_
  intro ns os bs r hm hb ρ w
  split at hm
  · rename_i a0 a1 a2 a3 a4 a5
    cases hm
    exact t_GraphNone (Pl.mk a0 a1 a2) (Hd.mk a3 a4) a5 ρ w
  · cases hm
end Go.Proofs.Ytnlohongffpkpaa.L17
