/- Joins for the rows of laws: structs of cells by value; what a well-typed number is. A text of the session's own. -/
import Derived.Test.YtnlohongffpkpaaSxQ
import Derived.ProofKit
import Derived.Below
import Derived.Lib.SmallJoins
namespace Go.Proofs.Ytnlohongffpkpaa.Sx
open Go Go.RowKit Go.ChangeShapes Go.WideShapes Go.ChangeAt Go.Deep

theorem open_aggs {H : Type} {enc : TypeId × Value → H} {P : Program} {w : World} {base : Nat} {spare : Nat → Bool} {held : Bool} {r : Reach} {b0 : Nat} {t : TypeId} {fs : Array Field} {v : Value} {d : DataW H} {p : List MemPlace}
    (hs : P.underlying t = some (.struct fs)) (hone : oneCellFields P fs = true) (hv : Value.okWide P w r b0 t v) (h : DataW.Trod enc P w base spare held t v d p) :
    ∃ (cs : List Value) (n : Nat), v = .agg cs.toArray ∧ cs.length = P.cellsOf t ∧ ∀ (j : Nat) (f : Field) (c : Value), fs[j]? = some f → cs[j]? = some c → ∃ y, DataW.trod enc P w base spare held n f.type [c] = some y := by
  obtain ⟨cs, rfl, hsz⟩ := okWide_struct hs hv
  obtain ⟨fuel, hf⟩ := h
  obtain ⟨xs, n, _, hx, hl, hlen, hall⟩ := DataW.trod_struct hs hf
  refine ⟨cs.toList, n, by simp, by simpa using hsz, fun j f c hj hc => ?_⟩
  obtain ⟨o, k⟩ := hone_of hone j f hj
  have hjx : j < xs.length := by
    have := (Array.getElem?_eq_some_iff.1 hj).1
    omega
  have := hall j f (by simpa using hj)
  refine ⟨xs[j], ?_⟩
  rw [o, k] at this
  have e : ((Value.agg cs).cells.toList.drop j).take 1 = [c] := by
    show (cs.toList.drop j).take 1 = [c]
    rw [List.take_one, List.head?_drop, hc]; rfl
  rw [e] at this
  simpa [List.getElem?_eq_getElem hjx] using this

theorem len7 {cs : List Value} (h : cs.length = 7) : ∃ a b c d e f g, cs = [a, b, c, d, e, f, g] := by
  match cs, h with
  | [a, b, c, d, e, f, g], _ => exact ⟨a, b, c, d, e, f, g, rfl⟩

theorem lit_u64 {x : Int} (h : (Lit.int .u64 x).wf = true) : isU x = true := by
  simp [Lit.wf, IntKind.min, IntKind.max, IntKind.signed, IntKind.bits] at h
  rw [isU_iff]; omega
theorem lit_i64 {x : Int} (h : (Lit.int .i64 x).wf = true) : isI x = true := by
  simp [Lit.wf, IntKind.min, IntKind.max, IntKind.signed, IntKind.bits] at h
  rw [isI_iff]; omega
theorem lit_u8 {x : Int} (h : (Lit.int .u8 x).wf = true) : 0 ≤ x ∧ x < 256 := by
  simp [Lit.wf, IntKind.min, IntKind.max, IntKind.signed, IntKind.bits] at h
  omega
theorem lit_u32 {x : Int} (h : (Lit.int .u32 x).wf = true) : 0 ≤ x ∧ x < 4294967296 := by
  simp [Lit.wf, IntKind.min, IntKind.max, IntKind.signed, IntKind.bits] at h
  omega
end Go.Proofs.Ytnlohongffpkpaa.Sx
