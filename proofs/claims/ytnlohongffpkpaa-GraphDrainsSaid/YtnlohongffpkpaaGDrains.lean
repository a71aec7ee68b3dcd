import Derived.Test.YtnlohongffpkpaaGDrains6
import Derived.Test.YtnlohongffpkpaaRows
import Derived.WalkKit
import Derived.ProofKit
import Derived.OpenShut
import Derived.ShutString
import Derived.ChangeOld
import Derived.Below
import Derived.SizedLaws
import Derived.Lib.SmallJoins
/- The law GraphDrains: its row, out of its walk. Printed by a program of the session's own (row.py). -/
namespace Go.Proofs.Ytnlohongffpkpaa.graphDrains
open Go.ChangeShapes Go.WideShapes Go.ChangeAt Go.RowKit Go.Joins
set_option linter.unusedVariables false
theorem own : ownKnob Try.prog.godebug = none := by kernel_rfl
theorem laidOut : laidOutB Try.prog = true := by kernel_rfl
set_option maxRecDepth 100000 in
set_option maxHeartbeats 2000000 in
theorem lifted (os : Os) (started : os.Started) (H : Type) (enc : TypeId × Value → H) :
    ReturnsInHanded {} Try.checked os 9 .any (Rows.graphDrainsSpec.pre6 enc Try.prog Try.f9 Rows.graphDrainsRow.domain false) (Rows.graphDrainsSpec.post enc Try.prog Try.f9 false true false false) := by
  refine returnsInHanded_of_change_sized (C := Try.checked) own started (by kernel_rfl) Try.func9
    (ChangeSpec.witness6 (enc := enc) (C := Try.checked) false ⟨#[], #[.int .u8 0, .bool false, .bool false, .agg #[.int .i64 0, .int .i64 0, .int .i64 0], .agg #[.int .i64 0, .int .i64 0, .int .i64 0]], []⟩ 8 (by kernel_rfl) (by kernel_rfl) (by kernel_rfl) (by kernel_rfl)) ?_
  intro W base args ds gs before hval0 hW hcnd hsz0 _
  have hval : ∀ (j : Nat) t v, Try.f9.params[j]? = some t → args[j]? = some v → Value.okWide Try.prog W .any base t v := hval0
  have hW' := hW
  obtain ⟨p, q, hA0, hV, rfl, hfz, hnd⟩ := hW
  have hA : DataW.TrodAll enc Try.prog W 0 (fun _ => true) true Try.f9.params.toList args.toList ds p := hA0
  rw [Try.params9] at hA hval
  obtain ⟨v0, vs0, d0, ds0, p0, q0, hargs, rfl, rfl, h0, r0⟩ := trodAll_cons hA
  obtain ⟨v1, vs1, d1, ds1, p1, q1, rfl, rfl, rfl, h1, r1⟩ := trodAll_cons r0
  obtain ⟨v2, vs2, d2, ds2, p2, q2, rfl, rfl, rfl, h2, r2⟩ := trodAll_cons r1
  obtain ⟨v3, vs3, d3, ds3, p3, q3, rfl, rfl, rfl, h3, r3⟩ := trodAll_cons r2
  obtain ⟨v4, vs4, d4, ds4, p4, q4, rfl, rfl, rfl, h4, r4⟩ := trodAll_cons r3
  obtain ⟨rfl, rfl, rfl⟩ := trodAll_nil r4
  obtain rfl : args = #[v0, v1, v2, v3, v4] := by cases args; simp_all
  obtain ⟨rfl, rfl⟩ := trodVars_none hV
  obtain ⟨a0, rfl, rfl, rfl, w0⟩ := open_int Try.underlying5 (hval 0 5 v0 rfl rfl) h0
  obtain ⟨a1, rfl, rfl, rfl⟩ := open_bool Try.underlying4 (hval 1 4 v1 rfl rfl) h1
  obtain ⟨a2, rfl, rfl, rfl⟩ := open_bool Try.underlying4 (hval 2 4 v2 rfl rfl) h2
  have k3 := h3
  have lt3 : ∀ x ∈ p3, x.block < W.heap.size := by obtain ⟨m, hm⟩ := k3; exact DataW.trod_lt m _ _ _ hm
  obtain ⟨c3_0, c3_1, c3_2, y3_0, y3_1, y3_2, n3, rfl, rfl, rfl, e3_0, e3_1, e3_2⟩ := open_agg3 Try.underlying59 (by kernel_rfl) (by kernel_rfl) (hval 3 59 v3 rfl rfl) h3
  obtain ⟨a3_0, g3_0, -, w3_0⟩ := DataW.trod_int Try.underlying3 e3_0
  obtain rfl : c3_0 = .int .i64 a3_0 := by simpa using g3_0
  obtain ⟨a3_1, g3_1, -, w3_1⟩ := DataW.trod_int Try.underlying3 e3_1
  obtain rfl : c3_1 = .int .i64 a3_1 := by simpa using g3_1
  obtain ⟨a3_2, g3_2, -, w3_2⟩ := DataW.trod_int Try.underlying3 e3_2
  obtain rfl : c3_2 = .int .i64 a3_2 := by simpa using g3_2
  have k4 := h4
  have lt4 : ∀ x ∈ p4, x.block < W.heap.size := by obtain ⟨m, hm⟩ := k4; exact DataW.trod_lt m _ _ _ hm
  obtain ⟨c4_0, c4_1, c4_2, y4_0, y4_1, y4_2, n4, rfl, rfl, rfl, e4_0, e4_1, e4_2⟩ := open_agg3 Try.underlying59 (by kernel_rfl) (by kernel_rfl) (hval 4 59 v4 rfl rfl) h4
  obtain ⟨a4_0, g4_0, -, w4_0⟩ := DataW.trod_int Try.underlying3 e4_0
  obtain rfl : c4_0 = .int .i64 a4_0 := by simpa using g4_0
  obtain ⟨a4_1, g4_1, -, w4_1⟩ := DataW.trod_int Try.underlying3 e4_1
  obtain rfl : c4_1 = .int .i64 a4_1 := by simpa using g4_1
  obtain ⟨a4_2, g4_2, -, w4_2⟩ := DataW.trod_int Try.underlying3 e4_2
  obtain rfl : c4_2 = .int .i64 a4_2 := by simpa using g4_2
  clear hA0 hval0 hsz0
  refine (T16.drains_calls w0 w3_0 w3_1 w3_2 w4_0 w4_1 w4_2).mono fun e W' ⟨he, bel⟩ => ?_
  subst he
  exact ⟨_, rfl, _, _, _, [], _, [], hW', trodAll_mk1 (shut_bool Try.underlying4 _), (trodAll_cons_mk (shut_int Try.underlying5 w0) (trodAll_cons_mk (shut_bool Try.underlying4 _) (trodAll_cons_mk (shut_bool Try.underlying4 _) (trodAll_cons_mk (Below.trod laidOut (by kernel_rfl) (of_decide_eq_true (by kernel_rfl)) k3 bel lt3) (trodAll_cons_mk (Below.trod laidOut (by kernel_rfl) (of_decide_eq_true (by kernel_rfl)) k4 bel lt4) trodAll_mk0))))), rfl, bel.frame _, fun h => by cases h⟩
theorem over : Rows.graphDrainsRow.holds Try.pinned (OpenSpec.ofChange Rows.graphDrainsSpec) :=
  OpenClaim.holds_of_wide 9 Try.f9 rfl rfl rfl rfl rfl rfl rfl ⟨rfl, rfl, rfl, rfl, rfl⟩ rfl rfl rfl rfl rfl (by kernel_rfl) Try.func9 (by kernel_rfl)
    (of_decide_eq_true (by kernel_rfl)) (by unfold Func.isWrapper; first | (rw [if_pos (by decide +kernel)]; kernel_rfl) | (rw [if_neg (by decide +kernel)]; exact ⟨rfl, rfl⟩))
    (fun os started H enc _ => lifted os started H enc)
theorem proved : Rows.GraphDrainsSaid := over
#print axioms proved
end Go.Proofs.Ytnlohongffpkpaa.graphDrains
namespace Go.Proofs.Ytnlohongffpkpaa
/-- The statement. -/
theorem graphDrains_holds : Rows.GraphDrainsSaid := graphDrains.proved
end Go.Proofs.Ytnlohongffpkpaa
