/- The law BoundKeeps: its row, out of its walk. Printed by a program of the session's own (row.py). -/
import Derived.Test.YtafpbibpahjnhaaGreatRows
import Derived.Test.YtafpbibpahjnhaaGreatSxR
import Derived.Test.YtafpbibpahjnhaaGreatL05K
import Derived.WalkKit
import Derived.ProofKit
import Derived.OpenShut
import Derived.ShutString
import Derived.ChangeOld
import Derived.Below
import Derived.SizedLaws
import Derived.Lib.SmallJoins
namespace Go.Proofs.YtafpbibpahjnhaaGreat.boundKeeps
open Go.ChangeShapes Go.WideShapes Go.ChangeAt Go.RowKit Go.Joins
set_option linter.unusedVariables false
theorem own : ownKnob Tryz.prog.godebug = none := by kernel_rfl
theorem laidOut : laidOutB Tryz.prog = true := by kernel_rfl
set_option maxRecDepth 100000 in
set_option maxHeartbeats 2000000 in
theorem lifted (os : Os) (started : os.Started) (H : Type) (enc : TypeId × Value → H) :
    ReturnsInHanded {} Tryz.checked os 6 .any (Rows.boundKeepsSpec.pre6 enc Tryz.prog Tryz.f6 Rows.boundKeepsRow.domain false) (Rows.boundKeepsSpec.post enc Tryz.prog Tryz.f6 false true false false) := by
  refine returnsInHanded_of_change_sized (C := Tryz.checked) own started (by kernel_rfl) Tryz.func6
    (ChangeSpec.witness6 (enc := enc) (C := Tryz.checked) false ⟨#[], #[.int .u64 0, .agg #[.int .u64 0, .int .u64 0, .int .u64 0, .int .u64 0, .int .u64 0, .int .u32 0, .int .u32 0], .agg #[.int .u64 0, .int .u64 0, .int .u64 0, .int .u64 0, .int .u64 0, .int .u32 0, .int .u32 0], .int .u64 0], []⟩ 8 (by kernel_rfl) (by kernel_rfl) (by kernel_rfl) (by kernel_rfl)) ?_
  intro W base args ds gs before hval0 hW hcnd hsz0 _
  have hval : ∀ (j : Nat) t v, Tryz.f6.params[j]? = some t → args[j]? = some v → Value.okWide Tryz.prog W .any base t v := hval0
  have hW' := hW
  obtain ⟨p, q, hA0, hV, rfl, hfz, hnd⟩ := hW
  have hA : DataW.TrodAll enc Tryz.prog W 0 (fun _ => true) true Tryz.f6.params.toList args.toList ds p := hA0
  rw [Tryz.params6] at hA hval
  obtain ⟨v0, vs0, d0, ds0, p0, q0, hargs, rfl, rfl, h0, r0⟩ := trodAll_cons hA
  obtain ⟨v1, vs1, d1, ds1, p1, q1, rfl, rfl, rfl, h1, r1⟩ := trodAll_cons r0
  obtain ⟨v2, vs2, d2, ds2, p2, q2, rfl, rfl, rfl, h2, r2⟩ := trodAll_cons r1
  obtain ⟨v3, vs3, d3, ds3, p3, q3, rfl, rfl, rfl, h3, r3⟩ := trodAll_cons r2
  obtain ⟨rfl, rfl, rfl⟩ := trodAll_nil r3
  obtain rfl : args = #[v0, v1, v2, v3] := by cases args; simp_all
  obtain ⟨rfl, rfl⟩ := trodVars_none hV
  obtain ⟨a0, rfl, rfl, rfl, w0⟩ := open_int Tryz.underlying22 (hval 0 22 v0 rfl rfl) h0
  have k1 := h1
  have lt1 : ∀ x ∈ p1, x.block < W.heap.size := by obtain ⟨m, hm⟩ := k1; exact DataW.trod_lt m _ _ _ hm
  obtain ⟨cs1, n1, rfl, len1, all1⟩ := Sx.open_aggs Tryz.underlying25 (by kernel_rfl) (hval 1 25 v1 rfl rfl) h1
  obtain ⟨c1_0, c1_1, c1_2, c1_3, c1_4, c1_5, c1_6, rfl⟩ := Sx.len7 (len1.trans (by kernel_rfl : Program.cellsOf Tryz.prog 25 = 7))
  obtain ⟨y1_0, e1_0⟩ := all1 0 _ c1_0 rfl rfl
  obtain ⟨y1_1, e1_1⟩ := all1 1 _ c1_1 rfl rfl
  obtain ⟨y1_2, e1_2⟩ := all1 2 _ c1_2 rfl rfl
  obtain ⟨y1_3, e1_3⟩ := all1 3 _ c1_3 rfl rfl
  obtain ⟨y1_4, e1_4⟩ := all1 4 _ c1_4 rfl rfl
  obtain ⟨y1_5, e1_5⟩ := all1 5 _ c1_5 rfl rfl
  obtain ⟨y1_6, e1_6⟩ := all1 6 _ c1_6 rfl rfl
  obtain ⟨a1_0, g1_0, -, w1_0⟩ := DataW.trod_int Tryz.underlying22 e1_0
  obtain rfl : c1_0 = .int .u64 a1_0 := by simpa using g1_0
  obtain ⟨a1_1, g1_1, -, w1_1⟩ := DataW.trod_int Tryz.underlying22 e1_1
  obtain rfl : c1_1 = .int .u64 a1_1 := by simpa using g1_1
  obtain ⟨a1_2, g1_2, -, w1_2⟩ := DataW.trod_int Tryz.underlying22 e1_2
  obtain rfl : c1_2 = .int .u64 a1_2 := by simpa using g1_2
  obtain ⟨a1_3, g1_3, -, w1_3⟩ := DataW.trod_int Tryz.underlying22 e1_3
  obtain rfl : c1_3 = .int .u64 a1_3 := by simpa using g1_3
  obtain ⟨a1_4, g1_4, -, w1_4⟩ := DataW.trod_int Tryz.underlying22 e1_4
  obtain rfl : c1_4 = .int .u64 a1_4 := by simpa using g1_4
  obtain ⟨a1_5, g1_5, -, w1_5⟩ := DataW.trod_int Tryz.underlying23 e1_5
  obtain rfl : c1_5 = .int .u32 a1_5 := by simpa using g1_5
  obtain ⟨a1_6, g1_6, -, w1_6⟩ := DataW.trod_int Tryz.underlying23 e1_6
  obtain rfl : c1_6 = .int .u32 a1_6 := by simpa using g1_6
  have k2 := h2
  have lt2 : ∀ x ∈ p2, x.block < W.heap.size := by obtain ⟨m, hm⟩ := k2; exact DataW.trod_lt m _ _ _ hm
  obtain ⟨cs2, n2, rfl, len2, all2⟩ := Sx.open_aggs Tryz.underlying25 (by kernel_rfl) (hval 2 25 v2 rfl rfl) h2
  obtain ⟨c2_0, c2_1, c2_2, c2_3, c2_4, c2_5, c2_6, rfl⟩ := Sx.len7 (len2.trans (by kernel_rfl : Program.cellsOf Tryz.prog 25 = 7))
  obtain ⟨y2_0, e2_0⟩ := all2 0 _ c2_0 rfl rfl
  obtain ⟨y2_1, e2_1⟩ := all2 1 _ c2_1 rfl rfl
  obtain ⟨y2_2, e2_2⟩ := all2 2 _ c2_2 rfl rfl
  obtain ⟨y2_3, e2_3⟩ := all2 3 _ c2_3 rfl rfl
  obtain ⟨y2_4, e2_4⟩ := all2 4 _ c2_4 rfl rfl
  obtain ⟨y2_5, e2_5⟩ := all2 5 _ c2_5 rfl rfl
  obtain ⟨y2_6, e2_6⟩ := all2 6 _ c2_6 rfl rfl
  obtain ⟨a2_0, g2_0, -, w2_0⟩ := DataW.trod_int Tryz.underlying22 e2_0
  obtain rfl : c2_0 = .int .u64 a2_0 := by simpa using g2_0
  obtain ⟨a2_1, g2_1, -, w2_1⟩ := DataW.trod_int Tryz.underlying22 e2_1
  obtain rfl : c2_1 = .int .u64 a2_1 := by simpa using g2_1
  obtain ⟨a2_2, g2_2, -, w2_2⟩ := DataW.trod_int Tryz.underlying22 e2_2
  obtain rfl : c2_2 = .int .u64 a2_2 := by simpa using g2_2
  obtain ⟨a2_3, g2_3, -, w2_3⟩ := DataW.trod_int Tryz.underlying22 e2_3
  obtain rfl : c2_3 = .int .u64 a2_3 := by simpa using g2_3
  obtain ⟨a2_4, g2_4, -, w2_4⟩ := DataW.trod_int Tryz.underlying22 e2_4
  obtain rfl : c2_4 = .int .u64 a2_4 := by simpa using g2_4
  obtain ⟨a2_5, g2_5, -, w2_5⟩ := DataW.trod_int Tryz.underlying23 e2_5
  obtain rfl : c2_5 = .int .u32 a2_5 := by simpa using g2_5
  obtain ⟨a2_6, g2_6, -, w2_6⟩ := DataW.trod_int Tryz.underlying23 e2_6
  obtain rfl : c2_6 = .int .u32 a2_6 := by simpa using g2_6
  obtain ⟨a3, rfl, rfl, rfl, w3⟩ := open_int Tryz.underlying22 (hval 3 22 v3 rfl rfl) h3
  clear hA0 hval0 hsz0
  refine (L05J.t_BoundKeeps a0 (L05.Ab.mk a1_0 a1_1 a1_2 a1_3 a1_4 a1_5 a1_6) (L05.Ab.mk a2_0 a2_1 a2_2 a2_3 a2_4 a2_5 a2_6) a3 (Sx.lit_u64 w0) (Sx.lit_u64 w1_0) (Sx.lit_u64 w1_1) (Sx.lit_u64 w1_2) (Sx.lit_u64 w1_3) (Sx.lit_u64 w1_4) (L05.isW_iff.2 (Sx.lit_u32 w1_5)) (L05.isW_iff.2 (Sx.lit_u32 w1_6)) (Sx.lit_u64 w2_0) (Sx.lit_u64 w2_1) (Sx.lit_u64 w2_2) (Sx.lit_u64 w2_3) (Sx.lit_u64 w2_4) (L05.isW_iff.2 (Sx.lit_u32 w2_5)) (L05.isW_iff.2 (Sx.lit_u32 w2_6)) (Sx.lit_u64 w3) (fun _ => 0) W).mono fun e W' ⟨he, bel⟩ => ?_
  subst he
  exact ⟨_, rfl, _, _, _, [], _, [], hW', trodAll_mk1 (shut_bool Tryz.underlying4 _), (trodAll_cons_mk (shut_int Tryz.underlying22 w0) (trodAll_cons_mk (Below.trod laidOut (by kernel_rfl) (of_decide_eq_true (by kernel_rfl)) k1 bel lt1) (trodAll_cons_mk (Below.trod laidOut (by kernel_rfl) (of_decide_eq_true (by kernel_rfl)) k2 bel lt2) (trodAll_cons_mk (shut_int Tryz.underlying22 w3) trodAll_mk0)))), rfl, bel.frame _, fun h => by cases h⟩
theorem over : Rows.boundKeepsRow.holds Tryz.pinned (OpenSpec.ofChange Rows.boundKeepsSpec) :=
  OpenClaim.holds_of_wide 6 Tryz.f6 rfl rfl rfl rfl rfl rfl rfl ⟨rfl, rfl, rfl, rfl, rfl⟩ rfl rfl rfl rfl rfl (by kernel_rfl) Tryz.func6 (by kernel_rfl)
    (of_decide_eq_true (by kernel_rfl)) (by unfold Func.isWrapper; first | (rw [if_pos (by decide +kernel)]; kernel_rfl) | (rw [if_neg (by decide +kernel)]; exact ⟨rfl, rfl⟩))
    (fun os started H enc _ => lifted os started H enc)
theorem proved : Rows.BoundKeepsSaid := over
#print axioms proved
end Go.Proofs.YtafpbibpahjnhaaGreat.boundKeeps
namespace Go.Proofs.YtafpbibpahjnhaaGreat
/-- The statement. -/
theorem boundKeeps_holds : Rows.BoundKeepsSaid := boundKeeps.proved
end Go.Proofs.YtafpbibpahjnhaaGreat
