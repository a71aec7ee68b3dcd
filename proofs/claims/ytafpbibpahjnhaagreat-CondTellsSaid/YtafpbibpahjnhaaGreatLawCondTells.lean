/- The law CondTells: its row, out of its walk. Printed by a program of the session's own (row.py). -/
import Derived.Test.YtafpbibpahjnhaaGreatRows
import Derived.Test.YtafpbibpahjnhaaGreatSxR
import Derived.Test.YtafpbibpahjnhaaGreatL06H
import Derived.WalkKit
import Derived.ProofKit
import Derived.OpenShut
import Derived.ShutString
import Derived.ChangeOld
import Derived.Below
import Derived.SizedLaws
import Derived.Lib.SmallJoins
namespace Go.Proofs.YtafpbibpahjnhaaGreat.condTells
open Go.ChangeShapes Go.WideShapes Go.ChangeAt Go.RowKit Go.Joins
set_option linter.unusedVariables false
theorem own : ownKnob Tryz.prog.godebug = none := by kernel_rfl
theorem laidOut : laidOutB Tryz.prog = true := by kernel_rfl
set_option maxRecDepth 100000 in
set_option maxHeartbeats 2000000 in
theorem lifted (os : Os) (started : os.Started) (H : Type) (enc : TypeId × Value → H) :
    ReturnsInHanded {} Tryz.checked os 3 .any (Rows.condTellsSpec.pre6 enc Tryz.prog Tryz.f3 Rows.condTellsRow.domain false) (Rows.condTellsSpec.post enc Tryz.prog Tryz.f3 false true false false) := by
  refine returnsInHanded_of_change_sized (C := Tryz.checked) own started (by kernel_rfl) Tryz.func3
    (ChangeSpec.witness6 (enc := enc) (C := Tryz.checked) false ⟨#[], #[.int .u64 0, .int .u64 0, .agg #[.int .u64 0, .int .u64 0, .int .u64 0, .int .u64 0, .int .u64 0, .int .u32 0, .int .u32 0], .agg #[.int .u64 0, .int .u64 0, .int .u64 0, .int .u64 0, .int .u64 0, .int .u32 0, .int .u32 0], .int .u8 0, .bool false, .bool false], []⟩ 8 (by kernel_rfl) (by kernel_rfl) (by kernel_rfl) (by kernel_rfl)) ?_
  intro W base args ds gs before hval0 hW hcnd hsz0 _
  have hval : ∀ (j : Nat) t v, Tryz.f3.params[j]? = some t → args[j]? = some v → Value.okWide Tryz.prog W .any base t v := hval0
  have hW' := hW
  obtain ⟨p, q, hA0, hV, rfl, hfz, hnd⟩ := hW
  have hA : DataW.TrodAll enc Tryz.prog W 0 (fun _ => true) true Tryz.f3.params.toList args.toList ds p := hA0
  rw [Tryz.params3] at hA hval
  obtain ⟨v0, vs0, d0, ds0, p0, q0, hargs, rfl, rfl, h0, r0⟩ := trodAll_cons hA
  obtain ⟨v1, vs1, d1, ds1, p1, q1, rfl, rfl, rfl, h1, r1⟩ := trodAll_cons r0
  obtain ⟨v2, vs2, d2, ds2, p2, q2, rfl, rfl, rfl, h2, r2⟩ := trodAll_cons r1
  obtain ⟨v3, vs3, d3, ds3, p3, q3, rfl, rfl, rfl, h3, r3⟩ := trodAll_cons r2
  obtain ⟨v4, vs4, d4, ds4, p4, q4, rfl, rfl, rfl, h4, r4⟩ := trodAll_cons r3
  obtain ⟨v5, vs5, d5, ds5, p5, q5, rfl, rfl, rfl, h5, r5⟩ := trodAll_cons r4
  obtain ⟨v6, vs6, d6, ds6, p6, q6, rfl, rfl, rfl, h6, r6⟩ := trodAll_cons r5
  obtain ⟨rfl, rfl, rfl⟩ := trodAll_nil r6
  obtain rfl : args = #[v0, v1, v2, v3, v4, v5, v6] := by cases args; simp_all
  obtain ⟨rfl, rfl⟩ := trodVars_none hV
  obtain ⟨a0, rfl, rfl, rfl, w0⟩ := open_int Tryz.underlying22 (hval 0 22 v0 rfl rfl) h0
  obtain ⟨a1, rfl, rfl, rfl, w1⟩ := open_int Tryz.underlying22 (hval 1 22 v1 rfl rfl) h1
  have k2 := h2
  have lt2 : ∀ x ∈ p2, x.block < W.heap.size := by obtain ⟨m, hm⟩ := k2; exact DataW.trod_lt m _ _ _ hm
  obtain ⟨cs2, n2, rfl, len2, all2⟩ := Sx.open_aggs Tryz.underlying25 (by kernel_rfl) (hval 2 25 v2 rfl rfl) h2
  obtain ⟨c2_0, c2_1, c2_2, c2_3, c2_4, c2_5, c2_6, rfl⟩ := Sx.len7 (len2.trans (by kernel_rfl : Program.cellsOf Tryz.prog 25 = 7))
  obtain ⟨y2_0, e2_0⟩ := all2 0 _ c2_0 rfl rfl
  obtain ⟨y2_1, e2_1⟩ := all2 1 _ c2_1 rfl rfl
  obtain ⟨y2_2, e2_2⟩ := all2 2 _ c2_2 rfl rfl
  obtain ⟨y2_3, e2_3⟩ := all2 3 _ c2_3 rfl rfl
  obtain ⟨y2_4, e2_4⟩ := all2 4 _ c2_4 rfl rfl
  obtain ⟨y2_5, e2_5⟩ := all2 5 _ c2_5 rfl rfl
  obtain ⟨y2_6, e2_6⟩ := all2 6 _ c2_6 rfl rfl
  obtain ⟨a2_0, g2_0, -, w2_0⟩ := DataW.trod_int Tryz.underlying22 e2_0
  obtain rfl : c2_0 = .int .u64 a2_0 := by simpa using g2_0
  obtain ⟨a2_1, g2_1, -, w2_1⟩ := DataW.trod_int Tryz.underlying22 e2_1
  obtain rfl : c2_1 = .int .u64 a2_1 := by simpa using g2_1
  obtain ⟨a2_2, g2_2, -, w2_2⟩ := DataW.trod_int Tryz.underlying22 e2_2
  obtain rfl : c2_2 = .int .u64 a2_2 := by simpa using g2_2
  obtain ⟨a2_3, g2_3, -, w2_3⟩ := DataW.trod_int Tryz.underlying22 e2_3
  obtain rfl : c2_3 = .int .u64 a2_3 := by simpa using g2_3
  obtain ⟨a2_4, g2_4, -, w2_4⟩ := DataW.trod_int Tryz.underlying22 e2_4
  obtain rfl : c2_4 = .int .u64 a2_4 := by simpa using g2_4
  obtain ⟨a2_5, g2_5, -, w2_5⟩ := DataW.trod_int Tryz.underlying23 e2_5
  obtain rfl : c2_5 = .int .u32 a2_5 := by simpa using g2_5
  obtain ⟨a2_6, g2_6, -, w2_6⟩ := DataW.trod_int Tryz.underlying23 e2_6
  obtain rfl : c2_6 = .int .u32 a2_6 := by simpa using g2_6
  have k3 := h3
  have lt3 : ∀ x ∈ p3, x.block < W.heap.size := by obtain ⟨m, hm⟩ := k3; exact DataW.trod_lt m _ _ _ hm
  obtain ⟨cs3, n3, rfl, len3, all3⟩ := Sx.open_aggs Tryz.underlying25 (by kernel_rfl) (hval 3 25 v3 rfl rfl) h3
  obtain ⟨c3_0, c3_1, c3_2, c3_3, c3_4, c3_5, c3_6, rfl⟩ := Sx.len7 (len3.trans (by kernel_rfl : Program.cellsOf Tryz.prog 25 = 7))
  obtain ⟨y3_0, e3_0⟩ := all3 0 _ c3_0 rfl rfl
  obtain ⟨y3_1, e3_1⟩ := all3 1 _ c3_1 rfl rfl
  obtain ⟨y3_2, e3_2⟩ := all3 2 _ c3_2 rfl rfl
  obtain ⟨y3_3, e3_3⟩ := all3 3 _ c3_3 rfl rfl
  obtain ⟨y3_4, e3_4⟩ := all3 4 _ c3_4 rfl rfl
  obtain ⟨y3_5, e3_5⟩ := all3 5 _ c3_5 rfl rfl
  obtain ⟨y3_6, e3_6⟩ := all3 6 _ c3_6 rfl rfl
  obtain ⟨a3_0, g3_0, -, w3_0⟩ := DataW.trod_int Tryz.underlying22 e3_0
  obtain rfl : c3_0 = .int .u64 a3_0 := by simpa using g3_0
  obtain ⟨a3_1, g3_1, -, w3_1⟩ := DataW.trod_int Tryz.underlying22 e3_1
  obtain rfl : c3_1 = .int .u64 a3_1 := by simpa using g3_1
  obtain ⟨a3_2, g3_2, -, w3_2⟩ := DataW.trod_int Tryz.underlying22 e3_2
  obtain rfl : c3_2 = .int .u64 a3_2 := by simpa using g3_2
  obtain ⟨a3_3, g3_3, -, w3_3⟩ := DataW.trod_int Tryz.underlying22 e3_3
  obtain rfl : c3_3 = .int .u64 a3_3 := by simpa using g3_3
  obtain ⟨a3_4, g3_4, -, w3_4⟩ := DataW.trod_int Tryz.underlying22 e3_4
  obtain rfl : c3_4 = .int .u64 a3_4 := by simpa using g3_4
  obtain ⟨a3_5, g3_5, -, w3_5⟩ := DataW.trod_int Tryz.underlying23 e3_5
  obtain rfl : c3_5 = .int .u32 a3_5 := by simpa using g3_5
  obtain ⟨a3_6, g3_6, -, w3_6⟩ := DataW.trod_int Tryz.underlying23 e3_6
  obtain rfl : c3_6 = .int .u32 a3_6 := by simpa using g3_6
  obtain ⟨a4, rfl, rfl, rfl, w4⟩ := open_int Tryz.underlying5 (hval 4 5 v4 rfl rfl) h4
  obtain ⟨a5, rfl, rfl, rfl⟩ := open_bool Tryz.underlying4 (hval 5 4 v5 rfl rfl) h5
  obtain ⟨a6, rfl, rfl, rfl⟩ := open_bool Tryz.underlying4 (hval 6 4 v6 rfl rfl) h6
  clear hA0 hval0 hsz0
  refine (L06H.t_CondTells a0 a1 (L05.Ab.mk a2_0 a2_1 a2_2 a2_3 a2_4 a2_5 a2_6) (L05.Ab.mk a3_0 a3_1 a3_2 a3_3 a3_4 a3_5 a3_6) a4 a5 a6 (Sx.lit_u64 w0) (Sx.lit_u64 w1) (Sx.lit_u64 w2_0) (Sx.lit_u64 w2_1) (Sx.lit_u64 w2_2) (Sx.lit_u64 w2_3) (Sx.lit_u64 w2_4) (L05.isW_iff.2 (Sx.lit_u32 w2_5)) (L05.isW_iff.2 (Sx.lit_u32 w2_6)) (Sx.lit_u64 w3_0) (Sx.lit_u64 w3_1) (Sx.lit_u64 w3_2) (Sx.lit_u64 w3_3) (Sx.lit_u64 w3_4) (L05.isW_iff.2 (Sx.lit_u32 w3_5)) (L05.isW_iff.2 (Sx.lit_u32 w3_6)) (L05.isY_iff.2 (Sx.lit_u8 w4)) (fun _ => 0) W).mono fun e W' ⟨he, bel⟩ => ?_
  subst he
  exact ⟨_, rfl, _, _, _, [], _, [], hW', trodAll_mk1 (shut_bool Tryz.underlying4 _), (trodAll_cons_mk (shut_int Tryz.underlying22 w0) (trodAll_cons_mk (shut_int Tryz.underlying22 w1) (trodAll_cons_mk (Below.trod laidOut (by kernel_rfl) (of_decide_eq_true (by kernel_rfl)) k2 bel lt2) (trodAll_cons_mk (Below.trod laidOut (by kernel_rfl) (of_decide_eq_true (by kernel_rfl)) k3 bel lt3) (trodAll_cons_mk (shut_int Tryz.underlying5 w4) (trodAll_cons_mk (shut_bool Tryz.underlying4 _) (trodAll_cons_mk (shut_bool Tryz.underlying4 _) trodAll_mk0))))))), rfl, bel.frame _, fun h => by cases h⟩
theorem over : Rows.condTellsRow.holds Tryz.pinned (OpenSpec.ofChange Rows.condTellsSpec) :=
  OpenClaim.holds_of_wide 3 Tryz.f3 rfl rfl rfl rfl rfl rfl rfl ⟨rfl, rfl, rfl, rfl, rfl⟩ rfl rfl rfl rfl rfl (by kernel_rfl) Tryz.func3 (by kernel_rfl)
    (of_decide_eq_true (by kernel_rfl)) (by unfold Func.isWrapper; first | (rw [if_pos (by decide +kernel)]; kernel_rfl) | (rw [if_neg (by decide +kernel)]; exact ⟨rfl, rfl⟩))
    (fun os started H enc _ => lifted os started H enc)
theorem proved : Rows.CondTellsSaid := over
#print axioms proved
end Go.Proofs.YtafpbibpahjnhaaGreat.condTells
namespace Go.Proofs.YtafpbibpahjnhaaGreat
/-- The statement. -/
theorem condTells_holds : Rows.CondTellsSaid := condTells.proved
end Go.Proofs.YtafpbibpahjnhaaGreat
