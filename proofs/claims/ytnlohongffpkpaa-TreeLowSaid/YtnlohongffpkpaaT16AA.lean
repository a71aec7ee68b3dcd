/- Layer 16: TreeLow's contract. A text of the session's own. -/
import Derived.Test.YtnlohongffpkpaaT16Z
namespace Go.Proofs.Ytnlohongffpkpaa.T16
open Go Go.RowKit Go.Proofs.Ytnlohongffpkpaa.Sx Go.Proofs Go.WideShapes Go.ChangeShapes
set_option linter.unusedVariables false
set_option linter.unusedSimpArgs false

def both (m1 m2 : Mem) : Mem := fun a => match m1 a with | some o => some o | none => m2 a
theorem both_in {m1 m2 : Mem} {W : World} (h1 : ∀ a o, m1 a = some o → W.heap[a]? = some o) (h2 : ∀ a o, m2 a = some o → W.heap[a]? = some o) : ∀ a o, both m1 m2 a = some o → W.heap[a]? = some o := by
  intro a o h
  unfold both at h
  split at h
  · rename_i o' e; cases h; exact h1 a _ e
  · exact h2 a o h
theorem both_l {m1 m2 : Mem} : ∀ a, m1 a ≠ none → both m1 m2 a = m1 a := by
  intro a h
  unfold both
  cases e : m1 a with
  | none => exact absurd e h
  | some o => rfl
theorem both_r {m1 m2 : Mem} {W : World} (h1 : ∀ a o, m1 a = some o → W.heap[a]? = some o) (h2 : ∀ a o, m2 a = some o → W.heap[a]? = some o) : ∀ a, m2 a ≠ none → both m1 m2 a = m2 a := by
  intro a h
  unfold both
  cases e : m1 a with
  | none => rfl
  | some o =>
    cases e2 : m2 a with
    | none => exact absurd e2 h
    | some o2 =>
      have := (h1 a o e).symm.trans (h2 a o2 e2)
      cases this; rfl
theorem t_low (m : Mem) (c : Int) (k : Value) (l : Value) : runm Try.prog [s_len, s_fresh, s_at, s_insert, s_remove, s_all, s_one, s_deeps, s_digits, s_works] (drawl Try.prog [s_len, s_fresh, s_at, s_insert, s_remove, s_all, s_one, s_deeps, s_digits, s_works] (fun _ k => match Nat.beq k 6 with | true => some ⟨[9], [], [1, 2, 7, 8], []⟩ | false => match Nat.beq k 17 with | true => some ⟨[13], [], [2, 7], []⟩ | false => none)) 300 6 [.u (.c (.si .u16 c)), .u (.c (.sv k)), .u (.c (.sv l))] m [98, 92, 95] = T_low m c k l := by kernel_rfl
theorem low_calls {W : World} {v1 v2 : Value} {c : Int} {ks xs : List Int} {m1 m2 : Mem} (h1 : ∀ a o, m1 a = some o → W.heap[a]? = some o) (hK : Arg v1 ks m1) (hv1 : pl v1 = v1)
    (h2 : ∀ a o, m2 a = some o → W.heap[a]? = some o) (hA : Arg v2 xs m2) (hv2 : pl v2 = v2) (hc : (Lit.int .u16 c).wf = true) : Calls Try.prog 6 #[.int .u16 c, v1, v2] W fun e W' => e = .returned (.bool true) ∧ Below W.heap.size W W' := by
  have hm := both_in h1 h2
  have hS : ∀ q ∈ [s_len, s_fresh, s_at, s_insert, s_remove, s_all, s_one, s_deeps, s_digits, s_works], SumOK Try.prog q := okc s_len_ok (okc s_fresh_ok (okc s_at_ok (okc s_insert_ok (okc s_remove_ok (okc s_all_ok (okc s_one_ok (okc s_deeps_ok (okc s_digits_ok (okc s_works_ok okn)))))))))
  have := memo_sound nameOK hS (drawl_sound nameOK hS (by kernel_rfl) _) 300 _ (both m1 m2) _ (t_low (both m1 m2) c v1 v2) (low_walk (wf_u16 hc) (hK.more both_l) (hA.more (both_r h1 h2))) (fun _ => 0) W hm
  have hvs : (List.map (V.den fun _ => 0) [V.u (U.c (C.si .u16 c)), V.u (U.c (C.sv v1)), V.u (U.c (C.sv v2))]).toArray = #[.int .u16 c, v1, v2] := by
    show #[Value.int .u16 c, pl v1, pl v2] = #[.int .u16 c, v1, v2]
    rw [hv1, hv2]
  rw [hvs] at this
  refine this.mono ?_
  rintro e w' ⟨v', x, ⟨rfl, hk⟩, rfl, g⟩
  exact ⟨rfl, below_of hm g hk⟩
end Go.Proofs.Ytnlohongffpkpaa.T16
