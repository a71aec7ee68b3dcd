/- Layer 16: TreeOrder's contract. A text of the session's own. -/
import Derived.Test.YtnlohongffpkpaaT16O
import Derived.WalkKit
import Derived.ProofKit
import Derived.OpenShut
import Derived.ChangeOld
import Derived.Below
namespace Go.Proofs.Ytnlohongffpkpaa.T16
open Go Go.RowKit Go.Proofs.Ytnlohongffpkpaa.Sx Go.Proofs Go.WideShapes Go.ChangeShapes
set_option linter.unusedVariables false
set_option linter.unusedSimpArgs false

theorem wf_u16 {n : Int} (h : (Lit.int .u16 n).wf = true) : u16 n := by
  have e1 : IntKind.min .u16 = 0 := rfl
  have e2 : IntKind.max .u16 = 65535 := rfl
  simp only [Lit.wf, e1, e2, Bool.and_eq_true, decide_eq_true_eq] at h
  unfold u16; omega
theorem arg_u16 {H : Type} {enc : TypeId × Value → H} {P : Program} {W : World} {b0 base : Nat} {sp : Nat → Bool} {held : Bool} {r : Reach} {t e : TypeId} {v : Value} {d : DataW H} {ps : List MemPlace} (ht : P.underlying t = some (.slice e)) (he : P.underlying e = some (.int .u16)) (hc : P.cellsOf e = 1)
    (hval : Value.okWide P W r b0 t v) (h : DataW.Trod enc P W base sp held t v d ps) : ∃ xs m, (∀ a o, m a = some o → W.heap[a]? = some o) ∧ Arg v xs m ∧ pl v = v := by
  obtain ⟨a, len, cap, rfl⟩ := okWide_slice ht hval
  obtain ⟨fuel, hf⟩ := h
  rcases open_ints ht he hc hf with ⟨hcs, hx⟩ | ⟨a', len', cap', zs, hcs, _, hl, hm, hz, hx, hcell, hwz⟩
  · simp [Value.cells] at hcs
    obtain ⟨rfl, rfl, rfl⟩ := hcs
    exact ⟨[], fun _ => none, (fun _ _ h => by cases h), ⟨rfl, rfl, fun i x h => (by simp at h), by simp⟩, rfl⟩
  · simp [Value.cells] at hcs
    obtain ⟨rfl, rfl, rfl⟩ := hcs
    have hzl : len ≤ zs.length := by rw [hz]; split <;> omega
    refine ⟨zs.take len, fun c => if c = a'.block then W.heap[c]? else none, fun c o h => ?_, ⟨rfl, ?_, fun i x hx => ?_, fun x hx => wf_u16 (hwz x (List.mem_of_mem_take hx))⟩, rfl⟩
    · simp only at h
      split at h
      · exact h
      · cases h
    · simp [slN, pl, hzl]
    · have hi : i < len := by
        have := (List.getElem?_eq_some_iff.1 hx).1
        rw [List.length_take] at this; omega
      rw [List.getElem?_take_of_lt hi] at hx
      have h0 := hcell 0 (by omega)
      have hci := hcell i (by omega)
      rw [List.getD_eq_getElem?_getD, hx, Option.getD_some] at hci
      obtain ⟨b, o, spt⟩ := a'
      rw [show (⟨b, o, spt⟩ : Addr).add 0 = ⟨b, o, spt⟩ by simp [Addr.add]] at h0
      have hsp : spt = none := by
        unfold World.cell? at h0
        split at h0
        · cases spt with
          | none => rfl
          | some s => simp at h0
        · cases h0
      subst hsp
      rw [add_at] at hci
      unfold World.cell? at hci
      split at hci
      · rename_i cs ty fz hcs
        simp only [Option.isSome_none, Bool.false_eq_true, if_false] at hci
        simp only at hcs hci
        have hg : mget (fun c => if c = b then W.heap[c]? else none) ((b : Int) + 1) = some cs := by
          unfold mget
          rw [show (((b : Int) + 1).toNat) = b + 1 by omega]
          simp [hcs]
        have e0 : aOff o (i : Int) 1 = o + i := by simp [aOff]
        simp only [pl, slB, slO, e0]
        refine ⟨?_, ?_, ?_⟩
        · have : Nat.ble len cap = true := Nat.ble_eq_true_of_le hl
          simp [inSl, isSl, slN, this, hi]
        · unfold okL; rw [hg]; simp [okR, hci, okC, isK]
        · unfold gI mcell; rw [hg]; simp [hci, vI]
      · cases hci
theorem below_of {m m' : Mem} {w w' : World} (hm : ∀ a o, m a = some o → w.heap[a]? = some o) (h : MemTo m m' w w') (hk : ∀ a, m a ≠ none → m' a = m a) : Below w.heap.size w w' := by
  refine ⟨h.os, h.tape, h.output, h.size, fun k hlt => ?_⟩
  cases e : m k with
  | none => exact h.far k hlt e
  | some o => rw [h.sub k o (by rw [hk k (by rw [e]; simp), e]), hm k o e]
theorem t_order (m : Mem) (l : Value) : runm Try.prog [s_len, s_fresh, s_at, s_insert, s_all, s_works] (drawl Try.prog [s_len, s_fresh, s_at, s_insert, s_all, s_works] (fun _ k => match Nat.beq k 5 with | true => some ⟨[4], [], [0, 3], []⟩ | false => match Nat.beq k 8 with | true => some ⟨[5, 6], [], [0, 3, 4], []⟩ | false => match Nat.beq k 19 with | true => some ⟨[12], [], [0, 11], []⟩ | false => none)) 300 3 [.u (.c (.sv l))] m [98, 92, 95] = T_order m l := by kernel_rfl
theorem order_calls {W : World} {v : Value} {xs : List Int} {m : Mem} (hm : ∀ a o, m a = some o → W.heap[a]? = some o) (hA : Arg v xs m) (hv : pl v = v) : Calls Try.prog 3 #[v] W fun e W' => e = .returned (.bool true) ∧ Below W.heap.size W W' := by
  have hS : ∀ q ∈ [s_len, s_fresh, s_at, s_insert, s_all, s_works], SumOK Try.prog q := okc s_len_ok (okc s_fresh_ok (okc s_at_ok (okc s_insert_ok (okc s_all_ok (okc s_works_ok okn)))))
  have := memo_sound nameOK hS (drawl_sound nameOK hS (by kernel_rfl) _) 300 _ m _ (t_order m v) (order_walk hA) (fun _ => 0) W hm
  have hvs : (List.map (V.den fun _ => 0) [V.u (U.c (C.sv v))]).toArray = #[v] := by
    show #[pl v] = #[v]
    rw [hv]
  rw [hvs] at this
  refine this.mono ?_
  rintro e w' ⟨v', x, ⟨rfl, hk⟩, rfl, g⟩
  exact ⟨rfl, below_of hm g hk⟩
end Go.Proofs.Ytnlohongffpkpaa.T16
