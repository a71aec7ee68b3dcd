/- Layer 16: the laws' example; what a law reads. A text of the session's own. -/
import Derived.Test.YtnlohongffpkpaaT16M
namespace Go.Proofs.Ytnlohongffpkpaa.T16
open Go Go.RowKit Go.Proofs.Ytnlohongffpkpaa.Sx Go.Proofs
set_option linter.unusedVariables false
set_option linter.unusedSimpArgs false

def s_works : Sum := { f := 13, s := fun args => match args with | [] => some ([], .u (.c (.lb true))) | _ => none }
theorem s_works_ok : SumOK Try.prog s_works := by
  refine ⟨⟨(fun _ h => by cases h), (fun _ h => by cases h), (fun _ h => by cases h)⟩, .inr ⟨rfl, .inr ⟨rfl, .inr ⟨rfl, ⟨_, Try.func13, by kernel_rfl⟩, fun args bs r ρ w hs hb => ?_⟩⟩⟩⟩
  simp only [s_works] at hs
  split at hs
  · cases hs
    exact pure_to nameOK okn (dOK okn) 300 [] (T := .leaf (.val (.u (.c (.lb true))))) (by kernel_rfl) ρ rfl (by simp only [Tr.all]) w
  · cases hs

/-! what a law was handed -/
def u16 (x : Int) : Prop := 0 ≤ x ∧ x < 65536
/-- a slice of numbers of 16 bits, in a memory -/
structure Arg (l : Value) (xs : List Int) (m : Mem) : Prop where
  sl : isSlV (pl l) = true
  n : slN (pl l) = xs.length
  at' : ∀ i : Nat, ∀ x, xs[i]? = some x → inSl (pl l) i = true ∧ okL m (slB (pl l)) (aOff (slO (pl l)) i 1) [.li .u16 0] = true ∧ gI m (slB (pl l)) (aOff (slO (pl l)) i 1) = x
  rng : ∀ x ∈ xs, u16 x
theorem mget_more {m m' : Mem} (h : ∀ a, m a ≠ none → m' a = m a) {p : Int} {cs : Array Value} (hp : mget m p = some cs) : mget m' p = some cs := by
  obtain ⟨a, ty, q, e1, e2⟩ := mget_at hp
  unfold mget
  rw [e1]
  simp only [h a (by rw [e2]; simp), e2]
theorem okL_more {m m' : Mem} (h : ∀ a, m a ≠ none → m' a = m a) {p : Int} {k : Nat} {zs : List C} (hp : okL m p k zs = true) : okL m' p k zs = true ∧ ∀ j, mcell m' p j = mcell m p j := by
  unfold okL at hp
  split at hp
  · rename_i cs hc
    have := mget_more h hc
    refine ⟨by unfold okL; rw [this]; exact hp, fun j => by unfold mcell; rw [this, hc]⟩
  · cases hp
theorem Arg.more {l : Value} {xs : List Int} {m m' : Mem} (h : Arg l xs m) (hm : ∀ a, m a ≠ none → m' a = m a) : Arg l xs m' := by
  refine ⟨h.sl, h.n, fun i x hx => ?_, h.rng⟩
  obtain ⟨a1, a2, a3⟩ := h.at' i x hx
  obtain ⟨b1, b2⟩ := okL_more hm a2
  exact ⟨a1, b1, by unfold gI at a3 ⊢; rw [b2]; exact a3⟩
/-- what lay ahead is none of the tree's -/
structure Fre (S : TS) (m : Mem) : Prop where
  t : m S.t = none
  q : m S.q = none
  H : ∀ a : Nat, S.H ((a : Int) + 1) ≠ none → m a = none
theorem Fre.more {S : TS} {m : Mem} (h : Fre S m) : ∀ a, m a ≠ none → S.mem m a = m a := by
  intro a ha
  have h1 : a ≠ S.t := by rintro rfl; exact ha h.t
  have h2 : a ≠ S.q := by rintro rfl; exact ha h.q
  have h3 : S.H ((a : Int) + 1) = none := by
    cases e : S.H ((a : Int) + 1) with
    | none => rfl
    | some d => exact absurd (h.H a (by rw [e]; simp)) ha
  simp [TS.mem, h1, h2, h3]
theorem Fre.ins {S S' : TS} {m : Mem} (h : Fre S m) {a : Nat} (ht : S'.t = S.t) (hq : S'.q = S.q) (ha : S.mem m a = none) (hd : ∀ q, S'.H q = none ↔ S.H q = none ∧ q ≠ (a : Int) + 1) : Fre S' m := by
  obtain ⟨f1, f2, f3⟩ := free_at ha
  have hm : m a = none := by simpa [TS.mem, f1, f2, f3] using ha
  refine ⟨by rw [ht]; exact h.t, by rw [hq]; exact h.q, fun c hc => ?_⟩
  by_cases e : c = a
  · subst e; exact hm
  · refine h.H c fun e2 => hc ((hd _).2 ⟨e2, by omega⟩)
/-- a slice of handles, in a memory -/
structure Row (v : Value) (hs : List (Int × Int)) (m : Mem) : Prop where
  sl : isSlV (pl v) = true
  n : slN (pl v) = hs.length
  at' : ∀ i : Nat, ∀ x, hs[i]? = some x → inSl (pl v) i = true ∧ nzp (slB (pl v)) = true ∧ okL m (slB (pl v)) (aOff (slO (pl v)) i 2) [.li .i64 0] = true ∧ gI m (slB (pl v)) (aOff (slO (pl v)) i 2) = x.1 ∧
    okL m (slB (pl v)) (.succ (aOff (slO (pl v)) i 2)) [.li .u64 0] = true ∧ gI m (slB (pl v)) (.succ (aOff (slO (pl v)) i 2)) = x.2
theorem hCells_get : ∀ (hs : List (Int × Int)) (i : Nat) (x : Int × Int), hs[i]? = some x → (hCells hs)[2 * i]? = some (.int .i64 x.1) ∧ (hCells hs)[2 * i + 1]? = some (.int .u64 x.2)
  | [], i, x, h => by simp at h
  | y :: hs, 0, x, h => by
    simp only [List.getElem?_cons_zero, Option.some.injEq] at h
    subst h
    exact ⟨rfl, rfl⟩
  | y :: hs, i + 1, x, h => by
    simp only [List.getElem?_cons_succ] at h
    obtain ⟨h1, h2⟩ := hCells_get hs i x h
    have e : hCells (y :: hs) = .int .i64 y.1 :: .int .u64 y.2 :: hCells hs := rfl
    rw [e]
    exact ⟨by rw [show 2 * (i + 1) = 2 * i + 1 + 1 by omega, List.getElem?_cons_succ, List.getElem?_cons_succ]; exact h1, by rw [show 2 * (i + 1) + 1 = 2 * i + 1 + 1 + 1 by omega, List.getElem?_cons_succ, List.getElem?_cons_succ]; exact h2⟩
theorem Row.of {m m' : Mem} {hs : List (Int × Int)} {v : Value} (h : rowOf m hs v m') : Row v hs m' ∧ ∀ a, m a ≠ none → m' a = m a := by
  rcases h with ⟨rfl, rfl, rfl⟩ | ⟨g, cap, cur, rfl, hg, rfl, h1, h2, h3⟩
  · exact ⟨⟨rfl, rfl, fun i x h => by simp at h⟩, fun _ _ => rfl⟩
  · refine ⟨⟨rfl, rfl, fun i x hx => ?_⟩, fun a ha => ?_⟩
    · have hlt : i < hs.length := (List.getElem?_eq_some_iff.1 hx).1
      obtain ⟨c1, c2⟩ := hCells_get hs i x hx
      have k1 : cur[2 * i]? = some (.int .i64 x.1) := by
        have : cur.toList[2 * i]? = some (.int .i64 x.1) := by rw [← c1, ← h3, List.getElem?_take_of_lt (by omega)]
        simpa using this
      have k2 : cur[2 * i + 1]? = some (.int .u64 x.2) := by
        have : cur.toList[2 * i + 1]? = some (.int .u64 x.2) := by rw [← c2, ← h3, List.getElem?_take_of_lt (by omega)]
        simpa using this
      have e0 : pl (Value.slice (some ⟨g, 0, none⟩) hs.length cap) = .slice (some ⟨g, 0, none⟩) hs.length cap := rfl
      have hm : mget (alO m g (.cells cur 29 (0, 0))) ((g : Int) + 1) = some cur := by
        unfold mget
        rw [show (((g : Int) + 1).toNat) = g + 1 by omega]
        simp [alO]
      have ea : aOff 0 (i : Int) 2 = 2 * i := by simp [aOff]; omega
      rw [e0]
      simp only [slB, slO, ea]
      refine ⟨?_, nzp_of (by omega), ?_, ?_, ?_, ?_⟩
      · have : Nat.ble hs.length cap = true := Nat.ble_eq_true_of_le h1
        simp [inSl, isSl, slN, this, hlt]
      · unfold okL; rw [hm]; simp [okR, k1, okC, isK]
      · unfold gI mcell; rw [hm]; simp [k1, vI]
      · unfold okL; rw [hm]; simp [okR, k2, okC, isK]
      · unfold gI mcell; rw [hm]; simp [k2, vI]
    · have : a ≠ g := by rintro rfl; exact ha hg
      simp [alO, this]
end Go.Proofs.Ytnlohongffpkpaa.T16
