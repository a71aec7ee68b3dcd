/- Layer 16: All's summary. A text of the session's own. -/
import Derived.Test.YtnlohongffpkpaaT16L
namespace Go.Proofs.Ytnlohongffpkpaa.T16
open Go Go.RowKit Go.Proofs.Ytnlohongffpkpaa.Sx Go.Proofs
set_option linter.unusedVariables false
set_option linter.unusedSimpArgs false

theorem inW_of {S : TS} {b : Mem} (hS : S.ok) {w : World} (hm : ∀ a o, S.mem b a = some o → w.heap[a]? = some o) : ∀ {t : T} {u : Int}, Rep S.H u t → InW w.heap.size w t
  | .nil, _, _ => trivial
  | .nd p s g c l r, u, ⟨h1, h2, h3⟩ => by
    obtain ⟨a, rfl, e1, e2⟩ := addr_ne hS h1
    have hh := hm a (.cells (Nd.cells ⟨s, g, l.ptr, r.ptr, u, ((l.size + r.size + 1 : Nat) : Int), c⟩) 98 (0, 0)) (by simp [TS.mem, e1, e2, h1])
    refine ⟨a, rfl, (Array.getElem?_eq_some_iff.1 hh).1, ?_, ?_, ?_, ?_, inW_of hS hm h2, inW_of hS hm h3⟩
    all_goals (unfold World.cell?; rw [hh]; rfl)
theorem len_hans (t : T) : (hans t).length = t.size := by simp [hans, len_nodes]
/-- the slice that All hands back, and where it lies -/
def rowOf (m : Mem) (L : List (Int × Int)) (v : Value) (m' : Mem) : Prop :=
  (L = [] ∧ v = .slice none 0 0 ∧ m' = m) ∨
  ∃ g cap cur, v = .slice (some ⟨g, 0, none⟩) L.length cap ∧ m g = none ∧ m' = alO m g (.cells cur 29 (0, 0)) ∧ L.length ≤ cap ∧ cur.size = cap * 2 ∧ cur.toList.take (L.length * 2) = hCells L
def allP (m : Mem) (t : Int) : Prop := ∃ G : TG, G.is m t ∧ G.t.size < 1099511627776
def allQ (m : Mem) (t : Int) (y : Vars) : Prop := ∀ G : TG, (G.is m t ∧ G.t.size < 1099511627776) → rowOf m (hans G.t) (hdV y.v) y.m
def s_all : Sum := memSum 18 fun m a => match a with | [a0] => (match ptrOf a0 with | some t => some ⟨allP m t, allQ m t, fun y => .u (.c (.sv (hdV y.v)))⟩ | _ => none) | _ => none
theorem pv_inj {p q : Int} (hp : 0 ≤ p) (hq : 0 ≤ q) (h : pv p 0 = pv q 0) : p = q := by
  have := congrArg vP h
  rwa [vP_pv hp, vP_pv hq] at this
theorem inW_nn {n : Nat} {w : World} {t : T} (h : InW n w t) : 0 ≤ t.ptr := by
  cases t with
  | nil => exact Int.le_refl _
  | nd p s g c l r => obtain ⟨b, rfl, _⟩ := h; simp only [T.ptr]; omega
theorem inW_fun {n : Nat} {w : World} : ∀ {t t' : T}, InW n w t → InW n w t' → t.ptr = t'.ptr → hans t = hans t'
  | .nil, .nil, _, _, _ => rfl
  | .nil, .nd p s g c l r, _, ⟨b, hp, _⟩, e => by simp only [T.ptr] at e; omega
  | .nd p s g c l r, .nil, ⟨b, hp, _⟩, _, e => by simp only [T.ptr] at e; omega
  | .nd p s g c l r, .nd p' s' g' c' l' r', ⟨b, hp, hb, c0, c1, c2, c3, hl, hr⟩, ⟨b', hp', hb', c0', c1', c2', c3', hl', hr'⟩, e => by
    simp only [T.ptr] at e
    have : b = b' := by omega
    subst this
    rw [c0] at c0'; rw [c1] at c1'; rw [c2] at c2'; rw [c3] at c3'
    simp only [Option.some.injEq, Value.int.injEq, true_and] at c0' c1' c2' c3'
    subst c0' c1'
    have e1 := inW_fun hl hl' (pv_inj (inW_nn hl) (inW_nn hl') c2')
    have e2 := inW_fun hr hr' (pv_inj (inW_nn hr) (inW_nn hr') c3')
    simp only [hans, nodes, List.map_append, List.map_cons] at e1 e2 ⊢
    rw [e1, e2]
theorem root_cell {S : TS} {b : Mem} {t : T} (h : At S t []) {w : World} (hw : ∀ a o, S.mem b a = some o → w.heap[a]? = some o) : w.cell? ⟨S.t, 0, none⟩ = some (pv t.ptr 0) := by
  have ht := hw S.t (.cells #[pv S.root 0, .map (some S.q)] 95 (0, 0)) (by simp [TS.mem])
  unfold World.cell?; rw [ht, show S.root = t.ptr from h.ctx]; rfl
theorem all_pure (m : Mem) (S : TS) (b : Mem) (t : T) (n : Nat) (hm : m = S.mem b) (hS : Tre S t n) (hsz : t.size < 1099511627776) (w : World) (hw : ∀ a o, m a = some o → w.heap[a]? = some o) :
    Calls Try.prog 18 #[pv S.p 0] w fun e w' => ∃ v m', e = .returned v ∧ rowOf m (hans t) v m' ∧ MemTo m m' w w' := by
  subst hm
  have hok := hS.at'.ok
  have ht := hw S.t (.cells #[pv S.root 0, .map (some S.q)] 95 (0, 0)) (by simp [TS.mem])
  have hlt := (Array.getElem?_eq_some_iff.1 ht).1
  have hc : w.cell? ⟨S.t, 0, none⟩ = some (pv t.ptr 0) := by
    unfold World.cell?; rw [ht, show S.root = t.ptr from hS.at'.ctx]; rfl
  have ltm : ∀ a o, S.mem b a = some o → a < w.heap.size := fun a o h => (Array.getElem?_eq_some_iff.1 (hw a o h)).1
  rw [show pv S.p 0 = .pointer (some ⟨S.t, 0, none⟩) from pv_succ S.t 0]
  refine (all_calls S.t t w hlt hc (inW_of hok hw hS.at'.rep) (by rw [len_hans]; exact hsz)).mono ?_
  rintro e w' ⟨v, rfl, hrow, hb⟩
  rcases hrow.2 with ⟨rfl, h0⟩ | ⟨g, cap, cur, rfl, hg0, hg, h1, h2, h3, h4⟩
  · exact ⟨_, S.mem b, rfl, .inl ⟨List.eq_nil_of_length_eq_zero h0, rfl, rfl⟩, ⟨hb.os, hb.tape, hb.output, hb.size, fun a o h => (hb.block a (ltm a o h)).trans (hw a o h), fun k hk _ => hb.block k hk, fun a o h => .inl (by rw [h]; simp)⟩⟩
  · have hgn : S.mem b g = none := by
      cases h : S.mem b g with
      | none => rfl
      | some o => have := ltm g o h; omega
    refine ⟨_, alO (S.mem b) g (.cells cur 29 (0, 0)), rfl, .inr ⟨g, cap, cur, rfl, hgn, rfl, h1, h3, h4⟩, ⟨hb.os, hb.tape, hb.output, hb.size, fun a o h => ?_, fun k hk _ => hb.block k hk, fun a o h => ?_⟩⟩
    · unfold alO at h
      by_cases e : a = g
      · rw [if_pos e] at h; cases h; subst e; exact hg
      · rw [if_neg e] at h; exact (hb.block a (ltm a o h)).trans (hw a o h)
    · unfold alO at h
      by_cases e : a = g
      · subst e; exact .inr hg0
      · rw [if_neg e] at h; exact .inl (by rw [h]; simp)
theorem s_all_ok : SumOK Try.prog s_all := by
  refine memSum_ok ⟨_, Try.func18, by kernel_rfl⟩ fun m args ms h hp hwf ρ w hm => ?_
  split at h
  · split at h
    · rename_i a0 _ t h0
      cases h
      obtain ⟨⟨S, b, T, n⟩, ⟨e1, e2, e3⟩, e4⟩ := hp
      simp only at e1 e2 e3 e4
      have hv : (List.map (V.den ρ) [a0]).toArray = #[pv S.p 0] := by
        rw [List.map_cons, List.map_nil, ptrOf_den h0, e2]; rfl
      rw [hv]
      refine (all_pure m S b T n e1 e3 e4 w hm).mono ?_
      rintro e w' ⟨v, m', rfl, hr, hM⟩
      refine ⟨⟨[], [], [v], m'⟩, ?_, ?_, hM⟩
      · rintro ⟨S1, b1, T1, n1⟩ ⟨⟨g1, g2, g3⟩, g4⟩
        simp only at g1 g2 g3 g4
        have hT : hans T1 = hans T := by
          have i1 : InW w.heap.size w T := inW_of e3.at'.ok (fun a o h => hm a o (by rw [e1]; exact h)) e3.at'.rep
          have i2 : InW w.heap.size w T1 := inW_of g3.at'.ok (fun a o h => hm a o (by rw [g1]; exact h)) g3.at'.rep
          have r1 := root_cell e3.at' (w := w) (fun a o h => hm a o (by rw [e1]; exact h))
          have r2 := root_cell g3.at' (w := w) (fun a o h => hm a o (by rw [g1]; exact h))
          have et : S1.t = S.t := by rw [e2] at g2; unfold TS.p at g2; omega
          rw [et, r1] at r2
          exact (inW_fun i1 i2 (pv_inj (inW_nn i1) (inW_nn i2) (Option.some.inj r2))).symm
        show rowOf m (hans T1) v m'
        rw [hT]; exact hr
      · rcases hr with ⟨_, rfl, _⟩ | ⟨g, cap, cur, rfl, _⟩ <;> rfl
    · cases h
  · cases h
end Go.Proofs.Ytnlohongffpkpaa.T16
