/- Layer 16: what is told of all that is unsaid; settles' summary. A text of the session's own. -/
import Derived.Test.YtnlohongffpkpaaT16G
namespace Go.Proofs.Ytnlohongffpkpaa.T16
open Go Go.RowKit Go.Proofs.Ytnlohongffpkpaa.Sx
set_option linter.unusedVariables false
set_option linter.unusedSimpArgs false

theorem sat_all {G : Type} (hne : Nonempty G) : ∀ {T : Tr} {R : G → Leaf → Prop}, (∀ g, T.sat (R g)) → T.sat (fun l => ∀ g, R g l)
  | .leaf l, _, h => h
  | .br b t e, _, h => ⟨fun hb => sat_all hne fun g => (h g).1 hb, fun hb => sat_all hne fun g => (h g).2 hb⟩
  | .no _, _, h => (hne.elim fun g => h g)
  | .req p t, _, h => ⟨hne.elim fun g => (h g).1, sat_all (T := t) hne fun g => (h g).2⟩
  | .any q f, _, h => fun y hq => sat_all (T := f y) hne fun g => h g y hq
  | .letm m f, _, h => sat_all (T := f m) hne h
  | .lp x f, R, h => by
    have hc : ∀ g, ∃ (q : (Vars → Prop) × (Vars → Nat)), q.1 x ∧ ∀ y j, q.1 y → (f y j).sat (inLoop q.1 (q.2 y) q.2 (R g)) := fun g => by
      obtain ⟨I, μ, h1, h2⟩ := h g
      exact ⟨(I, μ), h1, h2⟩
    let I : G → Vars → Prop := fun g => (Classical.choose (hc g)).1
    let μ : G → Vars → Nat := fun g => (Classical.choose (hc g)).2
    have h1 : ∀ g, I g x := fun g => (Classical.choose_spec (hc g)).1
    have h2 : ∀ g y j, I g y → (f y j).sat (inLoop (I g) (μ g y) (μ g) (R g)) := fun g => (Classical.choose_spec (hc g)).2
    obtain ⟨g0⟩ := hne
    refine ⟨fun y => ∀ g, I g y, μ g0, h1, fun y j hI => ?_⟩
    refine sat_mono (fun l hl => ?_) (sat_all (T := f y j) ⟨g0⟩ fun g => h2 g y j (hI g))
    cases l with
    | again y' => exact ⟨fun g => (hl g).1, (hl g0).2⟩
    | up l => exact fun g => hl g
    | _ => exact (hl g0).elim
theorem sat_ghost {G : Type} (hne : Nonempty G) {T : Tr} {p : G → V → Mem → Prop} (h : ∀ g, T.sat (isMemo (p g))) : T.sat (isMemo fun v x => ∀ g, p g v x) := by
  refine sat_mono (fun l hl => ?_) (sat_all hne h)
  cases l with
  | memo v x => exact fun g => hl g
  | _ => exact hne.elim fun g => hl g

structure SettG where
  S : TS
  b : Mem
  i : Bool
  s : Int
  g : Int
  l : T
  r : T
  k : Ctx
  n : Nat
def SettG.pre (G : SettG) (m : Mem) (t x : Int) : Prop :=
  m = G.S.mem G.b ∧ t = G.S.p ∧ At G.S (mkT G.i x G.s G.g true G.l G.r) G.k ∧ RB G.l G.n ∧ RB G.r G.n ∧ red G.l = false ∧ red G.r = false ∧ RBC G.k G.n
def SettG.post (G : SettG) (x : Int) (y : Vars) : Prop := ∃ S', y.m = S'.mem G.b ∧ Settled G.S (nodes (plug (mkT G.i x G.s G.g true G.l G.r) G.k)) S'
def settlesP (m : Mem) (t x : Int) : Prop := ∃ G : SettG, G.pre m t x
def settlesQ (m : Mem) (t x : Int) (y : Vars) : Prop := ∀ G : SettG, G.pre m t x → G.post x y
def s_settles : Sum := memSum 49 fun m a => match a with | [a0, a1] => (match ptrOf a0, ptrOf a1 with | some t, some x => some ⟨settlesP m t x, settlesQ m t x, fun y => .tup []⟩ | _, _ => none) | _ => none
theorem t_settles (m : Mem) (t : Int) (x : Int) : runm Try.prog [s_turn, s_which, s_red] (drawl Try.prog [s_turn, s_which, s_red] (fun _ _ => some ⟨[1], [], [0], []⟩)) 300 49 [.u (.c (.np t 0)), .u (.c (.np x 0))] m [98] = T_settles m t x := by kernel_rfl
theorem s_settles_ok : SumOK Try.prog s_settles := by
  refine memSum_ok ⟨_, Try.func49, by kernel_rfl⟩ fun m args ms h hp hw ρ w hm => ?_
  split at h
  · split at h
    · rename_i a0 a1 _ _ t x h0 h1
      cases h
      have hS : ∀ q ∈ [s_turn, s_which, s_red], SumOK Try.prog q := okc s_turn_ok (okc s_which_ok (okc s_red_ok okn))
      refine mm_calls nameOK hS (drawl_sound nameOK hS (by kernel_rfl) _) 300 _ m _ (t_settles m t x) ρ ?_ w hm (by simp only [List.map_cons, List.map_nil, ptrOf_den h0, ptrOf_den h1])
      obtain ⟨G0, hG0⟩ := hp
      have key := sat_ghost (G := { G : SettG // G.pre m t x }) ⟨⟨G0, hG0⟩⟩ (T := T_settles m t x) (p := fun G v x' => v = .tup [] ∧ G.1.post x ⟨[], [], [], x'⟩) fun ⟨G, hG⟩ => by
        obtain ⟨rfl, rfl, g1, g2, g3, g4, g5, g6⟩ := hG
        exact settles_walk g1 g2 g3 g4 g5 g6
      refine sat_mono (fun l hl => ?_) key
      cases l with
      | memo v x' => exact ⟨⟨[], [], [], x'⟩, fun G hG => (hl ⟨G, hG⟩).2, by rw [(hl ⟨G0, hG0⟩).1], rfl⟩
      | _ => exact hl.elim
    · cases h
  · cases h
end Go.Proofs.Ytnlohongffpkpaa.T16
