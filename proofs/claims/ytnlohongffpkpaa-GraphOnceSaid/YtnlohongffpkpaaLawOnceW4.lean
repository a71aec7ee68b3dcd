import Derived.Test.YtnlohongffpkpaaLawOnceW3
import Derived.DeepKeys4
import Derived.RangeFuncKeeps
import Derived.RangeFuncWrites
import Derived.RangeFuncBound
import Derived.RangeFuncLeaves
import Derived.Shelf.Abstract
import Derived.WalkKit
import Derived.OwnWalkIn
import Derived.TacticsInMore
import Derived.Maps.AppendAt
import Derived.ProofKit
import Derived.OpenShut
import Derived.ChangeOld
import Derived.Below
import Derived.Laws.AppendOwn
import Derived.OrdersHeld
set_option linter.unusedVariables false
set_option linter.unusedSimpArgs false
section
/- Layer 16: fills: a black one is missed. A text of the session's own. -/
namespace Go.Proofs.Ytnlohongffpkpaa.T16
open Go Go.RowKit Go.Proofs.Ytnlohongffpkpaa.Sx
set_option linter.unusedVariables false
set_option linter.unusedSimpArgs false

/-- a colour is written -/
theorem At.col {S : TS} {b : Mem} {i : Bool} {p s g : Int} {c : Bool} {x y : T} {k : Ctx} (h : At S (mkT i p s g c x y) k) (v : Bool) {f : Mem → Tr} {Q : Leaf → Prop} {n1 n2 n3 : Nat}
    (hk : ∀ S', S.like S' → At S' (mkT i p s g v x y) k → (f (S'.mem b)).sat Q) :
    (Tr.br (nzp p) (.br (nzp p) (.br (okS (S.mem b) p 6 1) (.letm (wrL (S.mem b) p 6 [.bool v]) f) (.no n1)) (.no n2)) (.no n3)).sat Q := by
  have hp := h.get
  rw [brT (nz_n h.ok hp), brT (nz_n h.ok hp), brT (okS_n h.ok hp rfl), sat_letm, wr_c h.ok hp]
  exact hk _ (like_set hp) (h.setc v)
theorem At.turnS {S0 S : TS} {b : Mem} {k : Ctx} {i : Bool} {xp xs xg yp ys yg : Int} {xc yc : Bool} {a m c : T} (hl : S0.like S) (h : At S (mkT i xp xs xg xc a (mkT i yp ys yg yc m c)) k) {f : Mem → Tr} {Q : Leaf → Prop}
    (hk : ∀ S', S.like S' → At S' (mkT i yp ys yg yc (mkT i xp xs xg xc a m) c) k → (f (S'.mem b)).sat Q) :
    (Tr.req (turnOK (S.mem b) S0.p xp (bi i)) (.letm (turnM (S.mem b) S0.p xp (bi i)) f)).sat Q := by
  obtain ⟨t1, S4, t2, tl, t7⟩ := At.turn (b := b) h
  rw [← like_p hl, sat_req, sat_letm, t2]
  exact ⟨t1, hk S4 tl t7⟩
theorem At.far {S : TS} {i : Bool} {p s g : Int} {c : Bool} {x y : T} {k : Ctx} (h : At S (mkT i p s g c x y) k) : At S y (Fr.mk (!i) p s g c x :: k) := by
  rw [mk_flip i p] at h
  exact At.into (f := Fr.mk (!i) p s g c x) h
theorem At.near {S : TS} {i : Bool} {p s g : Int} {c : Bool} {x y : T} {k : Ctx} (h : At S (mkT i p s g c x y) k) : At S x (Fr.mk i p s g c y :: k) := At.into (f := Fr.mk i p s g c y) h
theorem At.back {S : TS} {i : Bool} {p s g : Int} {c : Bool} {x y : T} {k : Ctx} (h : At S y (Fr.mk (!i) p s g c x :: k)) : At S (mkT i p s g c x y) k := by
  rw [mk_flip i p]; exact h.out
theorem form_of (i : Bool) {t : T} (h : t ≠ .nil) : ∃ p s g c x y, t = mkT i p s g c x y := by
  cases t with
  | nil => exact absurd rfl h
  | nd p s g c l r =>
    obtain ⟨x, y, e⟩ := mk_of i p s g c l r
    exact ⟨p, s, g, c, x, y, e⟩
theorem red_mk' {i : Bool} {p s g : Int} {c : Bool} {x y : T} : red (mkT i p s g c x y) = c := red_mk _ _ _ _ _ _ _
theorem red_nn {t : T} (h : red t = true) : t ≠ .nil := by rintro rfl; cases h
theorem RB_nn {t : T} {n : Nat} (h : RB t (n + 1)) : t ≠ .nil := by rintro rfl; cases h

theorem fillsE_walk {S0 S : TS} {b : Mem} {i : Bool} {p ps pg : Int} {pc : Bool} {t : T} {k : Ctx} {n : Nat} {B bs bg : Int} {near far : T} {L : List (Int × Int × Int)} (hl : S0.like S)
    (h : At S (mkT i p ps pg pc t (mkT i B bs bg false near far)) k) (h1 : RB t n) (h2 : red far = true) (h3 : RBC (Fr.mk i p ps pg pc (mkT i B bs bg false near far) :: k) (n + 1))
    (hL : nodes (plug (mkT i p ps pg pc t (mkT i B bs bg false near far)) k) = L) {Q : Leaf → Prop} (hQ : ∀ S', Settled S0 L S' → Q (.up (.memo (.tup []) (S'.mem b)))) :
    (T_fillsE (S.mem b) S0.p p (bi i) B).sat Q := by
  unfold T_fillsE
  have hp := h.get
  have hs := h.far
  have hB := hs.get
  have hfar : gP (S.mem b) B (bOff (!i)) = far.ptr := (gP_ch h.ok hB (!i)).trans (node_ch' _ _ _ _)
  obtain ⟨F, fs, fg, fc, f1, f2, hF⟩ := form_of i (red_nn h2)
  have hfc : fc = true := by rw [hF, red_mk] at h2; exact h2
  subst hfc
  rw [sub_bi, aOff_bi, hfar, hF, ptr_mk, brT (nz_n h.ok hp), brT (nz_n h.ok hp), brT (okL_6 h.ok hp), gB_c h.ok hp, node_c]
  refine At.col hs pc fun S2 l2 a2 => ?_
  refine At.col a2.out false fun S3 l3 a3 => ?_
  have a4 := (At.into a3 : At S3 (mkT i B bs bg pc near far) (Fr.mk (!i) p ps pg false t :: k)).far
  rw [hF] at a4
  refine At.col a4 false fun S4 l4 a5 => ?_
  have hl4 := ((hl.trans l2).trans l3).trans l4
  refine At.turnS hl4 a5.back.back fun S5 l5 a6 => hQ S5 ?_
  have hx : RB near n ∧ RB f1 n ∧ RB f2 n ∧ ∃ m, RB (plug (mkT i B bs bg pc (mkT i p ps pg false t near) (mkT i F fs fg false f1 f2)) k) m ∧ red (plug (mkT i B bs bg pc (mkT i p ps pg false t near) (mkT i F fs fg false f1 f2)) k) = false := by
    cases pc with
    | true =>
      rw [RBC_red rfl] at h3
      obtain ⟨e1, e2, e3, e4⟩ := h3
      obtain ⟨g1, g2⟩ := RB_blk.1 e1
      rw [hF] at g2
      obtain ⟨g3, g4, g5, g6⟩ := RB_red.1 g2
      exact ⟨g1, g3, g4, plug_RB (n := n + 1) (RB_red.2 ⟨RB_blk.2 ⟨h1, g1⟩, RB_blk.2 ⟨g3, g4⟩, red_mk', red_mk'⟩) (fun _ => e3) e4⟩
    | false =>
      rw [RBC_blk rfl] at h3
      obtain ⟨e1, e4⟩ := h3
      obtain ⟨g1, g2⟩ := RB_blk.1 e1
      rw [hF] at g2
      obtain ⟨g3, g4, g5, g6⟩ := RB_red.1 g2
      exact ⟨g1, g3, g4, plug_RB (n := n + 2) (RB_blk.2 ⟨RB_blk.2 ⟨h1, g1⟩, RB_blk.2 ⟨g3, g4⟩⟩) (fun hh => by rw [red_mk] at hh; cases hh) e4⟩
  obtain ⟨_, _, _, m, g1, g2⟩ := hx
  refine settle_fin (hl4.trans l5) a6.outs ?_ g1 g2
  rw [← hL]
  refine nodes_plug_congr k ?_
  rw [nodes_turn i p ps pg B bs bg pc false false pc t near _]
  exact nodes_mk _ _ _ _ _ _ rfl (nodes_mk _ _ _ _ _ _ rfl (by rw [hF]; exact nodes_c _ _ _ _ _ _ _ _))

theorem fillsR_walk {S0 S : TS} {b : Mem} {i : Bool} {p ps pg : Int} {pc : Bool} {t : T} {k : Ctx} {n : Nat} {B bs bg : Int} {near far : T} {L : List (Int × Int × Int)} (hl : S0.like S)
    (h : At S (mkT i p ps pg pc t (mkT i B bs bg false near far)) k) (h1 : RB t n) (ht : red t = false) (h3 : RBC (Fr.mk i p ps pg pc (mkT i B bs bg false near far) :: k) (n + 1))
    (hL : nodes (plug (mkT i p ps pg pc t (mkT i B bs bg false near far)) k) = L) {Q : Leaf → Prop} (hQ : ∀ S', Settled S0 L S' → Q (.up (.memo (.tup []) (S'.mem b))))
    (hA : pc = false → ∀ S' t', S0.like S' → At S' t' k → RB t' (n + 1) → red t' = false → RBC k (n + 2) → nodes (plug t' k) = L → ∀ z, (∀ f k', k = f :: k' → z = bi f.i) → Q (.again ⟨[topP k, z], [], [], S'.mem b⟩)) :
    (T_fillsR (S.mem b) S0.p p (bi i) B).sat Q := by
  unfold T_fillsR
  have hp := h.get
  have hs := h.far
  have hB := hs.get
  have hfar : gP (S.mem b) B (bOff (!i)) = far.ptr := (gP_ch h.ok hB (!i)).trans (node_ch' _ _ _ _)
  have hnear : gP (S.mem b) B (bOff i) = near.ptr := (gP_ch h.ok hB i).trans (node_ch _ _ _ _)
  obtain ⟨_, rn, rf⟩ := Rep.mk.1 hs.rep
  obtain ⟨q1, q2⟩ := red_at (b := b) h.ok rf
  obtain ⟨q3, q4⟩ := red_at (b := b) h.ok rn
  rw [sub_bi, aOff_bi, aOff_bi, hfar, hnear, inR_bi, inR_bi, brT (nz_n h.ok hB), brT (nz_n h.ok hB), brT (nz_n h.ok hB), brT rfl, brT (okL_ch h.ok hB _), brT (nz_n h.ok hB), brT (nz_n h.ok hB), brT (nz_n h.ok hB), brT rfl, brT (okL_ch h.ok hB _), sat_req]
  refine ⟨q1, ?_⟩
  cases hfr : red far with
  | true =>
    rw [brT (q2.trans hfr)]
    exact fillsE_walk hl h h1 hfr h3 hL hQ
  | false =>
    rw [brF (q2.trans hfr), sat_req]
    refine ⟨q3, ?_⟩
    have hx : RB near n ∧ RB far n := by
      cases pc with
      | true => rw [RBC_red rfl] at h3; exact RB_blk.1 h3.1
      | false => rw [RBC_blk rfl] at h3; exact RB_blk.1 h3.1
    cases hnr : red near with
    | true =>
      rw [brT (q4.trans hnr)]
      obtain ⟨Y, ys, yg, yc, y1, y2, hY⟩ := form_of i (red_nn hnr)
      have hyc : yc = true := by rw [hY, red_mk] at hnr; exact hnr
      subst hyc
      obtain ⟨g3, g4, g5, g6⟩ := RB_red.1 (hY ▸ hx.1)
      have a1 := hs.near
      rw [hY] at a1 ⊢
      rw [ptr_mk]
      refine At.col a1 false fun S2 l2 a2 => ?_
      refine At.col a2.out true fun S3 l3 a3 => ?_
      have a3' := a3
      simp only at a3'
      rw [mk_flip i B, mk_flip i Y] at a3'
      refine At.turnS ((hl.trans l2).trans l3) a3' fun S4 l4 a4 => ?_
      rw [mk_flip (!i) Y, mk_flip (!i) B] at a4
      simp only [Bool.not_not] at a4
      have a5 := a4.back
      have hp5 := a5.get
      have hY5 := a4.get
      have hk5 : gP (S4.mem b) p (bOff (!i)) = Y := (gP_ch a5.ok hp5 (!i)).trans ((node_ch' _ _ _ _).trans (ptr_mk _ _ _ _ _ _ _))
      rw [hk5, brT (nz_n a5.ok hp5), brT (nz_n a5.ok hp5), brT (nz_n a5.ok hp5), brT rfl, brT (okL_ch a5.ok hp5 _), brT (nz_n a5.ok hY5), brT (nz_n a5.ok hY5), brT (nz_n a5.ok hY5), brT rfl, brT (okL_ch a5.ok hY5 _)]
      have hR : RB (mkT i Y ys yg false y1 (mkT i B bs bg true y2 far)) (n + 1) := RB_blk.2 ⟨g3, RB_red.2 ⟨g4, hx.2, g6, hfr⟩⟩
      refine fillsE_walk (((hl.trans l2).trans l3).trans l4) a5 h1 red_mk' ?_ ?_ hQ
      · cases pc with
        | true =>
          rw [RBC_red rfl] at h3 ⊢
          exact ⟨hR, red_mk', h3.2.2.1, h3.2.2.2⟩
        | false =>
          rw [RBC_blk rfl] at h3 ⊢
          exact ⟨hR, h3.2⟩
      · rw [← hL]
        refine nodes_plug_congr k (nodes_mk _ _ _ _ _ _ rfl ?_)
        rw [hY]
        rw [← nodes_turn i Y ys yg B bs bg false true true false y1 y2 far]
    | false =>
      rw [brF (q4.trans hnr)]
      refine At.col hs true fun S2 l2 a2 => ?_
      have a3 := a2.back
      have hp3 := a3.get
      rw [brT (nz_n a3.ok hp3), brT (nz_n a3.ok hp3), brT (okL_6 a3.ok hp3), gB_c a3.ok hp3, node_c]
      have hR : RB (mkT i B bs bg true near far) n := RB_red.2 ⟨hx.1, hx.2, hnr, hfr⟩
      have hN : ∀ c, nodes (plug (mkT i p ps pg c t (mkT i B bs bg true near far)) k) = L := fun c => by
        rw [← hL]
        exact nodes_plug_congr k (nodes_mk _ _ _ _ _ _ rfl (nodes_c _ _ _ _ _ _ _ _))
      cases pc with
      | true =>
        rw [brT rfl]
        refine At.col a3 false fun S3 l3 a4 => ?_
        refine hQ S3 ?_
        rw [RBC_red rfl] at h3
        obtain ⟨m, g1, g2⟩ := plug_RB (k := k) (n := n + 1) (RB_blk.2 ⟨h1, hR⟩ : RB (mkT i p ps pg false t (mkT i B bs bg true near far)) (n + 1)) (fun hh => by rw [red_mk] at hh; cases hh) h3.2.2.2
        exact settle_fin ((hl.trans l2).trans l3) a4.outs (hN false) g1 g2
      | false =>
        rw [brF rfl, sat_req]
        have hu : gP (S2.mem b) p 4 = topP k := (gP_u a3.ok hp3).trans (node_u _ _ _ _)
        rw [RBC_blk rfl] at h3
        have hw : whichOK (S2.mem b) p ∧ ∀ f k', k = f :: k' → whichV (S2.mem b) p = bi f.i := by
          cases k with
          | nil => exact ⟨(which_top (b := b) a3.ok hp3 (node_u _ _ _ _)).1, fun f k' e => by cases e⟩
          | cons f k =>
            obtain ⟨w1, w2⟩ := At.which (b := b) a3
            exact ⟨w1, fun f' k' e => by cases e; exact w2⟩
        refine ⟨hw.1, ?_⟩
        rw [brT (nz_n a3.ok hp3), brT (nz_n a3.ok hp3), brT (okL_4 a3.ok hp3), sat_req, hu]
        refine ⟨by simp, ?_⟩
        exact hA rfl S2 _ (hl.trans l2) a3 (RB_blk.2 ⟨h1, hR⟩) red_mk' h3.2 (hN false) _ hw.2

theorem fills_walk {S : TS} {b : Mem} {t : T} {k : Ctx} {n : Nat} {z : Int} (h : At S t k) (h1 : RB t n) (ht : red t = false) (h3 : RBC k (n + 1)) (hz : ∀ f k', k = f :: k' → z = bi f.i) :
    (T_fills (S.mem b) S.p (topP k) z).sat (isMemo fun v m => v = .tup [] ∧ ∃ S', m = S'.mem b ∧ Settled S (nodes (plug t k)) S') := by
  generalize hL : nodes (plug t k) = L
  unfold T_fills
  let J : Nat → Vars → Prop := fun N y => ∃ (t : T) (k : Ctx) (n : Nat) (z : Int) (S1 : TS), N = k.length ∧ y = ⟨[topP k, z], [], [], S1.mem b⟩ ∧ S.like S1 ∧ At S1 t k ∧ RB t n ∧ red t = false ∧ RBC k (n + 1) ∧ (∀ f k', k = f :: k' → z = bi f.i) ∧ nodes (plug t k) = L
  refine lp_idx J (n0 := k.length) ⟨t, k, n, z, S, rfl, rfl, TS.like.refl S, h, h1, ht, h3, hz, hL⟩ ?_
  clear h h1 ht h3 hz hL
  rintro N y j ⟨t, k, n, z, S1, rfl, rfl, hl, h, h1, ht, h3, hz, hL⟩
  have hQ : ∀ S', Settled S L S' → inLoopJ J k.length (isMemo fun v m => v = .tup [] ∧ ∃ S', m = S'.mem b ∧ Settled S L S') (.up (.memo (.tup []) (S'.mem b))) := fun S' hs => ⟨rfl, S', rfl, hs⟩
  simp only [hdI, tlI]
  rw [brT (cmp_zero _ _)]
  cases k with
  | nil =>
    rw [brF (by rfl)]
    exact hQ S1 (settle_fin hl h hL h1 ht)
  | cons f k =>
    obtain ⟨i, p, ps, pg, pc, o⟩ := f
    have hzi : z = bi i := hz _ _ rfl
    subst hzi
    have hp := h.getf
    have htop : topP (Fr.mk i p ps pg pc o :: k) = p := rfl
    have hpz : peq p 0 = false := by
      rw [peq_zero (Int.le_of_lt (h.ok.nd p _ hp).1)]
      simp [p_ne0 h.ok hp]
    have h0 : At S1 (mkT i p ps pg pc t o) k := h.out
    have hRo : RB o (n + 1) := h3.1
    obtain ⟨B, bs, bg, bc, near, far, hB⟩ := form_of i (RB_nn hRo)
    subst hB
    have hp0 := h0.get
    have hB := h0.far.get
    have hb : gP (S1.mem b) p (bOff (!i)) = B := (gP_ch h0.ok hp0 (!i)).trans ((node_ch' _ _ _ _).trans (ptr_mk _ _ _ _ _ _ _))
    rw [htop, brT (by rw [hpz]; rfl), sub_bi, aOff_bi, hb, brT (nz_n h0.ok hp0), brT (nz_n h0.ok hp0), brT (nz_n h0.ok hp0), brT (inR_bi _), brT (okL_ch h0.ok hp0 _), brT (nz_n h0.ok hB), brT (nz_n h0.ok hB), brT (okL_6 h0.ok hB), gB_c h0.ok hB, node_c]
    have hA : ∀ S' t', S.like S' → At S' t' k → RB t' (n + 1) → red t' = false → RBC k (n + 2) → nodes (plug t' k) = L → ∀ z, (∀ f k', k = f :: k' → z = bi f.i) → inLoopJ J (k.length + 1) (isMemo fun v m => v = .tup [] ∧ ∃ S', m = S'.mem b ∧ Settled S L S') (.again ⟨[topP k, z], [], [], S'.mem b⟩) :=
      fun S' t' g1 g2 g3 g4 g5 g6 z g7 => ⟨k.length, Nat.lt_succ_self _, t', k, n + 1, z, S', rfl, rfl, g1, g2, g3, g4, g5, g7, g6⟩
    cases bc with
    | false =>
      rw [brF rfl]
      exact fillsR_walk hl h0 h1 ht h3 hL hQ (fun _ => hA)
    | true =>
      rw [brT rfl]
      have hpc : pc = false := by
        cases pc with
        | false => rfl
        | true => rw [RBC_red rfl] at h3; have := h3.2.1; rw [red_mk] at this; cases this
      subst hpc
      rw [RBC_blk rfl] at h3
      obtain ⟨g3, g4, g5, g6⟩ := RB_red.1 hRo
      refine At.col h0.far false fun S2 l2 a2 => ?_
      refine At.col a2.back true fun S3 l3 a3 => ?_
      refine At.turnS ((hl.trans l2).trans l3) a3 fun S4 l4 a4 => ?_
      obtain ⟨N, ns, ng, nc, n1, n2, hN⟩ := form_of i (RB_nn g3)
      have hnc : nc = false := by rw [hN, red_mk] at g5; exact g5
      subst hnc
      subst hN
      have a5 := a4.near
      have hp5 := a5.get
      have hk5 : gP (S4.mem b) p (bOff (!i)) = N := (gP_ch a5.ok hp5 (!i)).trans ((node_ch' _ _ _ _).trans (ptr_mk _ _ _ _ _ _ _))
      rw [hk5, brT (nz_n a5.ok hp5), brT (nz_n a5.ok hp5), brT (nz_n a5.ok hp5), brT (inR_bi _), brT (okL_ch a5.ok hp5 _)]
      refine fillsR_walk (((hl.trans l2).trans l3).trans l4) a5 h1 ht ?_ ?_ hQ (fun e => by cases e)
      · rw [RBC_red rfl, RBC_blk rfl]
        exact ⟨g3, red_mk', rfl, g4, h3.2⟩
      · rw [← hL]
        refine nodes_plug_congr k ?_
        rw [Fr.mk', Fr.mk', nodes_turn i p ps pg B bs bg true true true false t _ far]
        exact (nodes_mk _ _ _ _ _ _ rfl rfl)

structure FillG where
  S : TS
  b : Mem
  t : T
  k : Ctx
  n : Nat
def FillG.pre (G : FillG) (m : Mem) (t p s : Int) : Prop :=
  m = G.S.mem G.b ∧ t = G.S.p ∧ p = topP G.k ∧ At G.S G.t G.k ∧ RB G.t G.n ∧ red G.t = false ∧ RBC G.k (G.n + 1) ∧ (∀ f k', G.k = f :: k' → s = bi f.i)
def FillG.post (G : FillG) (y : Vars) : Prop := ∃ S', y.m = S'.mem G.b ∧ Settled G.S (nodes (plug G.t G.k)) S'
def fillsP (m : Mem) (t p s : Int) : Prop := ∃ G : FillG, G.pre m t p s
def fillsQ (m : Mem) (t p s : Int) (y : Vars) : Prop := ∀ G : FillG, G.pre m t p s → G.post y
def s_fills : Sum := memSum 53 fun m a => match a with | [a0, a1, a2] => (match ptrOf a0, ptrOf a1, intOf a2 with | some t, some p, some s => some ⟨fillsP m t p s, fillsQ m t p s, fun y => .tup []⟩ | _, _, _ => none) | _ => none
theorem t_fills (m : Mem) (t : Int) (p : Int) (s : Int) : runm Try.prog [s_turn, s_which, s_red] (drawl Try.prog [s_turn, s_which, s_red] (fun _ _ => some ⟨[1, 2], [], [0], []⟩)) 300 53 [.u (.c (.np t 0)), .u (.c (.np p 0)), .u (.c (.si .i64 s))] m [98] = T_fills m t p s := by kernel_rfl
theorem s_fills_ok : SumOK Try.prog s_fills := by
  refine memSum_ok ⟨_, Try.func53, by kernel_rfl⟩ fun m args ms h hp hw ρ w hm => ?_
  split at h
  · split at h
    · rename_i a0 a1 a2 _ _ _ t p s h0 h1 h2
      cases h
      have hS : ∀ q ∈ [s_turn, s_which, s_red], SumOK Try.prog q := okc s_turn_ok (okc s_which_ok (okc s_red_ok okn))
      refine mm_calls nameOK hS (drawl_sound nameOK hS (by kernel_rfl) _) 300 _ m _ (t_fills m t p s) ρ ?_ w hm (by simp only [List.map_cons, List.map_nil, ptrOf_den h0, ptrOf_den h1, intOf_den h2])
      obtain ⟨G0, hG0⟩ := hp
      have key := sat_ghost (G := { G : FillG // G.pre m t p s }) ⟨⟨G0, hG0⟩⟩ (T := T_fills m t p s) (p := fun G v x' => v = .tup [] ∧ G.1.post ⟨[], [], [], x'⟩) fun ⟨G, hG⟩ => by
        obtain ⟨rfl, rfl, rfl, g1, g2, g3, g4, g5⟩ := hG
        exact fills_walk g1 g2 g3 g4 g5
      refine sat_mono (fun l hl => ?_) key
      cases l with
      | memo v x' => exact ⟨⟨[], [], [], x'⟩, fun G hG => (hl ⟨G, hG⟩).2, by rw [(hl ⟨G0, hG0⟩).1], rfl⟩
      | _ => exact hl.elim
    · cases h
  · cases h
end Go.Proofs.Ytnlohongffpkpaa.T16
end

section
/- Layer 16: a tree's map; Index, At. A text of the session's own. -/
namespace Go.Proofs.Ytnlohongffpkpaa.T16
open Go Go.RowKit Go.Proofs.Ytnlohongffpkpaa.Sx
set_option linter.unusedVariables false
set_option linter.unusedSimpArgs false

/-! handles as keys -/
def hTy (P : Program) (t : Nat) : Bool := match P.underlying t with
  | some (.struct fs) => (match fs.toList with
    | [f, g] => f.name != "_" && g.name != "_" && Nat.beq f.offset 0 && Nat.beq g.offset 1 && Nat.beq (P.cellsOf f.type) 1 && Nat.beq (P.cellsOf g.type) 1 && Nat.beq (P.cellsOf t) 2 && (match P.underlying f.type with | some (.int .i64) => true | _ => false) && (match P.underlying g.type with | some (.int .u64) => true | _ => false)
    | _ => false)
  | _ => false
def inI (s : Int) : Prop := -9223372036854775808 ≤ s ∧ s < 9223372036854775808
def inU (g : Int) : Prop := 0 ≤ g ∧ g < 18446744073709551616
abbrev hKey (s g : Int) : Value := .agg (.mk [(.int .i64 s), (.int .u64 g)])
theorem okKey_h {P : Program} {t : Nat} (h : hTy P t = true) (hk : P.keyType t = true) (hs : 0 < P.types.size) {s g : Int} (h1 : inI s) (h2 : inU g) : okKey P t (hKey s g) := by
  unfold hTy at h
  split at h
  · rename_i fs hu
    split at h
    · rename_i f g' hfs
      simp only [Bool.and_eq_true, Nat.beq_eq_true_eq] at h
      obtain ⟨⟨⟨⟨⟨⟨⟨⟨a1, a2⟩, a3⟩, a4⟩, a5⟩, a6⟩, a7⟩, a8⟩, a9⟩ := h
      replace a3 := Nat.eq_of_beq_eq_true a3
      replace a4 := Nat.eq_of_beq_eq_true a4
      replace a5 := Nat.eq_of_beq_eq_true a5
      replace a6 := Nat.eq_of_beq_eq_true a6
      replace a7 := Nat.eq_of_beq_eq_true a7
      have hf : fs = #[f, g'] := by rw [← Array.toArray_toList (xs := fs), hfs]
      subst hf
      have u1 : P.underlying f.type = some (.int .i64) := by revert a8; split <;> simp_all
      have u2 : P.underlying g'.type = some (.int .u64) := by revert a9; split <;> simp_all
      refine ⟨?_, rfl⟩
      unfold Go.keyOf
      rw [hu]
      simp only
      have hfm : (hKey s g).formed P t = true := by
        unfold hKey
        simp [Value.formed, hu, a7]
      rw [if_pos (by simp [hk, hfm])]
      obtain ⟨n, hn⟩ : ∃ n, P.types.size = n + 1 := ⟨P.types.size - 1, by omega⟩
      have w1 : (Lit.int .i64 s).wf = true := by unfold inI at h1; have e1 : IntKind.min .i64 = -9223372036854775808 := rfl; have e2 : IntKind.max .i64 = 9223372036854775807 := rfl; simp only [Lit.wf, e1, e2, Bool.and_eq_true, decide_eq_true_eq]; omega
      have w2 : (Lit.int .u64 g).wf = true := by unfold inU at h2; have e1 : IntKind.min .u64 = 0 := rfl; have e2 : IntKind.max .u64 = 18446744073709551615 := rfl; simp only [Lit.wf, e1, e2, Bool.and_eq_true, decide_eq_true_eq]; omega
      rw [hn]
      have k1 : P.keyLits (n + 1) f.type [.int .i64 s] = some [.int .i64 s] := by unfold Program.keyLits; simp [u1, w1]
      have k2 : P.keyLits (n + 1) g'.type [.int .u64 g] = some [.int .u64 g] := by unfold Program.keyLits; simp [u2, w2]
      unfold Program.keyLits
      simp [hu, hKey, Value.cells, a7, a3, a4, a5, a6, k1, k2, bne_iff_ne.1 a1, bne_iff_ne.1 a2]
    · cases h
  · cases h
theorem keyed29 : Go.Maps.Keyed Try.prog 29 := Go.Maps.Keyed.of_law (deep_law_laid (by kernel_rfl) (m := 2) (by omega) (of_decide_eq_true (by kernel_rfl)) (by kernel_rfl) (by kernel_rfl))
theorem okKey29 {s g : Int} (h1 : inI s) (h2 : inU g) : okKey Try.prog 29 (hKey s g) := okKey_h (by kernel_rfl) (by kernel_rfl) (of_decide_eq_true (by kernel_rfl)) h1 h2
theorem hKey_inj {s g s' g' : Int} (h : hKey s g = hKey s' g') : s = s' ∧ g = g' := by
  unfold hKey at h
  simpa using h

/-- the map's entries: each node's handle, with the node -/
structure Ents (es : List MapEntry) (L : List (Int × Int × Int)) : Prop where
  ap : es.Pairwise (fun a b => a.key ≠ b.key)
  to : ∀ e ∈ es, ∃ x ∈ L, e.key = hKey x.2.1 x.2.2 ∧ e.val = pv x.1 0
  fro : ∀ x ∈ L, ∃ e ∈ es, e.key = hKey x.2.1 x.2.2 ∧ e.val = pv x.1 0
  rng : ∀ x ∈ L, inI x.2.1 ∧ inU x.2.2
theorem Ents.find {es : List MapEntry} {L : List (Int × Int × Int)} (h : Ents es L) {p s g : Int} (hx : (p, s, g) ∈ L) : ∃ j, efind (hKey s g) es 0 = some (j, pv p 0) := by
  obtain ⟨e, he, hk, hv⟩ := h.fro _ hx
  obtain ⟨j, hj⟩ := List.getElem?_of_mem he
  exact ⟨0 + j, by rw [efind_some rfl h.ap hj hk, hv]⟩
theorem Ents.miss {es : List MapEntry} {L : List (Int × Int × Int)} (h : Ents es L) {s g : Int} (hx : ∀ x ∈ L, ¬ (x.2.1 = s ∧ x.2.2 = g)) : efind (hKey s g) es 0 = none := by
  refine efind_none rfl fun e he hk => ?_
  obtain ⟨x, h1, h2, h3⟩ := h.to e he
  exact hx x h1 (hKey_inj (h2.symm.trans hk))

structure Tre (S : TS) (t : T) (n : Nat) : Prop where
  at' : At S t []
  rb : RB t n
  blk : red t = false
  en : Ents S.es.toList (nodes t)

section
variable {S : TS} {b : Mem} {t : T} {n : Nat}
theorem mem_q (h : S.ok) : S.mem b S.q = some (.map S.es S.k) := by simp [TS.mem, Ne.symm h.ne]
theorem cell_q : pl (mcell (S.mem b) S.p 1) = .map (some S.q) := by rw [cell_m]; rfl
theorem mpE_q (h : S.ok) : mpE (S.mem b) (.map (some S.q)) = S.es.toList := by simp [mpE, mem_q h]
theorem okM29 (h : S.ok) {L : List (Int × Int × Int)} (he : Ents S.es.toList L) : okM Try.prog 29 (S.mem b) (.map (some S.q)) := by
  refine .inr ⟨S.q, S.es, S.k, rfl, mem_q h, fun e hE => ?_, he.ap⟩
  obtain ⟨x, h1, h2, h3⟩ := he.to e hE
  rw [h2]
  exact (okKey29 (he.rng x h1).1 (he.rng x h1).2).1
theorem lk_hit (h : S.ok) {L : List (Int × Int × Int)} (he : Ents S.es.toList L) {p s g : Int} (hx : (p, s, g) ∈ L) : lkZ (S.mem b) (.map (some S.q)) (.agg (.mk [(.int .i64 s), (.int .u64 g)])) (.pointer .none) = pv p 0 := by
  obtain ⟨j, hj⟩ := he.find hx
  simp only [lkZ, mlook, mpE_q h]
  rw [show efind (.agg (.mk [(.int .i64 s), (.int .u64 g)])) S.es.toList 0 = some (j, pv p 0) from hj]; rfl
theorem lk_miss (h : S.ok) {L : List (Int × Int × Int)} (he : Ents S.es.toList L) {s g : Int} (hx : ∀ x ∈ L, ¬ (x.2.1 = s ∧ x.2.2 = g)) : lkZ (S.mem b) (.map (some S.q)) (.agg (.mk [(.int .i64 s), (.int .u64 g)])) (.pointer .none) = pv 0 0 := by
  simp only [lkZ, mlook, mpE_q h]
  rw [show efind (.agg (.mk [(.int .i64 s), (.int .u64 g)])) S.es.toList 0 = none from he.miss hx]; rfl
theorem peq_t : peq S.p 0 = false := by
  have := S.p_pos
  rw [peq_zero (by omega)]; simp; omega
theorem peq_n (h : S.ok) {p : Int} {d : Nd} (hp : S.H p = some d) : peq p 0 = false := by
  rw [peq_zero (Int.le_of_lt (h.nd p _ hp).1)]; simp [p_ne0 h hp]
theorem split_at : ∀ {t : T} {p s g : Int} {j : Nat}, (nodes t)[j]? = some (p, s, g) → ∃ c l r k, plug (.nd p s g c l r) k = t ∧ (cl k).length + l.size = j
  | .nil, _, _, _, _, h => by simp [nodes] at h
  | .nd q s' g' c l r, p, s, g, j, h => by
    simp only [nodes] at h
    rcases Nat.lt_trichotomy j l.size with hj | hj | hj
    · rw [List.getElem?_append_left (by rw [len_nodes]; exact hj)] at h
      obtain ⟨c', l', r', k, hk, hl⟩ := split_at h
      refine ⟨c', l', r', k ++ [⟨false, q, s', g', c, r⟩], ?_, ?_⟩
      · have : ∀ (k : Ctx) (t : T) (f : Fr), plug t (k ++ [f]) = f.mk' (plug t k) := by
          intro k; induction k with
          | nil => intros; rfl
          | cons a k ih => intro t f; exact ih _ _
        rw [this, hk]; rfl
      · have : ∀ (k : Ctx) (f : Fr), f.i = false → cl (k ++ [f]) = cl k := by
          intro k f hf
          induction k with
          | nil => simp [cl, hf]
          | cons a k ih => simp only [List.cons_append, cl, ih]
        rw [this _ _ rfl]; exact hl
    · subst hj
      rw [List.getElem?_append_right (by rw [len_nodes]; exact Nat.le_refl _), len_nodes, Nat.sub_self] at h
      simp only [List.getElem?_cons_zero, Option.some.injEq, Prod.mk.injEq] at h
      obtain ⟨rfl, rfl, rfl⟩ := h
      exact ⟨c, l, r, [], rfl, by simp [cl]⟩
    · rw [List.getElem?_append_right (by rw [len_nodes]; omega), len_nodes] at h
      obtain ⟨m, hm⟩ : ∃ m, j - l.size = m + 1 := ⟨j - l.size - 1, by omega⟩
      rw [hm, List.getElem?_cons_succ] at h
      obtain ⟨c', l', r', k, hk, hl⟩ := split_at h
      refine ⟨c', l', r', k ++ [⟨true, q, s', g', c, l⟩], ?_, ?_⟩
      · have : ∀ (k : Ctx) (t : T) (f : Fr), plug t (k ++ [f]) = f.mk' (plug t k) := by
          intro k; induction k with
          | nil => intros; rfl
          | cons a k ih => intro t f; exact ih _ _
        rw [this, hk]; rfl
      · have : ∀ (k : Ctx) (f : Fr), f.i = true → (cl (k ++ [f])).length = (cl k).length + (f.o.size + 1) := by
          intro k f hf
          induction k with
          | nil => simp [cl, hf, len_nodes]
          | cons a k ih =>
            simp only [List.cons_append, cl]
            cases a.i <;> simp [ih]
            omega
        rw [this _ _ rfl]
        show (cl k).length + (l.size + 1) + l'.size = j
        omega
/-! what is told -/
def cI : C → Int
  | .li _ n => n
  | .si _ n => n
  | .np n _ => n
  | _ => 0
def cB : C → Bool
  | .lb n => n
  | .sb n => n
  | _ => false
def yOf (v : V) (m : Mem) : Vars :=
  match v with
  | .tup [.c a, .c b] => ⟨[cI a], [cB b], [], m⟩
  | .tup [.agg [a, b], .c c] => ⟨[cI a, cI b], [cB c], [], m⟩
  | .u (.c a) => ⟨[cI a], [], [], m⟩
  | _ => ⟨[], [], [], m⟩
def idxPost (L : List (Int × Int × Int)) (s g : Int) (y : Vars) : Prop :=
  (∃ (j : Nat) (p : Int), L[j]? = some (p, s, g) ∧ y.i = [(j : Int)] ∧ y.b = [true]) ∨ ((∀ x ∈ L, ¬ (x.2.1 = s ∧ x.2.2 = g)) ∧ y.i = [0] ∧ y.b = [false])
def retIB (y : Vars) : V := .tup [.c (.si .i64 (hdI y.i)), .c (.sb (hdB y.b))]
end
def T_index (m : Mem) (t : Int) (hs hg : Int) : Tr := (.br (cmpOK m t 0) (.br (peq t 0) (.leaf (.memo (.tup [(.c (.li .i64 0)), (.c (.lb false))]) m)) (.br (nzp t) (.br (nzp t) (.br (okL m t 1 [(.raw (.map (.none)))]) (.req ((Go.Maps.Keyed Try.prog 29) ∧ ((okM Try.prog 29 m (pl (mcell m t 1))) ∧ ((okKey Try.prog 29 (.agg (.mk [(.int .i64 hs), (.int .u64 hg)]))) ∧ (((okU (.c .nilp) (lkZ m (pl (mcell m t 1)) (.agg (.mk [(.int .i64 hs), (.int .u64 hg)])) (.pointer (.none)))) : Bool) = true)))) (.br (cmpOK m (vP (lkZ m (pl (mcell m t 1)) (.agg (.mk [(.int .i64 hs), (.int .u64 hg)])) (.pointer (.none)))) 0) (.br (peq (vP (lkZ m (pl (mcell m t 1)) (.agg (.mk [(.int .i64 hs), (.int .u64 hg)])) (.pointer (.none)))) 0) (.leaf (.memo (.tup [(.c (.li .i64 0)), (.c (.lb false))]) m)) (.br (nzp t) (.br (nzp t) (.br (okL m t 1 [(.raw (.map (.none)))]) (.req ((Go.Maps.Keyed Try.prog 29) ∧ ((okM Try.prog 29 m (pl (mcell m t 1))) ∧ ((okKey Try.prog 29 (.agg (.mk [(.int .i64 hs), (.int .u64 hg)]))) ∧ (((okU (.c .nilp) (lkZ m (pl (mcell m t 1)) (.agg (.mk [(.int .i64 hs), (.int .u64 hg)])) (.pointer (.none)))) : Bool) = true)))) (.br (nzp (vP (lkZ m (pl (mcell m t 1)) (.agg (.mk [(.int .i64 hs), (.int .u64 hg)])) (.pointer (.none))))) (.br (nzp (vP (lkZ m (pl (mcell m t 1)) (.agg (.mk [(.int .i64 hs), (.int .u64 hg)])) (.pointer (.none))))) (.br (nzp (vP (lkZ m (pl (mcell m t 1)) (.agg (.mk [(.int .i64 hs), (.int .u64 hg)])) (.pointer (.none))))) (.br (okL m (vP (lkZ m (pl (mcell m t 1)) (.agg (.mk [(.int .i64 hs), (.int .u64 hg)])) (.pointer (.none)))) 2 [.nilp]) (.req (sizeOK m (gP m (vP (lkZ m (pl (mcell m t 1)) (.agg (.mk [(.int .i64 hs), (.int .u64 hg)])) (.pointer (.none)))) 2)) (.lp (.mk [(vP (lkZ m (pl (mcell m t 1)) (.agg (.mk [(.int .i64 hs), (.int .u64 hg)])) (.pointer (.none)))), (sizeV m (gP m (vP (lkZ m (pl (mcell m t 1)) (.agg (.mk [(.int .i64 hs), (.int .u64 hg)])) (.pointer (.none)))) 2))] [] [] m) (fun y0 j0 => (.br (nzp (hdI y0.1)) (.br (nzp (hdI y0.1)) (.br (okL y0.4 (hdI y0.1) 4 [.nilp]) (.br (cmpOK y0.4 (gP y0.4 (hdI y0.1) 4) 0) (.br (bNot (peq (gP y0.4 (hdI y0.1) 4) 0)) (.req (whichOK y0.4 (hdI y0.1)) (.br (iEq (whichV y0.4 (hdI y0.1)) 1) (.br (nzp (hdI y0.1)) (.br (nzp (hdI y0.1)) (.br (okL y0.4 (hdI y0.1) 4 [.nilp]) (.br (nzp (gP y0.4 (hdI y0.1) 4)) (.br (nzp (gP y0.4 (hdI y0.1) 4)) (.br (nzp (gP y0.4 (hdI y0.1) 4)) (.br (okL y0.4 (gP y0.4 (hdI y0.1) 4) 2 [.nilp]) (.req (sizeOK y0.4 (gP y0.4 (gP y0.4 (hdI y0.1) 4) 2)) (.br (nzp (hdI y0.1)) (.br (nzp (hdI y0.1)) (.br (okL y0.4 (hdI y0.1) 4 [.nilp]) (.req ((([] : List (Nat × V)) = []) ∧ (([] : List (Nat × Blk)) = [])) (.leaf (.again (.mk [(gP y0.4 (hdI y0.1) 4), (iAdd .i64 (hdI (tlI y0.1)) (iAdd .i64 (sizeV y0.4 (gP y0.4 (gP y0.4 (hdI y0.1) 4) 2)) 1))] [] [] y0.4)))) (.no 70)) (.no 76)) (.no 75))) (.no 70)) (.no 81)) (.no 76)) (.no 75)) (.no 70)) (.no 76)) (.no 75)) (.br (nzp (hdI y0.1)) (.br (nzp (hdI y0.1)) (.br (okL y0.4 (hdI y0.1) 4 [.nilp]) (.req ((([] : List (Nat × V)) = []) ∧ (([] : List (Nat × Blk)) = [])) (.leaf (.again (.mk [(gP y0.4 (hdI y0.1) 4), (hdI (tlI y0.1))] [] [] y0.4)))) (.no 70)) (.no 76)) (.no 75)))) (.leaf (.up (.memo (.tup [(.c (.si .i64 (hdI (tlI y0.1)))), (.c (.lb true))]) y0.4)))) (.no 78)) (.no 70)) (.no 76)) (.no 75))))) (.no 70)) (.no 81)) (.no 76)) (.no 75))) (.no 70)) (.no 76)) (.no 75))) (.no 78))) (.no 70)) (.no 76)) (.no 75))) (.no 78))
def T_at (m : Mem) (t : Int) (i : Int) : Tr := (.br (cmpOK m t 0) (.br (peq t 0) (.leaf (.memo (.tup [(.agg [(.li .i64 0), (.li .u64 0)]), (.c (.lb false))]) m)) (.br (iLt i 0) (.leaf (.memo (.tup [(.agg [(.li .i64 0), (.li .u64 0)]), (.c (.lb false))]) m)) (.req (lenOK m t) (.br (iGe i (lenV m t)) (.leaf (.memo (.tup [(.agg [(.li .i64 0), (.li .u64 0)]), (.c (.lb false))]) m)) (.br (nzp t) (.br (nzp t) (.br (okL m t 0 [.nilp]) (.lp (.mk [i, (gP m t 0)] [] [] m) (fun y0 j0 => (.br (nzp (hdI (tlI y0.1))) (.br (nzp (hdI (tlI y0.1))) (.br (nzp (hdI (tlI y0.1))) (.br (okL y0.4 (hdI (tlI y0.1)) 2 [.nilp]) (.req (sizeOK y0.4 (gP y0.4 (hdI (tlI y0.1)) 2)) (.br (iEq (hdI y0.1) (sizeV y0.4 (gP y0.4 (hdI (tlI y0.1)) 2))) (.br (nzp (hdI (tlI y0.1))) (.br (nzp (hdI (tlI y0.1))) (.br (okL y0.4 (hdI (tlI y0.1)) 0 [(.li .i64 0), (.li .u64 0)]) (.leaf (.up (.memo (.tup [(.agg [(.si .i64 (gI y0.4 (hdI (tlI y0.1)) 0)), (.si .u64 (gI y0.4 (hdI (tlI y0.1)) 1))]), (.c (.lb true))]) y0.4))) (.no 70)) (.no 76)) (.no 75)) (.br (iLt (hdI y0.1) (sizeV y0.4 (gP y0.4 (hdI (tlI y0.1)) 2))) (.br (nzp (hdI (tlI y0.1))) (.br (nzp (hdI (tlI y0.1))) (.br (nzp (hdI (tlI y0.1))) (.br (okL y0.4 (hdI (tlI y0.1)) 2 [.nilp]) (.req ((([(4, (.u (.c (.ptr 0 0))))] : List (Nat × V)) = [(4, (.u (.c (.ptr 0 0))))]) ∧ (([(0, ([(.li .i64 0), (.li .u64 0)], 29))] : List (Nat × Blk)) = [(0, ([(.li .i64 0), (.li .u64 0)], 29))])) (.leaf (.again (.mk [(hdI y0.1), (gP y0.4 (hdI (tlI y0.1)) 2)] [] [] y0.4)))) (.no 70)) (.no 81)) (.no 76)) (.no 75)) (.br (nzp (hdI (tlI y0.1))) (.br (nzp (hdI (tlI y0.1))) (.br (nzp (hdI (tlI y0.1))) (.br (okL y0.4 (hdI (tlI y0.1)) 3 [.nilp]) (.req ((([(4, (.u (.c (.ptr 0 0))))] : List (Nat × V)) = [(4, (.u (.c (.ptr 0 0))))]) ∧ (([(0, ([(.li .i64 0), (.li .u64 0)], 29))] : List (Nat × Blk)) = [(0, ([(.li .i64 0), (.li .u64 0)], 29))])) (.leaf (.again (.mk [(iSub .i64 (hdI y0.1) (iAdd .i64 (sizeV y0.4 (gP y0.4 (hdI (tlI y0.1)) 2)) 1)), (gP y0.4 (hdI (tlI y0.1)) 3)] [] [] y0.4)))) (.no 70)) (.no 81)) (.no 76)) (.no 75))))) (.no 70)) (.no 81)) (.no 76)) (.no 75)))) (.no 70)) (.no 76)) (.no 75)))))) (.no 78))
section
variable {S : TS} {b : Mem} {t : T} {n : Nat}
theorem iadd_i {x y : Int} (h : -9223372036854775808 ≤ x + y ∧ x + y < 9223372036854775808) : iAdd .i64 x y = x + y := by rw [add_i]; omega
theorem isub_i {x y : Int} (h : -9223372036854775808 ≤ x - y ∧ x - y < 9223372036854775808) : iSub .i64 x y = x - y := by rw [sub_i]; omega
/-- a side's size, read -/
theorem At.side_sz {i : Bool} {p s g : Int} {c : Bool} {x y : T} {k : Ctx} (h : At S (mkT i p s g c x y) k) :
    gP (S.mem b) p (bOff i) = x.ptr ∧ gP (S.mem b) p (bOff (!i)) = y.ptr ∧ sizeOK (S.mem b) x.ptr ∧ sizeV (S.mem b) x.ptr = x.size ∧ sizeOK (S.mem b) y.ptr ∧ sizeV (S.mem b) y.ptr = y.size := by
  obtain ⟨_, hx, hy⟩ := Rep.mk.1 h.rep
  obtain ⟨a1, a2⟩ := size_spec (b := b) h.ok (rep_has hx)
  obtain ⟨a3, a4⟩ := size_spec (b := b) h.ok (rep_has hy)
  exact ⟨(gP_ch h.ok h.get i).trans (node_ch _ _ _ _), (gP_ch h.ok h.get (!i)).trans (node_ch' _ _ _ _), a1, a2.trans (rep_sz h.ok hx), a3, a4.trans (rep_sz h.ok hy)⟩
theorem index_walk (h : Tre S t n) {s g : Int} (h1 : inI s) (h2 : inU g) :
    (T_index (S.mem b) S.p s g).sat (isMemo fun v m => idxPost (nodes t) s g (yOf v m) ∧ m = S.mem b ∧ ∀ ρ, v.den ρ = (retIB (yOf v m)).den ρ) := by
  have hS := h.at'.ok
  unfold T_index
  rw [brT (cmp_zero _ _), brF peq_t, brT nz_t, brT nz_t, brT okL_m]
  simp only [cell_q]
  by_cases hf : ∃ x ∈ nodes t, x.2.1 = s ∧ x.2.2 = g
  · obtain ⟨⟨p, s', g'⟩, hx, rfl, rfl⟩ := hf
    simp only [lk_hit hS h.en hx]
    obtain ⟨i0, hi0⟩ := List.getElem?_of_mem hx
    obtain ⟨c, l, r, k, hk, hl⟩ := split_at hi0
    have hA : At S (mkT false p s' g' c l r) k := At.ins (by rw [show plug (mkT false p s' g' c l r) k = t from hk]; exact h.at')
    have hp := hA.get
    have hpn : 0 ≤ p := Int.le_of_lt (hS.nd p _ hp).1
    have hreq : Go.Maps.Keyed Try.prog 29 ∧ okM Try.prog 29 (S.mem b) (.map (some S.q)) ∧ okKey Try.prog 29 (.agg (.mk [(.int .i64 s'), (.int .u64 g')])) ∧ (okU (.c .nilp) (pv p 0) : Bool) = true := ⟨keyed29, okM29 hS h.en, okKey29 h1 h2, isP_pv p⟩
    obtain ⟨z1, z2, z3, z4, z5, z6⟩ := hA.side_sz (b := b)
    rw [sat_req]
    refine ⟨hreq, ?_⟩
    simp only [vP_pv hpn]
    rw [brT (cmp_zero _ _), brF (peq_n hS hp), brT nz_t, brT nz_t, brT okL_m, sat_req]
    refine ⟨hreq, ?_⟩
    simp only [show gP (S.mem b) p 2 = l.ptr from z1, z4]
    rw [brT (nz_n hS hp), brT (nz_n hS hp), brT (nz_n hS hp), brT (okL_2 hS hp), sat_req]
    refine ⟨z3, ?_⟩
    have hsm := h.at'.sm
    let J : Nat → Vars → Prop := fun N y => ∃ (i : Bool) (p s g : Int) (c : Bool) (x z : T) (k : Ctx) (j : Nat), N = k.length ∧ y = ⟨[p, (j : Int)], [], [], S.mem b⟩ ∧ At S (mkT i p s g c x z) k ∧ plug (mkT i p s g c x z) k = t ∧ j < (mkT i p s g c x z).size ∧ (cl k).length + j = i0
    refine lp_idx J (n0 := k.length) ⟨false, p, s', g', c, l, r, k, l.size, rfl, rfl, hA, hk, by rw [size_mk]; omega, hl⟩ ?_
    clear hA hp hpn z1 z2 z3 z4 z5 z6 hk hl hreq c l r k
    rintro N y _ ⟨i, q, qs, qg, c, x, z, k, j, rfl, rfl, hA, hk, hjs, hl⟩
    have hq := hA.get
    have hu : gP (S.mem b) q 4 = topP k := (gP_u hS hq).trans (node_u _ _ _ _)
    simp only [hdI, tlI, hu]
    rw [brT (nz_n hS hq), brT (nz_n hS hq), brT (okL_4 hS hq), brT (cmp_zero _ _)]
    cases k with
    | nil =>
      rw [brF (by rfl)]
      have : j = i0 := by simp only [cl, List.length_nil] at hl; omega
      subst this
      exact ⟨.inl ⟨j, p, hi0, rfl, rfl⟩, rfl, fun ρ => rfl⟩
    | cons f k =>
      have hf := hA.getf
      have hpz : peq (topP (f :: k)) 0 = false := peq_n hS hf
      obtain ⟨w1, w2⟩ := At.which (b := b) hA
      have hsz := size_plug (f :: k) (mkT i q qs qg c x z)
      rw [hk] at hsz
      rw [brT (by rw [hpz]; rfl), sat_req, w2, show topP (f :: k) = f.p from rfl]
      refine ⟨w1, ?_⟩
      have ho := hA.out
      have hok : ∀ d : Nat, d = (match f.i with | true => f.o.size + 1 | false => 0) → inLoopJ J (f :: k).length (isMemo fun v m => idxPost (nodes t) s' g' (yOf v m) ∧ m = S.mem b ∧ ∀ ρ, v.den ρ = (retIB (yOf v m)).den ρ) (.again ⟨[f.p, ((j + d : Nat) : Int)], [], [], S.mem b⟩) := by
        rintro d rfl
        refine ⟨k.length, by simp, f.i, f.p, f.s, f.g, f.c, _, f.o, k, _, rfl, rfl, ho, hk, ?_, ?_⟩
        · rw [size_mk]; cases f.i <;> simp only <;> omega
        · simp only [cl] at hl ⊢
          cases hfi : f.i <;> simp only [hfi] at hl ⊢
          · exact hl
          · simp only [List.length_append, len_nodes, List.length_cons, List.length_nil] at hl
            omega
      cases hfi : f.i with
      | false =>
        rw [brF (by rfl), brT (nz_n hS hq), brT (nz_n hS hq), brT (okL_4 hS hq), sat_req]
        refine ⟨by simp, ?_⟩
        exact hok 0 (by rw [hfi])
      | true =>
        have hF : At S (mkT true f.p f.s f.g f.c (mkT i q qs qg c x z) f.o) k := by rw [← hfi]; exact ho
        obtain ⟨z1, z2, z3, z4, z5, z6⟩ := hF.side_sz (b := b)
        simp only [csize] at hsz
        rw [show gP (S.mem b) f.p 2 = f.o.ptr from z2, z6, brT (by rfl), brT (nz_n hS hq), brT (nz_n hS hq), brT (okL_4 hS hq), brT (nz_n hS hf), brT (nz_n hS hf), brT (nz_n hS hf), brT (okL_2 hS hf), sat_req]
        refine ⟨z5, ?_⟩
        simp only [csize] at hsm
        rw [brT (nz_n hS hq), brT (nz_n hS hq), brT (okL_4 hS hq), sat_req]
        refine ⟨by simp, ?_⟩
        rw [iadd_i (x := ((f.o.size : Nat) : Int)) (by omega), iadd_i (by omega)]
        have := hok (f.o.size + 1) (by rw [hfi])
        rw [show ((j + (f.o.size + 1) : Nat) : Int) = (j : Int) + ((f.o.size : Int) + 1) by omega] at this
        exact this
  · have hf' : ∀ x ∈ nodes t, ¬ (x.2.1 = s ∧ x.2.2 = g) := fun x hx he => hf ⟨x, hx, he⟩
    simp only [lk_miss hS h.en hf']
    rw [sat_req]
    refine ⟨⟨keyed29, okM29 hS h.en, okKey29 h1 h2, rfl⟩, ?_⟩
    rw [brT (by rfl), brT (by rfl)]
    exact ⟨.inr ⟨hf', rfl, rfl⟩, rfl, fun ρ => rfl⟩

theorem len_spec (h : At S t []) : lenOK (S.mem b) S.p ∧ lenV (S.mem b) S.p = t.size := by
  have hroot : S.root = t.ptr := h.ctx
  obtain ⟨a1, a2⟩ := size_spec (b := b) h.ok (rep_has h.rep)
  have hz := a2.trans (rep_sz h.ok h.rep)
  simp [lenOK, lenV, T_len, okP, outV, cmp_zero, peq_t, vInt, intOf, nz_t, okL_t, gP_t h.ok, hroot, a1, hz]
def atPost (L : List (Int × Int × Int)) (i : Int) (y : Vars) : Prop :=
  (∃ (j : Nat) (p s g : Int), i = j ∧ L[j]? = some (p, s, g) ∧ y.i = [s, g] ∧ y.b = [true]) ∨ ((i < 0 ∨ (L.length : Int) ≤ i) ∧ y.i = [0, 0] ∧ y.b = [false])
def retHB (y : Vars) : V := .tup [.agg [.si .i64 (hdI y.i), .si .u64 (hdI (tlI y.i))], .c (.sb (hdB y.b))]
theorem at_walk (h : At S t []) {i : Int} :
    (T_at (S.mem b) S.p i).sat (isMemo fun v m => atPost (nodes t) i (yOf v m) ∧ m = S.mem b ∧ ∀ ρ, v.den ρ = (retHB (yOf v m)).den ρ) := by
  have hS := h.ok
  unfold T_at
  obtain ⟨l1, l2⟩ := len_spec (b := b) h
  rw [brT (cmp_zero _ _), brF peq_t]
  by_cases hi : i < 0
  · rw [brT (by simp [iLt, hi])]
    exact ⟨.inr ⟨.inl hi, rfl, rfl⟩, rfl, fun ρ => rfl⟩
  rw [brF (by simp [iLt, hi]), sat_req, l2]
  refine ⟨l1, ?_⟩
  by_cases hj : (t.size : Int) ≤ i
  · rw [brT (by simp [iGe, hj])]
    exact ⟨.inr ⟨.inr (by rw [len_nodes]; exact hj), rfl, rfl⟩, rfl, fun ρ => rfl⟩
  rw [brF (by simp [iGe]; omega), brT nz_t, brT nz_t, brT okL_t, gP_t hS, show S.root = t.ptr from h.ctx]
  obtain ⟨i0, rfl⟩ : ∃ i0 : Nat, i = i0 := ⟨i.toNat, by omega⟩
  have hsm := h.sm
  let J : Nat → Vars → Prop := fun N y => ∃ (t' : T) (k : Ctx) (j : Nat), N = t'.size ∧ y = ⟨[(j : Int), t'.ptr], [], [], S.mem b⟩ ∧ At S t' k ∧ j < t'.size ∧ (nodes t')[j]? = (nodes t)[i0]?
  refine lp_idx J (n0 := t.size) ⟨t, [], i0, rfl, rfl, h, by omega, rfl⟩ ?_
  rintro N y _ ⟨t', k, j, rfl, rfl, hA, hjs, hl⟩
  have hne : t' ≠ .nil := by rintro rfl; simp [T.size] at hjs
  obtain ⟨p, s, g, c, l, r, rfl⟩ := form_of false hne
  have hq := hA.get
  obtain ⟨z1, z2, z3, z4, z5, z6⟩ := hA.side_sz (b := b)
  have hsm2 := hA.sm
  rw [size_mk] at hjs hsm2
  have hnd : nodes (mkT false p s g c l r) = nodes l ++ (p, s, g) :: nodes r := rfl
  rw [hnd] at hl
  simp only [hdI, tlI, ptr_mk, show gP (S.mem b) p 2 = l.ptr from z1, show gP (S.mem b) p 3 = r.ptr from z2, z4]
  rw [brT (nz_n hS hq), brT (nz_n hS hq), brT (nz_n hS hq), brT (okL_2 hS hq), sat_req]
  refine ⟨z3, ?_⟩
  by_cases h3 : j = l.size
  · subst h3
    rw [brT (by simp [iEq]), brT (nz_n hS hq), brT (nz_n hS hq), brT (okL_0 hS hq), gI_s hS hq, gI_g hS hq, node_s, node_g]
    rw [List.getElem?_append_right (by rw [len_nodes]; exact Nat.le_refl _), len_nodes, Nat.sub_self, List.getElem?_cons_zero] at hl
    exact ⟨.inl ⟨i0, p, s, g, rfl, hl.symm, rfl, rfl⟩, rfl, fun ρ => rfl⟩
  rw [brF (by simp [iEq]; omega)]
  by_cases h4 : j < l.size
  · rw [brT (by simp [iLt, h4]), brT (nz_n hS hq), brT (nz_n hS hq), brT (nz_n hS hq), brT (okL_2 hS hq), sat_req]
    refine ⟨by simp, l.size, by rw [size_mk]; omega, l, _, j, rfl, rfl, hA.near, h4, ?_⟩
    rw [List.getElem?_append_left (by rw [len_nodes]; exact h4)] at hl
    exact hl
  · rw [brF (by simp [iLt]; omega), brT (nz_n hS hq), brT (nz_n hS hq), brT (nz_n hS hq), brT (okL_3 hS hq), sat_req]
    refine ⟨by simp, ?_⟩
    rw [iadd_i (by omega), isub_i (by omega), show (j : Int) - ((l.size : Int) + 1) = ((j - (l.size + 1) : Nat) : Int) by omega]
    refine ⟨r.size, by rw [size_mk]; omega, r, _, _, rfl, rfl, hA.far, by omega, ?_⟩
    rw [List.getElem?_append_right (by rw [len_nodes]; omega), len_nodes, show j - l.size = (j - (l.size + 1)) + 1 by omega, List.getElem?_cons_succ] at hl
    exact hl
end

/-- a relation's proof, out of a walk at each state unsaid -/
theorem mm_ghost {P : Program} {S : List Sum} (hN : NameOK P) (hS : ∀ q ∈ S, SumOK P q) {D : DrawX} (hD : DSnd P D) (fuel : Nat) {f : Nat} (args : List V) (m : Mem) (mt : List Nat) {T : Tr} (hT : runm P S D fuel f args m mt = T)
    {G : Type} {pre : G → Prop} {post : G → Vars → Prop} {ret : Vars → V} (hp : ∃ g, pre g) (hw : ∀ g, pre g → T.sat (isMemo fun v x => post g (yOf v x) ∧ (yOf v x).m = x ∧ ∀ ρ, v.den ρ = (ret (yOf v x)).den ρ))
    (ρ : Nat → Nat) (w : World) (hm : ∀ a o, m a = some o → w.heap[a]? = some o) {vs : Array Value} (he : vs = (args.map (V.den ρ)).toArray) :
    Calls P f vs w fun e w' => ∃ y, (∀ g, pre g → post g y) ∧ e = .returned ((ret y).den ρ) ∧ MemTo m y.m w w' := by
  refine mm_calls hN hS hD fuel args m mt hT ρ ?_ w hm he
  obtain ⟨g0, h0⟩ := hp
  have key := sat_ghost (G := { g : G // pre g }) ⟨⟨g0, h0⟩⟩ (T := T) (p := fun g v x => post g.1 (yOf v x) ∧ (yOf v x).m = x ∧ ∀ ρ, v.den ρ = (ret (yOf v x)).den ρ) fun ⟨g, hg⟩ => hw g hg
  refine sat_mono (fun l hl => ?_) key
  cases l with
  | memo v x => exact ⟨yOf v x, fun g hg => (hl ⟨g, hg⟩).1, (hl ⟨g0, h0⟩).2.2 ρ, (hl ⟨g0, h0⟩).2.1⟩
  | _ => exact hl.elim
/-- a tree, and what is around it -/
structure TG where
  S : TS
  b : Mem
  t : T
  n : Nat
def TG.is (G : TG) (m : Mem) (p : Int) : Prop := m = G.S.mem G.b ∧ p = G.S.p ∧ Tre G.S G.t G.n
def indexP (m : Mem) (t hs hg : Int) : Prop := ∃ G : TG, G.is m t ∧ inI hs ∧ inU hg
def indexQ (m : Mem) (t hs hg : Int) (y : Vars) : Prop := ∀ G : TG, (G.is m t ∧ inI hs ∧ inU hg) → idxPost (nodes G.t) hs hg y ∧ y.m = m
def atP (m : Mem) (t i : Int) : Prop := ∃ G : TG, G.is m t
def atQ (m : Mem) (t i : Int) (y : Vars) : Prop := ∀ G : TG, G.is m t → atPost (nodes G.t) i y ∧ y.m = m
theorem yOf_m (v : V) (m : Mem) : (yOf v m).m = m := by unfold yOf; split <;> rfl
def s_index : Sum := memSum 24 fun m a => match a with | [a0, a1] => (match ptrOf a0, hanOf a1 with | some t, some (hs, hg) => some ⟨indexP m t hs hg, indexQ m t hs hg, fun y => .tup [.c (.si .i64 (hdI y.i)), .c (.sb (hdB y.b))]⟩ | _, _ => none) | _ => none
theorem t_index (m : Mem) (t : Int) (hs hg : Int) : runm Try.prog [s_size, s_which] (drawl Try.prog [s_size, s_which] (fun _ _ => some ⟨[6, 7], [], [], []⟩)) 300 24 [.u (.c (.np t 0)), .u (.agg [.si .i64 hs, .si .u64 hg])] m [98] = T_index m t hs hg := by kernel_rfl
theorem s_index_ok : SumOK Try.prog s_index := by
  refine memSum_ok ⟨_, Try.func24, by kernel_rfl⟩ fun m args ms h hp hw ρ w hm => ?_
  split at h
  · split at h
    · rename_i a0 a1 _ _ t hs hg h0 h1
      cases h
      have hS : ∀ q ∈ [s_size, s_which], SumOK Try.prog q := okc s_size_ok (okc s_which_ok okn)
      refine mm_ghost nameOK hS (drawl_sound nameOK hS (by kernel_rfl) _) 300 _ m _ (t_index m t hs hg) hp (fun G hG => ?_) ρ w hm (by simp only [List.map_cons, List.map_nil, ptrOf_den h0, hanOf_den h1])
      obtain ⟨⟨rfl, rfl, g1⟩, g2, g3⟩ := hG
      refine sat_mono (fun l hl => ?_) (index_walk g1 g2 g3)
      cases l with
      | memo v x => exact ⟨⟨hl.1, (yOf_m _ _).trans hl.2.1⟩, yOf_m _ _, hl.2.2⟩
      | _ => exact hl.elim
    · cases h
  · cases h
def s_at : Sum := memSum 16 fun m a => match a with | [a0, a1] => (match ptrOf a0, intOf a1 with | some t, some i => some ⟨atP m t i, atQ m t i, fun y => .tup [.agg [.si .i64 (hdI y.i), .si .u64 (hdI (tlI y.i))], .c (.sb (hdB y.b))]⟩ | _, _ => none) | _ => none
theorem t_at (m : Mem) (t : Int) (i : Int) : runm Try.prog [s_size, s_len] (drawl Try.prog [s_size, s_len] (fun _ _ => some ⟨[1, 6], [], [4], [0]⟩)) 300 16 [.u (.c (.np t 0)), .u (.c (.si .i64 i))] m [98] = T_at m t i := by kernel_rfl
theorem s_at_ok : SumOK Try.prog s_at := by
  refine memSum_ok ⟨_, Try.func16, by kernel_rfl⟩ fun m args ms h hp hw ρ w hm => ?_
  split at h
  · split at h
    · rename_i a0 a1 _ _ t i h0 h1
      cases h
      have hS : ∀ q ∈ [s_size, s_len], SumOK Try.prog q := okc s_size_ok (okc s_len_ok okn)
      refine mm_ghost nameOK hS (drawl_sound nameOK hS (by kernel_rfl) _) 300 _ m _ (t_at m t i) hp (fun G hG => ?_) ρ w hm (by simp only [List.map_cons, List.map_nil, ptrOf_den h0, intOf_den h1])
      obtain ⟨rfl, rfl, g1⟩ := hG
      refine sat_mono (fun l hl => ?_) (at_walk g1.at')
      cases l with
      | memo v x => exact ⟨⟨hl.1, (yOf_m _ _).trans hl.2.1⟩, yOf_m _ _, hl.2.2⟩
      | _ => exact hl.elim
    · cases h
  · cases h
end Go.Proofs.Ytnlohongffpkpaa.T16
end

section
/- Layer 16: New, Insert. A text of the session's own. -/
namespace Go.Proofs.Ytnlohongffpkpaa.T16
open Go Go.RowKit Go.Proofs.Ytnlohongffpkpaa.Sx
set_option linter.unusedVariables false
set_option linter.unusedSimpArgs false

/-! an object comes -/
def TS.put (S : TS) (es : Array MapEntry) (k : Nat) : TS := { S with es := es, k := k }
section
variable {S : TS} {b : Mem} {t : T} {n : Nat}
theorem free_at {a : Nat} (h : S.mem b a = none) : a ≠ S.t ∧ a ≠ S.q ∧ S.H ((a : Int) + 1) = none := by
  unfold TS.mem at h
  by_cases h1 : a = S.t
  · simp [h1] at h
  · by_cases h2 : a = S.q
    · rw [if_neg h1, if_pos h2] at h; cases h
    · refine ⟨h1, h2, ?_⟩
      rw [if_neg h1, if_neg h2] at h
      split at h
      · cases h
      · assumption
theorem new_mem {a : Nat} {d : Nd} (h : S.mem b a = none) : alM (S.mem b) ((a : Int) + 1) d.cells 98 = (S.set ((a : Int) + 1) d).mem b := by
  obtain ⟨h1, h2, h3⟩ := free_at h
  funext c
  unfold alM TS.mem
  rw [show (((a : Int) + 1).toNat) = a + 1 by omega]
  by_cases e : c = a
  · subst e
    simp [h1, h2, upd]
  · have : ¬ ((c : Int) + 1 = (a : Int) + 1) := by omega
    simp [e, upd, this]
theorem new_ok {a : Nat} {d : Nd} (h : S.mem b a = none) (hS : S.ok) (hl : 0 ≤ d.l) (hr : 0 ≤ d.r) (hu : 0 ≤ d.u) : (S.set ((a : Int) + 1) d).ok := by
  obtain ⟨h1, h2, h3⟩ := free_at h
  refine ⟨hS.ne, ?_, ?_, hS.root, fun p e he => ?_⟩
  · rw [set_H, set_t, upd_ne _ (by omega)]; exact hS.ht
  · rw [set_H, set_q, upd_ne _ (by omega)]; exact hS.hq
  · by_cases e' : p = (a : Int) + 1
    · subst e'; rw [set_H, upd_self] at he; cases he; exact ⟨by omega, hl, hr, hu⟩
    · rw [set_H, upd_ne _ e'] at he; exact hS.nd p e he
theorem Ents.congr {es : List MapEntry} {L L' : List (Int × Int × Int)} (h : Ents es L) (hL : ∀ x, x ∈ L' ↔ x ∈ L) : Ents es L' :=
  ⟨h.ap, fun e he => by obtain ⟨x, h1, h2⟩ := h.to e he; exact ⟨x, (hL x).2 h1, h2⟩, fun x hx => h.fro x ((hL x).1 hx), fun x hx => h.rng x ((hL x).1 hx)⟩
theorem Ents.push {es : List MapEntry} {L : List (Int × Int × Int)} (h : Ents es L) {p s g : Int} {c : Nat} (hx : ∀ x ∈ L, ¬ (x.2.1 = s ∧ x.2.2 = g)) (h1 : inI s) (h2 : inU g) : Ents (es ++ [⟨hKey s g, pv p 0, c⟩]) ((p, s, g) :: L) := by
  have hk : ∀ e ∈ es, e.key ≠ hKey s g := fun e he hk => by
    obtain ⟨x, g1, g2, g3⟩ := h.to e he
    exact hx x g1 (hKey_inj (g2.symm.trans hk))
  refine ⟨List.pairwise_append.2 ⟨h.ap, by simp, fun e he e' he' => ?_⟩, fun e he => ?_, fun x hx => ?_, fun x hx => ?_⟩
  · simp only [List.mem_singleton] at he'; subst he'; exact hk e he
  · rcases List.mem_append.1 he with he | he
    · obtain ⟨x, g1, g2⟩ := h.to e he; exact ⟨x, List.mem_cons_of_mem _ g1, g2⟩
    · simp only [List.mem_singleton] at he; subst he; exact ⟨(p, s, g), by simp, rfl, rfl⟩
  · rcases List.mem_cons.1 hx with rfl | hx
    · exact ⟨_, List.mem_append_right _ (List.mem_singleton.2 rfl), rfl, rfl⟩
    · obtain ⟨e, g1, g2⟩ := h.fro x hx; exact ⟨e, List.mem_append_left _ g1, g2⟩
  · rcases List.mem_cons.1 hx with rfl | hx
    · exact ⟨h1, h2⟩
    · exact h.rng x hx
theorem put_mem (hS : S.ok) {L : List (Int × Int × Int)} (he : Ents S.es.toList L) {s g p : Int} (hx : ∀ x ∈ L, ¬ (x.2.1 = s ∧ x.2.2 = g)) :
    mput (S.mem b) (.map (some S.q)) (.agg (.mk [(.int .i64 s), (.int .u64 g)])) (pv p 0) = (S.put (S.es.push ⟨hKey s g, pv p 0, S.k⟩) (S.k + 1)).mem b := by
  have hm := he.miss hx
  funext a
  simp only [mput, mchg]
  by_cases e : a = S.q
  · subst e
    rw [if_pos rfl, mem_q hS]
    simp only [esPut]
    rw [show efind (.agg (.mk [(.int .i64 s), (.int .u64 g)])) S.es.toList 0 = none from hm]
    simp [TS.mem, TS.put, Ne.symm hS.ne]
  · rw [if_neg e]
    simp [TS.mem, TS.put, e]
theorem put_ok {es : Array MapEntry} {k : Nat} (h : S.ok) : (S.put es k).ok := ⟨h.ne, h.ht, h.hq, h.root, h.nd⟩

/-! the way down -/
structure Dn (S : TS) (t : T) (k : Ctx) : Prop where
  ok : S.ok
  rep : Rep S.H (topP k) t
  ctx : RepC S.H S.root t.ptr (t.size + 1) k
  dj : Dj t k
  sm : t.size + csize k + 1 < 1152921504606846976
def stepN (p s g : Int) (c : Bool) (l r : T) (u : Int) : Nd := ⟨s, g, l.ptr, r.ptr, u, ((l.size + r.size + 2 : Nat) : Int), c⟩
theorem Dn.step {p s g : Int} {c : Bool} {l r : T} {k : Ctx} (h : Dn S (.nd p s g c l r) k) :
    Dn (S.set p (stepN p s g c l r (topP k))) l (Fr.mk false p s g c r :: k) ∧ Dn (S.set p (stepN p s g c l r (topP k))) r (Fr.mk true p s g c l :: k) := by
  obtain ⟨h1, h2, h3⟩ := h.rep
  have hd := h.dj
  have hdp := hd p
  simp only [cnt, if_true] at hdp
  have hnn := h.ok.nd p _ h1
  have hok : (S.set p (stepN p s g c l r (topP k))).ok := h.ok.set h1 hnn.2.1 hnn.2.2.1 hnn.2.2.2
  have oth : ∀ q, 0 < cnt q l + cnt q r + ccnt q k → (S.set p (stepN p s g c l r (topP k))).H q = S.H q := by
    intro q hq
    rw [set_H, upd_ne]
    intro e; subst e; omega
  have hself : (S.set p (stepN p s g c l r (topP k))).H p = some (stepN p s g c l r (topP k)) := by rw [set_H, upd_self]
  have rl := rep_congr (fun q hq => oth q (by omega)) h2
  have rr := rep_congr (fun q hq => oth q (by omega)) h3
  have rc : RepC (S.set p (stepN p s g c l r (topP k))).H S.root p (l.size + r.size + 2) k := repC_congr (fun q hq => oth q (by omega)) h.ctx
  have hsm := h.sm
  simp only [T.size] at hsm
  refine ⟨⟨hok, rl, ⟨?_, rr, ?_⟩, fun q => ?_, ?_⟩, ⟨hok, rr, ⟨?_, rl, ?_⟩, fun q => ?_, ?_⟩⟩
  · rw [hself]; simp only [stepN, Fr.node, Option.some.injEq, Nd.mk.injEq]; refine ⟨trivial, trivial, trivial, trivial, trivial, ?_, trivial⟩; omega
  · show RepC _ S.root p (l.size + 1 + r.size + 1) k
    rw [show l.size + 1 + r.size + 1 = l.size + r.size + 2 by omega]; exact rc
  · have := hd q; simp only [cnt, ccnt] at this ⊢; omega
  · simp only [csize]; omega
  · rw [hself]; simp only [stepN, Fr.node, Option.some.injEq, Nd.mk.injEq]; refine ⟨trivial, trivial, trivial, trivial, trivial, ?_, trivial⟩; omega
  · show RepC _ S.root p (r.size + 1 + l.size + 1) k
    rw [show r.size + 1 + l.size + 1 = l.size + r.size + 2 by omega]; exact rc
  · have := hd q; simp only [cnt, ccnt] at this ⊢; omega
  · simp only [csize]; omega
theorem Dn.plant {f : Fr} {k : Ctx} {x s g : Int} (h : Dn S .nil (f :: k)) (hx : S.H x = some ⟨s, g, 0, 0, 0, 1, true⟩) (hc : ccnt x (f :: k) = 0) :
    S.H f.p = some (f.node 0 (topP k) 1) ∧ (S.set f.p ((f.node 0 (topP k) 1).wch f.i x)).ok ∧ (S.set f.p ((f.node 0 (topP k) 1).wch f.i x)).H x = some ⟨s, g, 0, 0, 0, 1, true⟩ ∧
    At ((S.set f.p ((f.node 0 (topP k) 1).wch f.i x)).set x ⟨s, g, 0, 0, f.p, 1, true⟩) (mkT false x s g true .nil .nil) (f :: k) := by
  obtain ⟨h1, h2, h3⟩ := h.ctx
  have hxp := h.ok.nd x _ hx
  have hfp := h.ok.nd f.p _ h1
  simp only [ccnt] at hc
  have hne : x ≠ f.p := by intro e; rw [if_pos e] at hc; omega
  rw [if_neg hne] at hc
  have hok := h.ok.wch h1 f.i (Int.le_of_lt hxp.1)
  have hx' : (S.set f.p ((f.node 0 (topP k) 1).wch f.i x)).H x = some ⟨s, g, 0, 0, 0, 1, true⟩ := by rw [set_H, upd_ne _ hne]; exact hx
  refine ⟨h1, hok, hx', ⟨hok.set hx' (Int.le_refl _) (Int.le_refl _) (Int.le_of_lt hfp.1), ?_, ?_, fun q => ?_, ?_⟩⟩
  · exact ⟨by rw [set_H, upd_self]; rfl, trivial, trivial⟩
  · have hd := h.dj
    have oth : ∀ q, 0 < cnt q f.o + ccnt q k → ((S.set f.p ((f.node 0 (topP k) 1).wch f.i x)).set x ⟨s, g, 0, 0, f.p, 1, true⟩).H q = S.H q := by
      intro q hq
      have := hd q
      simp only [ccnt, cnt] at this
      rw [set_H, upd_ne, set_H, upd_ne]
      · intro e; subst e; rw [if_pos rfl] at this; omega
      · intro e; subst e; omega
    refine ⟨?_, rep_congr (fun q hq => oth q (by omega)) h2, repC_congr (fun q hq => oth q (by omega)) h3⟩
    rw [set_H, upd_ne _ (Ne.symm hne), set_H, upd_self]
    unfold Fr.node
    cases f.i <;> rfl
  · have := h.dj q
    simp only [mkT, cnt, ccnt] at this ⊢
    by_cases e : q = x
    · subst e
      rw [if_neg hne]
      simp; omega
    · rw [if_neg e]; omega
  · have := h.sm
    simp only [mkT, T.size, csize] at this ⊢; omega
theorem RB_down {i : Bool} {p s g : Int} {c : Bool} {x y : T} {k : Ctx} {n : Nat} (h : RB (mkT i p s g c x y) n) (h2 : c = true → mayR k = true) (h3 : RBC k n) : ∃ m, RB x m ∧ (red x = true → mayR (Fr.mk i p s g c y :: k) = true) ∧ RBC (Fr.mk i p s g c y :: k) m := by
  cases c with
  | true =>
    obtain ⟨g1, g2, g3, g4⟩ := RB_red.1 h
    exact ⟨n, g1, fun e => (by rw [g3] at e; cases e), (RBC_red rfl).2 ⟨g2, g4, h2 rfl, h3⟩⟩
  | false =>
    have : ∃ m, n = m + 1 := by cases i <;> (obtain ⟨m, e, _⟩ := h; exact ⟨m, e⟩)
    obtain ⟨m, rfl⟩ := this
    obtain ⟨g1, g2⟩ := RB_blk.1 h
    exact ⟨m, g1, fun _ => rfl, (RBC_blk rfl).2 ⟨g2, h3⟩⟩
theorem Dn.fin {S0 : TS} {f : Fr} {k : Ctx} {x s g : Int} {L : List (Int × Int × Int)} (hl : S0.like S) (h : Dn S .nil (f :: k)) (hx : S.H x = some ⟨s, g, 0, 0, 0, 1, true⟩) (hc : ccnt x (f :: k) = 0) (hr : RBC (f :: k) 0)
    (hL : cl (f :: k) ++ (x, s, g) :: cr (f :: k) = L) {Q : Leaf → Prop} {l : Mem → Leaf} {n1 n2 n3 n4 n5 n6 n7 : Nat} (hQ : ∀ S', Settled S0 L S' → Q (l (S'.mem b))) :
    (Tr.br (nzp f.p) (.br (nzp f.p) (.br (nzp f.p) (.br (okS (S.mem b) f.p (bOff f.i) 1) (.letm (wrL (S.mem b) f.p (bOff f.i) [(pv x 0)]) (fun m3 => (.br (nzp x) (.br (nzp x) (.br (okS m3 x 4 1) (.letm (wrL m3 x 4 [(pv f.p 0)]) (fun m4 => (.req (settlesP m4 S0.p x) (.any (settlesQ m4 S0.p x) (fun y2 => (.leaf (l y2.4))))))) (.no n1)) (.no n2)) (.no n3)))) (.no n4)) (.no n5)) (.no n6)) (.no n7)).sat Q := by
  obtain ⟨h1, h2, h3, h4⟩ := h.plant hx hc
  rw [brT (nz_n h.ok h1), brT (nz_n h.ok h1), brT (nz_n h.ok h1), brT (okS_ch h.ok h1 _), sat_letm, wr_ch h.ok h1, brT (nz_n h2 h3), brT (nz_n h2 h3), brT (okS_n h2 h3 rfl), sat_letm, wr_u h2 h3, sat_req, sat_any]
  let G : SettG := ⟨(S.set f.p ((f.node 0 (topP k) 1).wch f.i x)).set x ⟨s, g, 0, 0, f.p, 1, true⟩, b, false, s, g, .nil, .nil, f :: k, 0⟩
  have hG : G.pre (((S.set f.p ((f.node 0 (topP k) 1).wch f.i x)).set x ⟨s, g, 0, 0, f.p, 1, true⟩).mem b) S0.p x := ⟨rfl, (like_p ((hl.trans (like_set h1)).trans (like_set h3))).symm, h4, rfl, rfl, rfl, rfl, hr⟩
  refine ⟨⟨G, hG⟩, fun y hy => ?_⟩
  obtain ⟨S', e, hs⟩ := hy G hG
  rw [sat_leaf, e]
  refine hQ S' ⟨((hl.trans (like_set h1)).trans (like_set h3)).trans hs.like, ?_⟩
  obtain ⟨t', m, a1, a2, a3, a4⟩ := hs.tree
  refine ⟨t', m, a1, ?_, a3, a4⟩
  rw [a2, nodes_plug, ← hL]
  show cl (f :: k) ++ [(x, s, g)] ++ cr (f :: k) = _
  simp
end
def T_insert (m : Mem) (t : Int) (i : Int) (hs hg : Int) : Tr := (.br (cmpOK m t 0) (.br (peq t 0) (.leaf (.memo (.u (.c (.li .i64 1))) m)) (.br (nzp t) (.br (nzp t) (.br (okL m t 1 [(.raw (.map (.none)))]) (.br (isMpV (pl (mcell m t 1))) (.br (isNilM (pl (mcell m t 1))) (.leaf (.memo (.u (.c (.li .i64 1))) m)) (.br (iLt i 0) (.leaf (.memo (.u (.c (.li .i64 2))) m)) (.req (lenOK m t) (.br (iGt i (lenV m t)) (.leaf (.memo (.u (.c (.li .i64 2))) m)) (.br (nzp t) (.br (nzp t) (.br (okL m t 1 [(.raw (.map (.none)))]) (.req ((Go.Maps.Keyed Try.prog 29) ∧ ((okM Try.prog 29 m (pl (mcell m t 1))) ∧ ((okKey Try.prog 29 (.agg (.mk [(.int .i64 hs), (.int .u64 hg)]))) ∧ (((okU (.c .nilp) (lkZ m (pl (mcell m t 1)) (.agg (.mk [(.int .i64 hs), (.int .u64 hg)])) (.pointer (.none)))) : Bool) = true)))) (.br (cmpOK m (vP (lkZ m (pl (mcell m t 1)) (.agg (.mk [(.int .i64 hs), (.int .u64 hg)])) (.pointer (.none)))) 0) (.br (bNot (peq (vP (lkZ m (pl (mcell m t 1)) (.agg (.mk [(.int .i64 hs), (.int .u64 hg)])) (.pointer (.none)))) 0)) (.leaf (.memo (.u (.c (.li .i64 7))) m)) (.any (newQ m (.mk [(.int .i64 hs), (.int .u64 hg), (.pointer (.none)), (.pointer (.none)), (.pointer (.none)), (.int .i64 1), (.bool true)]) 98) (fun y0 => (.br (nzp t) (.br (nzp t) (.br (okL y0.4 t 1 [(.raw (.map (.none)))]) (.req ((Go.Maps.Keyed Try.prog 29) ∧ ((okM Try.prog 29 y0.4 (pl (mcell y0.4 t 1))) ∧ ((((isNilM (pl (mcell y0.4 t 1))) : Bool) = false) ∧ (okKey Try.prog 29 (.agg (.mk [(.int .i64 hs), (.int .u64 hg)])))))) (.letm (mput y0.4 (pl (mcell y0.4 t 1)) (.agg (.mk [(.int .i64 hs), (.int .u64 hg)])) (pv (pI y0.1) 0)) (fun m1 => (.br (nzp t) (.br (nzp t) (.br (okL m1 t 0 [.nilp]) (.br (cmpOK m1 (gP m1 t 0) 0) (.br (peq (gP m1 t 0) 0) (.br (nzp t) (.br (nzp t) (.br (okS m1 t 0 1) (.letm (wrL m1 t 0 [(pv (pI y0.1) 0)]) (fun m2 => (.br (nzp (pI y0.1)) (.br (nzp (pI y0.1)) (.br (okS m2 (pI y0.1) 6 1) (.letm (wrL m2 (pI y0.1) 6 [(.bool false)]) (fun m3 => (.leaf (.memo (.u (.c (.li .i64 0))) m3)))) (.no 72)) (.no 76)) (.no 75)))) (.no 72)) (.no 76)) (.no 75)) (.br (nzp t) (.br (nzp t) (.br (okL m1 t 0 [.nilp]) (.lp (.mk [i, (gP m1 t 0), 0] [] [] m1) (fun y1 j1 => (.br (nzp (hdI (tlI y1.1))) (.br (nzp (hdI (tlI y1.1))) (.br (okL y1.4 (hdI (tlI y1.1)) 5 [(.li .i64 0)]) (.br (nzp (hdI (tlI y1.1))) (.br (nzp (hdI (tlI y1.1))) (.br (okS y1.4 (hdI (tlI y1.1)) 5 1) (.letm (wrL y1.4 (hdI (tlI y1.1)) 5 [(.int .i64 (iAdd .i64 (gI y1.4 (hdI (tlI y1.1)) 5) 1))]) (fun m2 => (.br (nzp (hdI (tlI y1.1))) (.br (nzp (hdI (tlI y1.1))) (.br (nzp (hdI (tlI y1.1))) (.br (okL m2 (hdI (tlI y1.1)) 2 [.nilp]) (.req (sizeOK m2 (gP m2 (hdI (tlI y1.1)) 2)) (.br (iGt (hdI y1.1) (sizeV m2 (gP m2 (hdI (tlI y1.1)) 2))) (.br (nzp (hdI (tlI y1.1))) (.br (nzp (hdI (tlI y1.1))) (.br (nzp (hdI (tlI y1.1))) (.br (okL m2 (hdI (tlI y1.1)) 3 [.nilp]) (.br (cmpOK m2 (gP m2 (hdI (tlI y1.1)) 3) 0) (.br (peq (gP m2 (hdI (tlI y1.1)) 3) 0) (.br (nzp (hdI (tlI y1.1))) (.br (nzp (hdI (tlI y1.1))) (.br (nzp (hdI (tlI y1.1))) (.br (okS m2 (hdI (tlI y1.1)) 3 1) (.letm (wrL m2 (hdI (tlI y1.1)) 3 [(pv (pI y0.1) 0)]) (fun m3 => (.br (nzp (pI y0.1)) (.br (nzp (pI y0.1)) (.br (okS m3 (pI y0.1) 4 1) (.letm (wrL m3 (pI y0.1) 4 [(pv (hdI (tlI y1.1)) 0)]) (fun m4 => (.req (settlesP m4 t (pI y0.1)) (.any (settlesQ m4 t (pI y0.1)) (fun y2 => (.leaf (.up (.memo (.u (.c (.li .i64 0))) y2.4)))))))) (.no 72)) (.no 76)) (.no 75)))) (.no 72)) (.no 81)) (.no 76)) (.no 75)) (.br (nzp (hdI (tlI y1.1))) (.br (nzp (hdI (tlI y1.1))) (.br (nzp (hdI (tlI y1.1))) (.br (okL m2 (hdI (tlI y1.1)) 3 [.nilp]) (.req ((([(0, (.u (.c (.np t 0)))), (7, (.u (.c (.np (pI y0.1) 0))))] : List (Nat × V)) = [(0, (.u (.c (.np t 0)))), (7, (.u (.c (.np (pI y0.1) 0))))]) ∧ (([] : List (Nat × Blk)) = [])) (.leaf (.again (.mk [(iSub .i64 (hdI y1.1) (iAdd .i64 (sizeV m2 (gP m2 (hdI (tlI y1.1)) 2)) 1)), (gP m2 (hdI (tlI y1.1)) 3), 1] [] [] m2)))) (.no 70)) (.no 81)) (.no 76)) (.no 75))) (.no 78)) (.no 70)) (.no 81)) (.no 76)) (.no 75)) (.br (nzp (hdI (tlI y1.1))) (.br (nzp (hdI (tlI y1.1))) (.br (nzp (hdI (tlI y1.1))) (.br (okL m2 (hdI (tlI y1.1)) 2 [.nilp]) (.br (cmpOK m2 (gP m2 (hdI (tlI y1.1)) 2) 0) (.br (peq (gP m2 (hdI (tlI y1.1)) 2) 0) (.br (nzp (hdI (tlI y1.1))) (.br (nzp (hdI (tlI y1.1))) (.br (nzp (hdI (tlI y1.1))) (.br (okS m2 (hdI (tlI y1.1)) 2 1) (.letm (wrL m2 (hdI (tlI y1.1)) 2 [(pv (pI y0.1) 0)]) (fun m3 => (.br (nzp (pI y0.1)) (.br (nzp (pI y0.1)) (.br (okS m3 (pI y0.1) 4 1) (.letm (wrL m3 (pI y0.1) 4 [(pv (hdI (tlI y1.1)) 0)]) (fun m4 => (.req (settlesP m4 t (pI y0.1)) (.any (settlesQ m4 t (pI y0.1)) (fun y2 => (.leaf (.up (.memo (.u (.c (.li .i64 0))) y2.4)))))))) (.no 72)) (.no 76)) (.no 75)))) (.no 72)) (.no 81)) (.no 76)) (.no 75)) (.br (nzp (hdI (tlI y1.1))) (.br (nzp (hdI (tlI y1.1))) (.br (nzp (hdI (tlI y1.1))) (.br (okL m2 (hdI (tlI y1.1)) 2 [.nilp]) (.req ((([(0, (.u (.c (.np t 0)))), (7, (.u (.c (.np (pI y0.1) 0))))] : List (Nat × V)) = [(0, (.u (.c (.np t 0)))), (7, (.u (.c (.np (pI y0.1) 0))))]) ∧ (([] : List (Nat × Blk)) = [])) (.leaf (.again (.mk [(hdI y1.1), (gP m2 (hdI (tlI y1.1)) 2), 0] [] [] m2)))) (.no 70)) (.no 81)) (.no 76)) (.no 75))) (.no 78)) (.no 70)) (.no 81)) (.no 76)) (.no 75)))) (.no 70)) (.no 81)) (.no 76)) (.no 75)))) (.no 72)) (.no 76)) (.no 75)) (.no 70)) (.no 76)) (.no 75)))) (.no 70)) (.no 76)) (.no 75))) (.no 78)) (.no 70)) (.no 76)) (.no 75))))) (.no 70)) (.no 76)) (.no 75))))) (.no 78))) (.no 70)) (.no 76)) (.no 75)))))) (.no 109)) (.no 70)) (.no 76)) (.no 75))) (.no 78))
def T_fresh (m : Mem)  : Tr := (.any (newMQ m) (fun y0 => (.any (newQ y0.4 (.mk [(.pointer (.none)), (pl (hdV y0.3))]) 95) (fun y1 => (.leaf (.memo (.u (.c (.np (pI y1.1) 0))) y1.4))))))
section
variable {S : TS} {b : Mem} {t : T} {n : Nat}
def insPost (S : TS) (b : Mem) (L : List (Int × Int × Int)) (i s g : Int) (y : Vars) : Prop :=
  ((i < 0 ∨ (L.length : Int) < i) ∧ y.i = [2] ∧ y.m = S.mem b) ∨
  (0 ≤ i ∧ i ≤ L.length ∧ (∃ x ∈ L, x.2.1 = s ∧ x.2.2 = g) ∧ y.i = [7] ∧ y.m = S.mem b) ∨
  (0 ≤ i ∧ i ≤ L.length ∧ (∀ x ∈ L, ¬ (x.2.1 = s ∧ x.2.2 = g)) ∧ y.i = [0] ∧ ∃ (S' : TS) (t' : T) (n' a : Nat), y.m = S'.mem b ∧ S'.t = S.t ∧ S'.q = S.q ∧ Tre S' t' n' ∧ nodes t' = L.take i.toNat ++ ((a : Int) + 1, s, g) :: L.drop i.toNat ∧ S.mem b a = none ∧ ∀ q, S'.H q = none ↔ S.H q = none ∧ q ≠ (a : Int) + 1)
def retI (y : Vars) : V := .u (.c (.si .i64 (hdI y.i)))
theorem cnt_of_none {H : Int → Option Nd} {x : Int} (hx : H x = none) : ∀ {t : T} {u : Int}, Rep H u t → cnt x t = 0
  | .nil, _, _ => rfl
  | .nd p s g c l r, u, ⟨h1, h2, h3⟩ => by
    have : x ≠ p := by rintro rfl; rw [hx] at h1; cases h1
    simp only [cnt, if_neg this, cnt_of_none hx h2, cnt_of_none hx h3]
theorem insert_walk (h : Tre S t n) (hsz : t.size + 1 < 1152921504606846976) {i s g : Int} (h1 : inI s) (h2 : inU g) :
    (T_insert (S.mem b) S.p i s g).sat (isMemo fun v m => insPost S b (nodes t) i s g (yOf v m) ∧ ∀ ρ, v.den ρ = (retI (yOf v m)).den ρ) := by
  have hS := h.at'.ok
  have hroot : S.root = t.ptr := h.at'.ctx
  unfold T_insert
  obtain ⟨l1, l2⟩ := len_spec (b := b) h.at'
  rw [brT (cmp_zero _ _), brF peq_t, brT nz_t, brT nz_t, brT okL_m]
  rw [cell_q, brT (by rfl), brF (by rfl)]
  by_cases hi : i < 0
  · rw [brT (by simp [iLt, hi])]
    exact ⟨.inl ⟨.inl hi, rfl, rfl⟩, fun ρ => rfl⟩
  rw [brF (by simp [iLt, hi]), sat_req, l2]
  refine ⟨l1, ?_⟩
  by_cases hj : (t.size : Int) < i
  · rw [brT (by simp [iGt, hj])]
    exact ⟨.inl ⟨.inr (by rw [len_nodes]; exact hj), rfl, rfl⟩, fun ρ => rfl⟩
  rw [brF (by simp [iGt]; omega), brT nz_t, brT nz_t, brT okL_m]
  by_cases hf : ∃ x ∈ nodes t, x.2.1 = s ∧ x.2.2 = g
  · obtain ⟨⟨p, s', g'⟩, hx, rfl, rfl⟩ := hf
    have hp : ∃ d, S.H p = some d := by
      obtain ⟨i0, hi0⟩ := List.getElem?_of_mem hx
      obtain ⟨c, l, r, k, hk, hl⟩ := split_at hi0
      have hA : At S (mkT false p s' g' c l r) k := At.ins (by rw [show plug (mkT false p s' g' c l r) k = t from hk]; exact h.at')
      exact ⟨_, hA.get⟩
    obtain ⟨d, hp⟩ := hp
    have hpn : 0 ≤ p := Int.le_of_lt (hS.nd p _ hp).1
    rw [lk_hit hS h.en hx, sat_req]
    refine ⟨⟨keyed29, okM29 hS h.en, okKey29 h1 h2, isP_pv p⟩, ?_⟩
    rw [vP_pv hpn, brT (cmp_zero _ _), brT (by rw [peq_n hS hp]; rfl)]
    exact ⟨.inr (.inl ⟨by omega, by rw [len_nodes]; omega, ⟨_, hx, rfl, rfl⟩, rfl, rfl⟩), fun ρ => rfl⟩
  have hf' : ∀ x ∈ nodes t, ¬ (x.2.1 = s ∧ x.2.2 = g) := fun x hx he => hf ⟨x, hx, he⟩
  rw [lk_miss hS h.en hf', sat_req]
  refine ⟨⟨keyed29, okM29 hS h.en, okKey29 h1 h2, rfl⟩, ?_⟩
  rw [brT (by rfl), brF (by rfl), sat_any]
  rintro ⟨yi, yb, yv, ym⟩ ⟨a, ha, hfr, hym⟩
  simp only at ha hym
  subst ha hym
  obtain ⟨fa1, fa2, fa3⟩ := free_at hfr
  have e0 : alM (S.mem b) ((a : Int) + 1) (.mk [(.int .i64 s), (.int .u64 g), (.pointer .none), (.pointer .none), (.pointer .none), (.int .i64 1), (.bool true)]) 98 = (S.set ((a : Int) + 1) ⟨s, g, 0, 0, 0, 1, true⟩).mem b := new_mem (d := ⟨s, g, 0, 0, 0, 1, true⟩) hfr
  have ok1 : (S.set ((a : Int) + 1) ⟨s, g, 0, 0, 0, 1, true⟩).ok := new_ok hfr hS (Int.le_refl _) (Int.le_refl _) (Int.le_refl _)
  have hx1 : (S.set ((a : Int) + 1) ⟨s, g, 0, 0, 0, 1, true⟩).H ((a : Int) + 1) = some ⟨s, g, 0, 0, 0, 1, true⟩ := by rw [set_H, upd_self]
  have oth : ∀ q, 0 < cnt q t → (S.set ((a : Int) + 1) ⟨s, g, 0, 0, 0, 1, true⟩).H q = S.H q := fun q hq => by
    rw [set_H, upd_ne]
    rintro rfl
    rw [cnt_of_none fa3 h.at'.rep] at hq; omega
  have rep1 : Rep (S.set ((a : Int) + 1) ⟨s, g, 0, 0, 0, 1, true⟩).H 0 t := rep_congr oth h.at'.rep
  have hcx : cnt ((a : Int) + 1) t = 0 := cnt_of_none fa3 h.at'.rep
  have en1 : Ents (S.set ((a : Int) + 1) ⟨s, g, 0, 0, 0, 1, true⟩).es.toList (nodes t) := h.en
  have ep : (S.set ((a : Int) + 1) ⟨s, g, 0, 0, 0, 1, true⟩).p = S.p := rfl
  have el : (S.set ((a : Int) + 1) ⟨s, g, 0, 0, 0, 1, true⟩).t = S.t ∧ (S.set ((a : Int) + 1) ⟨s, g, 0, 0, 0, 1, true⟩).q = S.q ∧ (S.set ((a : Int) + 1) ⟨s, g, 0, 0, 0, 1, true⟩).root = t.ptr := ⟨rfl, rfl, hroot⟩
  have ed : ∀ q, (S.set ((a : Int) + 1) ⟨s, g, 0, 0, 0, 1, true⟩).H q = none ↔ S.H q = none ∧ q ≠ (a : Int) + 1 := fun q => by
    by_cases e : q = (a : Int) + 1
    · rw [e, hx1]; simp
    · rw [set_H, upd_ne _ e]; simp [e]
  simp only [pI, e0]
  generalize S.set ((a : Int) + 1) ⟨s, g, 0, 0, 0, 1, true⟩ = S1 at ok1 hx1 rep1 en1 ep el ed
  generalize hxa : ((a : Int) + 1) = x at hx1 hcx ed
  obtain ⟨et, eq, er⟩ := el
  rw [← ep, brT nz_t, brT nz_t, brT okL_m, cell_q, sat_req]
  refine ⟨⟨keyed29, okM29 ok1 en1, rfl, okKey29 h1 h2⟩, ?_⟩
  rw [sat_letm, put_mem ok1 en1 hf']
  have ok2 : (S1.put (S1.es.push ⟨hKey s g, pv x 0, S1.k⟩) (S1.k + 1)).ok := put_ok ok1
  have en2 : Ents (S1.put (S1.es.push ⟨hKey s g, pv x 0, S1.k⟩) (S1.k + 1)).es.toList ((x, s, g) :: nodes t) := by
    have := en1.push (p := x) (c := S1.k) hf' h1 h2
    simpa [TS.put] using this
  have ep2 : S1.p = (S1.put (S1.es.push ⟨hKey s g, pv x 0, S1.k⟩) (S1.k + 1)).p := rfl
  have hx2 : (S1.put (S1.es.push ⟨hKey s g, pv x 0, S1.k⟩) (S1.k + 1)).H x = some ⟨s, g, 0, 0, 0, 1, true⟩ := hx1
  have rep2 : Rep (S1.put (S1.es.push ⟨hKey s g, pv x 0, S1.k⟩) (S1.k + 1)).H 0 t := rep1
  have el2 : (S1.put (S1.es.push ⟨hKey s g, pv x 0, S1.k⟩) (S1.k + 1)).t = S.t ∧ (S1.put (S1.es.push ⟨hKey s g, pv x 0, S1.k⟩) (S1.k + 1)).q = S.q ∧ (S1.put (S1.es.push ⟨hKey s g, pv x 0, S1.k⟩) (S1.k + 1)).root = t.ptr := ⟨et, eq, er⟩
  have ed2 : ∀ q, (S1.put (S1.es.push ⟨hKey s g, pv x 0, S1.k⟩) (S1.k + 1)).H q = none ↔ S.H q = none ∧ q ≠ x := ed
  rw [ep2]
  generalize S1.put (S1.es.push ⟨hKey s g, pv x 0, S1.k⟩) (S1.k + 1) = S2 at ok2 en2 ep2 hx2 rep2 el2 ed2
  obtain ⟨et2, eq2, er2⟩ := el2
  clear ok1 hx1 rep1 en1 ep et eq er oth ep2 e0 ed
  have hxp := ok2.nd x _ hx2
  rw [brT nz_t, brT nz_t, brT okL_t, gP_t ok2, er2, brT (cmp_zero _ _)]
  cases t with
  | nil =>
    have hi0 : i = 0 := by simp only [T.size] at hj; omega
    subst hi0
    rw [brT (by rfl), brT nz_t, brT nz_t, brT okS_t, sat_letm, wr_t ok2]
    have ok3 : (S2.top x).ok := ok2.top (Int.le_of_lt hxp.1)
    have hA : At (S2.top x) (mkT false x s g true .nil .nil) [] := ⟨ok3, ⟨hx2, trivial, trivial⟩, rfl, fun q => (by simp [mkT, cnt, ccnt]; split <;> omega), by simp [mkT, T.size, csize]⟩
    refine At.col hA false fun S' hl hA' => ?_
    refine ⟨.inr (.inr ⟨Int.le_refl _, by simp [nodes], hf', rfl, S', _, 1, a, rfl, hl.t.trans et2, hl.q.trans eq2, ⟨hA', ⟨0, rfl, rfl, rfl⟩, rfl, ?_⟩, by rw [hxa]; rfl, hfr, fun q => (hl.dom q).trans (by rw [hxa]; exact ed2 q)⟩), fun ρ => rfl⟩
    rw [hl.es]
    exact en2
  | nd p0 s0 g0 c0 l0 r0 =>
    have hpn0 := (ok2.nd p0 _ rep2.1).1
    rw [brF (show peq (T.nd p0 s0 g0 c0 l0 r0).ptr 0 = false from peq_n ok2 rep2.1), brT nz_t, brT nz_t, brT okL_t]
    generalize hL0 : nodes (.nd p0 s0 g0 c0 l0 r0) = L0 at *
    obtain ⟨i0, rfl⟩ : ∃ i0 : Nat, i = i0 := ⟨i.toNat, by omega⟩
    have hlen : L0.length = (T.nd p0 s0 g0 c0 l0 r0).size := by rw [← hL0, len_nodes]
    let J : Nat → Vars → Prop := fun N y => ∃ (S3 : TS) (t' : T) (k : Ctx) (j : Nat) (z : Int) (n : Nat), N = t'.size ∧ y = ⟨[(j : Int), t'.ptr, z], [], [], S3.mem b⟩ ∧ S2.like S3 ∧ Dn S3 t' k ∧ t' ≠ .nil ∧ S3.H x = some ⟨s, g, 0, 0, 0, 1, true⟩ ∧ cnt x t' + ccnt x k = 0 ∧ RB t' n ∧ (red t' = true → mayR k = true) ∧ RBC k n ∧ nodes (plug t' k) = L0 ∧ (cl k).length + j = i0 ∧ j ≤ t'.size
    have hd0 : Dn S2 (.nd p0 s0 g0 c0 l0 r0) [] := ⟨ok2, rep2, er2, fun q => by have := h.at'.dj q; exact this, by simp only [csize]; omega⟩
    refine lp_idx J (n0 := (T.nd p0 s0 g0 c0 l0 r0).size) ⟨S2, _, [], i0, 0, n, rfl, rfl, TS.like.refl _, hd0, by simp, hx2, by simpa [ccnt] using hcx, h.rb, (fun e => by rw [h.blk] at e; cases e), trivial, hL0, by simp [cl], by omega⟩ ?_
    rintro N y _ ⟨S3, t', k, j, z, n', rfl, rfl, hl, hD, hne, hx3, hcx3, hrb, hmr, hrc, hL, hj0, hjs⟩
    have hQ : ∀ S', Settled S2 (L0.take i0 ++ (x, s, g) :: L0.drop i0) S' → inLoopJ J t'.size (isMemo fun v m => insPost S b L0 i0 s g (yOf v m) ∧ ∀ ρ, v.den ρ = (retI (yOf v m)).den ρ) (.up (.memo (.u (.c (.li .i64 0))) (S'.mem b))) := by
      rintro S' ⟨g1, t1, n1, g2, g3, g4, g5⟩
      refine ⟨.inr (.inr ⟨by omega, by omega, hf', rfl, S', t1, n1, a, rfl, g1.t.trans et2, g1.q.trans eq2, ⟨g2, g4, g5, ?_⟩, by rw [Int.toNat_natCast, hxa]; exact g3, hfr, fun q => (g1.dom q).trans (by rw [hxa]; exact ed2 q)⟩), fun ρ => rfl⟩
      rw [g1.es, g3]
      refine en2.congr fun e => ?_
      conv => rhs; rw [← List.take_append_drop i0 L0]
      simp only [List.mem_append, List.mem_cons]
      constructor
      · rintro (h | h | h)
        · exact .inr (.inl h)
        · exact .inl h
        · exact .inr (.inr h)
      · rintro (h | h | h)
        · exact .inr (.inl h)
        · exact .inl h
        · exact .inr (.inr h)
    have hcut : ∀ (f : Fr) (k : Ctx), nodes (plug .nil (f :: k)) = L0 → (cl (f :: k)).length = i0 → cl (f :: k) ++ (x, s, g) :: cr (f :: k) = L0.take i0 ++ (x, s, g) :: L0.drop i0 := by
      intro f k e1 e2
      rw [nodes_plug, show nodes T.nil = [] from rfl, List.append_nil] at e1
      rw [← e1, ← e2, List.take_left, List.drop_left]
    cases t' with
    | nil => exact absurd rfl hne
    | nd p s' g' c l r =>
      obtain ⟨dl, dr⟩ := hD.step
      obtain ⟨hp3, _, _⟩ := hD.rep
      have hsm := hD.sm
      simp only [T.size] at hsm hjs
      have hxne : x ≠ p := by
        rintro rfl
        simp only [cnt, if_true] at hcx3; omega
      have ev : iAdd .i64 ((l.size + r.size + 1 : Nat) : Int) 1 = ((l.size + r.size + 2 : Nat) : Int) := by rw [iadd_i (by omega)]; omega
      simp only [hdI, tlI, show (T.nd p s' g' c l r).ptr = p from rfl]
      rw [brT (nz_n hD.ok hp3), brT (nz_n hD.ok hp3), brT (okL_5 hD.ok hp3), brT (nz_n hD.ok hp3), brT (nz_n hD.ok hp3), brT (okS_n hD.ok hp3 rfl), sat_letm, gI_n hD.ok hp3]
      rw [ev, wr_sz hD.ok hp3]
      have hp4 : (S3.set p (stepN p s' g' c l r (topP k))).H p = some (stepN p s' g' c l r (topP k)) := by rw [set_H, upd_self]
      have hx4 : (S3.set p (stepN p s' g' c l r (topP k))).H x = some ⟨s, g, 0, 0, 0, 1, true⟩ := by rw [set_H, upd_ne _ hxne]; exact hx3
      have hl4 : S2.like (S3.set p (stepN p s' g' c l r (topP k))) := hl.trans (like_set hp3)
      rw [show S3.set p { s := s', g := g', l := l.ptr, r := r.ptr, u := topP k, n := ((l.size + r.size + 2 : Nat) : Int), c := c } = S3.set p (stepN p s' g' c l r (topP k)) from rfl]
      generalize S3.set p (stepN p s' g' c l r (topP k)) = S4 at dl dr hp4 hx4 hl4
      have ok4 := dl.ok
      obtain ⟨z1, z2⟩ := size_spec (b := b) ok4 (rep_has dl.rep)
      have z2 := z2.trans (rep_sz ok4 dl.rep)
      have gl : gP (S4.mem b) p 2 = l.ptr := gP_l ok4 hp4
      have gr : gP (S4.mem b) p 3 = r.ptr := gP_r ok4 hp4
      rw [gl, gr, brT (nz_n ok4 hp4), brT (nz_n ok4 hp4), brT (nz_n ok4 hp4), brT (okL_2 ok4 hp4), sat_req, z2]
      refine ⟨z1, ?_⟩
      have hcc : ∀ q, cnt q (.nd p s' g' c l r) = (if q = p then 1 else 0) + cnt q l + cnt q r := fun q => rfl
      by_cases hgo : (l.size : Int) < j
      · rw [brT (by simp only [iGt, decide_eq_true_eq]; omega), brT (nz_n ok4 hp4), brT (nz_n ok4 hp4), brT (nz_n ok4 hp4), brT (okL_3 ok4 hp4), brT (cmp_zero _ _)]
        obtain ⟨m, b1, b2, b3⟩ := RB_down (i := true) (p := p) (s := s') (g := g') (c := c) (x := r) (y := l) hrb hmr hrc
        cases r with
        | nil =>
          rw [brT (by rfl)]
          have hm : m = 0 := b1
          subst hm
          simp only [T.size] at hjs
          refine Dn.fin (l := fun m => .up (.memo (.u (.c (.li .i64 0))) m)) (f := Fr.mk true p s' g' c l) hl4 dr hx4 ?_ b3 (hcut (Fr.mk true p s' g' c l) k hL ?_) (fun S' hs => hQ S' hs)
          · simp only [cnt] at hcx3; simp only [ccnt]; omega
          · simp only [cl, List.length_append, len_nodes, List.length_cons, List.length_nil]; omega
        | nd rp rs rg rc rl rr =>
          rw [brF (show peq (T.nd rp rs rg rc rl rr).ptr 0 = false from peq_n ok4 dr.rep.1), brT (nz_n ok4 hp4), brT (nz_n ok4 hp4), brT (nz_n ok4 hp4), brT (okL_3 ok4 hp4), sat_req]
          refine ⟨by simp, ?_⟩
          rw [iadd_i (by omega), isub_i (by omega), show (j : Int) - ((l.size : Int) + 1) = ((j - (l.size + 1) : Nat) : Int) by omega]
          refine ⟨(T.nd rp rs rg rc rl rr).size, by simp only [T.size]; omega, S4, _, Fr.mk true p s' g' c l :: k, _, 1, m, rfl, rfl, hl4, dr, by simp, hx4, ?_, b1, b2, b3, hL, ?_, ?_⟩
          · simp only [cnt] at hcx3; simp only [cnt, ccnt]; omega
          · simp only [cl, List.length_append, len_nodes, List.length_cons, List.length_nil]; omega
          · omega
      · rw [brF (by simp only [iGt, decide_eq_false_iff_not]; omega), brT (nz_n ok4 hp4), brT (nz_n ok4 hp4), brT (nz_n ok4 hp4), brT (okL_2 ok4 hp4), brT (cmp_zero _ _)]
        obtain ⟨m, b1, b2, b3⟩ := RB_down (i := false) (p := p) (s := s') (g := g') (c := c) (x := l) (y := r) hrb hmr hrc
        cases l with
        | nil =>
          rw [brT (by rfl)]
          have hm : m = 0 := b1
          subst hm
          simp only [T.size] at hgo
          refine Dn.fin (l := fun m => .up (.memo (.u (.c (.li .i64 0))) m)) (f := Fr.mk false p s' g' c r) hl4 dl hx4 ?_ b3 (hcut (Fr.mk false p s' g' c r) k hL ?_) (fun S' hs => hQ S' hs)
          · simp only [cnt] at hcx3; simp only [ccnt]; omega
          · simp only [cl]; omega
        | nd rp rs rg rc rl rr =>
          rw [brF (show peq (T.nd rp rs rg rc rl rr).ptr 0 = false from peq_n ok4 dl.rep.1), brT (nz_n ok4 hp4), brT (nz_n ok4 hp4), brT (nz_n ok4 hp4), brT (okL_2 ok4 hp4), sat_req]
          refine ⟨by simp, ?_⟩
          refine ⟨(T.nd rp rs rg rc rl rr).size, by simp only [T.size]; omega, S4, _, Fr.mk false p s' g' c r :: k, j, 0, m, rfl, rfl, hl4, dl, by simp, hx4, ?_, b1, b2, b3, hL, ?_, ?_⟩
          · simp only [cnt] at hcx3; simp only [cnt, ccnt]; omega
          · simp only [cl]; omega
          · omega
end

/-! summaries -/
def insertP (m : Mem) (t i hs hg : Int) : Prop := ∃ G : TG, G.is m t ∧ G.t.size + 1 < 1152921504606846976 ∧ inI hs ∧ inU hg
def insertQ (m : Mem) (t i hs hg : Int) (y : Vars) : Prop := ∀ G : TG, (G.is m t ∧ G.t.size + 1 < 1152921504606846976 ∧ inI hs ∧ inU hg) → insPost G.S G.b (nodes G.t) i hs hg y
def s_insert : Sum := memSum 17 fun m a => match a with | [a0, a1, a2] => (match ptrOf a0, intOf a1, hanOf a2 with | some t, some i, some (hs, hg) => some ⟨insertP m t i hs hg, insertQ m t i hs hg, fun y => .u (.c (.si .i64 (hdI y.i)))⟩ | _, _, _ => none) | _ => none
theorem t_insert (m : Mem) (t : Int) (i : Int) (hs hg : Int) : runm Try.prog [s_size, s_len, s_settles] (drawl Try.prog [s_size, s_len, s_settles] (fun _ _ => some ⟨[1, 8, 9], [], [0, 7], []⟩)) 300 17 [.u (.c (.np t 0)), .u (.c (.si .i64 i)), .u (.agg [.si .i64 hs, .si .u64 hg])] m [98] = T_insert m t i hs hg := by kernel_rfl
theorem s_insert_ok : SumOK Try.prog s_insert := by
  refine memSum_ok ⟨_, Try.func17, by kernel_rfl⟩ fun m args ms h hp hw ρ w hm => ?_
  split at h
  · split at h
    · rename_i a0 a1 a2 _ _ _ t i hs hg h0 h1 h2
      cases h
      have hS : ∀ q ∈ [s_size, s_len, s_settles], SumOK Try.prog q := okc s_size_ok (okc s_len_ok (okc s_settles_ok okn))
      refine mm_ghost nameOK hS (drawl_sound nameOK hS (by kernel_rfl) _) 300 _ m _ (t_insert m t i hs hg) hp (fun G hG => ?_) ρ w hm (by simp only [List.map_cons, List.map_nil, ptrOf_den h0, intOf_den h1, hanOf_den h2])
      obtain ⟨⟨rfl, rfl, g1⟩, g2, g3, g4⟩ := hG
      refine sat_mono (fun l hl => ?_) (insert_walk g1 g2 g3 g4)
      cases l with
      | memo v x => exact ⟨hl.1, yOf_m _ _, hl.2⟩
      | _ => exact hl.elim
    · cases h
  · cases h
/-- a tree with nothing in it -/
def freshP (m : Mem) : Prop := True
def freshQ (m : Mem) (y : Vars) : Prop := ∃ S : TS, y.i = [S.p] ∧ y.m = S.mem m ∧ Tre S .nil 0 ∧ m S.t = none ∧ m S.q = none ∧ ∀ q, S.H q = none
def s_fresh : Sum := memSum 14 fun m a => match a with | [] => some ⟨freshP m, freshQ m, fun y => .u (.c (.np (hdI y.i) 0))⟩ | _ => none
theorem t_fresh (m : Mem)  : runm Try.prog [] (drawx Try.prog []) 300 14 [] m [98, 92, 95] = T_fresh m  := by kernel_rfl
theorem s_fresh_ok : SumOK Try.prog s_fresh := by
  refine memSum_ok ⟨_, Try.func14, by kernel_rfl⟩ fun m args ms h hp hw ρ w hm => ?_
  split at h
  · cases h
    refine (mm_ghost nameOK okn (dOK okn) 300 _ m _ (t_fresh m) (G := Unit) (pre := fun _ => True) (post := fun _ y => freshQ m y) (ret := fun y => .u (.c (.np (hdI y.i) 0))) ⟨(), trivial⟩ (fun _ _ => ?_) ρ w hm (by simp only [List.map_nil])).mono ?_
    · unfold T_fresh
      rw [sat_any]
      rintro ⟨yi, yb, yv, ym⟩ ⟨q, hq1, hq2, hq3⟩
      simp only at hq2 hq3
      subst hq2 hq3
      rw [sat_any]
      rintro ⟨zi, zb, zv, zm⟩ ⟨a, ha1, ha2, ha3⟩
      simp only at ha1 ha3
      subst ha1 ha3
      have hne : a ≠ q := by
        rintro rfl
        simp [alO] at ha2
      refine ⟨⟨⟨a, q, 0, #[], 0, fun _ => none⟩, rfl, ?_, ⟨⟨⟨hne, rfl, rfl, Int.le_refl _, fun p d h => by cases h⟩, trivial, rfl, fun _ => Nat.zero_le _, by simp [T.size, csize]⟩, rfl, rfl, ⟨by simp, by simp, by simp [nodes], by simp [nodes]⟩⟩, ?_, hq1, fun _ => rfl⟩, rfl, fun ρ => rfl⟩
      · funext c
        simp only [yOf_m, alM, TS.mem, alO, hdV]
        rw [show (((a : Int) + 1).toNat) = a + 1 by omega]
        by_cases e : c = a
        · subst e; simp; exact ⟨rfl, rfl⟩
        · by_cases e2 : c = q
          · subst e2; simp [e]
          · simp [e, e2]
      · simp only [alO] at ha2
        rw [if_neg hne] at ha2; exact ha2
    · rintro e w' ⟨y, h1, h2, h3⟩
      exact ⟨y, h1 () trivial, h2, h3⟩
  · cases h
end Go.Proofs.Ytnlohongffpkpaa.T16
end

section
/- Layer 16: All: a range over a tree's iterator. A text of the session's own, after the kit's worked walk of such an iterator. -/
namespace Go.Proofs.Ytnlohongffpkpaa.T16
open Go Go.RowKit Go.Shelf Go.Proofs.Ytnlohongffpkpaa.Sx Go.Proofs
set_option linter.unusedVariables false
set_option linter.unusedSimpArgs false

attribute [local go_sem] Oper.semAt_some

theorem room_of_none {F : Fence} (hd : F.depth = none) (k : Nat) : F.room k := fun d h => by rw [hd] at h; cases h
theorem RoundIn.anyDepth {F : Fence} (hd : F.depth = none) {m m' : Nat} {P : Program} {l : Nat} {f : FuncId} {tmps : Array Value} {assign body : Code} {w : World} {R : Ending → World → Prop}
    (h : RoundIn F m P l f tmps assign body w R) : RoundIn F m' P l f tmps assign body w R := ⟨h.1, fun c cs _ => h.2 c cs (room_of_none hd _)⟩
theorem YieldAt.anyDepth {F : Fence} (hd : F.depth = none) {m : Nat} (m' : Nat) {P : Program} {l : Nat} {args : Array Value} {W : World} {R : Ending → World → Prop} (h : YieldAt F m P l args W R) : YieldAt F m' P l args W R := by
  obtain ⟨fn, tmps, assign, body, hy, hR⟩ := h
  exact ⟨fn, tmps, assign, body, hy, RoundIn.anyDepth hd hR⟩

/-- the handles of a tree, in order -/
def hans (t : T) : List (Int × Int) := (nodes t).map fun x => (x.2.1, x.2.2)
abbrev hV (x : Int × Int) : Value := .agg #[.int .i64 x.1, .int .u64 x.2]
/-- a tree lies in the heap, below a border -/
def InW (n₀ : Nat) (W : World) : T → Prop
  | .nil => True
  | .nd p s g c l r => ∃ b : Nat, p = (b : Int) + 1 ∧ b < n₀ ∧ W.cell? ⟨b, 0, none⟩ = some (.int .i64 s) ∧ W.cell? ⟨b, 1, none⟩ = some (.int .u64 g) ∧ W.cell? ⟨b, 2, none⟩ = some (pv l.ptr 0) ∧ W.cell? ⟨b, 3, none⟩ = some (pv r.ptr 0) ∧ InW n₀ W l ∧ InW n₀ W r
theorem InW.below {n₀ : Nat} {A B : World} (h : Below n₀ A B) : ∀ {t : T}, InW n₀ A t → InW n₀ B t
  | .nil, _ => trivial
  | .nd p s g c l r, ⟨b, hp, hb, c0, c1, c2, c3, hl, hr⟩ => ⟨b, hp, hb, (h.cell (p := ⟨b, 0, none⟩) hb).trans c0, (h.cell (p := ⟨b, 1, none⟩) hb).trans c1, (h.cell (p := ⟨b, 2, none⟩) hb).trans c2, (h.cell (p := ⟨b, 3, none⟩) hb).trans c3, InW.below h hl, InW.below h hr⟩
theorem pv_succ (b off : Nat) : pv ((b : Int) + 1) off = .pointer (some ⟨b, off, none⟩) := by
  unfold pv; rw [show (((b : Int) + 1).toNat) = b + 1 by omega]

/-- an operation that is passed over -/
theorem wpListIn_pass {F : Fence} {n : Nat} {P : Program} {ops : Array Oper} {Q : Exit → Act → World → Prop} {o : Oper} {rest : List Oper} {a : Act} {w : World} (hw : Region.wanted o (yielded ops a.tmps) = false) (ha : ∀ f, o.about P w a.eval = some f → F.fn f) (h : wpListIn F n P ops Q rest (a.put o.dst undef) w) : wpListIn F n P ops Q (o :: rest) a w := by
  simp only [wpListIn, hw]
  exact ⟨ha, h⟩
set_option maxRecDepth 100000 in
set_option maxHeartbeats 4000000 in
theorem tells_in (F : Fence) (hd : F.depth = none) (h79 : F.fn 79) (hro : F.round = none) (l n₀ N : Nat) (J Jx : List (Int × Int) → World → Prop)
    (hY : ∀ m pre x W, J pre W → pre.length < N → YieldAt F m Try.prog l #[hV x] W fun e W' =>
      (e = .returned (.bool true) ∧ J (pre ++ [x]) W' ∧ Below n₀ W W') ∨ (e = .returned (.bool false) ∧ Jx (pre ++ [x]) W')) (T : T) :
    ∀ (n : Nat) (pre : List (Int × Int)) (W : World), InW n₀ W T → J pre W → pre.length + (hans T).length ≤ N →
      CallsIn F n Try.prog 79 #[pv T.ptr 0, .func (.yield l) #[] #[]] W fun e W' =>
        (e = .returned (.bool true) ∧ J (pre ++ hans T) W' ∧ Below n₀ W W') ∨ (e = .returned (.bool false) ∧ ∃ q, q <+: hans T ∧ Jx (pre ++ q) W') := by
  induction T with
  | nil =>
    intro n pre W ht hJ _
    rw [show pv T.nil.ptr 0 = .pointer none from rfl]
    refine callsIn_of_wp Try.func79 rfl h79 ?_ hro
    simp only [Try.ntmps79, List.size_toArray, List.length_cons, List.length_nil, Nat.reduceAdd, Nat.reduceSub, Array.replicate_succ, Array.replicate_zero, List.push_toArray, List.append_toArray, List.nil_append, List.cons_append]
    gi_wp2_with (refine wpListIn_pass (by rfl) (by intro f hf; first | (cases (show (none : Option FuncId) = some f from hf); done) | (cases (show some 79 = some f from hf); exact h79)) ?_; simp only [go_sem])
    go_ret
    exact .inl ⟨rfl, by simpa [hans, nodes] using hJ, Below.refl _ _⟩
  | nd p s g c tl tr ihl ihr =>
    intro n pre W ht hJ hN
    obtain ⟨b, rfl, hb, c0, c1, c2, c3, hl, hr⟩ := ht
    have hdd : ∀ k : Nat, (F.depth.isSome = true → 1 ≤ k) := fun k h => by rw [hd] at h; cases h
    have eT : hans (.nd ((b : Int) + 1) s g c tl tr) = hans tl ++ (s, g) :: hans tr := by simp [hans, nodes]
    rw [eT] at hN ⊢
    simp only [List.length_append, List.length_cons] at hN
    rw [show pv (T.nd ((b : Int) + 1) s g c tl tr).ptr 0 = .pointer (some ⟨b, 0, none⟩) from pv_succ b 0]
    have hy2 : ∀ W1, J (pre ++ hans tl) W1 → Below n₀ W W1 → YieldAt F (n - 1) Try.prog l #[hV (s, g)] W1 fun e W2 =>
        (e = .returned (.bool true) ∧ J (pre ++ hans tl ++ [(s, g)]) W2 ∧ Below n₀ W W2 ∧ W2.cell? ⟨b, 3, none⟩ = some (pv tr.ptr 0) ∧ InW n₀ W2 tr) ∨ (e = .returned (.bool false) ∧ Jx (pre ++ hans tl ++ [(s, g)]) W2) := fun W1 hJ1 hb1 =>
      YieldAt.mono (hY (n - 1) _ (s, g) W1 hJ1 (by simp; omega)) fun e W2 h => h.elim
        (fun ⟨he, hj, hb2⟩ => .inl ⟨he, hj, hb1.trans hb2, ((hb1.trans hb2).cell (p := ⟨b, 3, none⟩) hb).trans c3, hr.below (hb1.trans hb2)⟩) .inr
    have ih1 := (ihl (n - 1) pre W hl hJ (by omega)).mono (R' := fun e W1 =>
        (e = .returned (.bool true) ∧ W1.cell? ⟨b, 0, none⟩ = some (.int .i64 s) ∧ W1.cell? ⟨b, 1, none⟩ = some (.int .u64 g) ∧ YieldAt F (n - 1) Try.prog l #[hV (s, g)] W1 fun e W2 =>
          (e = .returned (.bool true) ∧ J (pre ++ hans tl ++ [(s, g)]) W2 ∧ Below n₀ W W2 ∧ W2.cell? ⟨b, 3, none⟩ = some (pv tr.ptr 0) ∧ InW n₀ W2 tr) ∨ (e = .returned (.bool false) ∧ Jx (pre ++ hans tl ++ [(s, g)]) W2)) ∨
        (e = .returned (.bool false) ∧ ∃ q, q <+: hans tl ∧ Jx (pre ++ q) W1))
      (fun e W1 h => h.elim (fun ⟨he, hj, hb1⟩ => .inl ⟨he, (hb1.cell (p := ⟨b, 0, none⟩) hb).trans c0, (hb1.cell (p := ⟨b, 1, none⟩) hb).trans c1, hy2 W1 hj hb1⟩) .inr)
    clear hy2 ihl
    refine callsIn_of_wp Try.func79 rfl h79 ?_ hro
    simp only [Try.ntmps79, List.size_toArray, List.length_cons, List.length_nil, Nat.reduceAdd, Nat.reduceSub, Array.replicate_succ, Array.replicate_zero, List.push_toArray, List.append_toArray, List.nil_append, List.cons_append]
    gi_wp2_with (first
      | ((try refine ⟨hdd _, ?_⟩); gi_at_call 79; refine ih1.mono ?_; clear ih1; rintro e W1 (⟨rfl, c0', c1', fn, tmps, assign, body, hy, hR⟩ | ⟨rfl, q, hq, hx1⟩))
      | ((try refine ⟨hdd _, ?_⟩); refine hR.mono ?_; clear hR; rintro e W2 (⟨rfl, hJ2, hb2, c3', hr2⟩ | ⟨rfl, hx2⟩))
      | ((try refine ⟨hdd _, ?_⟩); gi_at_call 79; refine (ihr (n - 1) _ _ hr2 hJ2 (by simp; omega)).mono ?_; rintro e W3 (⟨rfl, hJ3, hb3⟩ | ⟨rfl, q, hq, hx3⟩))
      | (refine wpListIn_pass (by rfl) (by intro f hf; first | (cases (show (none : Option FuncId) = some f from hf); done) | (cases (show some 79 = some f from hf); exact h79)) ?_; simp only [go_sem]))
    · go_ret
      exact .inl ⟨rfl, by simpa [List.append_assoc] using hJ3, hb2.trans hb3⟩
    · go_ret
      obtain ⟨r, hr'⟩ := hq
      exact .inr ⟨rfl, hans tl ++ (s, g) :: q, ⟨r, by simp [← hr']⟩, by simpa [List.append_assoc] using hx3⟩
    · go_ret
      exact .inr ⟨rfl, hans tl ++ [(s, g)], ⟨hans tr, by simp⟩, by simpa [List.append_assoc] using hx2⟩
    · go_ret
      exact .inr ⟨rfl, q, hq.trans (by simp), hx1⟩

set_option maxHeartbeats 2000000 in
theorem each1_in (F : Fence) (hd : F.depth = none) (n : Nat) (h78 : F.fn 78) (h79 : F.fn 79) (hro : F.round = none) (l Bt n₀ : Nat) (T : T) (J Jx : List (Int × Int) → World → Prop)
    (hY : ∀ pre x W, J pre W → pre.length < (hans T).length → YieldAt F (n - 1) Try.prog l #[hV x] W fun e W' =>
      (e = .returned (.bool true) ∧ J (pre ++ [x]) W' ∧ Below n₀ W W') ∨ (e = .returned (.bool false) ∧ Jx (pre ++ [x]) W'))
    (W : World) (hBt : W.cell? ⟨Bt, 0, none⟩ = some (pv T.ptr 0)) (hT : InW n₀ W T) (h0 : J [] W) :
    CallsIn F n Try.prog 78 #[.func (.yield l) #[] #[], .pointer (some ⟨Bt, 0, none⟩)] W fun e W' => (∃ v, e = .returned v) ∧
      ((∃ ys, ys = hans T ∧ J ys W') ∨ (∃ pre, pre <+: hans T ∧ Jx pre W')) := by
  have hdd : ∀ k : Nat, (F.depth.isSome = true → 1 ≤ k) := fun k h => by rw [hd] at h; cases h
  have hp := tells_in F hd h79 hro l n₀ (hans T).length J Jx (fun m pre x W hj hl => YieldAt.anyDepth hd m (hY pre x W hj hl)) T (n - 1) [] W hT h0 (by simp)
  refine callsIn_of_wp Try.func78 rfl h78 ?_ hro
  simp only [Try.ntmps78, List.size_toArray, List.length_cons, List.length_nil, Nat.reduceAdd, Nat.reduceSub, Array.replicate_succ, Array.replicate_zero, List.push_toArray, List.append_toArray, List.nil_append, List.cons_append]
  gi_wp2_with ((try refine ⟨hdd _, ?_⟩); gi_at_call 79; refine hp.mono ?_; clear hp; rintro e W1 (⟨rfl, hJ1, _⟩ | ⟨rfl, q, hq, hx⟩))
  · go_end0
    exact ⟨⟨_, rfl⟩, .inl ⟨_, rfl, by simpa using hJ1⟩⟩
  · go_end0
    exact ⟨⟨_, rfl⟩, .inr ⟨q, hq, by simpa using hx⟩⟩

set_option maxHeartbeats 1000000 in
theorem each_in (F : Fence) (n : Nat) (h50 : F.fn 50) (hro : F.round = none) (p0 : Option Addr) (w : World) :
    CallsIn F n Try.prog 50 #[.pointer p0] w fun e w' => e = .returned (.func (.func 78) #[] #[.pointer (some ⟨w.heap.size, 0, none⟩)]) ∧ w' = w.alloc (.cells #[.pointer p0] 93) := by
  refine callsIn_of_wp Try.func50 rfl h50 ?_ hro
  simp only [Try.ntmps50, List.size_toArray, List.length_cons, List.length_nil, Nat.reduceAdd, Nat.reduceSub, Array.replicate_succ, Array.replicate_zero, List.push_toArray, List.append_toArray, List.nil_append, List.cons_append]
  gi_wp2
  go_ret
  exact ⟨rfl, rfl⟩

def infoB (P : Program) (t sz by_ : Nat) : Bool := match P.info? t with
  | some i => (match i.zero with | some z => Nat.beq i.size sz && Nat.beq i.bytes by_ && Nat.beq z.cells.size sz | none => false)
  | none => false
theorem infoB_of {P : Program} {t sz by_ : Nat} (h : infoB P t sz by_ = true) : ∃ i z, P.info? t = some i ∧ i.zero = some z ∧ i.size = sz ∧ i.bytes = by_ ∧ z.cells.size = sz := by
  unfold infoB at h
  split at h
  · rename_i i hi
    split at h
    · rename_i z hz
      simp only [Bool.and_eq_true] at h
      exact ⟨i, z, hi, hz, Nat.eq_of_beq_eq_true h.1.1, Nat.eq_of_beq_eq_true h.1.2, Nat.eq_of_beq_eq_true h.2⟩
    · cases h
  · cases h
/-- the cells of handles -/
def hCells (l : List (Int × Int)) : List Value := l.flatMap fun x => [.int .i64 x.1, .int .u64 x.2]
theorem hCells_snoc (l : List (Int × Int)) (x : Int × Int) : hCells (l ++ [x]) = hCells l ++ [.int .i64 x.1, .int .u64 x.2] := by simp [hCells]
theorem cell_of_box {W : World} {B : Nat} {v : Value} {t : TypeId} (h : W.heap[B]? = some (.cells #[v] t (0, 0))) : W.cell? ⟨B, 0, none⟩ = some v ∧ W.frozen? ⟨B, 0, none⟩ = false := by
  constructor <;> simp [World.cell?, World.frozen?, h]
/-- what a round finds, and leaves -/
structure AllI (w : World) (lo : Loop) (pre : List (Int × Int)) (v : Value) (W : World) : Prop where
  box : W.heap[w.heap.size]? = some (.cells #[v] 35 (0, 0))
  row : W.ownsRow w.heap.size 29 2 v pre.length (hCells pre)
  below : Below w.heap.size w W
  loop : W.heap[w.heap.size + 3]? = some (.loop lo)
  df : W.heap[w.heap.size + 2]? = some (.deferred (some []))
theorem row_ne {W : World} {base : Nat} {v : Value} {n : Nat} {xs : List Value} (h : W.ownsRow base 29 2 v n xs) {j : Nat} {o : Obj} (hj : W.heap[j]? = some o) (ho : ∀ cur, o ≠ .cells cur 29 (0, 0)) : v.ownBlock = none ∨ v.ownBlock ≠ some j := by
  rcases h.2 with ⟨rfl, _⟩ | ⟨g, cap, cur, rfl, _, hg, _⟩
  · exact .inl rfl
  · refine .inr fun e => ?_
    simp only [Value.ownBlock, Option.some.injEq] at e
    subst e
    rw [hg] at hj; cases hj
    exact ho cur rfl
theorem AllI.turn {w W W' : World} {lo : Loop} {pre : List (Int × Int)} {v : Value} (h : AllI w lo pre v W) {r : Option Nat} (hg : W.grownBy W' r) (hr : ∀ k, r = some k → w.heap.size < k ∧ k ≠ w.heap.size + 2 ∧ k ≠ w.heap.size + 3) (hv : v.ownBlock = none ∨ v.ownBlock ≠ r) : AllI w lo pre v W' := by
  have lt : ∀ {k : Nat} {o : Obj}, W.heap[k]? = some o → k < W.heap.size := fun h => (Array.getElem?_eq_some_iff.1 h).1
  refine ⟨(hg.block _ (lt h.box) fun e => ?_).trans h.box, h.row.kept hg hv, h.below.grown hg h.below.size (fun k e => by have := hr k e; omega), (hg.block _ (lt h.loop) fun e => ?_).trans h.loop, (hg.block _ (lt h.df) fun e => ?_).trans h.df⟩
  · have := hr _ e.symm; omega
  · have := hr _ e.symm; omega
  · have := hr _ e.symm; omega
theorem AllI.put {w W : World} {lo : Loop} {pre : List (Int × Int)} {v : Value} (h : AllI w lo pre v W) (lo' : Loop) : AllI w lo' pre v (W.putObj (w.heap.size + 3) (.loop lo')) := by
  have lt : ∀ {k : Nat} {o : Obj}, W.heap[k]? = some o → k < W.heap.size := fun h => (Array.getElem?_eq_some_iff.1 h).1
  have hg := grownBy_putObj' W (w.heap.size + 3) (.loop lo')
  refine ⟨(World.putObj_heap_other (by omega)).trans h.box, h.row.kept hg (row_ne h.row h.loop (fun cur e => by cases e)), h.below.grown hg h.below.size (fun k e => by cases e; omega), World.putObj_heap_same (lt h.loop), (World.putObj_heap_other (by omega)).trans h.df⟩

theorem all_loop {F : Fence} (hd : F.depth = none) {n : Nat} (h78 : F.fn 78) (h79 : F.fn 79) (hro : F.round = none) (h1 : 1 ≤ n) {T : T} {w w2 : World} {A B : Code} {Q : Exit → Act → World → Prop} {act : Act}
    (hev : act.eval (Operand.tmp 11) = .func (.func 78) #[] #[.pointer (some ⟨w.heap.size + 1, 0, none⟩)]) (hT : InW w.heap.size w T) (hs2 : w2.heap.size = w.heap.size + 2) (hb2 : Below w.heap.size w w2)
    (hbox : w2.heap[w.heap.size]? = some (.cells #[.slice none 0 0] 35 (0, 0))) (hpt : w2.cell? ⟨w.heap.size + 1, 0, none⟩ = some (pv T.ptr 0))
    (hround : ∀ (lo : Loop) (pre : List (Int × Int)) (x : Int × Int) (v : Value) (W : World), lo.state = .ready → lo.pending = none → AllI w lo pre v W → pre.length < (hans T).length →
      A.wpIn (F.inRound (w.heap.size + 3)) (n - 1 - 1) Try.prog (Exit.then (fun a₁ w₁ => ∃ w₂, (Instr.beginRound (w.heap.size + 3)).run Try.prog w₁ = .ok () w₂ ∧ B.wpIn (F.inRound (w.heap.size + 3)) (n - 1 - 1) Try.prog (roundPost Try.prog (w.heap.size + 3)
        (fun e W' => e = .returned (.bool true) ∧ (∃ v', AllI w lo (pre ++ [x]) v' W') ∧ W.heap.size ≤ W'.heap.size)) a₁ w₂) (fun _ _ _ => False)) { tmps := act.tmps.setIfInBounds 12 (hV x), defers := [] } W)
    (hdone : ∀ (lo : Loop) (v : Value) (W : World), AllI w lo (hans T) v W → Q .normal { act with defers := { target := .collected (w.heap.size + 2), args := #[] } :: act.defers } W) :
    (Code.rangeFunc (Operand.tmp 11) #[12] A B).wpIn F n Try.prog Q act w2 := by
  refine wpIn_rangeFunc ?_
  intro fn hfn
  rw [hro]
  obtain ⟨lo, hlo⟩ : ∃ lo : Loop, { state := .ready, pending := none, fn := fn, tmps := act.tmps, params := #[12], assign := A, body := B, defers := w2.heap.size } = lo := ⟨_, rfl⟩
  have l1 : lo.state = .ready := by rw [← hlo]
  have l2 : lo.pending = none := by rw [← hlo]
  have hent := run_enterLoop_outer (P := Try.prog) (w := w2) fn act.tmps #[12] A B
  rw [hlo] at hent
  obtain ⟨W1, hW1⟩ : ∃ W1, (w2.alloc (.deferred (some []))).alloc (.loop lo) = W1 := ⟨_, rfl⟩
  rw [hW1] at hent
  have hb1 : Below w.heap.size w W1 := by rw [← hW1]; exact (hb2.alloc (by omega) _).alloc (by simp; omega) _
  have hI1 : AllI w lo [] (.slice none 0 0) W1 := by
    refine ⟨?_, World.ownsRow_nil _ _ _ _, hb1, ?_, ?_⟩
    · rw [← hW1]; exact (Below.heap_alloc _ _ _ (by simp; omega)).trans ((Below.heap_alloc _ _ _ (by omega)).trans hbox)
    · rw [← hW1]; have := World.alloc_heap_new (w2.alloc (.deferred (some []))) (.loop lo); rwa [World.size_alloc, hs2] at this
    · rw [← hW1]; have := World.alloc_heap_new w2 (.deferred (some [])); rw [hs2] at this; exact (Below.heap_alloc _ _ _ (by simp; omega)).trans this
  have hpt1 : W1.cell? ⟨w.heap.size + 1, 0, none⟩ = some (pv T.ptr 0) := by
    rw [← hW1]; exact (World.cell?_of_block (Below.heap_alloc _ _ _ (by simp; omega))).trans ((World.cell?_of_block (Below.heap_alloc _ _ _ (by simp; omega))).trans hpt)
  rw [hs2] at hent
  refine ⟨w.heap.size + 2 + 1, [{ target := .collected (w.heap.size + 2), args := #[] }], W1, { target := .fn (.func 78) #[.pointer (some ⟨w.heap.size + 1, 0, none⟩)], args := #[.func (.yield (w.heap.size + 2 + 1)) #[] #[]] }, W1, 78,
    #[.func (.yield (w.heap.size + 2 + 1)) #[] #[], .pointer (some ⟨w.heap.size + 1, 0, none⟩)], W1, hent, ?_, ?_, ?_, fun _ => h1, ?_⟩
  · simp only [resolve, hev]
    simp [go_sem]
  · intro f' hf'; simp [Target.leads] at hf'; subst hf'; exact h78
  · have eg := enters_of Try.func78 (by kernel_rfl) rfl
    simp [invoke, go_sem, eg]
  · refine (each1_in F hd (n - 1) h78 h79 hro (w.heap.size + 3) (w.heap.size + 1) w.heap.size T (fun pre W => ∃ v, AllI w lo pre v W) (fun _ _ => False) ?_ W1 hpt1 (hT.below hb1) ⟨_, hI1⟩).mono ?_
    · rintro pre x W ⟨v, hI⟩ hlen
      have hy := run_yield (P := Try.prog) (args := #[hV x]) hI.loop (by rw [← hlo]; rfl)
      have e1 : lo.fn = fn := by rw [← hlo]
      have e2 : lo.assign = A := by rw [← hlo]
      have e3 : lo.body = B := by rw [← hlo]
      have e4 : (lo.params.zip #[hV x]).foldl (fun tmps (t, a) => tmps.setIfInBounds t a) lo.tmps = act.tmps.setIfInBounds 12 (hV x) := by rw [← hlo]; simp
      rw [e1, e2, e3, e4] at hy
      refine ⟨fn, _, A, B, hy, (roundIn_of_wpIn hfn (hround lo pre x v W l1 l2 hI hlen)).mono ?_⟩
      rintro e W' ⟨rfl, ⟨v', hI'⟩, hsz⟩
      exact .inl ⟨rfl, ⟨v', hI'⟩, ⟨hI'.below.os.trans hI.below.os.symm, hI'.below.tape.trans hI.below.tape.symm, hI'.below.output.trans hI.below.output.symm, hsz, fun k hk => (hI'.below.block k hk).trans (hI.below.block k hk).symm⟩⟩
    · rintro e W2 ⟨⟨v0, rfl⟩, (⟨xs, rfl, v, hI⟩ | ⟨pre, _, h⟩)⟩
      · have hend := run_endLoop (P := Try.prog) hI.loop (by rw [l1]; simp)
        rw [l2] at hend
        exact ⟨none, _, hend, hdone _ v _ (hI.put _)⟩
      · exact h.elim
set_option maxRecDepth 100000 in
set_option maxHeartbeats 4000000 in
theorem all_in (F : Fence) (hd : F.depth = none) (n : Nat) (h18 : F.fn 18) (h50 : F.fn 50) (h78 : F.fn 78) (h79 : F.fn 79) (hro : F.round = none) (hn : 3 ≤ n) (a : Nat) (T : T) (w : World) (ha : a < w.heap.size) (hc : w.cell? ⟨a, 0, none⟩ = some (pv T.ptr 0)) (hT : InW w.heap.size w T) (hlen : (hans T).length < 1099511627776) :
    CallsIn F n Try.prog 18 #[.pointer (some ⟨a, 0, none⟩)] w fun e w' => ∃ v, e = .returned v ∧ w'.ownsRow w.heap.size 29 2 v (hans T).length (hCells (hans T)) ∧ Below w.heap.size w w' := by
  have h1 : 1 ≤ n := by omega
  obtain ⟨i0, z0, hi0, hz0, hz1, hz2, hz3⟩ := infoB_of (P := Try.prog) (t := 29) (sz := 2) (by_ := 16) (by kernel_rfl)
  obtain ⟨p0, hp0⟩ : ∃ p0, pv T.ptr 0 = .pointer p0 := by unfold pv; split <;> exact ⟨_, rfl⟩
  rw [hp0] at hc
  refine callsIn_of_wp_marks Try.func18 rfl h18 ?_ hro
  simp only [Try.ntmps18, List.size_toArray, List.length_cons, List.length_nil, Nat.reduceAdd, Nat.reduceSub, Array.replicate_succ, Array.replicate_zero, List.push_toArray, List.append_toArray, List.nil_append, List.cons_append]
  have hc1 : (w.alloc (.cells #[.slice none 0 0] 35)).cell? ⟨a, 0, none⟩ = some (.pointer p0) := (World.cell?_of_block (Below.heap_alloc w _ a ha)).trans hc
  gi_wp2_with (gi_at_call 50; refine (each_in F (n - 1) h50 hro _ _).mono ?_; rintro e w' ⟨rfl, rfl⟩)
  refine all_loop hd h78 h79 hro h1 (T := T) (w := w) (by rfl) hT (by simp) (((Below.refl _ w).alloc (Nat.le_refl _) _).alloc (by simp) _) ?box ?pt ?round ?done
  case box => exact (Below.heap_alloc _ _ _ (by simp)).trans (World.alloc_heap_new w _)
  case pt =>
    rw [hp0]
    have := World.alloc_heap_new (w.alloc (Obj.cells #[Value.slice none 0 0] 35)) (.cells #[Value.pointer p0] 93)
    rw [World.size_alloc] at this
    exact (cell_of_box this).1
  case done =>
    intro lo v W hI
    obtain ⟨hc3, hf3⟩ := cell_of_box hI.box
    gi_wp2
    refine ⟨by simp, .inl ⟨_, _, rfl, run_takeDeferred hI.df, ?_⟩⟩
    have hg := grownBy_putObj' W (w.heap.size + 2) (.deferred none)
    exact ⟨_, results_tmp rfl _ _ _, v, rfl, hI.row.kept hg (row_ne hI.row hI.df (fun cur e => by cases e)), hI.below.grown hg hI.below.size (fun k e => by cases e; omega)⟩
  case round =>
    intro lo pre x v W l1 l2 hI hlen
    gi_wp2
    have hIa : AllI w lo pre v (W.alloc (.cells #[.int .i64 x.1, .int .u64 x.2] 29)) := hI.turn (World.grownBy_alloc W _ none) (fun k e => by cases e) (by cases v.ownBlock <;> simp)
    refine ⟨_, run_beginRound hIa.loop l1, ?_⟩
    have hIb := hIa.put { lo with state := .busy }
    have hbW : ((W.alloc (.cells #[.int .i64 x.1, .int .u64 x.2] 29)).putObj (w.heap.size + 3) (.loop { lo with state := .busy })).heap[W.heap.size]? = some (.cells #[.int .i64 x.1, .int .u64 x.2] 29 (0, 0)) := by
      have := (Array.getElem?_eq_some_iff.1 hI.loop).1
      exact (World.putObj_heap_other (by omega)).trans (World.alloc_heap_new W _)
    have hsW : ((W.alloc (.cells #[.int .i64 x.1, .int .u64 x.2] 29)).putObj (w.heap.size + 3) (.loop { lo with state := .busy })).heap.size = W.heap.size + 1 := by simp
    generalize (W.alloc (.cells #[.int .i64 x.1, .int .u64 x.2] 29)).putObj (w.heap.size + 3) (.loop { lo with state := .busy }) = W2 at hIb hbW hsW
    obtain ⟨hc2, hf2⟩ := cell_of_box hIb.box
    have hq0 : W2.cell? ⟨W.heap.size, 0, none⟩ = some (.int .i64 x.1) := by simp [World.cell?, hbW]
    have hq1 : W2.cell? ⟨W.heap.size, 1, none⟩ = some (.int .u64 x.2) := by simp [World.cell?, hbW]
    have hIc : AllI w { lo with state := .busy } pre v (W2.alloc (.cells #[.int .i64 x.1, .int .u64 x.2] 29)) := hIb.turn (World.grownBy_alloc W2 _ none) (fun k e => by cases e) (by cases v.ownBlock <;> simp)
    have hnew : ∀ (j : Nat) (u : Value), [Value.int .i64 x.1, Value.int .u64 x.2][j]? = some u → (W2.alloc (.cells #[.int .i64 x.1, .int .u64 x.2] 29)).cell? ((⟨W.heap.size + 1, 0, none⟩ : Addr).add j) = some u := by
      intro j u hu
      have hh := World.alloc_heap_new W2 (.cells #[.int .i64 x.1, .int .u64 x.2] 29)
      rw [hsW] at hh
      have t0 : (⟨W.heap.size + 1, 0, none⟩ : Addr).add 0 = ⟨W.heap.size + 1, 0, none⟩ := by simp [Addr.add]
      have t1 : (⟨W.heap.size + 1, 0, none⟩ : Addr).add 1 = ⟨W.heap.size + 1, 1, none⟩ := by simp [Addr.add]
      rcases j with _ | _ | j
      · simp only [List.getElem?_cons_zero] at hu; cases hu; rw [t0]; unfold World.cell?; rw [hh]; rfl
      · simp only [List.getElem?_cons_succ, List.getElem?_cons_zero] at hu; cases hu; rw [show (0 + 1) = 1 from rfl, t1]; unfold World.cell?; rw [hh]; rfl
      · simp at hu
    have hfin : ∀ v' w3, w3.ownsRow w.heap.size 29 2 v' (pre.length + 1) (hCells pre ++ [Value.int .i64 x.1, Value.int .u64 x.2]) → (W2.alloc (.cells #[.int .i64 x.1, .int .u64 x.2] 29)).grownBy w3 v.ownBlock →
        w3.heap[w.heap.size]? = some (.cells #[v] 35 (0, 0)) ∧ (∃ v1, v1 = v' ∧ AllI w { lo with state := .busy } (pre ++ [x]) v1 (w3.setCell ⟨w.heap.size, 0, none⟩ v')) ∧ W.heap.size ≤ (w3.setCell ⟨w.heap.size, 0, none⟩ v').heap.size := by
      intro v' w3 ho hg
      have lt : ∀ {W : World} {k : Nat} {o : Obj}, W.heap[k]? = some o → k < W.heap.size := fun h => (Array.getElem?_eq_some_iff.1 h).1
      have hkeep : ∀ {k : Nat} {o : Obj}, (W2.alloc (.cells #[.int .i64 x.1, .int .u64 x.2] 29)).heap[k]? = some o → (∀ cur, o ≠ .cells cur 29 (0, 0)) → w3.heap[k]? = some o := fun hk hno =>
        (hg.block _ (lt hk) fun e => by
          rcases row_ne hIc.row hk hno with e' | e'
          · rw [e'] at e; cases e
          · exact e' e.symm).trans hk
      have hb3 := hkeep hIc.box (fun cur e => by cases e)
      have hl3 := hkeep hIc.loop (fun cur e => by cases e)
      have hd3 := hkeep hIc.df (fun cur e => by cases e)
      have hI3 : AllI w { lo with state := .busy } (pre ++ [x]) v' (w3.setCell ⟨w.heap.size, 0, none⟩ v') := by
        have hset : ∀ k, k ≠ w.heap.size → (w3.setCell ⟨w.heap.size, 0, none⟩ v').heap[k]? = w3.heap[k]? := fun k hk => by simp [World.setCell, Array.getElem?_modify, Ne.symm hk]
        have hgs : w3.grownBy (w3.setCell ⟨w.heap.size, 0, none⟩ v') (some w.heap.size) := ⟨rfl, rfl, rfl, by simp [World.setCell], fun k _ hk => hset k (fun e => hk (by rw [e]))⟩
        refine ⟨?_, ?_, ?_, (hset _ (by omega)).trans hl3, (hset _ (by omega)).trans hd3⟩
        · simp [World.setCell, Array.getElem?_modify, hb3]
        · have hr : w3.ownsRow w.heap.size 29 2 v' (pre ++ [x]).length (hCells (pre ++ [x])) := by rw [hCells_snoc, List.length_append]; exact ho
          exact hr.kept hgs (row_ne hr hb3 (fun cur e => by cases e))
        · have := hIc.below.grown hg hIc.below.size (fun k e => (hIc.row.lt k e).1)
          exact this.grown hgs this.size (fun k e => by cases e; exact Nat.le_refl _)
      refine ⟨hb3, ⟨_, rfl, hI3⟩, ?_⟩
      have e1 := hg.size
      have e2 : (w3.setCell ⟨w.heap.size, 0, none⟩ v').heap.size = w3.heap.size := by simp [World.setCell]
      rw [e2]
      simp only [World.size_alloc] at e1
      omega
    gi_wp2_with (first
      | (gi_at_builtin; refine wpListIn_append_own _ rfl _ _ 35 rfl w.heap.size 29 i0 z0 2 16 Try.underlying35 hi0 hz0 hz1 hz2 hz3 (by decide) v pre.length (hCells pre) rfl hIc.row ⟨W.heap.size + 1, 0, none⟩ 1 1 [.int .i64 x.1, .int .u64 x.2] rfl rfl hnew (by simp [Value.oneCell']) (by simp only [maxLen]; omega) (by omega) (by have := hIc.below.size; omega) ?_; intro v' w3 hown' hg3 hnil3
         obtain ⟨hb3, ⟨v1, hv1, hI4⟩, hsz4⟩ := hfin v' w3 hown' hg3
         obtain ⟨hc3, hf3⟩ := cell_of_box hb3
         obtain ⟨g', cap', rfl⟩ : ∃ g' cap', v' = .slice (some ⟨g', 0, none⟩) (pre.length + 1) cap' := by
           rcases hown'.2 with ⟨_, h0⟩ | ⟨g', cap', _, h', _⟩
           · exact absurd h0 (by omega)
           · exact ⟨g', cap', h'⟩))
    subst hv1
    have hI5 := hI4.put { lo with state := .ready, pending := none }
    have elo : ({ lo with state := .ready, pending := none } : Loop) = lo := by cases lo; simp_all
    rw [elo] at hI5
    refine ⟨_, _, (run_endRound none hI4.loop).trans (congrArg (fun r => Result.ok (Value.bool true) (World.putObj _ (w.heap.size + 3) (.loop r))) elo), rfl, ⟨_, hI5⟩, ?_⟩
    exact Nat.le_trans hsz4 (grownBy_putObj' _ (w.heap.size + 3) (.loop lo)).size
theorem all_calls (a : Nat) (T : T) (w : World) (ha : a < w.heap.size) (hc : w.cell? ⟨a, 0, none⟩ = some (pv T.ptr 0)) (hT : InW w.heap.size w T) (hlen : (hans T).length < 1099511627776) :
    Calls Try.prog 18 #[.pointer (some ⟨a, 0, none⟩)] w fun e w' => ∃ v, e = .returned v ∧ w'.ownsRow w.heap.size 29 2 v (hans T).length (hCells (hans T)) ∧ Below w.heap.size w w' :=
  callsIn_wide.1 (all_in Fence.wide rfl 3 trivial trivial trivial trivial rfl (Nat.le_refl _) a T w ha hc hT hlen)
end Go.Proofs.Ytnlohongffpkpaa.T16
end

section
/- Layer 16: All's summary. A text of the session's own. -/
namespace Go.Proofs.Ytnlohongffpkpaa.T16
open Go Go.RowKit Go.Proofs.Ytnlohongffpkpaa.Sx Go.Proofs
set_option linter.unusedVariables false
set_option linter.unusedSimpArgs false

theorem inW_of {S : TS} {b : Mem} (hS : S.ok) {w : World} (hm : ∀ a o, S.mem b a = some o → w.heap[a]? = some o) : ∀ {t : T} {u : Int}, Rep S.H u t → InW w.heap.size w t
  | .nil, _, _ => trivial
  | .nd p s g c l r, u, ⟨h1, h2, h3⟩ => by
    obtain ⟨a, rfl, e1, e2⟩ := addr_ne hS h1
    have hh := hm a (.cells (Nd.cells ⟨s, g, l.ptr, r.ptr, u, ((l.size + r.size + 1 : Nat) : Int), c⟩) 98 (0, 0)) (by simp [TS.mem, e1, e2, h1])
    refine ⟨a, rfl, (Array.getElem?_eq_some_iff.1 hh).1, ?_, ?_, ?_, ?_, inW_of hS hm h2, inW_of hS hm h3⟩
    all_goals (unfold World.cell?; rw [hh]; rfl)
theorem len_hans (t : T) : (hans t).length = t.size := by simp [hans, len_nodes]
/-- the slice that All hands back, and where it lies -/
def rowOf (m : Mem) (L : List (Int × Int)) (v : Value) (m' : Mem) : Prop :=
  (L = [] ∧ v = .slice none 0 0 ∧ m' = m) ∨
  ∃ g cap cur, v = .slice (some ⟨g, 0, none⟩) L.length cap ∧ m g = none ∧ m' = alO m g (.cells cur 29 (0, 0)) ∧ L.length ≤ cap ∧ cur.size = cap * 2 ∧ cur.toList.take (L.length * 2) = hCells L
def allP (m : Mem) (t : Int) : Prop := ∃ G : TG, G.is m t ∧ G.t.size < 1099511627776
def allQ (m : Mem) (t : Int) (y : Vars) : Prop := ∀ G : TG, (G.is m t ∧ G.t.size < 1099511627776) → rowOf m (hans G.t) (hdV y.v) y.m
def s_all : Sum := memSum 18 fun m a => match a with | [a0] => (match ptrOf a0 with | some t => some ⟨allP m t, allQ m t, fun y => .u (.c (.sv (hdV y.v)))⟩ | _ => none) | _ => none
theorem pv_inj {p q : Int} (hp : 0 ≤ p) (hq : 0 ≤ q) (h : pv p 0 = pv q 0) : p = q := by
  have := congrArg vP h
  rwa [vP_pv hp, vP_pv hq] at this
theorem inW_nn {n : Nat} {w : World} {t : T} (h : InW n w t) : 0 ≤ t.ptr := by
  cases t with
  | nil => exact Int.le_refl _
  | nd p s g c l r => obtain ⟨b, rfl, _⟩ := h; simp only [T.ptr]; omega
theorem inW_fun {n : Nat} {w : World} : ∀ {t t' : T}, InW n w t → InW n w t' → t.ptr = t'.ptr → hans t = hans t'
  | .nil, .nil, _, _, _ => rfl
  | .nil, .nd p s g c l r, _, ⟨b, hp, _⟩, e => by simp only [T.ptr] at e; omega
  | .nd p s g c l r, .nil, ⟨b, hp, _⟩, _, e => by simp only [T.ptr] at e; omega
  | .nd p s g c l r, .nd p' s' g' c' l' r', ⟨b, hp, hb, c0, c1, c2, c3, hl, hr⟩, ⟨b', hp', hb', c0', c1', c2', c3', hl', hr'⟩, e => by
    simp only [T.ptr] at e
    have : b = b' := by omega
    subst this
    rw [c0] at c0'; rw [c1] at c1'; rw [c2] at c2'; rw [c3] at c3'
    simp only [Option.some.injEq, Value.int.injEq, true_and] at c0' c1' c2' c3'
    subst c0' c1'
    have e1 := inW_fun hl hl' (pv_inj (inW_nn hl) (inW_nn hl') c2')
    have e2 := inW_fun hr hr' (pv_inj (inW_nn hr) (inW_nn hr') c3')
    simp only [hans, nodes, List.map_append, List.map_cons] at e1 e2 ⊢
    rw [e1, e2]
theorem root_cell {S : TS} {b : Mem} {t : T} (h : At S t []) {w : World} (hw : ∀ a o, S.mem b a = some o → w.heap[a]? = some o) : w.cell? ⟨S.t, 0, none⟩ = some (pv t.ptr 0) := by
  have ht := hw S.t (.cells #[pv S.root 0, .map (some S.q)] 95 (0, 0)) (by simp [TS.mem])
  unfold World.cell?; rw [ht, show S.root = t.ptr from h.ctx]; rfl
theorem all_pure (m : Mem) (S : TS) (b : Mem) (t : T) (n : Nat) (hm : m = S.mem b) (hS : Tre S t n) (hsz : t.size < 1099511627776) (w : World) (hw : ∀ a o, m a = some o → w.heap[a]? = some o) :
    Calls Try.prog 18 #[pv S.p 0] w fun e w' => ∃ v m', e = .returned v ∧ rowOf m (hans t) v m' ∧ MemTo m m' w w' := by
  subst hm
  have hok := hS.at'.ok
  have ht := hw S.t (.cells #[pv S.root 0, .map (some S.q)] 95 (0, 0)) (by simp [TS.mem])
  have hlt := (Array.getElem?_eq_some_iff.1 ht).1
  have hc : w.cell? ⟨S.t, 0, none⟩ = some (pv t.ptr 0) := by
    unfold World.cell?; rw [ht, show S.root = t.ptr from hS.at'.ctx]; rfl
  have ltm : ∀ a o, S.mem b a = some o → a < w.heap.size := fun a o h => (Array.getElem?_eq_some_iff.1 (hw a o h)).1
  rw [show pv S.p 0 = .pointer (some ⟨S.t, 0, none⟩) from pv_succ S.t 0]
  refine (all_calls S.t t w hlt hc (inW_of hok hw hS.at'.rep) (by rw [len_hans]; exact hsz)).mono ?_
  rintro e w' ⟨v, rfl, hrow, hb⟩
  rcases hrow.2 with ⟨rfl, h0⟩ | ⟨g, cap, cur, rfl, hg0, hg, h1, h2, h3, h4⟩
  · exact ⟨_, S.mem b, rfl, .inl ⟨List.eq_nil_of_length_eq_zero h0, rfl, rfl⟩, ⟨hb.os, hb.tape, hb.output, hb.size, fun a o h => (hb.block a (ltm a o h)).trans (hw a o h), fun k hk _ => hb.block k hk, fun a o h => .inl (by rw [h]; simp)⟩⟩
  · have hgn : S.mem b g = none := by
      cases h : S.mem b g with
      | none => rfl
      | some o => have := ltm g o h; omega
    refine ⟨_, alO (S.mem b) g (.cells cur 29 (0, 0)), rfl, .inr ⟨g, cap, cur, rfl, hgn, rfl, h1, h3, h4⟩, ⟨hb.os, hb.tape, hb.output, hb.size, fun a o h => ?_, fun k hk _ => hb.block k hk, fun a o h => ?_⟩⟩
    · unfold alO at h
      by_cases e : a = g
      · rw [if_pos e] at h; cases h; subst e; exact hg
      · rw [if_neg e] at h; exact (hb.block a (ltm a o h)).trans (hw a o h)
    · unfold alO at h
      by_cases e : a = g
      · subst e; exact .inr hg0
      · rw [if_neg e] at h; exact .inl (by rw [h]; simp)
theorem s_all_ok : SumOK Try.prog s_all := by
  refine memSum_ok ⟨_, Try.func18, by kernel_rfl⟩ fun m args ms h hp hwf ρ w hm => ?_
  split at h
  · split at h
    · rename_i a0 _ t h0
      cases h
      obtain ⟨⟨S, b, T, n⟩, ⟨e1, e2, e3⟩, e4⟩ := hp
      simp only at e1 e2 e3 e4
      have hv : (List.map (V.den ρ) [a0]).toArray = #[pv S.p 0] := by
        rw [List.map_cons, List.map_nil, ptrOf_den h0, e2]; rfl
      rw [hv]
      refine (all_pure m S b T n e1 e3 e4 w hm).mono ?_
      rintro e w' ⟨v, m', rfl, hr, hM⟩
      refine ⟨⟨[], [], [v], m'⟩, ?_, ?_, hM⟩
      · rintro ⟨S1, b1, T1, n1⟩ ⟨⟨g1, g2, g3⟩, g4⟩
        simp only at g1 g2 g3 g4
        have hT : hans T1 = hans T := by
          have i1 : InW w.heap.size w T := inW_of e3.at'.ok (fun a o h => hm a o (by rw [e1]; exact h)) e3.at'.rep
          have i2 : InW w.heap.size w T1 := inW_of g3.at'.ok (fun a o h => hm a o (by rw [g1]; exact h)) g3.at'.rep
          have r1 := root_cell e3.at' (w := w) (fun a o h => hm a o (by rw [e1]; exact h))
          have r2 := root_cell g3.at' (w := w) (fun a o h => hm a o (by rw [g1]; exact h))
          have et : S1.t = S.t := by rw [e2] at g2; unfold TS.p at g2; omega
          rw [et, r1] at r2
          exact (inW_fun i1 i2 (pv_inj (inW_nn i1) (inW_nn i2) (Option.some.inj r2))).symm
        show rowOf m (hans T1) v m'
        rw [hT]; exact hr
      · rcases hr with ⟨_, rfl, _⟩ | ⟨g, cap, cur, rfl, _⟩ <;> rfl
    · cases h
  · cases h
end Go.Proofs.Ytnlohongffpkpaa.T16
end

section
/- Layer 16: the laws' example; what a law reads. A text of the session's own. -/
namespace Go.Proofs.Ytnlohongffpkpaa.T16
open Go Go.RowKit Go.Proofs.Ytnlohongffpkpaa.Sx Go.Proofs
set_option linter.unusedVariables false
set_option linter.unusedSimpArgs false

/-! what a law was handed -/
def u16 (x : Int) : Prop := 0 ≤ x ∧ x < 65536
/-- a slice of numbers of 16 bits, in a memory -/
structure Arg (l : Value) (xs : List Int) (m : Mem) : Prop where
  sl : isSlV (pl l) = true
  n : slN (pl l) = xs.length
  at' : ∀ i : Nat, ∀ x, xs[i]? = some x → inSl (pl l) i = true ∧ okL m (slB (pl l)) (aOff (slO (pl l)) i 1) [.li .u16 0] = true ∧ gI m (slB (pl l)) (aOff (slO (pl l)) i 1) = x
  rng : ∀ x ∈ xs, u16 x
theorem mget_more {m m' : Mem} (h : ∀ a, m a ≠ none → m' a = m a) {p : Int} {cs : Array Value} (hp : mget m p = some cs) : mget m' p = some cs := by
  obtain ⟨a, ty, q, e1, e2⟩ := mget_at hp
  unfold mget
  rw [e1]
  simp only [h a (by rw [e2]; simp), e2]
theorem okL_more {m m' : Mem} (h : ∀ a, m a ≠ none → m' a = m a) {p : Int} {k : Nat} {zs : List C} (hp : okL m p k zs = true) : okL m' p k zs = true ∧ ∀ j, mcell m' p j = mcell m p j := by
  unfold okL at hp
  split at hp
  · rename_i cs hc
    have := mget_more h hc
    refine ⟨by unfold okL; rw [this]; exact hp, fun j => by unfold mcell; rw [this, hc]⟩
  · cases hp
theorem Arg.more {l : Value} {xs : List Int} {m m' : Mem} (h : Arg l xs m) (hm : ∀ a, m a ≠ none → m' a = m a) : Arg l xs m' := by
  refine ⟨h.sl, h.n, fun i x hx => ?_, h.rng⟩
  obtain ⟨a1, a2, a3⟩ := h.at' i x hx
  obtain ⟨b1, b2⟩ := okL_more hm a2
  exact ⟨a1, b1, by unfold gI at a3 ⊢; rw [b2]; exact a3⟩
/-- what lay ahead is none of the tree's -/
structure Fre (S : TS) (m : Mem) : Prop where
  t : m S.t = none
  q : m S.q = none
  H : ∀ a : Nat, S.H ((a : Int) + 1) ≠ none → m a = none
theorem Fre.more {S : TS} {m : Mem} (h : Fre S m) : ∀ a, m a ≠ none → S.mem m a = m a := by
  intro a ha
  have h1 : a ≠ S.t := by rintro rfl; exact ha h.t
  have h2 : a ≠ S.q := by rintro rfl; exact ha h.q
  have h3 : S.H ((a : Int) + 1) = none := by
    cases e : S.H ((a : Int) + 1) with
    | none => rfl
    | some d => exact absurd (h.H a (by rw [e]; simp)) ha
  simp [TS.mem, h1, h2, h3]
theorem Fre.ins {S S' : TS} {m : Mem} (h : Fre S m) {a : Nat} (ht : S'.t = S.t) (hq : S'.q = S.q) (ha : S.mem m a = none) (hd : ∀ q, S'.H q = none ↔ S.H q = none ∧ q ≠ (a : Int) + 1) : Fre S' m := by
  obtain ⟨f1, f2, f3⟩ := free_at ha
  have hm : m a = none := by simpa [TS.mem, f1, f2, f3] using ha
  refine ⟨by rw [ht]; exact h.t, by rw [hq]; exact h.q, fun c hc => ?_⟩
  by_cases e : c = a
  · subst e; exact hm
  · refine h.H c fun e2 => hc ((hd _).2 ⟨e2, by omega⟩)
/-- a slice of handles, in a memory -/
structure Row (v : Value) (hs : List (Int × Int)) (m : Mem) : Prop where
  sl : isSlV (pl v) = true
  n : slN (pl v) = hs.length
  at' : ∀ i : Nat, ∀ x, hs[i]? = some x → inSl (pl v) i = true ∧ nzp (slB (pl v)) = true ∧ okL m (slB (pl v)) (aOff (slO (pl v)) i 2) [.li .i64 0] = true ∧ gI m (slB (pl v)) (aOff (slO (pl v)) i 2) = x.1 ∧
    okL m (slB (pl v)) (.succ (aOff (slO (pl v)) i 2)) [.li .u64 0] = true ∧ gI m (slB (pl v)) (.succ (aOff (slO (pl v)) i 2)) = x.2
theorem hCells_get : ∀ (hs : List (Int × Int)) (i : Nat) (x : Int × Int), hs[i]? = some x → (hCells hs)[2 * i]? = some (.int .i64 x.1) ∧ (hCells hs)[2 * i + 1]? = some (.int .u64 x.2)
  | [], i, x, h => by simp at h
  | y :: hs, 0, x, h => by
    simp only [List.getElem?_cons_zero, Option.some.injEq] at h
    subst h
    exact ⟨rfl, rfl⟩
  | y :: hs, i + 1, x, h => by
    simp only [List.getElem?_cons_succ] at h
    obtain ⟨h1, h2⟩ := hCells_get hs i x h
    have e : hCells (y :: hs) = .int .i64 y.1 :: .int .u64 y.2 :: hCells hs := rfl
    rw [e]
    exact ⟨by rw [show 2 * (i + 1) = 2 * i + 1 + 1 by omega, List.getElem?_cons_succ, List.getElem?_cons_succ]; exact h1, by rw [show 2 * (i + 1) + 1 = 2 * i + 1 + 1 + 1 by omega, List.getElem?_cons_succ, List.getElem?_cons_succ]; exact h2⟩
theorem Row.of {m m' : Mem} {hs : List (Int × Int)} {v : Value} (h : rowOf m hs v m') : Row v hs m' ∧ ∀ a, m a ≠ none → m' a = m a := by
  rcases h with ⟨rfl, rfl, rfl⟩ | ⟨g, cap, cur, rfl, hg, rfl, h1, h2, h3⟩
  · exact ⟨⟨rfl, rfl, fun i x h => by simp at h⟩, fun _ _ => rfl⟩
  · refine ⟨⟨rfl, rfl, fun i x hx => ?_⟩, fun a ha => ?_⟩
    · have hlt : i < hs.length := (List.getElem?_eq_some_iff.1 hx).1
      obtain ⟨c1, c2⟩ := hCells_get hs i x hx
      have k1 : cur[2 * i]? = some (.int .i64 x.1) := by
        have : cur.toList[2 * i]? = some (.int .i64 x.1) := by rw [← c1, ← h3, List.getElem?_take_of_lt (by omega)]
        simpa using this
      have k2 : cur[2 * i + 1]? = some (.int .u64 x.2) := by
        have : cur.toList[2 * i + 1]? = some (.int .u64 x.2) := by rw [← c2, ← h3, List.getElem?_take_of_lt (by omega)]
        simpa using this
      have e0 : pl (Value.slice (some ⟨g, 0, none⟩) hs.length cap) = .slice (some ⟨g, 0, none⟩) hs.length cap := rfl
      have hm : mget (alO m g (.cells cur 29 (0, 0))) ((g : Int) + 1) = some cur := by
        unfold mget
        rw [show (((g : Int) + 1).toNat) = g + 1 by omega]
        simp [alO]
      have ea : aOff 0 (i : Int) 2 = 2 * i := by simp [aOff]; omega
      rw [e0]
      simp only [slB, slO, ea]
      refine ⟨?_, nzp_of (by omega), ?_, ?_, ?_, ?_⟩
      · have : Nat.ble hs.length cap = true := Nat.ble_eq_true_of_le h1
        simp [inSl, isSl, slN, this, hlt]
      · unfold okL; rw [hm]; simp [okR, k1, okC, isK]
      · unfold gI mcell; rw [hm]; simp [k1, vI]
      · unfold okL; rw [hm]; simp [okR, k2, okC, isK]
      · unfold gI mcell; rw [hm]; simp [k2, vI]
    · have : a ≠ g := by rintro rfl; exact ha hg
      simp [alO, this]
end Go.Proofs.Ytnlohongffpkpaa.T16
end

section
/- Layer 16: TreeOrder's walk. A text of the session's own. -/
namespace Go.Proofs.Ytnlohongffpkpaa.T16
open Go Go.RowKit Go.Proofs.Ytnlohongffpkpaa.Sx Go.Proofs
set_option linter.unusedVariables false
set_option linter.unusedSimpArgs false

theorem hans_get {t : T} {j : Nat} {p s g : Int} (h : (nodes t)[j]? = some (p, s, g)) : (hans t)[j]? = some (s, g) := by
  simp [hans, h]
theorem half {a b : Nat} (h : a + b < 4611686018427387904) : iQuo .i64 (iAdd .i64 (a : Int) (b : Int)) 2 = (((a + b) / 2 : Nat) : Int) := by
  rw [iadd_i (by omega)]
  unfold iQuo
  rw [IntKind.wrap_i64]
  have : ((a : Int) + (b : Int)).tdiv 2 = (((a + b) / 2 : Nat) : Int) := by
    rw [← Int.natCast_add]
    exact (Int.ofNat_tdiv (a + b) 2)
  rw [this]; omega
def tru : V := .u (.c (.lb true))
end Go.Proofs.Ytnlohongffpkpaa.T16
end

section
/- Layer 16: TreeOrder's contract. A text of the session's own. -/
namespace Go.Proofs.Ytnlohongffpkpaa.T16
open Go Go.RowKit Go.Proofs.Ytnlohongffpkpaa.Sx Go.Proofs Go.WideShapes Go.ChangeShapes
set_option linter.unusedVariables false
set_option linter.unusedSimpArgs false

theorem below_of {m m' : Mem} {w w' : World} (hm : ∀ a o, m a = some o → w.heap[a]? = some o) (h : MemTo m m' w w') (hk : ∀ a, m a ≠ none → m' a = m a) : Below w.heap.size w w' := by
  refine ⟨h.os, h.tape, h.output, h.size, fun k hlt => ?_⟩
  cases e : m k with
  | none => exact h.far k hlt e
  | some o => rw [h.sub k o (by rw [hk k (by rw [e]; simp), e]), hm k o e]
end Go.Proofs.Ytnlohongffpkpaa.T16
end

section
/- Layer 16: a node goes: the way up, the hanging of what was under it, the filling. A text of the session's own. -/
namespace Go.Proofs.Ytnlohongffpkpaa.T16
open Go Go.RowKit Go.Proofs.Ytnlohongffpkpaa.Sx
set_option linter.unusedVariables false
set_option linter.unusedSimpArgs false

def T_remH (m : Mem) (t x c i : Int) (W : Leaf → Leaf) : Tr := (.br (nzp x) (.br (nzp x) (.br (okL m x 4 [.nilp]) (.req (whichOK m x) (.req (hangOK m t x c) (.letm (hangM m t x c) (fun n1 => (.br (cmpOK n1 c 0) (.br (bNot (peq c 0)) (.br (nzp c) (.br (nzp c) (.br (okS n1 c 6 1) (.letm (wrL n1 c 6 [(.bool false)]) (fun n2 => (.leaf (.up (W (.memo (.tup [(.c (.si .i64 i)), (.c (.lb true))]) n2)))))) (.no 72)) (.no 76)) (.no 75)) (.br (nzp x) (.br (nzp x) (.br (okL n1 x 6 [(.lb false)]) (.br (bNot (gB n1 x 6)) (.br (cmpOK n1 (gP m x 4) 0) (.br (bNot (peq (gP m x 4) 0)) (.req (fillsP n1 t (gP m x 4) (whichV m x)) (.any (fillsQ n1 t (gP m x 4) (whichV m x)) (fun z2 => (.leaf (.up (W (.memo (.tup [(.c (.si .i64 i)), (.c (.lb true))]) z2.4))))))) (.leaf (.up (W (.memo (.tup [(.c (.si .i64 i)), (.c (.lb true))]) n1))))) (.no 78)) (.leaf (.up (W (.memo (.tup [(.c (.si .i64 i)), (.c (.lb true))]) n1))))) (.no 70)) (.no 76)) (.no 75))) (.no 78)))))) (.no 70)) (.no 76)) (.no 75))
def T_remL (m : Mem) (t x i : Int) (W : Leaf → Leaf) : Tr := (.lp (.mk [(gP m x 4)] [] [] m) (fun z1 k1 => (.br (cmpOK z1.4 (hdI z1.1) 0) (.br (bNot (peq (hdI z1.1) 0)) (.br (nzp (hdI z1.1)) (.br (nzp (hdI z1.1)) (.br (okL z1.4 (hdI z1.1) 5 [(.li .i64 0)]) (.br (nzp (hdI z1.1)) (.br (nzp (hdI z1.1)) (.br (okS z1.4 (hdI z1.1) 5 1) (.letm (wrL z1.4 (hdI z1.1) 5 [(.int .i64 (iSub .i64 (gI z1.4 (hdI z1.1) 5) 1))]) (fun n1 => (.br (nzp (hdI z1.1)) (.br (nzp (hdI z1.1)) (.br (okL n1 (hdI z1.1) 4 [.nilp]) (.req ((([(0, (.u (.c (.np t 0)))), (6, (.u (.c (.si .i64 i)))), (8, (.u (.c (.np x 0))))] : List (Nat × V)) = [(0, (.u (.c (.np t 0)))), (6, (.u (.c (.si .i64 i)))), (8, (.u (.c (.np x 0))))]) ∧ (([] : List (Nat × Blk)) = [])) (.leaf (.again (.mk [(gP n1 (hdI z1.1) 4)] [] [] n1)))) (.no 70)) (.no 76)) (.no 75)))) (.no 72)) (.no 76)) (.no 75)) (.no 70)) (.no 76)) (.no 75)) (.br (nzp x) (.br (nzp x) (.br (nzp x) (.br (okL z1.4 x 2 [.nilp]) (.br (cmpOK z1.4 (gP z1.4 x 2) 0) (.br (peq (gP z1.4 x 2) 0) (.br (nzp x) (.br (nzp x) (.br (nzp x) (.br (okL z1.4 x 3 [.nilp]) (T_remH z1.4 t x (gP z1.4 x 3) i W) (.no 70)) (.no 81)) (.no 76)) (.no 75)) (T_remH z1.4 t x (gP z1.4 x 2) i W)) (.no 78)) (.no 70)) (.no 81)) (.no 76)) (.no 75))) (.no 78))))
def T_remove (m : Mem) (t : Int) (hs hg : Int) : Tr := (.req (indexP m t hs hg) (.any (indexQ m t hs hg) (fun y0 => (.br (bNot (hdB y0.2)) (.leaf (.memo (.tup [(.c (.li .i64 0)), (.c (.lb false))]) y0.4)) (.br (nzp t) (.br (nzp t) (.br (okL y0.4 t 1 [(.raw (.map (.none)))]) (.req ((Go.Maps.Keyed Try.prog 29) ∧ ((okM Try.prog 29 y0.4 (pl (mcell y0.4 t 1))) ∧ ((okKey Try.prog 29 (.agg (.mk [(.int .i64 hs), (.int .u64 hg)]))) ∧ (((okU (.c .nilp) (lkZ y0.4 (pl (mcell y0.4 t 1)) (.agg (.mk [(.int .i64 hs), (.int .u64 hg)])) (.pointer (.none)))) : Bool) = true)))) (.br (nzp t) (.br (nzp t) (.br (okL y0.4 t 1 [(.raw (.map (.none)))]) (.req ((Go.Maps.Keyed Try.prog 29) ∧ ((okM Try.prog 29 y0.4 (pl (mcell y0.4 t 1))) ∧ (okKey Try.prog 29 (.agg (.mk [(.int .i64 hs), (.int .u64 hg)]))))) (.letm (mdel y0.4 (pl (mcell y0.4 t 1)) (.agg (.mk [(.int .i64 hs), (.int .u64 hg)]))) (fun m1 => (.br (nzp (vP (lkZ y0.4 (pl (mcell y0.4 t 1)) (.agg (.mk [(.int .i64 hs), (.int .u64 hg)])) (.pointer (.none))))) (.br (nzp (vP (lkZ y0.4 (pl (mcell y0.4 t 1)) (.agg (.mk [(.int .i64 hs), (.int .u64 hg)])) (.pointer (.none))))) (.br (nzp (vP (lkZ y0.4 (pl (mcell y0.4 t 1)) (.agg (.mk [(.int .i64 hs), (.int .u64 hg)])) (.pointer (.none))))) (.br (okL m1 (vP (lkZ y0.4 (pl (mcell y0.4 t 1)) (.agg (.mk [(.int .i64 hs), (.int .u64 hg)])) (.pointer (.none)))) 2 [.nilp]) (.br (cmpOK m1 (gP m1 (vP (lkZ y0.4 (pl (mcell y0.4 t 1)) (.agg (.mk [(.int .i64 hs), (.int .u64 hg)])) (.pointer (.none)))) 2) 0) (.br (bNot (peq (gP m1 (vP (lkZ y0.4 (pl (mcell y0.4 t 1)) (.agg (.mk [(.int .i64 hs), (.int .u64 hg)])) (.pointer (.none)))) 2) 0)) (.br (nzp (vP (lkZ y0.4 (pl (mcell y0.4 t 1)) (.agg (.mk [(.int .i64 hs), (.int .u64 hg)])) (.pointer (.none))))) (.br (nzp (vP (lkZ y0.4 (pl (mcell y0.4 t 1)) (.agg (.mk [(.int .i64 hs), (.int .u64 hg)])) (.pointer (.none))))) (.br (nzp (vP (lkZ y0.4 (pl (mcell y0.4 t 1)) (.agg (.mk [(.int .i64 hs), (.int .u64 hg)])) (.pointer (.none))))) (.br (okL m1 (vP (lkZ y0.4 (pl (mcell y0.4 t 1)) (.agg (.mk [(.int .i64 hs), (.int .u64 hg)])) (.pointer (.none)))) 3 [.nilp]) (.br (cmpOK m1 (gP m1 (vP (lkZ y0.4 (pl (mcell y0.4 t 1)) (.agg (.mk [(.int .i64 hs), (.int .u64 hg)])) (.pointer (.none)))) 3) 0) (.br (bNot (peq (gP m1 (vP (lkZ y0.4 (pl (mcell y0.4 t 1)) (.agg (.mk [(.int .i64 hs), (.int .u64 hg)])) (.pointer (.none)))) 3) 0)) (.br (nzp (vP (lkZ y0.4 (pl (mcell y0.4 t 1)) (.agg (.mk [(.int .i64 hs), (.int .u64 hg)])) (.pointer (.none))))) (.br (nzp (vP (lkZ y0.4 (pl (mcell y0.4 t 1)) (.agg (.mk [(.int .i64 hs), (.int .u64 hg)])) (.pointer (.none))))) (.br (nzp (vP (lkZ y0.4 (pl (mcell y0.4 t 1)) (.agg (.mk [(.int .i64 hs), (.int .u64 hg)])) (.pointer (.none))))) (.br (okL m1 (vP (lkZ y0.4 (pl (mcell y0.4 t 1)) (.agg (.mk [(.int .i64 hs), (.int .u64 hg)])) (.pointer (.none)))) 3 [.nilp]) (.lp (.mk [(gP m1 (vP (lkZ y0.4 (pl (mcell y0.4 t 1)) (.agg (.mk [(.int .i64 hs), (.int .u64 hg)])) (.pointer (.none)))) 3)] [] [] m1) (fun y1 j1 => (.br (nzp (hdI y1.1)) (.br (nzp (hdI y1.1)) (.br (nzp (hdI y1.1)) (.br (okL y1.4 (hdI y1.1) 2 [.nilp]) (.br (cmpOK y1.4 (gP y1.4 (hdI y1.1) 2) 0) (.br (bNot (peq (gP y1.4 (hdI y1.1) 2) 0)) (.br (nzp (hdI y1.1)) (.br (nzp (hdI y1.1)) (.br (nzp (hdI y1.1)) (.br (okL y1.4 (hdI y1.1) 2 [.nilp]) (.req ((([(0, (.u (.c (.np t 0)))), (6, (.u (.c (.si .i64 (hdI y0.1))))), (8, (.u (.c (.np (vP (lkZ y0.4 (pl (mcell y0.4 t 1)) (.agg (.mk [(.int .i64 hs), (.int .u64 hg)])) (.pointer (.none)))) 0))))] : List (Nat × V)) = [(0, (.u (.c (.np t 0)))), (6, (.u (.c (.si .i64 (hdI y0.1))))), (8, (.u (.c (.np (vP (lkZ y0.4 (pl (mcell y0.4 t 1)) (.agg (.mk [(.int .i64 hs), (.int .u64 hg)])) (.pointer (.none)))) 0))))]) ∧ (([] : List (Nat × Blk)) = [])) (.leaf (.again (.mk [(gP y1.4 (hdI y1.1) 2)] [] [] y1.4)))) (.no 70)) (.no 81)) (.no 76)) (.no 75)) (.br (nzp (hdI y1.1)) (.br (nzp (hdI y1.1)) (.br (okL y1.4 (hdI y1.1) 0 [(.li .i64 0), (.li .u64 0)]) (.br (nzp (vP (lkZ y0.4 (pl (mcell y0.4 t 1)) (.agg (.mk [(.int .i64 hs), (.int .u64 hg)])) (.pointer (.none))))) (.br (nzp (vP (lkZ y0.4 (pl (mcell y0.4 t 1)) (.agg (.mk [(.int .i64 hs), (.int .u64 hg)])) (.pointer (.none))))) (.br (okL y1.4 (vP (lkZ y0.4 (pl (mcell y0.4 t 1)) (.agg (.mk [(.int .i64 hs), (.int .u64 hg)])) (.pointer (.none)))) 0 [(.li .i64 0), (.li .u64 0)]) (.br (nzp (vP (lkZ y0.4 (pl (mcell y0.4 t 1)) (.agg (.mk [(.int .i64 hs), (.int .u64 hg)])) (.pointer (.none))))) (.br (nzp (vP (lkZ y0.4 (pl (mcell y0.4 t 1)) (.agg (.mk [(.int .i64 hs), (.int .u64 hg)])) (.pointer (.none))))) (.br (okS y1.4 (vP (lkZ y0.4 (pl (mcell y0.4 t 1)) (.agg (.mk [(.int .i64 hs), (.int .u64 hg)])) (.pointer (.none)))) 0 2) (.letm (wrL y1.4 (vP (lkZ y0.4 (pl (mcell y0.4 t 1)) (.agg (.mk [(.int .i64 hs), (.int .u64 hg)])) (.pointer (.none)))) 0 [(.int .i64 (gI y1.4 (hdI y1.1) 0)), (.int .u64 (gI y1.4 (hdI y1.1) 1))]) (fun m2 => (.br (nzp (hdI y1.1)) (.br (nzp (hdI y1.1)) (.br (okS m2 (hdI y1.1) 0 2) (.letm (wrL m2 (hdI y1.1) 0 [(.int .i64 (gI y1.4 (vP (lkZ y0.4 (pl (mcell y0.4 t 1)) (.agg (.mk [(.int .i64 hs), (.int .u64 hg)])) (.pointer (.none)))) 0)), (.int .u64 (gI y1.4 (vP (lkZ y0.4 (pl (mcell y0.4 t 1)) (.agg (.mk [(.int .i64 hs), (.int .u64 hg)])) (.pointer (.none)))) 1))]) (fun m3 => (.br (nzp t) (.br (nzp t) (.br (okL m3 t 1 [(.raw (.map (.none)))]) (.br (nzp (vP (lkZ y0.4 (pl (mcell y0.4 t 1)) (.agg (.mk [(.int .i64 hs), (.int .u64 hg)])) (.pointer (.none))))) (.br (nzp (vP (lkZ y0.4 (pl (mcell y0.4 t 1)) (.agg (.mk [(.int .i64 hs), (.int .u64 hg)])) (.pointer (.none))))) (.br (okL m3 (vP (lkZ y0.4 (pl (mcell y0.4 t 1)) (.agg (.mk [(.int .i64 hs), (.int .u64 hg)])) (.pointer (.none)))) 0 [(.li .i64 0), (.li .u64 0)]) (.req ((Go.Maps.Keyed Try.prog 29) ∧ ((okM Try.prog 29 m3 (pl (mcell m3 t 1))) ∧ ((((isNilM (pl (mcell m3 t 1))) : Bool) = false) ∧ (okKey Try.prog 29 (.agg (.mk [(.int .i64 (gI m3 (vP (lkZ y0.4 (pl (mcell y0.4 t 1)) (.agg (.mk [(.int .i64 hs), (.int .u64 hg)])) (.pointer (.none)))) 0)), (.int .u64 (gI m3 (vP (lkZ y0.4 (pl (mcell y0.4 t 1)) (.agg (.mk [(.int .i64 hs), (.int .u64 hg)])) (.pointer (.none)))) 1))])))))) (.letm (mput m3 (pl (mcell m3 t 1)) (.agg (.mk [(.int .i64 (gI m3 (vP (lkZ y0.4 (pl (mcell y0.4 t 1)) (.agg (.mk [(.int .i64 hs), (.int .u64 hg)])) (.pointer (.none)))) 0)), (.int .u64 (gI m3 (vP (lkZ y0.4 (pl (mcell y0.4 t 1)) (.agg (.mk [(.int .i64 hs), (.int .u64 hg)])) (.pointer (.none)))) 1))])) (pv (vP (lkZ y0.4 (pl (mcell y0.4 t 1)) (.agg (.mk [(.int .i64 hs), (.int .u64 hg)])) (.pointer (.none)))) 0)) (fun m4 => (.br (nzp (hdI y1.1)) (.br (nzp (hdI y1.1)) (.br (okL m4 (hdI y1.1) 4 [.nilp]) (T_remL m4 t (hdI y1.1) (hdI y0.1) .up) (.no 70)) (.no 76)) (.no 75))))) (.no 70)) (.no 76)) (.no 75)) (.no 70)) (.no 76)) (.no 75)))) (.no 72)) (.no 76)) (.no 75)))) (.no 72)) (.no 76)) (.no 75)) (.no 70)) (.no 76)) (.no 75)) (.no 70)) (.no 76)) (.no 75))) (.no 78)) (.no 70)) (.no 81)) (.no 76)) (.no 75)))) (.no 70)) (.no 81)) (.no 76)) (.no 75)) (.br (nzp (vP (lkZ y0.4 (pl (mcell y0.4 t 1)) (.agg (.mk [(.int .i64 hs), (.int .u64 hg)])) (.pointer (.none))))) (.br (nzp (vP (lkZ y0.4 (pl (mcell y0.4 t 1)) (.agg (.mk [(.int .i64 hs), (.int .u64 hg)])) (.pointer (.none))))) (.br (okL m1 (vP (lkZ y0.4 (pl (mcell y0.4 t 1)) (.agg (.mk [(.int .i64 hs), (.int .u64 hg)])) (.pointer (.none)))) 4 [.nilp]) (T_remL m1 t (vP (lkZ y0.4 (pl (mcell y0.4 t 1)) (.agg (.mk [(.int .i64 hs), (.int .u64 hg)])) (.pointer (.none)))) (hdI y0.1) (fun l => l)) (.no 70)) (.no 76)) (.no 75))) (.no 78)) (.no 70)) (.no 81)) (.no 76)) (.no 75)) (.br (nzp (vP (lkZ y0.4 (pl (mcell y0.4 t 1)) (.agg (.mk [(.int .i64 hs), (.int .u64 hg)])) (.pointer (.none))))) (.br (nzp (vP (lkZ y0.4 (pl (mcell y0.4 t 1)) (.agg (.mk [(.int .i64 hs), (.int .u64 hg)])) (.pointer (.none))))) (.br (okL m1 (vP (lkZ y0.4 (pl (mcell y0.4 t 1)) (.agg (.mk [(.int .i64 hs), (.int .u64 hg)])) (.pointer (.none)))) 4 [.nilp]) (T_remL m1 t (vP (lkZ y0.4 (pl (mcell y0.4 t 1)) (.agg (.mk [(.int .i64 hs), (.int .u64 hg)])) (.pointer (.none)))) (hdI y0.1) (fun l => l)) (.no 70)) (.no 76)) (.no 75))) (.no 78)) (.no 70)) (.no 81)) (.no 76)) (.no 75))))) (.no 70)) (.no 76)) (.no 75))) (.no 70)) (.no 76)) (.no 75))))))

/-- a context whose first part is counted without one -/
def RepU (H : Int → Option Nd) (root : Int) : Int → Nat → Ctx → Ctx → Prop
  | q, n, [], ku => RepC H root q n ku
  | q, n, f :: kd, ku => H f.p = some (f.node q (topP (kd ++ ku)) (n - 1)) ∧ Rep H f.p f.o ∧ RepU H root f.p (n + f.o.size + 1) kd ku
theorem repU_end {H : Int → Option Nd} {root : Int} : ∀ {kd : Ctx} {q : Int} {n : Nat}, 1 ≤ n → RepU H root q n kd [] → RepC H root q (n - 1) kd
  | [], q, n, _, h => h
  | f :: kd, q, n, hn, ⟨h1, h2, h3⟩ => by
    rw [List.append_nil] at h1
    refine ⟨h1, h2, ?_⟩
    have := repU_end (by omega) h3
    rwa [show n - 1 + f.o.size + 1 = n + f.o.size + 1 - 1 by omega]
theorem topP_app : ∀ (kd : Ctx) (f : Fr) (ku : Ctx), topP (kd ++ [f] ++ ku) = topP (kd ++ f :: ku)
  | [], _, _ => rfl
  | _ :: _, _, _ => rfl
theorem ccnt_app (q : Int) : ∀ (k k' : Ctx), ccnt q (k ++ k') = ccnt q k + ccnt q k'
  | [], k' => by simp [ccnt]
  | f :: k, k' => by simp only [List.cons_append, ccnt, ccnt_app q k k']; omega
theorem node_n' (f : Fr) (q u : Int) (n : Nat) (v : Int) (h : v = ((n + f.o.size + 1 : Nat) : Int)) (m : Nat) : { f.node q u m with n := v } = f.node q u n := by
  unfold Fr.node
  cases f.i <;> simp [h]
/-- one step up -/
theorem repU_step {S : TS} {f : Fr} {ku : Ctx} : ∀ {kd : Ctx} {q : Int} {n : Nat}, 1 ≤ n → (∀ p, ccnt p (kd ++ f :: ku) ≤ 1) → RepU S.H S.root q n kd (f :: ku) →
    ∃ d, S.H f.p = some d ∧ 1 ≤ d.n ∧ d.u = topP ku ∧ (d.n ≤ ((n + csize (kd ++ f :: ku) : Nat) : Int)) ∧ RepU (S.set f.p { d with n := d.n - 1 }).H S.root q n (kd ++ [f]) ku
  | [], q, n, hn, hd, ⟨h1, h2, h3⟩ => by
    have hdf := hd f.p
    simp only [List.nil_append, ccnt, if_true] at hdf
    refine ⟨_, h1, by rw [node_n]; omega, node_u _ _ _ _, by rw [node_n]; simp only [List.nil_append, csize]; omega, ?_⟩
    have oth : ∀ p, 0 < cnt p f.o + ccnt p ku → (S.set f.p { f.node q (topP ku) n with n := (f.node q (topP ku) n).n - 1 }).H p = S.H p := by
      intro p hp
      rw [set_H, upd_ne]
      rintro rfl; omega
    refine ⟨?_, rep_congr (fun p hp => oth p (by omega)) h2, repC_congr (fun p hp => oth p (by omega)) h3⟩
    rw [set_H, upd_self]
    exact congrArg some (node_n' f q (topP ku) (n - 1) _ (by rw [node_n]; omega) n)
  | g :: kd, q, n, hn, hd, ⟨h1, h2, h3⟩ => by
    obtain ⟨d, g1, g2, g3, g4, g5⟩ := repU_step (kd := kd) (q := g.p) (n := n + g.o.size + 1) (by omega) (fun p => by have := hd p; simp only [List.cons_append, ccnt] at this; omega) h3
    have hdf := hd f.p
    simp only [List.cons_append, ccnt, ccnt_app, if_true] at hdf
    refine ⟨d, g1, g2, g3, by simp only [List.cons_append, csize] at g4 ⊢; omega, ?_, ?_, g5⟩
    · rw [set_H, upd_ne, show topP (kd.append [f] ++ ku) = topP (kd ++ f :: ku) from topP_app kd f ku]
      · exact h1
      · intro e; rw [if_pos e.symm] at hdf; omega
    · refine rep_congr (fun p hp => ?_) h2
      rw [set_H, upd_ne]
      rintro rfl; omega
/-- a tree whose context counts one less -/
structure Dec (S : TS) (t : T) (k : Ctx) : Prop where
  ok : S.ok
  rep : Rep S.H (topP k) t
  ctx : RepC S.H S.root t.ptr (t.size - 1) k
  dj : Dj t k
  sm : t.size + csize k < 1152921504606846976
section
variable {S : TS} {b : Mem}
theorem repU_rep {S : TS} {t : T} {u : Int} {p : Int} {d : Nd} (h : Rep S.H u t) (hc : cnt p t = 0) : Rep (S.set p d).H u t := rep_congr (fun q hq => by rw [set_H, upd_ne]; rintro rfl; omega) h
set_option maxHeartbeats 2000000 in
theorem remL_walk {x xs xg : Int} {xc : Bool} {l r : T} {k : Ctx} {i : Int} {W : Leaf → Leaf} {Q : Leaf → Prop} (h : At S (.nd x xs xg xc l r) k) (hj : l = .nil ∨ r = .nil)
    (hR : ∀ S1 c j, S.like S1 → T.nd x xs xg xc l r = mkT j x xs xg xc .nil c → Dec S1 (mkT j x xs xg xc .nil c) k → (T_remH (S1.mem b) S.p x c.ptr i W).sat (fun l => match l with | .up l => Q l | _ => False)) :
    (T_remL (S.mem b) S.p x i W).sat Q := by
  unfold T_remL
  have hx := h.rep.1
  have hu : gP (S.mem b) x 4 = topP k := gP_u h.ok hx
  rw [hu]
  have hd := h.dj
  have hsm := h.sm
  have hdx := hd x
  simp only [cnt, if_true] at hdx
  let J : Nat → Vars → Prop := fun N y => ∃ (S1 : TS) (kd ku : Ctx), N = ku.length ∧ y = ⟨[topP ku], [], [], S1.mem b⟩ ∧ kd ++ ku = k ∧ S.like S1 ∧ S1.ok ∧ Rep S1.H (topP k) (.nd x xs xg xc l r) ∧ RepU S1.H S1.root x (T.nd x xs xg xc l r).size kd ku
  refine lp_idx J (n0 := k.length) ⟨S, [], k, rfl, rfl, rfl, TS.like.refl S, h.ok, h.rep, h.ctx⟩ ?_
  rintro N y _ ⟨S1, kd, ku, rfl, rfl, hk, hl, hok, hrep, hU⟩
  simp only [hdI]
  rw [brT (cmp_zero _ _)]
  cases ku with
  | nil =>
    rw [List.append_nil] at hk
    subst hk
    have hx1 := hrep.1
    have hD : Dec S1 (.nd x xs xg xc l r) kd := ⟨hok, hrep, repU_end (by simp only [T.size]; omega) hU, hd, hsm⟩
    have hgo : ∀ {T' : Tr} {N' : Nat}, T'.sat (fun l => match l with | .up l => Q l | _ => False) → T'.sat (inLoopJ J N' Q) := fun hh => sat_mono (fun l hl => by cases l <;> first | exact hl | exact hl.elim) hh
    rw [brF (by rfl), brT (nz_n hok hx1), brT (nz_n hok hx1), brT (nz_n hok hx1), brT (okL_2 hok hx1), brT (cmp_zero _ _), gP_l hok hx1, gP_r hok hx1]
    cases l with
    | nil =>
      rw [brT (by rfl), brT (nz_n hok hx1), brT (nz_n hok hx1), brT (nz_n hok hx1), brT (okL_3 hok hx1)]
      exact hgo (hR S1 r false hl rfl hD)
    | nd lp ls lg lc ll lr =>
      rcases hj with hj | hj
      · cases hj
      · subst hj
        rw [brF (show peq (T.nd lp ls lg lc ll lr).ptr 0 = false from peq_n hok hrep.2.1.1)]
        exact hgo (hR S1 _ true hl rfl hD)
  | cons f ku =>
    have hdc : ∀ p : Int, ccnt p k ≤ 1 := fun p => Nat.le_trans (Nat.le_add_left _ _) (hd p)
    rw [← hk] at hdc
    have hsz1 : 1 ≤ (T.nd x xs xg xc l r).size := by simp only [T.size]; omega
    obtain ⟨d, g1, g2, g3, g4, g5⟩ := repU_step hsz1 hdc hU
    rw [hk] at g4
    have hcf : cnt f.p (.nd x xs xg xc l r) = 0 := by
      have := hd f.p
      rw [← hk, ccnt_app] at this
      simp only [ccnt, if_true] at this
      omega
    have ok2 : (S1.set f.p { d with n := d.n - 1 }).ok := hok.wn g1 _
    have h2 : (S1.set f.p { d with n := d.n - 1 }).H f.p = some { d with n := d.n - 1 } := by rw [set_H, upd_self]
    have hu2 : gP ((S1.set f.p { d with n := d.n - 1 }).mem b) f.p 4 = topP ku := (gP_u ok2 h2).trans g3
    have g6 : RepU (S1.set f.p { d with n := d.n - 1 }).H (S1.set f.p { d with n := d.n - 1 }).root x (T.nd x xs xg xc l r).size (kd ++ [f]) ku := g5
    rw [show topP (f :: ku) = f.p from rfl, brT (by rw [peq_n hok g1]; rfl), brT (nz_n hok g1), brT (nz_n hok g1), brT (okL_5 hok g1), brT (nz_n hok g1), brT (nz_n hok g1), brT (okS_n hok g1 rfl), sat_letm, gI_n hok g1, isub_i (by omega), wr_sz hok g1,
      brT (nz_n ok2 h2), brT (nz_n ok2 h2), brT (okL_4 ok2 h2), hu2, sat_req]
    have hl2 : S.like (S1.set f.p { d with n := d.n - 1 }) := hl.trans (like_set g1)
    have hr2 := repU_rep (p := f.p) (d := { d with n := d.n - 1 }) hrep hcf
    generalize S1.set f.p { d with n := d.n - 1 } = S2 at ok2 h2 hl2 hr2 g6
    refine ⟨by simp, ku.length, Nat.lt_succ_self _, S2, kd ++ [f], ku, rfl, rfl, ?_, hl2, ok2, hr2, g6⟩
    rw [← hk, List.append_assoc]; rfl

/-- what was under a node that goes hangs in its place -/
theorem Dec.hang {S : TS} {b : Mem} {j : Bool} {x xs xg : Int} {xc : Bool} {c : T} {k : Ctx} (h : Dec S (mkT j x xs xg xc .nil c) k) :
    hangOK (S.mem b) S.p x c.ptr ∧ ∃ S' : TS, hangM (S.mem b) S.p x c.ptr = S'.mem b ∧ S.like S' ∧ At S' c k ∧ (∃ d, S'.H x = some d ∧ d.c = xc) := by
  obtain ⟨hx, _, hc⟩ := Rep.mk.1 h.rep
  have hS := h.ok
  have hd := h.dj
  have x0 := p_ne0 hS hx
  have hdx := hd x
  rw [cnt_mk, if_pos rfl] at hdx
  have hctx := h.ctx
  rw [ptr_mk, size_mk, show T.nil.size = 0 from rfl, show 0 + c.size + 1 - 1 = c.size by omega] at hctx
  have du : ((Fr.mk j x xs xg xc c).node T.nil.ptr (topP k) T.nil.size).u = topP k := node_u _ _ _ _
  have dc : ((Fr.mk j x xs xg xc c).node T.nil.ptr (topP k) T.nil.size).c = xc := node_c _ _ _ _
  generalize (Fr.mk j x xs xg xc c).node T.nil.ptr (topP k) T.nil.size = d at hx du dc
  have hch := rep_has hc
  have ptrne : ∀ (t : T) (q : Int), q ≠ 0 → cnt q t = 0 → t.ptr ≠ q := by
    intro t q hq hc e
    rcases cnt_ptr t with rfl | h
    · exact hq e.symm
    · rw [e, hc] at h; omega
  have hcx : c.ptr ≠ x := ptrne c x x0 (by omega)
  have hux : topP k ≠ x := by
    intro e
    cases k with
    | nil => exact x0 e.symm
    | cons f k => have e : f.p = x := e; simp only [ccnt, if_pos e.symm] at hdx; omega
  have hcu : topP k ≠ 0 → c.ptr ≠ topP k := by
    intro h0 e
    rcases cnt_ptr c with rfl | hh
    · exact h0 e.symm
    · have := hd c.ptr
      rw [cnt_mk] at this
      cases k with
      | nil => exact h0 rfl
      | cons f k => have e : c.ptr = f.p := e; simp only [ccnt, if_pos e] at this; omega
  have hu : d.u = 0 ∨ ∃ du, S.H d.u = some du ∧ S.has du.r := by
    rw [du]
    cases k with
    | nil => exact .inl rfl
    | cons f k =>
      obtain ⟨k1, k2, k3⟩ := hctx
      refine .inr ⟨_, k1, ?_⟩
      unfold Fr.node
      cases f.i
      · exact rep_has k2
      · exact .inr ⟨_, hx⟩
  obtain ⟨g1, g2, g3⟩ := hang_spec (b := b) hS hx hch hu (by rw [du]; exact hux)
  obtain ⟨f1, f2, f3, f4, f5, f6, f7, f8, f9, f10⟩ := hang_at hS hx hch hu (by rw [du]; exact hux) (by rw [du]; exact hcu)
  generalize S.hang x d c.ptr = S' at g2 g3 f1 f2 f3 f4 f5 f6 f7 f8 f9 f10
  rw [du] at f5 f6 f7 f8
  have oth : ∀ q, q ≠ c.ptr → q ≠ topP k → S'.H q = S.H q := f8
  have dom : ∀ q, S'.H q = none ↔ S.H q = none := by
    intro q
    by_cases e1 : q = c.ptr
    · subst e1
      rcases hch with h0 | ⟨e, h0⟩
      · rw [h0, H_zero hS, H_zero g3]
      · rw [f6 _ h0, h0]; simp
    · by_cases e2 : q = topP k
      · subst e2
        rcases repC_up hctx with h0 | ⟨e, h0⟩
        · rw [h0, H_zero hS, H_zero g3]
        · rw [f7 _ h0, h0]; simp
      · rw [oth q e1 e2]
  refine ⟨g1, S', g2, ⟨f1, f2, f3, f4, dom⟩, ⟨g3, ?_, ?_, fun q => ?_, ?_⟩, d, ?_, dc⟩
  · refine rep_up (fun q => by have := hd q; rw [cnt_mk] at this; omega) hc (fun e he => f6 e he) fun q hq hne => oth q hne ?_
    intro e
    have := hd q
    rw [cnt_mk] at this
    cases k with
    | nil =>
      have e : q = 0 := e
      subst e
      have z : ∀ {u : Int} {t : T}, Rep S.H u t → cnt 0 t = 0 := fun hr => cnt_of_none (H_zero hS) hr
      rw [z hc] at hq; omega
    | cons f k => have e : q = f.p := e; simp only [ccnt, if_pos e] at this; omega
  · cases k with
    | nil => rw [f5, if_pos (show topP [] = 0 from rfl)]; rfl
    | cons f k =>
      obtain ⟨k1, k2, k3⟩ := hctx
      have fp0 : f.p ≠ 0 := p_ne0 hS k1
      have e0 : topP (f :: k) = f.p := rfl
      rw [e0] at f5 f7 f8 oth
      rw [if_neg fp0] at f5
      have hdf : ∀ q, 0 < cnt q f.o + ccnt q k → q ≠ f.p ∧ (q ≠ c.ptr ∨ q = 0) := by
        intro q hq
        have := hd q
        rw [cnt_mk] at this
        simp only [ccnt] at this
        refine ⟨fun e => by rw [if_pos e] at this; omega, ?_⟩
        rcases cnt_ptr c with rfl | hh
        · by_cases e : q = 0
          · exact .inr e
          · exact .inl e
        · refine .inl ?_
          rintro rfl; omega
      have oth2 : ∀ q, 0 < cnt q f.o + ccnt q k → S'.H q = S.H q := by
        intro q hq
        obtain ⟨h1, h2⟩ := hdf q hq
        rcases h2 with h2 | h2
        · exact oth q h2 h1
        · rw [h2, H_zero hS, H_zero g3]
      refine ⟨?_, rep_congr (fun q hq => oth2 q (by omega)) k2, ?_⟩
      · rw [f7 _ k1]
        cases hf : f.i
        · have hne : f.o.ptr ≠ x := ptrne f.o x x0 (by simp only [ccnt] at hdx; omega)
          simp [Fr.node, hf, Nd.wch, hne]
        · simp [Fr.node, hf, Nd.wch]
      · rw [f5]
        exact repC_congr (fun q hq => oth2 q (by omega)) k3
  · have := hd q; rw [cnt_mk] at this; omega
  · have := h.sm; rw [size_mk] at this; simp only [T.size] at this; omega
  · rw [oth x (Ne.symm hcx) (Ne.symm hux)]; exact hx
end
end Go.Proofs.Ytnlohongffpkpaa.T16
end

section
/- Layer 16: a node goes: the end. A text of the session's own. -/
namespace Go.Proofs.Ytnlohongffpkpaa.T16
open Go Go.RowKit Go.Proofs.Ytnlohongffpkpaa.Sx
set_option linter.unusedVariables false
set_option linter.unusedSimpArgs false

section
variable {S : TS} {b : Mem}
theorem Dec.which {j : Bool} {x xs xg : Int} {xc : Bool} {c : T} {f : Fr} {k : Ctx} (h : Dec S (mkT j x xs xg xc .nil c) (f :: k)) : whichOK (S.mem b) x ∧ whichV (S.mem b) x = bi f.i := by
  obtain ⟨hx, _, hc⟩ := Rep.mk.1 h.rep
  have hctx := h.ctx
  obtain ⟨k1, k2, k3⟩ := hctx
  have hne : f.o.ptr ≠ x := by
    intro e
    rcases cnt_ptr f.o with h0 | h0
    · rw [h0] at e; exact p_ne0 h.ok hx e.symm
    · have := h.dj x
      rw [e] at h0
      rw [cnt_mk, if_pos rfl] at this
      simp only [ccnt] at this; omega
  rw [ptr_mk] at k1
  have hu : ((Fr.mk j x xs xg xc c).node T.nil.ptr (topP (f :: k)) T.nil.size).u = f.p := node_u _ _ _ _
  have hr : ∀ n u, (f.node x u n).r = match f.i with | true => x | false => f.o.ptr := by
    intro n u; unfold Fr.node; split <;> (rename_i e; rw [e])
  obtain ⟨w1, w2⟩ := which_spec (b := b) h.ok hx (du := f.node x (topP k) ((mkT j x xs xg xc .nil c).size - 1)) (by rw [hu]; exact k1) (by
    rw [hr]
    cases f.i
    · exact rep_has k2
    · exact .inr ⟨_, hx⟩)
  refine ⟨w1, ?_⟩
  rw [w2, hr]
  cases f.i
  · simp [hne]
  · simp
theorem remH_walk {S0 : TS} {j : Bool} {x xs xg : Int} {xc : Bool} {c : T} {k : Ctx} {n : Nat} {i : Int} {W : Leaf → Leaf} {Q : Leaf → Prop} (hl : S0.like S) (h : Dec S (mkT j x xs xg xc .nil c) k)
    (h1 : RB (mkT j x xs xg xc .nil c) n) (h2 : xc = true → mayR k = true) (h3 : RBC k n) (hQ : ∀ S', Settled S0 (nodes (plug c k)) S' → Q (W (.memo (.tup [(.c (.si .i64 i)), (.c (.lb true))]) (S'.mem b)))) :
    (T_remH (S.mem b) S0.p x c.ptr i W).sat (fun l => match l with | .up l => Q l | _ => False) := by
  unfold T_remH
  obtain ⟨hx, _, hc⟩ := Rep.mk.1 h.rep
  have hS := h.ok
  have hw : whichOK (S.mem b) x ∧ ∀ f k', k = f :: k' → whichV (S.mem b) x = bi f.i := by
    cases k with
    | nil => exact ⟨(which_top (b := b) hS hx (node_u _ _ _ _)).1, fun f k' e => by cases e⟩
    | cons f k =>
      obtain ⟨w1, w2⟩ := Dec.which (b := b) h
      exact ⟨w1, fun f' k' e => by cases e; exact w2⟩
  have hu : gP (S.mem b) x 4 = topP k := (gP_u hS hx).trans (node_u _ _ _ _)
  obtain ⟨g1, S1, g2, g3, hA, d, hd1, hd2⟩ := h.hang (b := b)
  rw [brT (nz_n hS hx), brT (nz_n hS hx), brT (okL_4 hS hx), sat_req, sat_req, ← like_p hl, sat_letm, g2, hu]
  refine ⟨hw.1, g1, ?_⟩
  rw [brT (cmp_zero _ _)]
  have hl1 := hl.trans g3
  cases xc with
  | true =>
    obtain ⟨a1, a2, a3, a4⟩ := RB_red.1 h1
    have hn : n = 0 := a1
    subst hn
    have hcn : c = .nil := by
      cases c with
      | nil => rfl
      | nd p s g cc l r =>
        cases cc with
        | true => cases a4
        | false => obtain ⟨m, e, _⟩ := a2; cases e
    subst hcn
    rw [brF (by rfl), brT (nz_n hA.ok hd1), brT (nz_n hA.ok hd1), brT (okL_6 hA.ok hd1), gB_c hA.ok hd1, hd2, brF (by rfl)]
    obtain ⟨m, b1, b2⟩ := plug_RB (k := k) (t := .nil) (n := 0) rfl (fun e => by cases e) h3
    exact hQ S1 (settle_fin hl1 hA.outs rfl b1 b2)
  | false =>
    have : ∃ m, n = m + 1 := by cases j <;> (obtain ⟨m, e, _⟩ := h1; exact ⟨m, e⟩)
    obtain ⟨m, rfl⟩ := this
    obtain ⟨a1, a2⟩ := RB_blk.1 h1
    have hm : m = 0 := a1
    subst hm
    cases c with
    | nil =>
      rw [brF (by rfl), brT (nz_n hA.ok hd1), brT (nz_n hA.ok hd1), brT (okL_6 hA.ok hd1), gB_c hA.ok hd1, hd2, brT (by rfl), brT (cmp_zero _ _)]
      cases k with
      | nil =>
        rw [brF (by rfl)]
        exact hQ S1 (settle_fin hl1 hA rfl rfl rfl)
      | cons f k =>
        have hf := hA.getf
        rw [brT (by rw [show topP (f :: k) = f.p from rfl, peq_n hA.ok hf]; rfl), sat_req, sat_any, hw.2 f k rfl]
        have hG : (FillG.mk S1 b .nil (f :: k) 0).pre (S1.mem b) S.p (topP (f :: k)) (bi f.i) := ⟨rfl, (like_p g3).symm, rfl, hA, rfl, rfl, h3, fun f' k' e => by cases e; rfl⟩
        refine ⟨⟨_, hG⟩, fun y hy => ?_⟩
        obtain ⟨S2, e1, e2⟩ := hy _ hG
        rw [sat_leaf, e1]
        exact hQ S2 ⟨hl1.trans e2.like, e2.tree⟩
    | nd p s g cc l r =>
      have hcc : cc = true := by
        cases cc with
        | true => rfl
        | false => obtain ⟨m, e, _⟩ := a2; cases e
      subst hcc
      have hA' : At S1 (mkT false p s g true l r) k := hA
      have hp := hA'.get
      rw [brT (show bNot (peq (T.nd p s g true l r).ptr 0) = true by rw [show (T.nd p s g true l r).ptr = p from rfl, peq_n hA.ok hp]; rfl)]
      refine At.col hA' false fun S2 hl2 hA2 => ?_
      obtain ⟨b1, b2, b3, b4⟩ := a2
      obtain ⟨m, c1, c2⟩ := plug_RB (k := k) (t := mkT false p s g false l r) (n := 1) (RB_blk.2 ⟨b1, b2⟩) (fun e => by cases e) h3
      refine hQ S2 (settle_fin (hl1.trans hl2) hA2.outs ?_ c1 c2)
      exact nodes_plug_congr k rfl
end
end Go.Proofs.Ytnlohongffpkpaa.T16
end

section
/- Layer 16: Remove: the map, the parts of its walk. A text of the session's own. -/
namespace Go.Proofs.Ytnlohongffpkpaa.T16
open Go Go.RowKit Go.Proofs.Ytnlohongffpkpaa.Sx
set_option linter.unusedVariables false
set_option linter.unusedSimpArgs false

section
variable {S : TS} {b : Mem} {t : T} {n : Nat}
theorem cnt_nodes (q : Int) : ∀ t : T, cnt q t = ((nodes t).map (·.1)).count q
  | .nil => rfl
  | .nd p s g c l r => by
    simp only [cnt, nodes, List.map_append, List.map_cons, List.count_append, List.count_cons, cnt_nodes q l, cnt_nodes q r]
    by_cases e : q = p
    · subst e; simp; omega
    · simp [e, Ne.symm e, beq_iff_eq]
theorem nodes_nodup (h : At S t []) : ((nodes t).map (·.1)).Nodup := by
  rw [List.nodup_iff_count]
  intro q
  have := h.dj q
  rw [cnt_nodes] at this
  simp only [ccnt] at this; omega
/-- an entry goes -/
theorem Ents.del {es : List MapEntry} {L : List (Int × Int × Int)} (h : Ents es L) (hn : (L.map (·.1)).Nodup) (h0 : ∀ x ∈ L, 0 ≤ x.1) {j : Nat} {p s g : Int} (hj : L[j]? = some (p, s, g)) :
    ∃ i, efind (hKey s g) es 0 = some (i, pv p 0) ∧ Ents (es.eraseIdx i) (L.eraseIdx j) := by
  obtain ⟨e, he, hk, hv⟩ := h.fro _ (List.mem_of_getElem? hj)
  obtain ⟨i, hi⟩ := List.getElem?_of_mem he
  refine ⟨i, by rw [efind_some rfl h.ap hi hk, hv, Nat.zero_add], ?_⟩
  have huniq : ∀ {a c : Nat} {x y : MapEntry}, es[a]? = some x → es[c]? = some y → x.key = y.key → a = c := by
    intro a c x y ha hc hxy
    rcases Nat.lt_trichotomy a c with h1 | h1 | h1
    · have := List.pairwise_iff_getElem.1 h.ap a c (List.getElem?_eq_some_iff.1 ha).1 (List.getElem?_eq_some_iff.1 hc).1 h1
      rw [(List.getElem?_eq_some_iff.1 ha).2, (List.getElem?_eq_some_iff.1 hc).2] at this
      exact absurd hxy this
    · exact h1
    · have := List.pairwise_iff_getElem.1 h.ap c a (List.getElem?_eq_some_iff.1 hc).1 (List.getElem?_eq_some_iff.1 ha).1 h1
      rw [(List.getElem?_eq_some_iff.1 ha).2, (List.getElem?_eq_some_iff.1 hc).2] at this
      exact absurd hxy.symm this
  have hLu : ∀ {a c : Nat} {x y : Int × Int × Int}, L[a]? = some x → L[c]? = some y → x.1 = y.1 → a = c := by
    intro a c x y ha hc hxy
    have ha' : (L.map (·.1))[a]? = some x.1 := by simp [ha]
    have hc' : (L.map (·.1))[c]? = some x.1 := by simp [hc, hxy]
    have la := (List.getElem?_eq_some_iff.1 ha').1
    exact (List.getElem?_inj la hn).1 (ha'.trans hc'.symm)
  refine ⟨h.ap.sublist (List.eraseIdx_sublist _ _), fun e' he' => ?_, fun x hx => ?_, fun x hx => h.rng x ((List.eraseIdx_sublist _ _).mem hx)⟩
  · obtain ⟨a, ha, hea⟩ := List.mem_eraseIdx_iff_getElem?.1 he'
    obtain ⟨x, hx, k1, k2⟩ := h.to e' (List.mem_of_getElem? hea)
    refine ⟨x, List.mem_eraseIdx_iff_getElem?.2 ?_, k1, k2⟩
    obtain ⟨c, hc⟩ := List.getElem?_of_mem hx
    refine ⟨c, ?_, hc⟩
    rintro rfl
    rw [hj] at hc; cases hc
    exact ha (huniq hea hi (k1.trans hk.symm))
  · obtain ⟨c, hc, hxc⟩ := List.mem_eraseIdx_iff_getElem?.1 hx
    obtain ⟨e', he', k1, k2⟩ := h.fro x (List.mem_of_getElem? hxc)
    obtain ⟨a, ha⟩ := List.getElem?_of_mem he'
    refine ⟨e', List.mem_eraseIdx_iff_getElem?.2 ⟨a, ?_, ha⟩, k1, k2⟩
    rintro rfl
    rw [hi] at ha; cases ha
    have : pv p 0 = pv x.1 0 := hv.symm.trans k2
    have hp := congrArg vP this
    rw [vP_pv (h0 _ (List.mem_of_getElem? hj)), vP_pv (h0 _ (List.mem_of_getElem? hxc))] at hp
    exact hc (hLu hxc hj hp.symm)
theorem nodes_nn (h : At S t []) : ∀ x ∈ nodes t, 0 ≤ x.1 := by
  rintro ⟨p, s, g⟩ hx
  obtain ⟨j, hj⟩ := List.getElem?_of_mem hx
  obtain ⟨c, l, r, k, hk, hl⟩ := split_at hj
  have hA : At S (mkT false p s g c l r) k := At.ins (by rw [show plug (mkT false p s g c l r) k = t from hk]; exact h)
  exact Int.le_of_lt (h.ok.nd p _ hA.get).1
theorem del_mem (hS : S.ok) {s g : Int} {i : Nat} {v : Value} (hf : efind (hKey s g) S.es.toList 0 = some (i, v)) :
    mdel (S.mem b) (.map (some S.q)) (.agg (.mk [(.int .i64 s), (.int .u64 g)])) = (S.put (S.es.eraseIdxIfInBounds i) S.k).mem b := by
  funext a
  simp only [mdel, mchg]
  by_cases e : a = S.q
  · subst e
    rw [if_pos rfl, mem_q hS]
    simp only [esDel]
    rw [show efind (.agg (.mk [(.int .i64 s), (.int .u64 g)])) S.es.toList 0 = some (i, v) from hf]
    simp [TS.mem, TS.put, Ne.symm hS.ne]
  · rw [if_neg e]
    simp [TS.mem, TS.put, e]
/-- a tree's colours, told at a hole -/
theorem RB_ins : ∀ {k : Ctx} {t : T} {n : Nat}, RB (plug t k) n → red (plug t k) = false → ∃ m, RB t m ∧ (red t = true → mayR k = true) ∧ RBC k m
  | [], t, n, h, h2 => ⟨n, h, fun e => (by have h2 : red t = false := h2; rw [h2] at e; cases e), trivial⟩
  | f :: k, t, n, h, h2 => by
    obtain ⟨m, g1, g2, g3⟩ := RB_ins (k := k) (t := f.mk' t) h h2
    exact RB_down (i := f.i) (p := f.p) (s := f.s) (g := f.g) (c := f.c) (x := t) (y := f.o) g1 (fun e => g2 (by rw [Fr.mk', red_mk]; exact e)) g3
end
end Go.Proofs.Ytnlohongffpkpaa.T16
end

section
/- Layer 16: Remove: handles change places; a node with one child, or none, goes. A text of the session's own. -/
namespace Go.Proofs.Ytnlohongffpkpaa.T16
open Go Go.RowKit Go.Proofs.Ytnlohongffpkpaa.Sx
set_option linter.unusedVariables false
set_option linter.unusedSimpArgs false

section
variable {S : TS} {b : Mem} {t : T} {n : Nat}
/-- a handle is changed -/
theorem At.seth {i : Bool} {p s g : Int} {c : Bool} {x y : T} {k : Ctx} (h : At S (mkT i p s g c x y) k) (s' g' : Int) :
    At (S.set p { (Fr.mk i p s g c y).node x.ptr (topP k) x.size with s := s', g := g' }) (mkT i p s' g' c x y) k := by
  obtain ⟨k1, k2, k3⟩ := Rep.mk.1 h.rep
  have hd := h.dj
  have hdp := hd p
  rw [cnt_mk, if_pos rfl] at hdp
  have oth : ∀ q, 0 < cnt q x + cnt q y + ccnt q k → (S.set p { (Fr.mk i p s g c y).node x.ptr (topP k) x.size with s := s', g := g' }).H q = S.H q := by
    intro q hq
    rw [set_H, upd_ne]
    intro e; subst e; omega
  refine ⟨h.ok.wh k1 s' g', Rep.mk.2 ⟨?_, rep_congr (fun q hq => oth q (by omega)) k2, rep_congr (fun q hq => oth q (by omega)) k3⟩, ?_, fun q => ?_, ?_⟩
  · rw [set_H, upd_self]; cases i <;> rfl
  · have := h.ctx
    rw [ptr_mk, size_mk] at this ⊢
    exact repC_congr (fun q hq => oth q (by omega)) this
  · have := hd q; rw [cnt_mk] at this ⊢; exact this
  · have := h.sm; rw [size_mk] at this ⊢; exact this
theorem At.outK : ∀ {kd k : Ctx} {t : T}, At S t (kd ++ k) → At S (plug t kd) k
  | [], k, t, h => h
  | f :: kd, k, t, h => At.outK (kd := kd) (h : At S t (f :: (kd ++ k))).out
theorem At.inK : ∀ {kd k : Ctx} {t : T}, At S (plug t kd) k → At S t (kd ++ k)
  | [], k, t, h => h
  | f :: kd, k, t, h => (At.inK (kd := kd) (t := f.mk' t) h).into
theorem Ents.swap {es : List MapEntry} {L : List (Int × Int × Int)} (h : Ents es L) (hn : (L.map (·.1)).Nodup) (h0 : ∀ x ∈ L, 0 ≤ x.1) {j : Nat} {q s g : Int} (hj : L[j]? = some (q, s, g)) (p : Int) :
    ∃ i, efind (hKey s g) es 0 = some (i, pv q 0) ∧ Ents (es.modify i fun e => { e with key := hKey s g, val := pv p 0 }) (L.set j (p, s, g)) := by
  obtain ⟨e, he, hk, hv⟩ := h.fro _ (List.mem_of_getElem? hj)
  obtain ⟨i, hi⟩ := List.getElem?_of_mem he
  refine ⟨i, by rw [efind_some rfl h.ap hi hk, hv, Nat.zero_add], ?_⟩
  have hjl := (List.getElem?_eq_some_iff.1 hj).1
  have hLu : ∀ {a c : Nat} {x y : Int × Int × Int}, L[a]? = some x → L[c]? = some y → x.1 = y.1 → a = c := by
    intro a c x y ha hc hxy
    have ha' : (L.map (·.1))[a]? = some x.1 := by simp [ha]
    have hc' : (L.map (·.1))[c]? = some x.1 := by simp [hc, hxy]
    have la := (List.getElem?_eq_some_iff.1 ha').1
    exact (List.getElem?_inj la hn).1 (ha'.trans hc'.symm)
  have huniq : ∀ {a c : Nat} {x y : MapEntry}, es[a]? = some x → es[c]? = some y → x.key = y.key → a = c := by
    intro a c x y ha hc hxy
    rcases Nat.lt_trichotomy a c with h1 | h1 | h1
    · have := List.pairwise_iff_getElem.1 h.ap a c (List.getElem?_eq_some_iff.1 ha).1 (List.getElem?_eq_some_iff.1 hc).1 h1
      rw [(List.getElem?_eq_some_iff.1 ha).2, (List.getElem?_eq_some_iff.1 hc).2] at this
      exact absurd hxy this
    · exact h1
    · have := List.pairwise_iff_getElem.1 h.ap c a (List.getElem?_eq_some_iff.1 hc).1 (List.getElem?_eq_some_iff.1 ha).1 h1
      rw [(List.getElem?_eq_some_iff.1 ha).2, (List.getElem?_eq_some_iff.1 hc).2] at this
      exact absurd hxy.symm this
  have hkey : ∀ a e', (es.modify i fun e => { e with key := hKey s g, val := pv p 0 })[a]? = some e' → ∃ e0, es[a]? = some e0 ∧ e'.key = e0.key ∧ (a = i → e'.val = pv p 0) ∧ (a ≠ i → e' = e0) := by
    intro a e' ha
    rw [List.getElem?_modify] at ha
    cases hh : es[a]? with
    | none => rw [hh] at ha; cases ha
    | some e0 =>
      rw [hh] at ha
      by_cases hia : i = a
      · subst hia
        rw [hi] at hh; cases hh
        simp at ha
        exact ⟨e, rfl, by rw [← ha]; exact hk.symm, fun _ => by rw [← ha], fun hne => absurd rfl hne⟩
      · simp [hia] at ha
        exact ⟨e0, rfl, by rw [ha], fun e => absurd e.symm hia, fun _ => ha.symm⟩
  refine ⟨?_, fun e' he' => ?_, fun x hx => ?_, fun x hx => ?_⟩
  · rw [List.pairwise_iff_getElem]
    intro a c ha hc hac
    obtain ⟨ea, a1, a2, _⟩ := hkey a _ (List.getElem?_eq_getElem ha)
    obtain ⟨ec, c1, c2, _⟩ := hkey c _ (List.getElem?_eq_getElem hc)
    rw [a2, c2]
    intro hh
    have := huniq a1 c1 hh
    omega
  · obtain ⟨a, ha⟩ := List.getElem?_of_mem he'
    obtain ⟨e0, a1, a2, a3, a4⟩ := hkey a e' ha
    by_cases hai : a = i
    · subst hai
      rw [hi] at a1; cases a1
      refine ⟨(p, s, g), List.mem_of_getElem? (List.getElem?_set_self hjl), a2.trans hk, a3 rfl⟩
    · obtain ⟨x, hx, k1, k2⟩ := h.to e0 (List.mem_of_getElem? a1)
      obtain ⟨c, hc⟩ := List.getElem?_of_mem hx
      have hcj : j ≠ c := by
        rintro rfl
        rw [hj] at hc; cases hc
        exact hai (huniq a1 hi (k1.trans hk.symm))
      rw [a4 hai]
      exact ⟨x, List.mem_of_getElem? (by rw [List.getElem?_set_ne hcj]; exact hc), k1, k2⟩
  · obtain ⟨c, hc⟩ := List.getElem?_of_mem hx
    by_cases hcj : j = c
    · subst hcj
      rw [List.getElem?_set_self hjl] at hc; cases hc
      refine ⟨{ e with key := hKey s g, val := pv p 0 }, List.mem_of_getElem? (i := i) (by rw [List.getElem?_modify, hi]; simp), rfl, rfl⟩
    · rw [List.getElem?_set_ne hcj] at hc
      obtain ⟨e', he', k1, k2⟩ := h.fro x (List.mem_of_getElem? hc)
      obtain ⟨a, ha⟩ := List.getElem?_of_mem he'
      have hai : i ≠ a := by
        rintro rfl
        rw [hi] at ha; cases ha
        have hp := congrArg vP (hv.symm.trans k2)
        rw [vP_pv (h0 _ (List.mem_of_getElem? hj)), vP_pv (h0 _ (List.mem_of_getElem? hc))] at hp
        exact hcj (hLu hj hc hp)
      exact ⟨e', List.mem_of_getElem? (i := a) (by rw [List.getElem?_modify, ha]; simp [hai]), k1, k2⟩
  · obtain ⟨c, hc⟩ := List.getElem?_of_mem hx
    by_cases hcj : j = c
    · subst hcj
      rw [List.getElem?_set_self hjl] at hc; cases hc
      exact h.rng (q, s, g) (List.mem_of_getElem? hj)
    · rw [List.getElem?_set_ne hcj] at hc
      exact h.rng x (List.mem_of_getElem? hc)
theorem swap_mem (hS : S.ok) {s g : Int} {i : Nat} {v : Value} (hf : efind (hKey s g) S.es.toList 0 = some (i, v)) (p : Int) :
    mput (S.mem b) (.map (some S.q)) (.agg (.mk [(.int .i64 s), (.int .u64 g)])) (pv p 0) = (S.put (S.es.modify i fun e => { e with key := hKey s g, val := pv p 0 }) S.k).mem b := by
  funext a
  simp only [mput, mchg]
  by_cases e : a = S.q
  · subst e
    rw [if_pos rfl, mem_q hS]
    simp only [esPut]
    rw [show efind (.agg (.mk [(.int .i64 s), (.int .u64 g)])) S.es.toList 0 = some (i, v) from hf]
    simp [TS.mem, TS.put, Ne.symm hS.ne]
  · rw [if_neg e]
    simp [TS.mem, TS.put, e]
theorem At.put {es : Array MapEntry} {kk : Nat} {k : Ctx} (h : At S t k) : At (S.put es kk) t k := ⟨put_ok h.ok, h.rep, h.ctx, h.dj, h.sm⟩
/-- the way up, the hanging, the filling: all in one -/
theorem remT_walk {x xs xg : Int} {xc : Bool} {l r : T} {k : Ctx} {n : Nat} {i : Int} {W : Leaf → Leaf} {Q : Leaf → Prop} (h : At S (.nd x xs xg xc l r) k) (hj : l = .nil ∨ r = .nil)
    (h1 : RB (.nd x xs xg xc l r) n) (h2 : xc = true → mayR k = true) (h3 : RBC k n) (hQ : ∀ S', Settled S (cl k ++ (nodes l ++ nodes r) ++ cr k) S' → Q (W (.memo (.tup [(.c (.si .i64 i)), (.c (.lb true))]) (S'.mem b)))) :
    (T_remL (S.mem b) S.p x i W).sat Q := by
  refine remL_walk h hj fun S1 c j hl he hD => ?_
  refine remH_walk hl hD (by rw [← he]; exact h1) h2 h3 fun S' hs => hQ S' ?_
  have : nodes (plug c k) = cl k ++ (nodes l ++ nodes r) ++ cr k := by
    rw [nodes_plug]
    have hc : nodes c = nodes l ++ nodes r := by
      cases j
      · injection he with _ _ _ _ e1 e2
        subst e1 e2; rfl
      · injection he with _ _ _ _ e1 e2
        subst e1 e2; simp [nodes]
    rw [hc]
  rw [← this]; exact hs
end
end Go.Proofs.Ytnlohongffpkpaa.T16
end

section
/- Layer 16: Remove. A text of the session's own. -/
namespace Go.Proofs.Ytnlohongffpkpaa.T16
open Go Go.RowKit Go.Proofs.Ytnlohongffpkpaa.Sx
set_option linter.unusedVariables false
set_option linter.unusedSimpArgs false

section
variable {S : TS} {b : Mem} {t : T} {n : Nat}
theorem cl_app : ∀ (kd K : Ctx), cl (kd ++ K) = cl K ++ cl kd
  | [], K => by simp [cl]
  | f :: kd, K => by
    simp only [List.cons_append, cl]
    cases f.i <;> simp [cl_app kd K]
theorem cr_app : ∀ (kd K : Ctx), cr (kd ++ K) = cr kd ++ cr K
  | [], K => by simp [cr]
  | f :: kd, K => by
    simp only [List.cons_append, cr]
    cases f.i <;> simp [cr_app kd K]
theorem cl_left : ∀ {kd : Ctx}, (∀ f ∈ kd, f.i = false) → cl kd = []
  | [], _ => rfl
  | f :: kd, h => by
    simp only [cl, h f (by simp)]
    exact cl_left fun g hg => h g (by simp [hg])
theorem RBC_hg {i : Bool} {p s g s' g' : Int} {c : Bool} {o : T} {k : Ctx} : ∀ {kd : Ctx} {m : Nat}, RBC (kd ++ Fr.mk i p s g c o :: k) m → RBC (kd ++ Fr.mk i p s' g' c o :: k) m
  | [], m, h => h
  | f :: kd, m, h => by
    cases hc : f.c with
    | true =>
      have h := (RBC_red hc).1 h
      refine (RBC_red hc).2 ⟨h.1, h.2.1, ?_, RBC_hg (kd := kd) h.2.2.2⟩
      have := h.2.2.1
      cases kd <;> exact this
    | false =>
      have h := (RBC_blk hc).1 h
      exact (RBC_blk hc).2 ⟨h.1, RBC_hg (kd := kd) h.2⟩
theorem plug_app : ∀ (kd K : Ctx) (t : T), plug t (kd ++ K) = plug (plug t kd) K
  | [], K, t => rfl
  | f :: kd, K, t => plug_app kd K (f.mk' t)
def remPost (S : TS) (b : Mem) (t : T) (s g : Int) (y : Vars) : Prop :=
  (∃ j : Nat, (hans t)[j]? = some (s, g) ∧ y.i = [(j : Int)] ∧ y.b = [true] ∧ ∃ (S' : TS) (t' : T) (n' : Nat), y.m = S'.mem b ∧ S'.t = S.t ∧ S'.q = S.q ∧ Tre S' t' n' ∧ hans t' = (hans t).eraseIdx j ∧ ∀ q, S'.H q = none ↔ S.H q = none) ∨
  ((∀ h ∈ hans t, h ≠ (s, g)) ∧ y.i = [0] ∧ y.b = [false] ∧ y.m = S.mem b)
theorem hans_get' {t : T} {j : Nat} {p s g : Int} (h : (nodes t)[j]? = some (p, s, g)) : (hans t)[j]? = some (s, g) := by simp [hans, h]
theorem hans_erase {t t' : T} {j : Nat} (h : (nodes t').map (fun x => (x.2.1, x.2.2)) = ((nodes t).eraseIdx j).map (fun x => (x.2.1, x.2.2))) : hans t' = (hans t).eraseIdx j := by
  unfold hans
  rw [h, List.eraseIdx_eq_take_drop_succ, List.eraseIdx_eq_take_drop_succ]
  simp [List.map_take, List.map_drop]
set_option maxHeartbeats 4000000 in
theorem remove_walk (h : Tre S t n) {s g : Int} (h1 : inI s) (h2 : inU g) :
    (T_remove (S.mem b) S.p s g).sat (isMemo fun v m => remPost S b t s g (yOf v m) ∧ ∀ ρ, v.den ρ = (retIB (yOf v m)).den ρ) := by
  have hS := h.at'.ok
  unfold T_remove
  rw [sat_req]
  refine ⟨⟨⟨S, b, t, n⟩, ⟨rfl, rfl, h⟩, h1, h2⟩, ?_⟩
  rw [sat_any]
  rintro ⟨yi, yb, yv, ym⟩ hy
  obtain ⟨hy, hm⟩ := hy ⟨S, b, t, n⟩ ⟨⟨rfl, rfl, h⟩, h1, h2⟩
  simp only at hm hy
  subst hm
  rcases hy with ⟨j, p, hj, e1, e2⟩ | ⟨hno, e1, e2⟩
  rotate_left
  · simp only at e1 e2
    subst e1 e2
    rw [brT (by rfl)]
    refine ⟨.inr ⟨fun x hx e => ?_, rfl, rfl, rfl⟩, fun ρ => rfl⟩
    obtain ⟨y, hmem, hye⟩ := List.mem_map.1 hx
    rw [e] at hye
    simp only [Prod.mk.injEq] at hye
    exact hno y hmem hye
  simp only at e1 e2
  subst e1 e2
  rw [brF (by rfl), brT nz_t, brT nz_t, brT okL_m]
  simp only [cell_q, lk_hit hS h.en (List.mem_of_getElem? hj), hdI]
  obtain ⟨c, l, r, k, hk, hl⟩ := split_at hj
  have hA : At S (.nd p s g c l r) k := At.ins (by rw [hk]; exact h.at')
  have hpn : 0 ≤ p := Int.le_of_lt (hS.nd p _ hA.rep.1).1
  rw [sat_req]
  refine ⟨⟨keyed29, okM29 hS h.en, okKey29 h1 h2, isP_pv p⟩, ?_⟩
  simp only [vP_pv hpn]
  rw [brT nz_t, brT nz_t, brT okL_m, sat_req]
  refine ⟨⟨keyed29, okM29 hS h.en, okKey29 h1 h2⟩, ?_⟩
  obtain ⟨ix, hf, hEn⟩ := h.en.del (nodes_nodup h.at') (nodes_nn h.at') hj
  rw [sat_letm, del_mem hS hf]
  have hA1 := hA.put (es := S.es.eraseIdxIfInBounds ix) (kk := S.k)
  have hEn1 : Ents (S.put (S.es.eraseIdxIfInBounds ix) S.k).es.toList ((nodes t).eraseIdx j) := by
    show Ents (S.es.eraseIdxIfInBounds ix).toList _
    rw [Array.toList_eraseIdxIfInBounds]; exact hEn
  have et : (S.put (S.es.eraseIdxIfInBounds ix) S.k).t = S.t := rfl
  have eq : (S.put (S.es.eraseIdxIfInBounds ix) S.k).q = S.q := rfl
  have ed : ∀ q, (S.put (S.es.eraseIdxIfInBounds ix) S.k).H q = none ↔ S.H q = none := fun _ => Iff.rfl
  have ep : (S.put (S.es.eraseIdxIfInBounds ix) S.k).p = S.p := rfl
  generalize S.put (S.es.eraseIdxIfInBounds ix) S.k = S1 at hA1 hEn1 et eq ed ep
  have hp1 := hA1.rep.1
  have ok1 := hA1.ok
  obtain ⟨m, b1, b2, b3⟩ := RB_ins (k := k) (t := .nd p s g c l r) (by rw [hk]; exact h.rb) (by rw [hk]; exact h.blk)
  have hnt : nodes t = (cl k ++ nodes l) ++ (p, s, g) :: (nodes r ++ cr k) := by rw [← hk, nodes_plug]; simp [nodes]
  have hle : (cl k ++ nodes l).length = j := by rw [List.length_append, len_nodes]; exact hl
  have hne : (nodes t).eraseIdx j = cl k ++ nodes l ++ (nodes r ++ cr k) := by
    rw [hnt, List.eraseIdx_append_of_length_le (by omega), hle, Nat.sub_self, List.eraseIdx_cons_zero]
  have hfin : ∀ (S' : TS) (t' : T) (m' : Nat), S'.t = S1.t → S'.q = S1.q → (∀ q, S'.H q = none ↔ S1.H q = none) → Tre S' t' m' → (nodes t').map (fun x => (x.2.1, x.2.2)) = ((nodes t).eraseIdx j).map (fun x => (x.2.1, x.2.2)) →
      remPost S b t s g (yOf (.tup [(.c (.si .i64 (j : Int))), (.c (.lb true))]) (S'.mem b)) ∧ ∀ ρ, V.den ρ (.tup [(.c (.si .i64 (j : Int))), (.c (.lb true))]) = V.den ρ (retIB (yOf (.tup [(.c (.si .i64 (j : Int))), (.c (.lb true))]) (S'.mem b))) :=
    fun S' t' m' a1 a2 a3 a4 a5 => ⟨.inl ⟨j, hans_get' hj, rfl, rfl, S', t', m', rfl, a1.trans et, a2.trans eq, a4, hans_erase a5, fun q => (a3 q).trans (ed q)⟩, fun ρ => rfl⟩
  have hone : l = .nil ∨ r = .nil → (T_remL (S1.mem b) S.p p (j : Int) (fun l => l)).sat (isMemo fun v m => remPost S b t s g (yOf v m) ∧ ∀ ρ, v.den ρ = (retIB (yOf v m)).den ρ) := by
    intro hlr
    rw [← ep]
    refine remT_walk hA1 hlr b1 b2 b3 fun S' hs => ?_
    obtain ⟨hlike, t', m', g1, g2, g3, g4⟩ := hs
    refine hfin S' t' m' hlike.t hlike.q hlike.dom ⟨g1, g3, g4, ?_⟩ ?_
    · rw [hlike.es, g2]
      rw [hne] at hEn1
      simpa using hEn1
    · rw [g2, hne]; simp
  rw [brT (nz_n ok1 hp1), brT (nz_n ok1 hp1), brT (nz_n ok1 hp1), brT (okL_2 ok1 hp1), brT (cmp_zero _ _), gP_l ok1 hp1, gP_r ok1 hp1]
  cases l with
  | nil =>
    rw [brF (by rfl), brT (nz_n ok1 hp1), brT (nz_n ok1 hp1), brT (okL_4 ok1 hp1)]
    exact hone (.inl rfl)
  | nd lp ls lg lc ll lr =>
    rw [brT (show bNot (peq (T.nd lp ls lg lc ll lr).ptr 0) = true by rw [show (T.nd lp ls lg lc ll lr).ptr = lp from rfl, peq_n ok1 hA1.rep.2.1.1]; rfl), brT (nz_n ok1 hp1), brT (nz_n ok1 hp1), brT (nz_n ok1 hp1), brT (okL_3 ok1 hp1), brT (cmp_zero _ _)]
    generalize hll : T.nd lp ls lg lc ll lr = l at *
    by_cases hr0 : r = .nil
    · rw [hr0, brF (by rfl), brT (nz_n ok1 hp1), brT (nz_n ok1 hp1), brT (okL_4 ok1 hp1)]
      exact hone (.inr hr0)
    · obtain ⟨rp, rs, rg, rc, rl, rr, hrf⟩ := form_of false hr0
      have hrp : ∃ d, S1.H r.ptr = some d := by rw [hrf]; exact ⟨_, (hrf ▸ hA1.rep.2.2 : Rep S1.H p (mkT false rp rs rg rc rl rr)).1⟩
      obtain ⟨dr, hrp⟩ := hrp
      rw [brT (by rw [peq_n ok1 hrp]; rfl), brT (nz_n ok1 hp1), brT (nz_n ok1 hp1), brT (nz_n ok1 hp1), brT (okL_3 ok1 hp1)]
      let J : Nat → Vars → Prop := fun N y => ∃ (t2 : T) (kd : Ctx), N = t2.size ∧ y = ⟨[t2.ptr], [], [], S1.mem b⟩ ∧ t2 ≠ .nil ∧ At S1 t2 (kd ++ Fr.mk true p s g c l :: k) ∧ (∀ f ∈ kd, f.i = false) ∧ plug t2 kd = r
      refine lp_idx J (n0 := r.size) ⟨r, [], rfl, rfl, hr0, At.far (i := false) (hA1 : At S1 (mkT false p s g c l r) k), by simp, rfl⟩ ?_
      rintro N y _ ⟨t2, kd, rfl, rfl, ht2, hB, hkd, hpl⟩
      cases t2 with
      | nil => exact absurd rfl ht2
      | nd q qs qg qc l2 r2 =>
        have hq := hB.rep.1
        simp only [hdI, show (T.nd q qs qg qc l2 r2).ptr = q from rfl]
        rw [gP_l ok1 hq, brT (nz_n ok1 hq), brT (nz_n ok1 hq), brT (nz_n ok1 hq), brT (okL_2 ok1 hq), brT (cmp_zero _ _)]
        by_cases hl2 : l2 = .nil
        · subst hl2
          have hC : At S1 (mkT true p s g c r l) k := by
            have := hB.outK
            rw [hpl] at this
            exact this.out
          have hpC := hC.get
          have hD := hC.seth qs qg
          rw [brF (by rfl), brT (nz_n ok1 hq), brT (nz_n ok1 hq), brT (okL_0 ok1 hq), brT (nz_n ok1 hp1), brT (nz_n ok1 hp1), brT (okL_0 ok1 hp1), brT (nz_n ok1 hp1), brT (nz_n ok1 hp1), brT (okS_n ok1 hp1 rfl), sat_letm]
          rw [gI_s ok1 hq, gI_g ok1 hq, gI_s ok1 hp1, gI_g ok1 hp1, wr_h ok1 hpC]
          have l2' := like_set (d := { (Fr.mk true p s g c l).node r.ptr (topP k) r.size with s := qs, g := qg }) hpC
          generalize S1.set p { (Fr.mk true p s g c l).node r.ptr (topP k) r.size with s := qs, g := qg } = S2 at hD l2'
          have hE : At S2 (.nd q qs qg qc .nil r2) (kd ++ Fr.mk true p qs qg c l :: k) := by
            refine At.inK ?_
            rw [hpl]
            exact At.into (f := Fr.mk true p qs qg c l) hD
          have hqE := At.get (i := false) hE
          have hF := At.seth (i := false) hE s g
          rw [brT (nz_n hE.ok hqE), brT (nz_n hE.ok hqE), brT (okS_n hE.ok hqE rfl), sat_letm, wr_h hE.ok hqE]
          have l3' := l2'.trans (like_set (d := { (Fr.mk false q qs qg qc r2).node T.nil.ptr (topP (kd ++ Fr.mk true p qs qg c l :: k)) T.nil.size with s := s, g := g }) hqE)
          generalize S2.set q { (Fr.mk false q qs qg qc r2).node T.nil.ptr (topP (kd ++ Fr.mk true p qs qg c l :: k)) T.nil.size with s := s, g := g } = S3 at hF l3'
          have hpF := hF.outK.getf
          have ok3 := hF.ok
          rw [← ep, ← like_p l3', brT nz_t, brT nz_t, brT okL_m, brT (nz_n ok3 hpF), brT (nz_n ok3 hpF), brT (okL_0 ok3 hpF), cell_q, gI_s ok3 hpF, gI_g ok3 hpF, node_s, node_g, sat_req]
          have hnr : nodes r = (q, qs, qg) :: nodes r2 ++ cr kd := by rw [← hpl, nodes_plug, cl_left hkd]; simp [nodes]
          have hne2 : (nodes t).eraseIdx j = (cl k ++ nodes l) ++ (q, qs, qg) :: (nodes r2 ++ cr kd ++ cr k) := by rw [hne, hnr]; simp
          have hj2 : ((nodes t).eraseIdx j)[j]? = some (q, qs, qg) := by
            rw [hne2, List.getElem?_append_right (by omega), hle, Nat.sub_self]; rfl
          have hsub : ((nodes t).eraseIdx j).Sublist (nodes t) := List.eraseIdx_sublist _ _
          have hEn3 : Ents S3.es.toList ((nodes t).eraseIdx j) := by rw [l3'.es]; exact hEn1
          have hrq := hEn3.rng _ (List.mem_of_getElem? hj2)
          obtain ⟨iy, hfy, hEn4⟩ := hEn3.swap ((nodes_nodup h.at').sublist (hsub.map _)) (fun x hx => nodes_nn h.at' x (hsub.mem hx)) hj2 p
          refine ⟨⟨keyed29, okM29 ok3 hEn3, rfl, okKey29 hrq.1 hrq.2⟩, ?_⟩
          rw [sat_letm, swap_mem ok3 hfy]
          have hG := hF.put (es := S3.es.modify iy fun e => { e with key := hKey qs qg, val := pv p 0 }) (kk := S3.k)
          have hEn5 : Ents (S3.put (S3.es.modify iy fun e => { e with key := hKey qs qg, val := pv p 0 }) S3.k).es.toList (((nodes t).eraseIdx j).set j (p, qs, qg)) := by
            show Ents (S3.es.modify iy _).toList _
            rw [Array.toList_modify]; exact hEn4
          have ep4 : (S3.put (S3.es.modify iy fun e => { e with key := hKey qs qg, val := pv p 0 }) S3.k).p = S3.p := rfl
          have l4t : (S3.put (S3.es.modify iy fun e => { e with key := hKey qs qg, val := pv p 0 }) S3.k).t = S1.t := l3'.t
          have l4q : (S3.put (S3.es.modify iy fun e => { e with key := hKey qs qg, val := pv p 0 }) S3.k).q = S1.q := l3'.q
          have l4d : ∀ q, (S3.put (S3.es.modify iy fun e => { e with key := hKey qs qg, val := pv p 0 }) S3.k).H q = none ↔ S1.H q = none := l3'.dom
          rw [← ep4]
          generalize S3.put (S3.es.modify iy fun e => { e with key := hKey qs qg, val := pv p 0 }) S3.k = S4 at hG hEn5 l4t l4q l4d
          have hqG := hG.get
          obtain ⟨m2, d1, d2, d3⟩ := RB_ins (k := kd ++ Fr.mk true p s g c l :: k) (t := .nd q qs qg qc .nil r2) (n := n) (by
            rw [plug_app, hpl, show plug r (Fr.mk true p s g c l :: k) = plug (.nd p s g c l r) k from rfl, hk]; exact h.rb) (by
            rw [plug_app, hpl, show plug r (Fr.mk true p s g c l :: k) = plug (.nd p s g c l r) k from rfl, hk]; exact h.blk)
          rw [brT (nz_n hG.ok hqG), brT (nz_n hG.ok hqG), brT (okL_4 hG.ok hqG)]
          refine remT_walk (W := .up) (hG : At S4 (.nd q s g qc .nil r2) _) (.inl rfl) (n := m2) (by cases qc <;> exact d1) (fun e => ?_) (RBC_hg d3) fun S' hs => ?_
          · have := d2 e
            cases kd <;> exact this
          · obtain ⟨hlike, t', m', g1, g2, g3, g4⟩ := hs
            have hnn : nodes t' = ((nodes t).eraseIdx j).set j (p, qs, qg) := by
              rw [g2, cl_app, cr_app, cl_left hkd, hne2, List.set_append_right _ _ (by omega), hle, Nat.sub_self]
              simp [cl, cr, nodes]
            refine hfin S' t' m' (hlike.t.trans l4t) (hlike.q.trans l4q) (fun q => (hlike.dom q).trans (l4d q)) ⟨g1, g3, g4, ?_⟩ ?_
            · rw [hlike.es, hnn]; exact hEn5
            · rw [hnn, hne2, List.set_append_right _ _ (by omega), hle, Nat.sub_self]; simp
        · obtain ⟨a_p, a_s, ag, ac, al, ar, haf⟩ := form_of false hl2
          have hlp : ∃ d, S1.H l2.ptr = some d := by rw [haf]; exact ⟨_, (haf ▸ hB.rep.2.1 : Rep S1.H q (mkT false a_p a_s ag ac al ar)).1⟩
          obtain ⟨dl, hlp⟩ := hlp
          rw [brT (by rw [peq_n ok1 hlp]; rfl), brT (nz_n ok1 hq), brT (nz_n ok1 hq), brT (nz_n ok1 hq), brT (okL_2 ok1 hq), sat_req]
          refine ⟨by simp, l2.size, by simp only [T.size]; omega, l2, Fr.mk false q qs qg qc r2 :: kd, rfl, rfl, hl2, At.near (i := false) (hB : At S1 (mkT false q qs qg qc l2 r2) _), ?_, hpl⟩
          intro f hf
          rcases List.mem_cons.1 hf with rfl | hf
          · rfl
          · exact hkd f hf
end
def removeP (m : Mem) (t hs hg : Int) : Prop := ∃ G : TG, G.is m t ∧ inI hs ∧ inU hg
def removeQ (m : Mem) (t hs hg : Int) (y : Vars) : Prop := ∀ G : TG, (G.is m t ∧ inI hs ∧ inU hg) → remPost G.S G.b G.t hs hg y
def s_remove : Sum := memSum 20 fun m a => match a with | [a0, a1] => (match ptrOf a0, hanOf a1 with | some t, some (hs, hg) => some ⟨removeP m t hs hg, removeQ m t hs hg, fun y => .tup [.c (.si .i64 (hdI y.i)), .c (.sb (hdB y.b))]⟩ | _, _ => none) | _ => none
theorem t_remove (m : Mem) (t : Int) (hs hg : Int) : runm Try.prog [s_index, s_which, s_hang, s_fills] (drawl Try.prog [s_index, s_which, s_hang, s_fills] (fun _ k => match Nat.beq k 8 with | true => some ⟨[9], [], [0, 6, 8], []⟩ | false => some ⟨[10], [], [0, 6, 8], []⟩)) 300 20 [.u (.c (.np t 0)), .u (.agg [.si .i64 hs, .si .u64 hg])] m [98] = T_remove m t hs hg := by kernel_rfl
theorem s_remove_ok : SumOK Try.prog s_remove := by
  refine memSum_ok ⟨_, Try.func20, by kernel_rfl⟩ fun m args ms h hp hw ρ w hm => ?_
  split at h
  · split at h
    · rename_i a0 a1 _ _ t hs hg h0 h1
      cases h
      have hS : ∀ q ∈ [s_index, s_which, s_hang, s_fills], SumOK Try.prog q := okc s_index_ok (okc s_which_ok (okc s_hang_ok (okc s_fills_ok okn)))
      refine mm_ghost nameOK hS (drawl_sound nameOK hS (by kernel_rfl) _) 300 _ m _ (t_remove m t hs hg) hp (fun G hG => ?_) ρ w hm (by simp only [List.map_cons, List.map_nil, ptrOf_den h0, hanOf_den h1])
      obtain ⟨⟨rfl, rfl, g1⟩, g2, g3⟩ := hG
      refine sat_mono (fun l hl => ?_) (remove_walk g1 g2 g3)
      cases l with
      | memo v x => exact ⟨hl.1, yOf_m _ _, hl.2⟩
      | _ => exact hl.elim
    · cases h
  · cases h
end Go.Proofs.Ytnlohongffpkpaa.T16
end

section
/- Layer 16: TreeBack's walk. A text of the session's own. -/
namespace Go.Proofs.Ytnlohongffpkpaa.T16
open Go Go.RowKit Go.Proofs.Ytnlohongffpkpaa.Sx Go.Proofs Go.WideShapes Go.ChangeShapes
set_option linter.unusedVariables false
set_option linter.unusedSimpArgs false

def u8 (x : Int) : Prop := 0 ≤ x ∧ x < 256
/-- a slice of numbers of 8 bits, in a memory -/
structure Arg8 (l : Value) (xs : List Int) (m : Mem) : Prop where
  sl : isSlV (pl l) = true
  n : slN (pl l) = xs.length
  at' : ∀ i : Nat, ∀ x, xs[i]? = some x → inSl (pl l) i = true ∧ okL m (slB (pl l)) (aOff (slO (pl l)) i 1) [.li .u8 0] = true ∧ gI m (slB (pl l)) (aOff (slO (pl l)) i 1) = x
  rng : ∀ x ∈ xs, u8 x
theorem Arg8.more {l : Value} {xs : List Int} {m m' : Mem} (h : Arg8 l xs m) (hm : ∀ a, m a ≠ none → m' a = m a) : Arg8 l xs m' := by
  refine ⟨h.sl, h.n, fun i x hx => ?_, h.rng⟩
  obtain ⟨a1, a2, a3⟩ := h.at' i x hx
  obtain ⟨b1, b2⟩ := okL_more hm a2
  exact ⟨a1, b1, by unfold gI at a3 ⊢; rw [b2]; exact a3⟩
theorem Fre.rem {S S' : TS} {m : Mem} (h : Fre S m) (ht : S'.t = S.t) (hq : S'.q = S.q) (hd : ∀ q, S'.H q = none ↔ S.H q = none) : Fre S' m :=
  ⟨by rw [ht]; exact h.t, by rw [hq]; exact h.q, fun c hc => h.H c fun e => hc ((hd _).2 e)⟩
end Go.Proofs.Ytnlohongffpkpaa.T16
end

section
/- Layer 16: TreeBack's contract. A text of the session's own. -/
namespace Go.Proofs.Ytnlohongffpkpaa.T16
open Go Go.RowKit Go.Proofs.Ytnlohongffpkpaa.Sx Go.Proofs Go.WideShapes Go.ChangeShapes
set_option linter.unusedVariables false
set_option linter.unusedSimpArgs false

end Go.Proofs.Ytnlohongffpkpaa.T16
end

section
/- Layer 16: how deep a tree is, how many digits a number has; a tree stays low. A text of the session's own. -/
namespace Go.Proofs.Ytnlohongffpkpaa.T16
open Go Go.RowKit Go.Proofs.Ytnlohongffpkpaa.Sx Go.Proofs
set_option linter.unusedVariables false
set_option linter.unusedSimpArgs false

def digits (n : Nat) : Nat := if h : n = 0 then 0 else digits (n / 2) + 1
termination_by n
decreasing_by omega
section
variable (deepOK : Mem → Int → Prop) (deepV : Mem → Int → Int)
def T_deep (m : Mem) (p : Int) : Tr := (.br (cmpOK m p 0) (.br (peq p 0) (.leaf (.memo (.u (.c (.li .i64 0))) m)) (.br (nzp p) (.br (nzp p) (.br (nzp p) (.br (okL m p 2 [.nilp]) (.req (deepOK m (gP m p 2)) (.br (nzp p) (.br (nzp p) (.br (nzp p) (.br (okL m p 3 [.nilp]) (.req (deepOK m (gP m p 3)) (.leaf (.memo (.u (.c (.si .i64 (iAdd .i64 1 (iMax2 (deepV m (gP m p 2)) (deepV m (gP m p 3))))))) m))) (.no 70)) (.no 81)) (.no 76)) (.no 75))) (.no 70)) (.no 81)) (.no 76)) (.no 75))) (.no 78))
end
def deepK : Nat → (Mem → Int → Prop) × (Mem → Int → Int)
  | 0 => (fun _ _ => False, fun _ _ => 0)
  | k + 1 => (fun m p => okP (T_deep (deepK k).1 (deepK k).2 m p), fun m p => vInt (outV (T_deep (deepK k).1 (deepK k).2 m p)))
def deepOK (m : Mem) (p : Int) : Prop := (deepK 1000).1 m p
def deepV (m : Mem) (p : Int) : Int := (deepK 1000).2 m p
/-! digits -/
end Go.Proofs.Ytnlohongffpkpaa.T16
end

section
/- Layer 16: TreeLow's walk. A text of the session's own. -/
namespace Go.Proofs.Ytnlohongffpkpaa.T16
open Go Go.RowKit Go.Proofs.Ytnlohongffpkpaa.Sx Go.Proofs Go.WideShapes Go.ChangeShapes
set_option linter.unusedVariables false
set_option linter.unusedSimpArgs false

theorem Tre.inj {S : TS} {t : T} {n : Nat} (h : Tre S t n) {i j : Nat} {x : Int × Int} (hi : (hans t)[i]? = some x) (hj : (hans t)[j]? = some x) : i = j := by
  unfold hans at hi hj
  rw [List.getElem?_map] at hi hj
  obtain ⟨u, hu, hux⟩ := Option.map_eq_some_iff.1 hi
  obtain ⟨v, hv, hvx⟩ := Option.map_eq_some_iff.1 hj
  obtain ⟨e, he, hk, hw⟩ := h.en.fro u (List.mem_of_getElem? hu)
  obtain ⟨e', he', hk', hw'⟩ := h.en.fro v (List.mem_of_getElem? hv)
  have hkk : e.key = e'.key := by
    rw [← hvx] at hux
    simp only [Prod.mk.injEq] at hux
    rw [hk, hk', hux.1, hux.2]
  have hee : e = e' := by
    obtain ⟨a, ha⟩ := List.getElem?_of_mem he
    obtain ⟨c, hc⟩ := List.getElem?_of_mem he'
    have hac : a = c := by
      rcases Nat.lt_trichotomy a c with h1 | h1 | h1
      · have := List.pairwise_iff_getElem.1 h.en.ap a c (List.getElem?_eq_some_iff.1 ha).1 (List.getElem?_eq_some_iff.1 hc).1 h1
        rw [(List.getElem?_eq_some_iff.1 ha).2, (List.getElem?_eq_some_iff.1 hc).2] at this
        exact absurd hkk this
      · exact h1
      · have := List.pairwise_iff_getElem.1 h.en.ap c a (List.getElem?_eq_some_iff.1 hc).1 (List.getElem?_eq_some_iff.1 ha).1 h1
        rw [(List.getElem?_eq_some_iff.1 ha).2, (List.getElem?_eq_some_iff.1 hc).2] at this
        exact absurd hkk.symm this
    subst hac
    rw [ha] at hc; cases hc; rfl
  subst hee
  have hp := pv_inj (nodes_nn h.at' u (List.mem_of_getElem? hu)) (nodes_nn h.at' v (List.mem_of_getElem? hv)) (hw.symm.trans hw')
  have hi' : ((nodes t).map (·.1))[i]? = some u.1 := by simp [hu]
  have hj' : ((nodes t).map (·.1))[j]? = some u.1 := by simp [hv, hp]
  exact (List.getElem?_inj (List.getElem?_eq_some_iff.1 hi').1 (nodes_nodup h.at')).1 (hi'.trans hj'.symm)
theorem hans_nodes {t : T} {j : Nat} {x : Int × Int} (h : (hans t)[j]? = some x) : ∃ p, (nodes t)[j]? = some (p, x.1, x.2) := by
  unfold hans at h
  rw [List.getElem?_map] at h
  obtain ⟨u, hu, hux⟩ := Option.map_eq_some_iff.1 h
  exact ⟨u.1, by rw [hu, ← hux]⟩
theorem Tre.rng {S : TS} {t : T} {n : Nat} (h : Tre S t n) {x : Int × Int} (hx : x ∈ hans t) : inI x.1 ∧ inU x.2 := by
  obtain ⟨j, hj⟩ := List.getElem?_of_mem hx
  obtain ⟨p, hp⟩ := hans_nodes hj
  exact h.en.rng _ (List.mem_of_getElem? hp)
theorem at_ok {t : T} {a : Nat} {y : Vars} {x : Int × Int} (h : atPost (nodes t) a y) (hx : (hans t)[a]? = some x) : y.i = [x.1, x.2] ∧ y.b = [true] := by
  rcases h with ⟨j, p, s, g, e1, e2, e3, e4⟩ | ⟨e1, _⟩
  · have e1 : j = a := by omega
    subst e1
    rw [hans_get e2] at hx; cases hx
    exact ⟨e3, e4⟩
  · exfalso
    have := (List.getElem?_eq_some_iff.1 hx).1
    rw [len_nodes, ← len_hans] at e1; omega
end Go.Proofs.Ytnlohongffpkpaa.T16
end

section
/- Layer 16: slices of handles in the memory: parts, appends; the document's list behind a pointer; a tree held against it. A text of the session's own. -/
namespace Go.Proofs.Ytnlohongffpkpaa.T16
open Go Go.RowKit Go.Proofs.Ytnlohongffpkpaa.Sx Go.Proofs
set_option linter.unusedVariables false
set_option linter.unusedSimpArgs false

structure SlH (m : Mem) (v : Value) (hs : List (Int × Int)) : Prop where
  ok : okSl m v 2 = true
  n : slN v = hs.length
  row : rowL m v 2 = hCells hs
theorem mgetW_of {m : Mem} {a : Nat} {cs : Array Value} {ty : Nat} (h : m a = some (.cells cs ty (0, 0))) : mgetW m ((a : Int) + 1) = some cs := by
  unfold mgetW; rw [show ((a : Int) + 1).toNat = a + 1 by omega]; simp [h]
theorem mget_of {m : Mem} {a : Nat} {cs : Array Value} {ty : Nat} {q : Nat × Nat} (h : m a = some (.cells cs ty q)) : mget m ((a : Int) + 1) = some cs := by
  unfold mget; rw [show ((a : Int) + 1).toNat = a + 1 by omega]; simp [h]
theorem SlH.inv {m : Mem} {v : Value} {hs : List (Int × Int)} (h : SlH m v hs) : (v = .slice none 0 0 ∧ hs = []) ∨
    ∃ (a o c : Nat) (cs : Array Value) (ty : Nat), v = .slice (some ⟨a, o, none⟩) hs.length c ∧ hs.length ≤ c ∧ m a = some (.cells cs ty (0, 0)) ∧ o + c * 2 ≤ cs.size ∧ cs.toList.all isPlain = true ∧ (cs.toList.drop o).take (hs.length * 2) = hCells hs := by
  obtain ⟨h1, h2, h3⟩ := h
  unfold okSl at h1
  split at h1
  · simp only [Bool.and_eq_true] at h1
    have e1 := Nat.eq_of_beq_eq_true h1.1
    have e2 := Nat.eq_of_beq_eq_true h1.2
    subst e1 e2
    left
    refine ⟨rfl, ?_⟩
    simp only [slN] at h2
    exact List.length_eq_zero_iff.1 h2.symm
  · rename_i a o n c
    right
    simp only [Bool.and_eq_true] at h1
    obtain ⟨h1, h4⟩ := h1
    simp only [slN] at h2
    subst h2
    split at h4
    · rename_i cs hcs
      simp only [Bool.and_eq_true] at h4
      obtain ⟨b, ty, e1, e2⟩ := mgetW_at hcs
      have : b = a := by omega
      subst this
      refine ⟨b, o, c, cs, ty, rfl, Nat.le_of_ble_eq_true h1, e2, Nat.le_of_ble_eq_true h4.1, h4.2, ?_⟩
      simp only [rowL, slB, slO, slN, mgetW_get hcs] at h3
      exact h3
    · cases h4
  · cases h1
theorem SlH.of {m : Mem} {a o c : Nat} {cs : Array Value} {ty : Nat} {hs : List (Int × Int)} (h1 : hs.length ≤ c) (h2 : m a = some (.cells cs ty (0, 0))) (h3 : o + c * 2 ≤ cs.size) (h4 : cs.toList.all isPlain = true) (h5 : (cs.toList.drop o).take (hs.length * 2) = hCells hs) :
    SlH m (.slice (some ⟨a, o, none⟩) hs.length c) hs := by
  refine ⟨?_, rfl, ?_⟩
  · simp only [okSl, mgetW_of h2, Bool.and_eq_true]
    exact ⟨Nat.ble_eq_true_of_le h1, Nat.ble_eq_true_of_le h3, h4⟩
  · simp only [rowL, slB, slO, slN, mget_of h2]; exact h5
theorem SlH.nil0 (m : Mem) : SlH m (.slice none 0 0) [] := ⟨rfl, rfl, rfl⟩
theorem SlH.pl {m : Mem} {v : Value} {hs : List (Int × Int)} (h : SlH m v hs) : pl v = v := by
  rcases h.inv with ⟨rfl, _⟩ | ⟨_, _, _, _, _, rfl, _⟩ <;> rfl
theorem SlH.more {m m' : Mem} {v : Value} {hs : List (Int × Int)} (h : SlH m v hs) (hm : ∀ a : Nat, slB v = (a : Int) + 1 → m a ≠ none → m' a = m a) : SlH m' v hs := by
  rcases h.inv with ⟨rfl, rfl⟩ | ⟨a, o, c, cs, ty, rfl, h1, h2, h3, h4, h5⟩
  · exact SlH.nil0 m'
  · exact SlH.of h1 (by rw [hm a rfl (by rw [h2]; simp)]; exact h2) h3 h4 h5
/-- an element, read -/
theorem SlH.get {m : Mem} {v : Value} {hs : List (Int × Int)} (h : SlH m v hs) {i : Nat} {x : Int × Int} (hx : hs[i]? = some x) :
    inSl v (i : Int) = true ∧ okL m (slB v) (aOff (slO v) i 2) [.li .i64 0, .li .u64 0] = true ∧ gI m (slB v) (aOff (slO v) i 2) = x.1 ∧ gI m (slB v) (.succ (aOff (slO v) i 2)) = x.2 := by
  have hlt : i < hs.length := (List.getElem?_eq_some_iff.1 hx).1
  rcases h.inv with ⟨rfl, rfl⟩ | ⟨a, o, c, cs, ty, rfl, h1, h2, h3, h4, h5⟩
  · simp at hlt
  obtain ⟨c1, c2⟩ := hCells_get hs i x hx
  have k1 : cs[o + 2 * i]? = some (.int .i64 x.1) := by
    have : (cs.toList.drop o)[2 * i]? = some (.int .i64 x.1) := by rw [← c1, ← h5, List.getElem?_take_of_lt (by omega)]
    simpa using this
  have k2 : cs[o + (2 * i + 1)]? = some (.int .u64 x.2) := by
    have : (cs.toList.drop o)[2 * i + 1]? = some (.int .u64 x.2) := by rw [← c2, ← h5, List.getElem?_take_of_lt (by omega)]
    simpa using this
  have ea : aOff o (i : Int) 2 = o + 2 * i := by simp [aOff]; omega
  have eb : (o + 2 * i).succ = o + (2 * i + 1) := by omega
  simp only [slB, slO, ea, eb]
  refine ⟨?_, ?_, ?_, ?_⟩
  · have : Nat.ble hs.length c = true := Nat.ble_eq_true_of_le h1
    simp [inSl, isSl, slN, this, hlt]
  · unfold okL; rw [mget_of h2]
    simp only [okR, k1, show o + 2 * i + 1 = o + (2 * i + 1) by omega, k2, okC, isK, decide_true, Bool.and_self]
  · unfold gI mcell; rw [mget_of h2]; simp [k1, vI]
  · unfold gI mcell; rw [mget_of h2]; simp [k2, vI]
theorem wrL_at {m : Mem} {a : Nat} {cs : Array Value} {ty : Nat} {q : Nat × Nat} (h : m a = some (.cells cs ty q)) (k : Nat) (vs : List Value) : wrL m ((a : Int) + 1) k vs = fun x => if x = a then some (.cells (putV cs k vs) ty q) else m x := by
  funext x
  unfold wrL
  rw [show ((a : Int) + 1).toNat = a + 1 by omega]
  by_cases e : x = a
  · subst e; simp [h]
  · simp [e]
theorem mm_ghostY {P : Program} {S : List Sum} (hN : NameOK P) (hS : ∀ q ∈ S, SumOK P q) {D : DrawX} (hD : DSnd P D) (fuel : Nat) {f : Nat} (args : List V) (m : Mem) (mt : List Nat) {T : Tr} (hT : runm P S D fuel f args m mt = T)
    {G : Type} {pre : G → Prop} {post : G → Vars → Prop} {ret : Vars → V} (yo : V → Mem → Vars) (hp : ∃ g, pre g) (hw : ∀ g, pre g → T.sat (isMemo fun v x => post g (yo v x) ∧ (yo v x).m = x ∧ ∀ ρ, v.den ρ = (ret (yo v x)).den ρ))
    (ρ : Nat → Nat) (w : World) (hm : ∀ a o, m a = some o → w.heap[a]? = some o) {vs : Array Value} (he : vs = (args.map (V.den ρ)).toArray) :
    Calls P f vs w fun e w' => ∃ y, (∀ g, pre g → post g y) ∧ e = .returned ((ret y).den ρ) ∧ MemTo m y.m w w' := by
  refine mm_calls hN hS hD fuel args m mt hT ρ ?_ w hm he
  obtain ⟨g0, h0⟩ := hp
  have key := sat_ghost (G := { g : G // pre g }) ⟨⟨g0, h0⟩⟩ (T := T) (p := fun g v x => post g.1 (yo v x) ∧ (yo v x).m = x ∧ ∀ ρ, v.den ρ = (ret (yo v x)).den ρ) fun ⟨g, hg⟩ => hw g hg
  refine sat_mono (fun l hl => ?_) key
  cases l with
  | memo v x => exact ⟨yo v x, fun g hg => (hl ⟨g, hg⟩).1, (hl ⟨g0, h0⟩).2.2 ρ, (hl ⟨g0, h0⟩).2.1⟩
  | _ => exact hl.elim

/-- a list behind a pointer -/
structure Lst (m : Mem) (p : Int) (v : Value) (hs : List (Int × Int)) : Prop where
  hd : ∃ a : Nat, p = (a : Int) + 1 ∧ m a = some (.cells #[v] 48 (0, 0))
  sl : SlH m v hs
section
variable {m : Mem} {p : Int} {v : Value} {hs : List (Int × Int)}
theorem Lst.cell (h : Lst m p v hs) : mcell m p 0 = v := by
  obtain ⟨a, rfl, h1⟩ := h.hd
  unfold mcell; rw [mget_of h1]; rfl
theorem Lst.pc (h : Lst m p v hs) : pl (mcell m p 0) = v := by rw [h.cell, h.sl.pl]
theorem SlH.plain (h : SlH m v hs) : isPlain v = true := by
  rcases h.inv with ⟨rfl, _⟩ | ⟨_, _, _, _, _, rfl, _⟩ <;> rfl
theorem Lst.ok (h : Lst m p v hs) : okL m p 0 [.raw (.slice .none 0 0)] = true := by
  obtain ⟨a, rfl, h1⟩ := h.hd
  unfold okL; rw [mget_of h1]
  simp [okR, okC, h.sl.plain]
theorem Lst.more {m' : Mem} (h : Lst m p v hs) (hm : ∀ a, m a ≠ none → m' a = m a) : Lst m' p v hs := by
  obtain ⟨⟨a, rfl, h1⟩, h2⟩ := h
  exact ⟨⟨a, rfl, by rw [hm a (by rw [h1]; simp)]; exact h1⟩, h2.more fun b _ hb => hm b hb⟩
theorem Lst.wr {m1 : Mem} {u : Value} {ks : List (Int × Int)} (h : Lst m p v hs) (hk : ∀ a, m a ≠ none → m1 a = m a) (hu : SlH m1 u ks) (ho : ∀ a : Nat, slB u = (a : Int) + 1 → m a = none) :
    okS m1 p 0 1 = true ∧ Lst (wrL m1 p 0 [u]) p u ks ∧ ∀ a : Nat, m a ≠ none → (a : Int) + 1 ≠ p → wrL m1 p 0 [u] a = m a := by
  obtain ⟨⟨a, rfl, h1⟩, h2⟩ := h
  have h3 : m1 a = some (.cells #[v] 48 (0, 0)) := by rw [hk a (by rw [h1]; simp)]; exact h1
  have e := wrL_at h3 0 [u]
  refine ⟨?_, ⟨⟨a, rfl, ?_⟩, ?_⟩, fun b hb hne => ?_⟩
  · unfold okS; rw [mgetW_of h3]; rfl
  · rw [e]; simp [putV]
  · rw [e]
    refine hu.more fun b hb _ => ?_
    have : b ≠ a := by rintro rfl; have := ho b hb; rw [h1] at this; cases this
    exact if_neg this
  · rw [e]
    have : b ≠ a := by omega
    exact (if_neg this).trans (hk b hb)
end
/-- what becomes of a list that is changed -/
def lstPost (m : Mem) (p : Int) (ks : List (Int × Int)) (y : Vars) : Prop := ∃ u, Lst y.m p u ks ∧ (∀ a : Nat, m a ≠ none → (a : Int) + 1 ≠ p → y.m a = m a) ∧ ∀ a : Nat, slB u = (a : Int) + 1 → m a = none
/-! one put -/
/-! one taken out -/
def yHan (v : V) (m : Mem) : Vars :=
  match v with
  | .u (.agg [a, b]) => ⟨[cI a, cI b], [], [], m⟩
  | _ => ⟨[], [], [], m⟩
/-! where one stands -/
/-! one put, where it may be -/
structure AG where
  S : TS
  b : Mem
  t : T
  n : Nat
  v : Value
def AG.is (G : AG) (m : Mem) (p r : Int) : Prop := (TG.mk G.S G.b G.t G.n).is m p ∧ G.t.size < 1000 ∧ Lst m r G.v (hans G.t)
def AG.post (G : AG) (y : Vars) : Prop := y.b = [true] ∧ ∃ b', y.m = G.S.mem b' ∧ (∀ a, G.b a ≠ none → b' a = G.b a) ∧ (Fre G.S G.b → Fre G.S b')
def yBoo (v : V) (m : Mem) : Vars :=
  match v with
  | .u (.c a) => ⟨[], [cB a], [], m⟩
  | _ => ⟨[], [], [], m⟩
end Go.Proofs.Ytnlohongffpkpaa.T16
end

section
/- The symbolic executor: a region that leaves its order open, in which calls stand among operations that read the local heap. A text of the session's own. -/
namespace Go.Proofs.Ytnlohongffpkpaa.Sx
open Go Go.RowKit

def isCallO : Op → Bool
  | .call _ => true
  | _ => false
/-- what is unsaid: the memory (e), the blocks into which it is stored (er) -/
structure HE where
  e : Bool
  er : List Nat
def eraseLs : List Nat → List (Nat × Blk) → List (Nat × Blk)
  | [], l => l
  | i :: r, l => eraseLs r (eraseL i l)
def hpE (E : HE) (hp : Hp) : Hp := ⟨eraseLs E.er hp.c, hp.m, hp.lim, (match E.e with | true => noM | false => hp.x), hp.wr, hp.mt⟩
def erS (E : HE) (σ : St) : St := { tm := σ.tm, hp := hpE E σ.hp, n := σ.n }
def backS (σ σ' : St) : St := { tm := σ'.tm, hp := σ.hp, n := σ.n }
def pureG (P : Program) (N : Nat) (ops : Array Oper) (E : HE) (o : Oper) (σ : St) (k : St → Tr) : Tr :=
  match o.guard with
  | none => opX P o.op (erS E σ) fun v σ' => k ((backS σ σ').put o.dst v)
  | some (j, want) => match guardTmp ops j with
    | none => .no 41
    | some t => match Nat.blt t N with
      | false => .no 42
      | true => match look σ.tm t with
        | .u (.c (.lb b)) => (match b == want with
          | true => opX P o.op (erS E σ) fun v σ' => k ((backS σ σ').put o.dst v)
          | false => k (σ.put o.dst (.tup [])))
        | .u (.c (.sb b)) => .br b
          (match true == want with
           | true => opX P o.op (erS E (retell σ (.tmp t) true)) fun v σ' => k ((backS (retell σ (.tmp t) true) σ').put o.dst v)
           | false => k ((retell σ (.tmp t) true).put o.dst (.tup [])))
          (match false == want with
           | true => opX P o.op (erS E (retell σ (.tmp t) false)) fun v σ' => k ((backS (retell σ (.tmp t) false) σ').put o.dst v)
           | false => k ((retell σ (.tmp t) false).put o.dst (.tup [])))
        | .tup [] => k (σ.put o.dst (.tup []))
        | _ => .no 43
def isRdy (fl : List Bool) (i : Nat) (o : Oper) : Bool := !(fl.getD i true) && o.after.toList.all fun e => !Region.binds .any e || fl.getD e.on false
def freeB (ops : Array Oper) (fl : List Bool) (i : Nat) (o : Oper) : List Oper → Nat → Bool
  | [], _ => true
  | p :: r, j => (Nat.beq j i || fl.getD j true || edgeTo p i || o.apart ops p) && freeB ops fl i o r (j + 1)
def takeK (E : HE) (σ : St) (o : Op) : Bool := !isCallO o && pureOp o && (match E.e with | true => !(onR o σ || onM o σ) | false => true)
def nextT (N : Nat) (ops : Array Oper) (E : HE) (fl : List Bool) (σ : St) : List Oper → Nat → Option (Nat × Oper)
  | [], _ => none
  | o :: r, i => match isRdy fl i o && takeK E σ o.op && okDst N o.dst && freeB ops fl i o ops.toList 0 with
    | true => some (i, o)
    | false => nextT N ops E fl σ r (i + 1)
def readyL (fl : List Bool) : List Oper → Nat → List (Nat × Oper)
  | [], _ => []
  | o :: r, i => match isRdy fl i o with | true => (i, o) :: readyL fl r (i + 1) | false => readyL fl r (i + 1)
def heldx (P : Program) (S : List Sum) (ih : Nat → Code → St → K → Tr) (N : Nat) (ops : Array Oper) (E : HE) : Nat → List Bool → St → (St → Tr) → Tr
  | 0, _, _, _ => .no 90
  | f + 1, fl, σ, k => match nextT N ops E fl σ ops.toList 0 with
    | some q => pureG P N ops E q.2 σ fun σ' => heldx P S ih N ops E f (fl.set q.1 true) σ' k
    | none => match readyL fl ops.toList 0 with
      | [] => (match fl.all id with | true => k σ | false => .no 91)
      | q :: r => (match r with
        | [] => (match !isCallO q.2.op && pureOp q.2.op && okDst N q.2.dst with
          | true => pureG P N ops ⟨false, []⟩ q.2 σ fun σ' => heldx P S ih N ops E f (fl.set q.1 true) σ' k
          | false => opsx P S ih N ops [q.2] σ fun σ' => (match Nat.beq σ'.n σ.n && beqB σ'.hp.wr σ.hp.wr with
            | true => (match E.e with
              | true => .req (eraseLs E.er σ'.hp.c = eraseLs E.er σ.hp.c ∧ σ'.hp.m = σ.hp.m) (heldx P S ih N ops E f (fl.set q.1 true) σ' k)
              | false => .req (eraseLs E.er σ'.hp.c = eraseLs E.er σ.hp.c ∧ σ'.hp.m = σ.hp.m ∧ σ'.hp.x = σ.hp.x) (heldx P S ih N ops E f (fl.set q.1 true) σ' k))
            | false => .no 94))
        | _ :: _ => .no 92)
def isInvO : Op → Bool
  | .call c => (match c.callee with | .invoke _ _ => true | _ => false)
  | _ => false
/-- stores into the frame's own blocks -/
def stoId (σ : St) : Op → Option Nat
  | .store _ (.tmp d) _ => (match look σ.tm d with | .u (.c (.ptr id _)) => some id | _ => none)
  | _ => none
/-- Where is it wanted? Calls among others, or a call that is guarded. -/
def cntCalls : List Oper → Nat
  | [] => 0
  | o :: r => match isCallO o.op with
    | true => (match o.guard, isInvO o.op with | none, false => cntCalls r + 1 | _, _ => cntCalls r + 2)
    | false => cntCalls r
def isBltO : Op → Bool
  | .call c => (match c.callee with | .builtin _ => true | _ => false)
  | _ => false
def anyCall : List Oper → Bool
  | [] => false
  | o :: r => (isCallO o.op && !isBltO o.op) || anyCall r
def drawg (P : Program) (S : List Sum) (ih : Nat → Code → St → K → Tr) (N : Nat) (ops : Array Oper) (σ : St) (k : St → Tr) : Tr :=
  match Region.noSelect ops && Nat.ble 2 (cntCalls ops.toList) && ops.toList.all (fun o => isCallO o.op || pureOp o.op || (stoId σ o.op).isSome) with
  | true => heldx P S ih N ops ⟨anyCall ops.toList, ops.toList.filterMap fun o => stoId σ o.op⟩ (ops.size + 1) (ops.toList.map fun _ => false) σ k
  | false => drawf P S ih N ops σ k
def drawh (P : Program) (S : List Sum) (lv : Nat → Nat → Option LT) (ct : Nat → Nat → Nat → Option CT) : DrawX := ⟨drawg P S, lv, ct⟩

section
variable {P : Program} {S : List Sum} {W : World} {n0 : NL} {ρ0 : Nat → Nat} {N : Nat} {ρ : Nat → Nat} {σ : St} {R : Leaf → Prop} {ops : Array Oper}

theorem HInv.rho {hp : Hp} {n : Nat} {w : World} {ρ' : Nat → Nat} (h : HInv W n0 ρ0 ρ hp n w) (hE : Ext n ρ ρ') : HInv W n0 ρ0 ρ' hp n w := by
  have e := hE
  refine ⟨fun i hi => by rw [e i hi]; exact h.lt i hi, fun i j hi hj hij => by rw [e i hi, e j hj] at hij; exact h.inj i j hi hj hij, fun i b hb => ?_, h.le, fun i hi => (e i (Nat.lt_of_lt_of_le hi h.le)).trans (h.old i hi), fun i h1 h2 => by rw [e i h2]; exact h.new i h1 h2, h.os, h.tape, h.output, h.size, h.far, fun i m hm => ?_, h.lim, ⟨h.mem.sub, fun a o ha i hi => by rw [e i hi]; exact h.mem.sep a o ha i hi, h.mem.dom⟩⟩
  · obtain ⟨g1, g2, g3⟩ := h.blk i b hb
    exact ⟨g1, g2, by rw [e i g1, dens_ext hE b.1 g2]; exact g3⟩
  · obtain ⟨g1, g2, g3⟩ := h.mblk i m hm
    exact ⟨g1, g2, by rw [e i g1, mden_ext hE m.1 g2]; exact g3⟩
theorem HInv.same {hp hp' : Hp} {n : Nat} {w : World} (h : HInv W n0 ρ0 ρ hp n w) (hb : hp'.c = hp.c) (hm : hp'.m = hp.m) (hl : hp'.lim = hp.lim) (hx : MR W n0.x hp'.wr hp'.x ρ n w) : HInv W n0 ρ0 ρ hp' n w := by
  refine ⟨h.lt, h.inj, fun i b e => h.blk i b ?_, h.le, h.old, h.new, h.os, h.tape, h.output, h.size, h.far, fun i m e => h.mblk i m ?_, hl.trans h.lim, hx⟩
  · unfold lookH at e ⊢; rw [← hb]; exact e
  · unfold lookM at e ⊢; rw [← hm]; exact e
theorem eraseLs_sub : ∀ (r : List Nat) (l : List (Nat × Blk)) (i : Nat) (b : Blk), lookL (eraseLs r l) i = some b → lookL l i = some b
  | [], _, _, _, h => h
  | j :: r, l, i, b, h => (lookL_erase (eraseLs_sub r (eraseL j l) i b h)).1
theorem HInv.er {hp : Hp} {n : Nat} {w : World} (h : HInv W n0 ρ0 ρ hp n w) (E : HE) : HInv W n0 ρ0 ρ (hpE E hp) n w := by
  have h1 : HInv W n0 ρ0 ρ (hpE ⟨false, E.er⟩ hp) n w := ⟨h.lt, h.inj, fun i b e => h.blk i b (eraseLs_sub _ _ _ _ e), h.le, h.old, h.new, h.os, h.tape, h.output, h.size, h.far, fun i m e => h.mblk i m e, h.lim, h.mem⟩
  cases E with
  | mk e er =>
    cases e with
    | false => exact h1
    | true => exact h1.same rfl rfl rfl (MR.none _ _ _ _ _ _)

/-- A pure operation, whether it is done or not. -/
theorem pureG_sound {E : HE} {o : Oper} {k : St → Tr} (hp : pureOp o.op = true) (hd : okDst N o.dst = true) {a : Act} {w : World} (hI : Inv W n0 ρ0 N ρ σ a w) (h : (pureG P N ops E o σ k).sat R) :
    ∃ v σ', σ'.hp = σ.hp ∧ σ'.n = σ.n ∧ (k σ').sat R ∧ Inv W n0 ρ0 N ρ σ' (a.put o.dst v) w ∧ YieldsIf P ops (fun w => HInv W n0 ρ0 ρ (hpE E σ.hp) σ.n w) o v a := by
  have hd' := okDst_lt hd
  have run : ∀ σ1 : St, Inv W n0 ρ0 N ρ σ1 a w → σ1.n = σ.n → σ1.hp = σ.hp → Region.wanted o (yielded ops a.tmps) = true → (opX P o.op (erS E σ1) fun v σ' => k ((backS σ1 σ').put o.dst v)).sat R →
      ∃ v σ', σ'.hp = σ.hp ∧ σ'.n = σ.n ∧ (k σ').sat R ∧ Inv W n0 ρ0 N ρ σ' (a.put o.dst v) w ∧ YieldsIf P ops (fun w => HInv W n0 ρ0 ρ (hpE E σ.hp) σ.n w) o v a := by
    intro σ1 hI1 hn hh hw hs
    obtain ⟨v, σ', g1, g2, g3, g4⟩ := opXA_sound (W := W) (n0 := n0) (ρ0 := ρ0) (N := N) (ρ := ρ) hp hs
    have hIE : Inv W n0 ρ0 N ρ (erS E σ1) a w := ⟨hI1.defers, hI1.sz, hI1.tm, hI1.tmwf, hI1.H.er E⟩
    obtain ⟨k1, k2, k3⟩ := g4 a w hIE
    have g2' : σ'.n = σ1.n := g2
    have hB : Inv W n0 ρ0 N ρ (backS σ1 σ') a w := ⟨k1.defers, k1.sz, k1.tm, fun q hq => by have := k1.tmwf q hq; rw [g2'] at this; exact this, hI1.H⟩
    refine ⟨v.den ρ, _, ?_, ?_, g3, hB.put o.dst v hd' k2, .inl ⟨hw, fun w' hS => ?_⟩⟩
    · rw [(put_hp _ _ _).1]; exact hh
    · rw [(put_hp _ _ _).2]; exact hn
    · refine (g4 a w' ⟨hI1.defers, hI1.sz, hI1.tm, hI1.tmwf, ?_⟩).2.2
      show HInv W n0 ρ0 ρ (hpE E σ1.hp) σ1.n w'
      rw [hh, hn]; exact hS
  have skip : ∀ σ1 : St, Inv W n0 ρ0 N ρ σ1 a w → σ1.n = σ.n → σ1.hp = σ.hp → Region.wanted o (yielded ops a.tmps) = false → (k (σ1.put o.dst (.tup []))).sat R →
      ∃ v σ', σ'.hp = σ.hp ∧ σ'.n = σ.n ∧ (k σ').sat R ∧ Inv W n0 ρ0 N ρ σ' (a.put o.dst v) w ∧ YieldsIf P ops (fun w => HInv W n0 ρ0 ρ (hpE E σ.hp) σ.n w) o v a := by
    intro σ1 hI1 hn hh hw hs
    refine ⟨undef, _, ?_, ?_, hs, hI1.put o.dst (.tup []) hd' rfl, .inr ⟨hw, rfl⟩⟩
    · rw [(put_hp _ _ _).1]; exact hh
    · rw [(put_hp _ _ _).2]; exact hn
  unfold pureG at h
  split at h
  · rename_i hg
    exact run σ hI rfl rfl (by simp [Region.wanted, hg]) h
  · rename_i j want hg
    split at h
    · exact h.elim
    · rename_i t hgt
      split at h
      · exact h.elim
      · rename_i ht
        have ht' : t < N := by simpa using ht
        split at h
        · rename_i b hb
          have hy := yielded_of hI hgt ht' (b := b) (by rw [hb]; rfl)
          split at h
          · rename_i hbw
            exact run σ hI rfl rfl (by simp only [Region.wanted, hg, hy]; simpa using hbw) h
          · rename_i hbw
            exact skip σ hI rfl rfl (by simp only [Region.wanted, hg, hy]; simpa using hbw) h
        · rename_i b hb
          have hy := yielded_of hI hgt ht' (b := b) (by rw [hb]; rfl)
          have fin : ∀ c : Bool, b = c → (match c == want with
              | true => opX P o.op (erS E (retell σ (.tmp t) c)) fun v σ' => k ((backS (retell σ (.tmp t) c) σ').put o.dst v)
              | false => k ((retell σ (.tmp t) c).put o.dst (.tup []))).sat R →
              ∃ v σ', σ'.hp = σ.hp ∧ σ'.n = σ.n ∧ (k σ').sat R ∧ Inv W n0 ρ0 N ρ σ' (a.put o.dst v) w ∧ YieldsIf P ops (fun w => HInv W n0 ρ0 ρ (hpE E σ.hp) σ.n w) o v a := by
            intro c hc hs
            subst hc
            have hI1 : Inv W n0 ρ0 N ρ (retell σ (.tmp t) b) a w := hI.retell t _ rfl (by rw [hb]; rfl)
            split at hs
            · rename_i hbw
              exact run _ hI1 rfl rfl (by simp only [Region.wanted, hg, hy]; simpa using hbw) hs
            · rename_i hbw
              exact skip _ hI1 rfl rfl (by simp only [Region.wanted, hg, hy]; simpa using hbw) hs
          obtain ⟨h1, h2⟩ := h
          cases hbb : b with
          | true => exact fin true hbb (h1 hbb)
          | false => exact fin false hbb (h2 hbb)
        · rename_i hb
          have hy := yielded_undef hI hgt ht' (by rw [hb]; rfl)
          exact skip σ hI rfl rfl (by simp [Region.wanted, hg, hy]) h
        · exact h.elim

theorem getD_toA (fl : List Bool) (i : Nat) (d : Bool) : fl.toArray.getD i d = fl.getD i d := by
  simp [Array.getD_eq_getD_getElem?, List.getD_eq_getElem?_getD]
theorem set_toA (fl : List Bool) (i : Nat) : (fl.set i true).toArray = fl.toArray.setIfInBounds i true := by simp
theorem isRdy_mem {fl : List Bool} {i : Nat} {o : Oper} (ho : ops[i]? = some o) : isRdy fl i o = true ↔ i ∈ Region.ready .any ops fl.toArray := by
  rw [mem_ready, getD_toA]
  simp only [isRdy, Bool.and_eq_true, Bool.not_eq_true', List.all_eq_true, Bool.or_eq_true]
  constructor
  · rintro ⟨h1, h2⟩
    refine ⟨h1, o, ho, fun e he hb => ?_⟩
    rw [getD_toA]
    rcases h2 e (by simpa using he) with h | h
    · rw [hb] at h; cases h
    · exact h
  · rintro ⟨h1, o', ho', h2⟩
    rw [ho] at ho'; cases ho'
    refine ⟨h1, fun e he => ?_⟩
    cases hb : Region.binds .any e with
    | false => exact .inl rfl
    | true => have := h2 e (by simpa using he) hb; rw [getD_toA] at this; exact .inr this
theorem nextT_spec {E : HE} {fl : List Bool} : ∀ {l : List Oper} {i : Nat} {q : Nat × Oper}, (∀ j, l[j]? = ops[i + j]?) → nextT N ops E fl σ l i = some q →
    ops[q.1]? = some q.2 ∧ isRdy fl q.1 q.2 = true ∧ takeK E σ q.2.op = true ∧ okDst N q.2.dst = true ∧ freeB ops fl q.1 q.2 ops.toList 0 = true
  | [], _, _, _, h => by cases h
  | o :: r, i, q, hl, h => by
    simp only [nextT] at h
    split at h
    · rename_i hc
      cases h
      simp only [Bool.and_eq_true] at hc
      have := hl 0
      exact ⟨by simpa using this.symm, hc.1.1.1, hc.1.1.2, hc.1.2, hc.2⟩
    · exact nextT_spec (fun j => by have := hl (j + 1); rw [show i + 1 + j = i + (j + 1) by omega, ← this]; simp) h
theorem readyL_spec {fl : List Bool} : ∀ {l : List Oper} {i j : Nat} {o : Oper}, l[j]? = some o → isRdy fl (i + j) o = true → (i + j, o) ∈ readyL fl l i
  | [], _, _, _, h, _ => by simp at h
  | p :: r, i, 0, o, h, hr => by
    simp only [List.getElem?_cons_zero, Option.some.injEq] at h
    subst h
    simp only [readyL, show isRdy fl i p = true from hr]
    simp
  | p :: r, i, j + 1, o, h, hr => by
    simp only [List.getElem?_cons_succ] at h
    have := readyL_spec (i := i + 1) h (by rw [show i + 1 + j = i + (j + 1) by omega]; exact hr)
    rw [show i + 1 + j = i + (j + 1) by omega] at this
    simp only [readyL]
    split
    · exact List.mem_cons_of_mem _ this
    · exact this
theorem readyL_mem {fl : List Bool} : ∀ {l : List Oper} {i : Nat} {q : Nat × Oper}, q ∈ readyL fl l i → ∃ j, q.1 = i + j ∧ l[j]? = some q.2 ∧ isRdy fl q.1 q.2 = true
  | [], _, _, h => by cases h
  | p :: r, i, q, h => by
    simp only [readyL] at h
    have rec' : q ∈ readyL fl r (i + 1) → ∃ j, q.1 = i + j ∧ (p :: r)[j]? = some q.2 ∧ isRdy fl q.1 q.2 = true := fun h => by
      obtain ⟨j, h1, h2, h3⟩ := readyL_mem h
      exact ⟨j + 1, by omega, by simpa using h2, h3⟩
    split at h
    · rename_i hr
      rcases List.mem_cons.1 h with rfl | h
      · exact ⟨0, rfl, rfl, hr⟩
      · exact rec' h
    · exact rec' h
theorem freeB_spec {fl : List Bool} {i : Nat} {o : Oper} : ∀ {l : List Oper} {k : Nat}, freeB ops fl i o l k = true → ∀ j p, l[j]? = some p → k + j ≠ i → fl.getD (k + j) true = false → edgeTo p i = false → o.apart ops p = true
  | [], _, _, j, p, h, _, _, _ => by simp at h
  | q :: r, k, hf, 0, p, h, h1, h2, h3 => by
    simp only [List.getElem?_cons_zero, Option.some.injEq] at h
    subst h
    simp only [freeB, Bool.and_eq_true, Bool.or_eq_true] at hf
    rcases hf.1 with ((h | h) | h) | h
    · exact absurd (Nat.eq_of_beq_eq_true h) h1
    · rw [Nat.add_zero] at h2; rw [h] at h2; cases h2
    · rw [h] at h3; cases h3
    · exact h
  | q :: r, k, hf, j + 1, p, h, h1, h2, h3 => by
    simp only [List.getElem?_cons_succ] at h
    simp only [freeB, Bool.and_eq_true] at hf
    exact freeB_spec hf.2 j p h (by omega) (by rw [show k + 1 + j = k + (j + 1) by omega]; exact h2) h3
theorem cnt_set {fl : List Bool} {i : Nat} (h : fl.getD i true = false) : (fl.set i true).count false + 1 = fl.count false := by
  have hlt : i < fl.length := by
    rcases Nat.lt_or_ge i fl.length with h1 | h1
    · exact h1
    · rw [List.getD_eq_getElem?_getD, List.getElem?_eq_none h1] at h; cases h
  have he : fl[i] = false := by
    rw [List.getD_eq_getElem?_getD, List.getElem?_eq_getElem hlt] at h; exact h
  have e : fl = fl.take i ++ false :: fl.drop (i + 1) := by
    conv => lhs; rw [← List.take_append_drop i fl]
    rw [List.drop_eq_getElem_cons hlt, he]
  rw [List.set_eq_take_append_cons_drop, if_pos hlt]
  conv => rhs; rw [e]
  simp [List.count_append, List.count_cons]
  omega

theorem heldx_any (hN : NameOK P) (hS : ∀ q ∈ S, SumOK P q) {ih : Nat → Code → St → K → Tr} (hih : Snd P ih) {E : HE} (hsel : Region.noSelect ops = true) {k : St → Tr} {Q : Exit → Act → World → Prop} (hQ : ∀ c a w, ¬ Q (.panic c) a w)
    {σs : St} {ρs : Nat → Nat} : ∀ (f : Nat) (fl : List Bool) (σ : St) (ρ : Nat → Nat) (a : Act) (w : World), Inv W n0 ρ0 N ρ σ a w → σ.n = σs.n → Ext σs.n ρs ρ → eraseLs E.er σ.hp.c = eraseLs E.er σs.hp.c → σ.hp.m = σs.hp.m → σ.hp.wr = σs.hp.wr → σs.hp.lim = n0.l → (E.e = false → σ.hp.x = σs.hp.x) →
      (heldx P S ih N ops E f fl σ k).sat R →
      (∀ σ' ρ' a' w', Inv W n0 ρ0 N ρ' σ' a' w' → Ext σ.n ρ ρ' → σ.n ≤ σ'.n → (k σ').sat R → Q .normal a' w') →
      ∀ fuel, fl.length = ops.size → fl.count false ≤ fuel → wpAnyH P .any ops Q (fun w => HInv W n0 ρ0 ρs (hpE E σs.hp) σs.n w) fuel fl.toArray a w := by
  intro f
  induction f with
  | zero => intro fl σ ρ a w _ _ _ _ _ _ _ _ h; exact h.elim
  | succ f ihf =>
    intro fl σ ρ a w hI c1 c2 c3 c4 c5 c6 c7 h hk fuel hlen hfu
    -- the condition, told of the state at hand
    have toS : ∀ w, HInv W n0 ρ0 ρ (hpE E σ.hp) σ.n w → HInv W n0 ρ0 ρs (hpE E σs.hp) σs.n w := fun w hw => by
      rw [c1] at hw
      have h1 : HInv W n0 ρ0 ρs (hpE E σ.hp) σs.n w := hw.rho (fun i hi => (c2 i hi).symm)
      have hl : σs.hp.lim = σ.hp.lim := c6.trans hI.H.lim.symm
      obtain ⟨e, er⟩ := E
      cases e with
      | true => exact h1.same c3.symm c4.symm hl (MR.none _ _ _ _ _ _)
      | false =>
        refine h1.same c3.symm c4.symm hl ?_
        have := h1.mem
        show MR W n0.x σs.hp.wr σs.hp.x ρs σs.n w
        rw [← c5, ← c7 rfl]; exact this
    have ofS : ∀ w, HInv W n0 ρ0 ρs (hpE E σs.hp) σs.n w → HInv W n0 ρ0 ρ (hpE E σ.hp) σ.n w := fun w hw => by
      rw [c1]
      have h1 : HInv W n0 ρ0 ρ (hpE E σs.hp) σs.n w := hw.rho c2
      have hl : σ.hp.lim = σs.hp.lim := hI.H.lim.trans c6.symm
      obtain ⟨e, er⟩ := E
      cases e with
      | true => exact h1.same c3 c4 hl (MR.none _ _ _ _ _ _)
      | false =>
        refine h1.same c3 c4 hl ?_
        have := h1.mem
        show MR W n0.x σ.hp.wr σ.hp.x ρ σs.n w
        rw [c5, c7 rfl]; exact this
    have hSw := toS w (hI.H.er E)
    have step : ∀ (i : Nat) (o : Oper) σ' ρ' a' w', fl.getD i true = false → Inv W n0 ρ0 N ρ' σ' a' w' → σ'.n = σ.n → Ext σ.n ρ ρ' → eraseLs E.er σ'.hp.c = eraseLs E.er σ.hp.c → σ'.hp.m = σ.hp.m → σ'.hp.wr = σ.hp.wr → (E.e = false → σ'.hp.x = σ.hp.x) →
        (heldx P S ih N ops E f (fl.set i true) σ' k).sat R → ∀ g, fuel = g + 1 → wpAnyH P .any ops Q (fun w => HInv W n0 ρ0 ρs (hpE E σs.hp) σs.n w) g (fl.toArray.setIfInBounds i true) a' w' := by
      intro i o σ' ρ' a' w' hun hI' d1 d2 d3 d4 d5 d6 hs g hg
      rw [← set_toA]
      have hc := cnt_set hun
      refine ihf (fl.set i true) σ' ρ' a' w' hI' (d1.trans c1) (c2.trans (by rw [c1]; exact Nat.le_refl _) d2) (d3.trans c3) (d4.trans c4) (d5.trans c5) c6 (fun e => (d6 e).trans (c7 e)) hs ?_ g (by rw [List.length_set]; exact hlen) (by omega)
      intro σ2 ρ2 a2 w2 g1 g2 g3 g4
      exact hk σ2 ρ2 a2 w2 g1 (d2.trans (Nat.le_of_eq d1.symm) g2) (by omega) g4
    have hpos : ∀ i, fl.getD i true = false → ∃ g, fuel = g + 1 := fun i hun => ⟨fuel - 1, by have := cnt_set hun; omega⟩
    unfold heldx at h
    split at h
    · rename_i q hq
      obtain ⟨t1, t2, t3, t4, t5⟩ := nextT_spec (i := 0) (fun j => by simp) hq
      have hun : fl.getD q.1 true = false := by
        simp only [isRdy, Bool.and_eq_true, Bool.not_eq_true'] at t2; exact t2.1
      obtain ⟨g, hg⟩ := hpos _ hun
      simp only [takeK, Bool.and_eq_true] at t3
      obtain ⟨v, σ', e1, e2, e3, e4, e5⟩ := pureG_sound t3.1.2 t4 hI h
      subst hg
      refine wpAnyH_first (v := v) t1 (Region.noSelect_spec hsel) (fun c a w hq => (hQ c _ w hq).elim) g fl.toArray a w ?_ ((isRdy_mem t1).1 t2) ?_ hSw ?_
      · intro j oj hj hne hunj hno
        rw [getD_toA] at hunj
        refine freeB_spec t5 j oj (by simpa using hj) (by omega) (by rw [Nat.zero_add]; exact hunj) ?_
        cases he : edgeTo oj q.1 with
        | false => rfl
        | true =>
          exfalso
          simp only [edgeTo, List.any_eq_true, Bool.and_eq_true] at he
          obtain ⟨e, he, hb, hon⟩ := he
          exact hno e (by simpa using he) hb (Nat.eq_of_beq_eq_true hon)
      · rcases e5 with ⟨w1, w2⟩ | ⟨w1, w2⟩
        · exact .inl ⟨w1, fun w' hw' => w2 w' (ofS w' hw')⟩
        · exact .inr ⟨w1, w2⟩
      · exact step q.1 q.2 σ' ρ _ w hun e4 e2 (Ext.refl _ _) (by rw [e1]) (by rw [e1]) (by rw [e1]) (fun _ => by rw [e1]) e3 g rfl
    · split at h
      · rename_i hr
        split at h
        · rename_i hall
          rw [List.all_eq_true] at hall
          have hnil : Region.ready .any ops fl.toArray = [] := by
            cases hrr : Region.ready .any ops fl.toArray with
            | nil => rfl
            | cons i r =>
              have hi : i ∈ Region.ready .any ops fl.toArray := by rw [hrr]; simp
              obtain ⟨h1, o, ho, _⟩ := mem_ready.1 hi
              have hlt := (Array.getElem?_eq_some_iff.1 ho).1
              rw [getD_toA, List.getD_eq_getElem?_getD, List.getElem?_eq_getElem (by omega)] at h1
              have := hall fl[i] (by simp)
              simp only [id] at this
              simp only [Option.getD_some] at h1
              rw [this] at h1; cases h1
          exact wpAnyH_done hnil (hk σ ρ a w hI (Ext.refl _ _) (Nat.le_refl _) h) fuel
        · exact h.elim
      · rename_i q r hr
        split at h
        · rename_i hr0
          have hmem : q ∈ readyL fl ops.toList 0 := by rw [hr]; simp
          obtain ⟨j, j1, j2, j3⟩ := readyL_mem hmem
          have hj : ops[q.1]? = some q.2 := by rw [j1, Nat.zero_add]; simpa using j2
          have hun : fl.getD q.1 true = false := by
            simp only [isRdy, Bool.and_eq_true, Bool.not_eq_true'] at j3; exact j3.1
          obtain ⟨g, hg⟩ := hpos _ hun
          have honly : ∀ i ∈ Region.ready .any ops fl.toArray, i = q.1 := by
            intro i hi
            obtain ⟨_, o, ho, _⟩ := mem_ready.1 hi
            have := readyL_spec (fl := fl) (l := ops.toList) (i := 0) (j := i) (o := o) (by simpa using ho) (by rw [Nat.zero_add]; exact (isRdy_mem ho).2 hi)
            rw [hr] at this
            simp only [Nat.zero_add, List.mem_singleton] at this
            rw [← this]
          subst hg
          have hready := (isRdy_mem hj).1 j3
          refine ⟨(fun hn => by rw [hn] at hready; cases hready), fun i hi => ?_⟩
          have hiq := honly i hi
          subst hiq
          split at h
          · rename_i hc
            simp only [Bool.and_eq_true] at hc
            obtain ⟨v, σ', e1, e2, e3, e4, e5⟩ := pureG_sound (E := ⟨false, []⟩) hc.1.2 hc.2 hI h
            exact e5.wpOp hj hI.H ⟨hSw, step q.1 q.2 σ' ρ _ w hun e4 e2 (Ext.refl _ _) (by rw [e1]) (by rw [e1]) (by rw [e1]) (fun _ => by rw [e1]) e3 g rfl⟩
          · have hseq := opsx_seq (Q := Q) (Kc := fun a' w' => HInv W n0 ρ0 ρs (hpE E σs.hp) σs.n w' ∧ wpAnyH P .any ops Q (fun w => HInv W n0 ρ0 ρs (hpE E σs.hp) σs.n w) g (fl.toArray.setIfInBounds q.1 true) a' w') hN hS hih ops [q.2] σ ρ a w hI h (fun σ' ρ' a' w' h1 h2 h3 h4 => by
              split at h4
              · rename_i hcn
                simp only [Bool.and_eq_true] at hcn
                have d1 := Nat.eq_of_beq_eq_true hcn.1
                have d5 := beqB_eq hcn.2
                have fin : eraseLs E.er σ'.hp.c = eraseLs E.er σ.hp.c → σ'.hp.m = σ.hp.m → (E.e = false → σ'.hp.x = σ.hp.x) → (heldx P S ih N ops E f (fl.set q.1 true) σ' k).sat R →
                    HInv W n0 ρ0 ρs (hpE E σs.hp) σs.n w' ∧ wpAnyH P .any ops Q (fun w => HInv W n0 ρ0 ρs (hpE E σs.hp) σs.n w) g (fl.toArray.setIfInBounds q.1 true) a' w' := by
                  intro d3 d4 d6 hs
                  refine ⟨?_, step q.1 q.2 σ' ρ' a' w' hun h1 d1 h2 d3 d4 d5 d6 hs g rfl⟩
                  have hw1 : HInv W n0 ρ0 ρs (hpE E σ'.hp) σs.n w' := by
                    have := h1.H.er E
                    rw [d1, c1] at this
                    exact this.rho fun i hi => by
                      rw [c1] at h2
                      exact ((h2 i hi).trans (c2 i hi)).symm
                  have hl : σs.hp.lim = σ'.hp.lim := c6.trans h1.H.lim.symm
                  obtain ⟨e, er⟩ := E
                  cases e with
                  | true => exact hw1.same (d3.trans c3).symm (d4.trans c4).symm hl (MR.none _ _ _ _ _ _)
                  | false =>
                    refine hw1.same (d3.trans c3).symm (d4.trans c4).symm hl ?_
                    have := hw1.mem
                    show MR W n0.x σs.hp.wr σs.hp.x ρs σs.n w'
                    rw [← c5, ← c7 rfl, ← d5, ← d6 rfl]; exact this
                split at h4
                · rename_i he
                  exact fin h4.1.1 h4.1.2 (fun e => by rw [he] at e; cases e) h4.2
                · exact fin h4.1.1 h4.1.2.1 (fun _ => h4.1.2.2) h4.2
              · exact h4.elim)
            unfold wpOp
            rw [hj]
            simp only
            simp only [wpSeq] at hseq
            split
            · rename_i hw
              rw [if_pos hw] at hseq
              exact hseq
            · rename_i hw
              rw [if_neg hw] at hseq
              exact hseq
        · exact h.elim

theorem drawh_sound (hN : NameOK P) (hS : ∀ q ∈ S, SumOK P q) (hmix : P.follows .mixedOrders = true) (lv : Nat → Nat → Option LT) (ct : Nat → Nat → Nat → Option CT) : DSnd P (drawh P S lv ct) := by
  intro ih hih W n0 ρ0 N R id ops σ k ρ a w Q hI h hk
  simp only [drawh, drawg] at h
  split at h
  · rename_i hc
    simp only [Bool.and_eq_true] at hc
    refine Code.wp_mono (Q := fun e a w => (∀ c, e ≠ .panic c) ∧ Q e a w) (fun e a w h => h.2) (wp_region_held (S := fun w => HInv W n0 ρ0 ρ (hpE ⟨anyCall ops.toList, ops.toList.filterMap fun o => stoId σ o.op⟩ σ.hp) σ.n w) hmix ?_)
    have hI' : Inv W n0 ρ0 N ρ σ a { w with drawn := w.drawn + 1 } := ⟨hI.defers, hI.sz, hI.tm, hI.tmwf, hI.H.drew _⟩
    have := heldx_any (σs := σ) (ρs := ρ) (Q := fun e a w => (∀ c, e ≠ .panic c) ∧ Q e a w) hN hS hih (E := ⟨anyCall ops.toList, ops.toList.filterMap fun o => stoId σ o.op⟩) hc.1.1 (fun c a w h => h.1 c rfl) (ops.size + 1) (ops.toList.map fun _ => false) σ ρ a _ hI' rfl (Ext.refl _ _) rfl rfl rfl hI.H.lim (fun _ => rfl) h
      (fun σ' ρ' a' w' h1 h2 h3 h4 => ⟨(fun c e => by cases e), hk σ' ρ' a' w' h1 h2 h3 h4⟩) ops.size (by simp) (by
        have : ((ops.toList.map fun _ => false).count false) ≤ (ops.toList.map fun _ => false).length := List.count_le_length
        simpa using this)
    have e : (ops.toList.map fun _ => false).toArray = Array.replicate ops.size false := by
      apply Array.ext'
      simp [List.map_const']
    rw [e] at this
    exact this
  · exact drawl_sound hN hS hmix lv ih hih W n0 ρ0 N R id ops σ k ρ a w Q hI h hk
end
end Go.Proofs.Ytnlohongffpkpaa.Sx
end
