/- Layer 16: fills: a black one is missed. A text of the session's own. -/
import Derived.Test.YtnlohongffpkpaaT16H
namespace Go.Proofs.Ytnlohongffpkpaa.T16
open Go Go.RowKit Go.Proofs.Ytnlohongffpkpaa.Sx
set_option linter.unusedVariables false
set_option linter.unusedSimpArgs false

/-- a colour is written -/
theorem At.col {S : TS} {b : Mem} {i : Bool} {p s g : Int} {c : Bool} {x y : T} {k : Ctx} (h : At S (mkT i p s g c x y) k) (v : Bool) {f : Mem → Tr} {Q : Leaf → Prop} {n1 n2 n3 : Nat}
    (hk : ∀ S', S.like S' → At S' (mkT i p s g v x y) k → (f (S'.mem b)).sat Q) :
    (Tr.br (nzp p) (.br (nzp p) (.br (okS (S.mem b) p 6 1) (.letm (wrL (S.mem b) p 6 [.bool v]) f) (.no n1)) (.no n2)) (.no n3)).sat Q := by
  have hp := h.get
  rw [brT (nz_n h.ok hp), brT (nz_n h.ok hp), brT (okS_n h.ok hp rfl), sat_letm, wr_c h.ok hp]
  exact hk _ (like_set hp) (h.setc v)
theorem At.turnS {S0 S : TS} {b : Mem} {k : Ctx} {i : Bool} {xp xs xg yp ys yg : Int} {xc yc : Bool} {a m c : T} (hl : S0.like S) (h : At S (mkT i xp xs xg xc a (mkT i yp ys yg yc m c)) k) {f : Mem → Tr} {Q : Leaf → Prop}
    (hk : ∀ S', S.like S' → At S' (mkT i yp ys yg yc (mkT i xp xs xg xc a m) c) k → (f (S'.mem b)).sat Q) :
    (Tr.req (turnOK (S.mem b) S0.p xp (bi i)) (.letm (turnM (S.mem b) S0.p xp (bi i)) f)).sat Q := by
  obtain ⟨t1, S4, t2, tl, t7⟩ := At.turn (b := b) h
  rw [← like_p hl, sat_req, sat_letm, t2]
  exact ⟨t1, hk S4 tl t7⟩
theorem At.far {S : TS} {i : Bool} {p s g : Int} {c : Bool} {x y : T} {k : Ctx} (h : At S (mkT i p s g c x y) k) : At S y (Fr.mk (!i) p s g c x :: k) := by
  rw [mk_flip i p] at h
  exact At.into (f := Fr.mk (!i) p s g c x) h
theorem At.near {S : TS} {i : Bool} {p s g : Int} {c : Bool} {x y : T} {k : Ctx} (h : At S (mkT i p s g c x y) k) : At S x (Fr.mk i p s g c y :: k) := At.into (f := Fr.mk i p s g c y) h
theorem At.back {S : TS} {i : Bool} {p s g : Int} {c : Bool} {x y : T} {k : Ctx} (h : At S y (Fr.mk (!i) p s g c x :: k)) : At S (mkT i p s g c x y) k := by
  rw [mk_flip i p]; exact h.out
theorem form_of (i : Bool) {t : T} (h : t ≠ .nil) : ∃ p s g c x y, t = mkT i p s g c x y := by
  cases t with
  | nil => exact absurd rfl h
  | nd p s g c l r =>
    obtain ⟨x, y, e⟩ := mk_of i p s g c l r
    exact ⟨p, s, g, c, x, y, e⟩
theorem red_mk' {i : Bool} {p s g : Int} {c : Bool} {x y : T} : red (mkT i p s g c x y) = c := red_mk _ _ _ _ _ _ _
theorem red_nn {t : T} (h : red t = true) : t ≠ .nil := by rintro rfl; cases h
theorem RB_nn {t : T} {n : Nat} (h : RB t (n + 1)) : t ≠ .nil := by rintro rfl; cases h

theorem fillsE_walk {S0 S : TS} {b : Mem} {i : Bool} {p ps pg : Int} {pc : Bool} {t : T} {k : Ctx} {n : Nat} {B bs bg : Int} {near far : T} {L : List (Int × Int × Int)} (hl : S0.like S)
    (h : At S (mkT i p ps pg pc t (mkT i B bs bg false near far)) k) (h1 : RB t n) (h2 : red far = true) (h3 : RBC (Fr.mk i p ps pg pc (mkT i B bs bg false near far) :: k) (n + 1))
    (hL : nodes (plug (mkT i p ps pg pc t (mkT i B bs bg false near far)) k) = L) {Q : Leaf → Prop} (hQ : ∀ S', Settled S0 L S' → Q (.up (.memo (.tup []) (S'.mem b)))) :
    (T_fillsE (S.mem b) S0.p p (bi i) B).sat Q := by
  unfold T_fillsE
  have hp := h.get
  have hs := h.far
  have hB := hs.get
  have hfar : gP (S.mem b) B (bOff (!i)) = far.ptr := (gP_ch h.ok hB (!i)).trans (node_ch' _ _ _ _)
  obtain ⟨F, fs, fg, fc, f1, f2, hF⟩ := form_of i (red_nn h2)
  have hfc : fc = true := by rw [hF, red_mk] at h2; exact h2
  subst hfc
  rw [sub_bi, aOff_bi, hfar, hF, ptr_mk, brT (nz_n h.ok hp), brT (nz_n h.ok hp), brT (okL_6 h.ok hp), gB_c h.ok hp, node_c]
  refine At.col hs pc fun S2 l2 a2 => ?_
  refine At.col a2.out false fun S3 l3 a3 => ?_
  have a4 := (At.into a3 : At S3 (mkT i B bs bg pc near far) (Fr.mk (!i) p ps pg false t :: k)).far
  rw [hF] at a4
  refine At.col a4 false fun S4 l4 a5 => ?_
  have hl4 := ((hl.trans l2).trans l3).trans l4
  refine At.turnS hl4 a5.back.back fun S5 l5 a6 => hQ S5 ?_
  have hx : RB near n ∧ RB f1 n ∧ RB f2 n ∧ ∃ m, RB (plug (mkT i B bs bg pc (mkT i p ps pg false t near) (mkT i F fs fg false f1 f2)) k) m ∧ red (plug (mkT i B bs bg pc (mkT i p ps pg false t near) (mkT i F fs fg false f1 f2)) k) = false := by
    cases pc with
    | true =>
      rw [RBC_red rfl] at h3
      obtain ⟨e1, e2, e3, e4⟩ := h3
      obtain ⟨g1, g2⟩ := RB_blk.1 e1
      rw [hF] at g2
      obtain ⟨g3, g4, g5, g6⟩ := RB_red.1 g2
      exact ⟨g1, g3, g4, plug_RB (n := n + 1) (RB_red.2 ⟨RB_blk.2 ⟨h1, g1⟩, RB_blk.2 ⟨g3, g4⟩, red_mk', red_mk'⟩) (fun _ => e3) e4⟩
    | false =>
      rw [RBC_blk rfl] at h3
      obtain ⟨e1, e4⟩ := h3
      obtain ⟨g1, g2⟩ := RB_blk.1 e1
      rw [hF] at g2
      obtain ⟨g3, g4, g5, g6⟩ := RB_red.1 g2
      exact ⟨g1, g3, g4, plug_RB (n := n + 2) (RB_blk.2 ⟨RB_blk.2 ⟨h1, g1⟩, RB_blk.2 ⟨g3, g4⟩⟩) (fun hh => by rw [red_mk] at hh; cases hh) e4⟩
  obtain ⟨_, _, _, m, g1, g2⟩ := hx
  refine settle_fin (hl4.trans l5) a6.outs ?_ g1 g2
  rw [← hL]
  refine nodes_plug_congr k ?_
  rw [nodes_turn i p ps pg B bs bg pc false false pc t near _]
  exact nodes_mk _ _ _ _ _ _ rfl (nodes_mk _ _ _ _ _ _ rfl (by rw [hF]; exact nodes_c _ _ _ _ _ _ _ _))

theorem fillsR_walk {S0 S : TS} {b : Mem} {i : Bool} {p ps pg : Int} {pc : Bool} {t : T} {k : Ctx} {n : Nat} {B bs bg : Int} {near far : T} {L : List (Int × Int × Int)} (hl : S0.like S)
    (h : At S (mkT i p ps pg pc t (mkT i B bs bg false near far)) k) (h1 : RB t n) (ht : red t = false) (h3 : RBC (Fr.mk i p ps pg pc (mkT i B bs bg false near far) :: k) (n + 1))
    (hL : nodes (plug (mkT i p ps pg pc t (mkT i B bs bg false near far)) k) = L) {Q : Leaf → Prop} (hQ : ∀ S', Settled S0 L S' → Q (.up (.memo (.tup []) (S'.mem b))))
    (hA : pc = false → ∀ S' t', S0.like S' → At S' t' k → RB t' (n + 1) → red t' = false → RBC k (n + 2) → nodes (plug t' k) = L → ∀ z, (∀ f k', k = f :: k' → z = bi f.i) → Q (.again ⟨[topP k, z], [], [], S'.mem b⟩)) :
    (T_fillsR (S.mem b) S0.p p (bi i) B).sat Q := by
  unfold T_fillsR
  have hp := h.get
  have hs := h.far
  have hB := hs.get
  have hfar : gP (S.mem b) B (bOff (!i)) = far.ptr := (gP_ch h.ok hB (!i)).trans (node_ch' _ _ _ _)
  have hnear : gP (S.mem b) B (bOff i) = near.ptr := (gP_ch h.ok hB i).trans (node_ch _ _ _ _)
  obtain ⟨_, rn, rf⟩ := Rep.mk.1 hs.rep
  obtain ⟨q1, q2⟩ := red_at (b := b) h.ok rf
  obtain ⟨q3, q4⟩ := red_at (b := b) h.ok rn
  rw [sub_bi, aOff_bi, aOff_bi, hfar, hnear, inR_bi, inR_bi, brT (nz_n h.ok hB), brT (nz_n h.ok hB), brT (nz_n h.ok hB), brT rfl, brT (okL_ch h.ok hB _), brT (nz_n h.ok hB), brT (nz_n h.ok hB), brT (nz_n h.ok hB), brT rfl, brT (okL_ch h.ok hB _), sat_req]
  refine ⟨q1, ?_⟩
  cases hfr : red far with
  | true =>
    rw [brT (q2.trans hfr)]
    exact fillsE_walk hl h h1 hfr h3 hL hQ
  | false =>
    rw [brF (q2.trans hfr), sat_req]
    refine ⟨q3, ?_⟩
    have hx : RB near n ∧ RB far n := by
      cases pc with
      | true => rw [RBC_red rfl] at h3; exact RB_blk.1 h3.1
      | false => rw [RBC_blk rfl] at h3; exact RB_blk.1 h3.1
    cases hnr : red near with
    | true =>
      rw [brT (q4.trans hnr)]
      obtain ⟨Y, ys, yg, yc, y1, y2, hY⟩ := form_of i (red_nn hnr)
      have hyc : yc = true := by rw [hY, red_mk] at hnr; exact hnr
      subst hyc
      obtain ⟨g3, g4, g5, g6⟩ := RB_red.1 (hY ▸ hx.1)
      have a1 := hs.near
      rw [hY] at a1 ⊢
      rw [ptr_mk]
      refine At.col a1 false fun S2 l2 a2 => ?_
      refine At.col a2.out true fun S3 l3 a3 => ?_
      have a3' := a3
      simp only at a3'
      rw [mk_flip i B, mk_flip i Y] at a3'
      refine At.turnS ((hl.trans l2).trans l3) a3' fun S4 l4 a4 => ?_
      rw [mk_flip (!i) Y, mk_flip (!i) B] at a4
      simp only [Bool.not_not] at a4
      have a5 := a4.back
      have hp5 := a5.get
      have hY5 := a4.get
      have hk5 : gP (S4.mem b) p (bOff (!i)) = Y := (gP_ch a5.ok hp5 (!i)).trans ((node_ch' _ _ _ _).trans (ptr_mk _ _ _ _ _ _ _))
      rw [hk5, brT (nz_n a5.ok hp5), brT (nz_n a5.ok hp5), brT (nz_n a5.ok hp5), brT rfl, brT (okL_ch a5.ok hp5 _), brT (nz_n a5.ok hY5), brT (nz_n a5.ok hY5), brT (nz_n a5.ok hY5), brT rfl, brT (okL_ch a5.ok hY5 _)]
      have hR : RB (mkT i Y ys yg false y1 (mkT i B bs bg true y2 far)) (n + 1) := RB_blk.2 ⟨g3, RB_red.2 ⟨g4, hx.2, g6, hfr⟩⟩
      refine fillsE_walk (((hl.trans l2).trans l3).trans l4) a5 h1 red_mk' ?_ ?_ hQ
      · cases pc with
        | true =>
          rw [RBC_red rfl] at h3 ⊢
          exact ⟨hR, red_mk', h3.2.2.1, h3.2.2.2⟩
        | false =>
          rw [RBC_blk rfl] at h3 ⊢
          exact ⟨hR, h3.2⟩
      · rw [← hL]
        refine nodes_plug_congr k (nodes_mk _ _ _ _ _ _ rfl ?_)
        rw [hY]
        rw [← nodes_turn i Y ys yg B bs bg false true true false y1 y2 far]
    | false =>
      rw [brF (q4.trans hnr)]
      refine At.col hs true fun S2 l2 a2 => ?_
      have a3 := a2.back
      have hp3 := a3.get
      rw [brT (nz_n a3.ok hp3), brT (nz_n a3.ok hp3), brT (okL_6 a3.ok hp3), gB_c a3.ok hp3, node_c]
      have hR : RB (mkT i B bs bg true near far) n := RB_red.2 ⟨hx.1, hx.2, hnr, hfr⟩
      have hN : ∀ c, nodes (plug (mkT i p ps pg c t (mkT i B bs bg true near far)) k) = L := fun c => by
        rw [← hL]
        exact nodes_plug_congr k (nodes_mk _ _ _ _ _ _ rfl (nodes_c _ _ _ _ _ _ _ _))
      cases pc with
      | true =>
        rw [brT rfl]
        refine At.col a3 false fun S3 l3 a4 => ?_
        refine hQ S3 ?_
        rw [RBC_red rfl] at h3
        obtain ⟨m, g1, g2⟩ := plug_RB (k := k) (n := n + 1) (RB_blk.2 ⟨h1, hR⟩ : RB (mkT i p ps pg false t (mkT i B bs bg true near far)) (n + 1)) (fun hh => by rw [red_mk] at hh; cases hh) h3.2.2.2
        exact settle_fin ((hl.trans l2).trans l3) a4.outs (hN false) g1 g2
      | false =>
        rw [brF rfl, sat_req]
        have hu : gP (S2.mem b) p 4 = topP k := (gP_u a3.ok hp3).trans (node_u _ _ _ _)
        rw [RBC_blk rfl] at h3
        have hw : whichOK (S2.mem b) p ∧ ∀ f k', k = f :: k' → whichV (S2.mem b) p = bi f.i := by
          cases k with
          | nil => exact ⟨(which_top (b := b) a3.ok hp3 (node_u _ _ _ _)).1, fun f k' e => by cases e⟩
          | cons f k =>
            obtain ⟨w1, w2⟩ := At.which (b := b) a3
            exact ⟨w1, fun f' k' e => by cases e; exact w2⟩
        refine ⟨hw.1, ?_⟩
        rw [brT (nz_n a3.ok hp3), brT (nz_n a3.ok hp3), brT (okL_4 a3.ok hp3), sat_req, hu]
        refine ⟨by simp, ?_⟩
        exact hA rfl S2 _ (hl.trans l2) a3 (RB_blk.2 ⟨h1, hR⟩) red_mk' h3.2 (hN false) _ hw.2

theorem fills_walk {S : TS} {b : Mem} {t : T} {k : Ctx} {n : Nat} {z : Int} (h : At S t k) (h1 : RB t n) (ht : red t = false) (h3 : RBC k (n + 1)) (hz : ∀ f k', k = f :: k' → z = bi f.i) :
    (T_fills (S.mem b) S.p (topP k) z).sat (isMemo fun v m => v = .tup [] ∧ ∃ S', m = S'.mem b ∧ Settled S (nodes (plug t k)) S') := by
  generalize hL : nodes (plug t k) = L
  unfold T_fills
  let J : Nat → Vars → Prop := fun N y => ∃ (t : T) (k : Ctx) (n : Nat) (z : Int) (S1 : TS), N = k.length ∧ y = ⟨[topP k, z], [], [], S1.mem b⟩ ∧ S.like S1 ∧ At S1 t k ∧ RB t n ∧ red t = false ∧ RBC k (n + 1) ∧ (∀ f k', k = f :: k' → z = bi f.i) ∧ nodes (plug t k) = L
  refine lp_idx J (n0 := k.length) ⟨t, k, n, z, S, rfl, rfl, TS.like.refl S, h, h1, ht, h3, hz, hL⟩ ?_
  clear h h1 ht h3 hz hL
  rintro N y j ⟨t, k, n, z, S1, rfl, rfl, hl, h, h1, ht, h3, hz, hL⟩
  have hQ : ∀ S', Settled S L S' → inLoopJ J k.length (isMemo fun v m => v = .tup [] ∧ ∃ S', m = S'.mem b ∧ Settled S L S') (.up (.memo (.tup []) (S'.mem b))) := fun S' hs => ⟨rfl, S', rfl, hs⟩
  simp only [hdI, tlI]
  rw [brT (cmp_zero _ _)]
  cases k with
  | nil =>
    rw [brF (by rfl)]
    exact hQ S1 (settle_fin hl h hL h1 ht)
  | cons f k =>
    obtain ⟨i, p, ps, pg, pc, o⟩ := f
    have hzi : z = bi i := hz _ _ rfl
    subst hzi
    have hp := h.getf
    have htop : topP (Fr.mk i p ps pg pc o :: k) = p := rfl
    have hpz : peq p 0 = false := by
      rw [peq_zero (Int.le_of_lt (h.ok.nd p _ hp).1)]
      simp [p_ne0 h.ok hp]
    have h0 : At S1 (mkT i p ps pg pc t o) k := h.out
    have hRo : RB o (n + 1) := h3.1
    obtain ⟨B, bs, bg, bc, near, far, hB⟩ := form_of i (RB_nn hRo)
    subst hB
    have hp0 := h0.get
    have hB := h0.far.get
    have hb : gP (S1.mem b) p (bOff (!i)) = B := (gP_ch h0.ok hp0 (!i)).trans ((node_ch' _ _ _ _).trans (ptr_mk _ _ _ _ _ _ _))
    rw [htop, brT (by rw [hpz]; rfl), sub_bi, aOff_bi, hb, brT (nz_n h0.ok hp0), brT (nz_n h0.ok hp0), brT (nz_n h0.ok hp0), brT (inR_bi _), brT (okL_ch h0.ok hp0 _), brT (nz_n h0.ok hB), brT (nz_n h0.ok hB), brT (okL_6 h0.ok hB), gB_c h0.ok hB, node_c]
    have hA : ∀ S' t', S.like S' → At S' t' k → RB t' (n + 1) → red t' = false → RBC k (n + 2) → nodes (plug t' k) = L → ∀ z, (∀ f k', k = f :: k' → z = bi f.i) → inLoopJ J (k.length + 1) (isMemo fun v m => v = .tup [] ∧ ∃ S', m = S'.mem b ∧ Settled S L S') (.again ⟨[topP k, z], [], [], S'.mem b⟩) :=
      fun S' t' g1 g2 g3 g4 g5 g6 z g7 => ⟨k.length, Nat.lt_succ_self _, t', k, n + 1, z, S', rfl, rfl, g1, g2, g3, g4, g5, g7, g6⟩
    cases bc with
    | false =>
      rw [brF rfl]
      exact fillsR_walk hl h0 h1 ht h3 hL hQ (fun _ => hA)
    | true =>
      rw [brT rfl]
      have hpc : pc = false := by
        cases pc with
        | false => rfl
        | true => rw [RBC_red rfl] at h3; have := h3.2.1; rw [red_mk] at this; cases this
      subst hpc
      rw [RBC_blk rfl] at h3
      obtain ⟨g3, g4, g5, g6⟩ := RB_red.1 hRo
      refine At.col h0.far false fun S2 l2 a2 => ?_
      refine At.col a2.back true fun S3 l3 a3 => ?_
      refine At.turnS ((hl.trans l2).trans l3) a3 fun S4 l4 a4 => ?_
      obtain ⟨N, ns, ng, nc, n1, n2, hN⟩ := form_of i (RB_nn g3)
      have hnc : nc = false := by rw [hN, red_mk] at g5; exact g5
      subst hnc
      subst hN
      have a5 := a4.near
      have hp5 := a5.get
      have hk5 : gP (S4.mem b) p (bOff (!i)) = N := (gP_ch a5.ok hp5 (!i)).trans ((node_ch' _ _ _ _).trans (ptr_mk _ _ _ _ _ _ _))
      rw [hk5, brT (nz_n a5.ok hp5), brT (nz_n a5.ok hp5), brT (nz_n a5.ok hp5), brT (inR_bi _), brT (okL_ch a5.ok hp5 _)]
      refine fillsR_walk (((hl.trans l2).trans l3).trans l4) a5 h1 ht ?_ ?_ hQ (fun e => by cases e)
      · rw [RBC_red rfl, RBC_blk rfl]
        exact ⟨g3, red_mk', rfl, g4, h3.2⟩
      · rw [← hL]
        refine nodes_plug_congr k ?_
        rw [Fr.mk', Fr.mk', nodes_turn i p ps pg B bs bg true true true false t _ far]
        exact (nodes_mk _ _ _ _ _ _ rfl rfl)

structure FillG where
  S : TS
  b : Mem
  t : T
  k : Ctx
  n : Nat
def FillG.pre (G : FillG) (m : Mem) (t p s : Int) : Prop :=
  m = G.S.mem G.b ∧ t = G.S.p ∧ p = topP G.k ∧ At G.S G.t G.k ∧ RB G.t G.n ∧ red G.t = false ∧ RBC G.k (G.n + 1) ∧ (∀ f k', G.k = f :: k' → s = bi f.i)
def FillG.post (G : FillG) (y : Vars) : Prop := ∃ S', y.m = S'.mem G.b ∧ Settled G.S (nodes (plug G.t G.k)) S'
def fillsP (m : Mem) (t p s : Int) : Prop := ∃ G : FillG, G.pre m t p s
def fillsQ (m : Mem) (t p s : Int) (y : Vars) : Prop := ∀ G : FillG, G.pre m t p s → G.post y
def s_fills : Sum := memSum 53 fun m a => match a with | [a0, a1, a2] => (match ptrOf a0, ptrOf a1, intOf a2 with | some t, some p, some s => some ⟨fillsP m t p s, fillsQ m t p s, fun y => .tup []⟩ | _, _, _ => none) | _ => none
theorem t_fills (m : Mem) (t : Int) (p : Int) (s : Int) : runm Try.prog [s_turn, s_which, s_red] (drawl Try.prog [s_turn, s_which, s_red] (fun _ _ => some ⟨[1, 2], [], [0], []⟩)) 300 53 [.u (.c (.np t 0)), .u (.c (.np p 0)), .u (.c (.si .i64 s))] m [98] = T_fills m t p s := by kernel_rfl
theorem s_fills_ok : SumOK Try.prog s_fills := by
  refine memSum_ok ⟨_, Try.func53, by kernel_rfl⟩ fun m args ms h hp hw ρ w hm => ?_
  split at h
  · split at h
    · rename_i a0 a1 a2 _ _ _ t p s h0 h1 h2
      cases h
      have hS : ∀ q ∈ [s_turn, s_which, s_red], SumOK Try.prog q := okc s_turn_ok (okc s_which_ok (okc s_red_ok okn))
      refine mm_calls nameOK hS (drawl_sound nameOK hS (by kernel_rfl) _) 300 _ m _ (t_fills m t p s) ρ ?_ w hm (by simp only [List.map_cons, List.map_nil, ptrOf_den h0, ptrOf_den h1, intOf_den h2])
      obtain ⟨G0, hG0⟩ := hp
      have key := sat_ghost (G := { G : FillG // G.pre m t p s }) ⟨⟨G0, hG0⟩⟩ (T := T_fills m t p s) (p := fun G v x' => v = .tup [] ∧ G.1.post ⟨[], [], [], x'⟩) fun ⟨G, hG⟩ => by
        obtain ⟨rfl, rfl, rfl, g1, g2, g3, g4, g5⟩ := hG
        exact fills_walk g1 g2 g3 g4 g5
      refine sat_mono (fun l hl => ?_) key
      cases l with
      | memo v x' => exact ⟨⟨[], [], [], x'⟩, fun G hG => (hl ⟨G, hG⟩).2, by rw [(hl ⟨G0, hG0⟩).1], rfl⟩
      | _ => exact hl.elim
    · cases h
  · cases h
end Go.Proofs.Ytnlohongffpkpaa.T16
