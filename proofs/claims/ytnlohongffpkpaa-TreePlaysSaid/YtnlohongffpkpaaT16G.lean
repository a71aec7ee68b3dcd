/- Layer 16: settles: no red one stands under a red one. A text of the session's own. -/
import Derived.Test.YtnlohongffpkpaaT16F
import Derived.Test.YtnlohongffpkpaaT16S
namespace Go.Proofs.Ytnlohongffpkpaa.T16
open Go Go.RowKit Go.Proofs.Ytnlohongffpkpaa.Sx
set_option linter.unusedVariables false
set_option linter.unusedSimpArgs false

theorem sat_mono : ∀ {T : Tr} {R R' : Leaf → Prop}, (∀ l, R l → R' l) → T.sat R → T.sat R'
  | .leaf l, _, _, h, hs => h l hs
  | .br b t e, _, _, h, hs => ⟨fun hb => sat_mono h (hs.1 hb), fun hb => sat_mono h (hs.2 hb)⟩
  | .no _, _, _, _, hs => hs
  | .req p t, _, _, h, hs => ⟨hs.1, sat_mono (T := t) h hs.2⟩
  | .any q f, _, _, h, hs => fun y hq => sat_mono (T := f y) h (hs y hq)
  | .letm m f, _, _, h, hs => sat_mono (T := f m) h hs
  | .lp x f, R, R', h, hs => by
    obtain ⟨I, μ, h1, h2⟩ := hs
    refine ⟨I, μ, h1, fun y j hI => sat_mono (T := f y j) (fun l hl => ?_) (h2 y j hI)⟩
    cases l <;> first | exact hl | exact h _ hl
/-- a loop's leaves, told with a number that falls -/
def inLoopJ (J : Nat → Vars → Prop) (n : Nat) (R : Leaf → Prop) : Leaf → Prop
  | .again y => ∃ n', n' < n ∧ J n' y
  | .up l => R l
  | _ => False
theorem least {p : Nat → Prop} (h : ∃ n, p n) : ∃ n, p n ∧ ∀ m, m < n → ¬ p m := by
  obtain ⟨n, hn⟩ := h
  induction n using Nat.strongRecOn with
  | _ n ih =>
    by_cases hx : ∃ m, m < n ∧ p m
    · obtain ⟨m, h1, h2⟩ := hx
      exact ih m h1 h2
    · exact ⟨n, hn, fun m hm hp => hx ⟨m, hm, hp⟩⟩
theorem lp_idx {R : Leaf → Prop} {x : Vars} {f : Vars → (Nat → Value) → Tr} (J : Nat → Vars → Prop) {n0 : Nat} (h0 : J n0 x) (h : ∀ n y j, J n y → (f y j).sat (inLoopJ J n R)) : (Tr.lp x f).sat R := by
  have hl : ∀ y, (∃ n, J n y) → ∃ n, J n y ∧ ∀ m, m < n → ¬ J m y := fun y hy => least hy
  let μ : Vars → Nat := fun y => @dite _ (∃ n, J n y) (Classical.propDecidable _) (fun hy => Classical.choose (hl y hy)) (fun _ => 0)
  have hμ : ∀ y, (∃ n, J n y) → J (μ y) y ∧ ∀ m, J m y → μ y ≤ m := by
    intro y hy
    have e : μ y = Classical.choose (hl y hy) := by simp only [μ, dif_pos hy]
    rw [e]
    obtain ⟨h1, h2⟩ := Classical.choose_spec (hl y hy)
    refine ⟨h1, fun m hm => ?_⟩
    rcases Nat.lt_or_ge m (Classical.choose (hl y hy)) with h3 | h3
    · exact absurd hm (h2 m h3)
    · exact h3
  refine ⟨fun y => ∃ n, J n y, μ, ⟨n0, h0⟩, fun y j hI => ?_⟩
  refine sat_mono (fun l hl => ?_) (h (μ y) y j (hμ y hI).1)
  cases l with
  | again y' =>
    obtain ⟨n', h1, h2⟩ := hl
    exact ⟨⟨n', h2⟩, Nat.lt_of_le_of_lt ((hμ y' ⟨n', h2⟩).2 n' h2) h1⟩
  | up l => exact hl
  | _ => exact hl.elim
theorem brT {R : Leaf → Prop} {b : Bool} {t e : Tr} (hb : b = true) : (Tr.br b t e).sat R ↔ t.sat R := by subst hb; exact sat_brT
theorem brF {R : Leaf → Prop} {b : Bool} {t e : Tr} (hb : b = false) : (Tr.br b t e).sat R ↔ e.sat R := by subst hb; exact sat_brF

theorem settle_end {S : TS} {b : Mem} {p s g : Int} {c : Bool} {l r : T} (h : At S (.nd p s g c l r) []) {Q : Leaf → Prop}
    (hQ : ∀ S', S.like S' → At S' (.nd p s g false l r) [] → Q (.up (.memo (.tup []) (S'.mem b)))) :
    (Tr.br (nzp S.p) (.br (nzp S.p) (.br (okL (S.mem b) S.p 0 [.nilp]) (.br (nzp (gP (S.mem b) S.p 0)) (.br (nzp (gP (S.mem b) S.p 0)) (.br (okS (S.mem b) (gP (S.mem b) S.p 0) 6 1) (.letm (wrL (S.mem b) (gP (S.mem b) S.p 0) 6 [(.bool false)]) (fun m1 => (.leaf (.up (.memo (.tup []) m1))))) (.no 72)) (.no 76)) (.no 75)) (.no 70)) (.no 76)) (.no 75)).sat Q := by
  have hp : S.H p = some _ := h.rep.1
  have hroot : S.root = p := h.ctx
  have e0 : gP (S.mem b) S.p 0 = p := by rw [gP_t h.ok, hroot]
  rw [brT nz_t, brT nz_t, brT okL_t, e0, brT (nz_n h.ok hp), brT (nz_n h.ok hp), brT (okS_n h.ok hp rfl), sat_letm, wr_c h.ok hp]
  have := At.setc (i := false) (x := l) (y := r) h false
  exact hQ _ (like_set hp) this

/-- the tree behind settles -/
structure Settled (S : TS) (L : List (Int × Int × Int)) (S' : TS) : Prop where
  like : S.like S'
  tree : ∃ t n, At S' t [] ∧ nodes t = L ∧ RB t n ∧ red t = false
theorem settle_fin {S S1 : TS} {L : List (Int × Int × Int)} {t : T} {n : Nat} (hl : S.like S1) (h : At S1 t []) (hL : nodes t = L) (hr : RB t n) (hd : red t = false) : Settled S L S1 := ⟨hl, t, n, h, hL, hr, hd⟩

theorem At.which {S : TS} {b : Mem} {i : Bool} {p s g : Int} {c : Bool} {x y : T} {f : Fr} {k : Ctx} (h : At S (mkT i p s g c x y) (f :: k)) : whichOK (S.mem b) p ∧ whichV (S.mem b) p = bi f.i := by
  have hp := h.get
  have hf := h.getf
  rw [ptr_mk] at hf
  have hne : f.o.ptr ≠ p := by
    intro e
    have := h.ptr_ne.2.2.2
    rw [ptr_mk] at this
    exact p_ne0 h.ok hp (this e.symm)
  have hu : ((Fr.mk i p s g c y).node x.ptr (topP (f :: k)) x.size).u = f.p := node_u _ _ _ _
  have hr : (f.node p (topP k) (mkT i p s g c x y).size).r = match f.i with | true => p | false => f.o.ptr := by
    unfold Fr.node; split <;> (rename_i e; rw [e])
  obtain ⟨w1, w2⟩ := which_spec (b := b) h.ok hp (du := f.node p (topP k) (mkT i p s g c x y).size) (by rw [hu]; exact hf) (by
    rw [hr]
    cases f.i
    · exact rep_has h.ctx.2.1
    · exact .inr ⟨_, hp⟩)
  refine ⟨w1, ?_⟩
  rw [w2, hr]
  cases f.i
  · simp [hne]
  · simp
theorem red_at {S : TS} {b : Mem} (hS : S.ok) {u : Int} {t : T} (h : Rep S.H u t) : redOK (S.mem b) t.ptr ∧ redV (S.mem b) t.ptr = red t := by
  obtain ⟨r1, r2⟩ := red_spec (b := b) hS (rep_has h)
  refine ⟨r1, ?_⟩
  rw [r2]
  cases t with
  | nil => rw [show T.nil.ptr = 0 from rfl, H_zero hS]; rfl
  | nd p s g c l r => rw [show (T.nd p s g c l r).ptr = p from rfl, h.1]; rfl
theorem red_form {t : T} (h : red t = true) : ∃ p s g l r, t = mkT false p s g true l r := by
  cases t with
  | nil => cases h
  | nd p s g c l r => cases h; exact ⟨p, s, g, l, r, rfl⟩
/-- the other side at the focus -/
theorem At.side {S : TS} {t : T} {f : Fr} {k : Ctx} (h : At S t (f :: k)) : At S f.o (Fr.mk (!f.i) f.p f.s f.g f.c t :: k) := by
  have h1 := h.out
  rw [Fr.mk', mk_flip] at h1
  exact At.into (f := Fr.mk (!f.i) f.p f.s f.g f.c t) h1

theorem settles_walk {S : TS} {b : Mem} {i : Bool} {x s g : Int} {l r : T} {k : Ctx} {n : Nat} (h : At S (mkT i x s g true l r) k) (h1 : RB l n) (h2 : RB r n) (h3 : red l = false) (h4 : red r = false) (h5 : RBC k n) :
    (T_settles (S.mem b) S.p x).sat (isMemo fun v m => v = .tup [] ∧ ∃ S', m = S'.mem b ∧ Settled S (nodes (plug (mkT i x s g true l r) k)) S') := by
  generalize hL : nodes (plug (mkT i x s g true l r) k) = L
  unfold T_settles
  let J : Nat → Vars → Prop := fun N y => ∃ (i : Bool) (x s g : Int) (l r : T) (k : Ctx) (n : Nat) (S1 : TS), N = k.length ∧ y.i = [x] ∧ y.m = S1.mem b ∧ S.like S1 ∧ At S1 (mkT i x s g true l r) k ∧ RB l n ∧ RB r n ∧ red l = false ∧ red r = false ∧ RBC k n ∧ nodes (plug (mkT i x s g true l r) k) = L
  refine lp_idx J (n0 := k.length) ⟨i, x, s, g, l, r, k, n, S, rfl, rfl, rfl, TS.like.refl S, h, h1, h2, h3, h4, h5, hL⟩ ?_
  clear h h1 h2 h3 h4 h5 hL
  rintro N ⟨yi, yb, yv, ym⟩ j ⟨i, x, s, g, l, r, k, n, S1, rfl, hyi, hym, hlike, h, h1, h2, h3, h4, h5, hL⟩
  simp only at hyi hym
  subst hyi hym
  have hp1 : S1.p = S.p := like_p hlike
  simp only [hdI]
  have hx := h.get
  have hu : gP (S1.mem b) x 4 = topP k := (gP_u h.ok hx).trans (node_u _ _ _ _)
  rw [brT (nz_n h.ok hx), brT (nz_n h.ok hx), brT (okL_4 h.ok hx), hu]
  -- the end, for a tree whose root may be red
  have fin : ∀ (N : Nat) (S2 : TS) (t : T) (n : Nat), S.like S2 → At S2 t [] → nodes t = L → t ≠ .nil → RB t n →
      (Tr.br (nzp S.p) (.br (nzp S.p) (.br (okL (S2.mem b) S.p 0 [.nilp]) (.br (nzp (gP (S2.mem b) S.p 0)) (.br (nzp (gP (S2.mem b) S.p 0)) (.br (okS (S2.mem b) (gP (S2.mem b) S.p 0) 6 1) (.letm (wrL (S2.mem b) (gP (S2.mem b) S.p 0) 6 [(.bool false)]) (fun m1 => (.leaf (.up (.memo (.tup []) m1))))) (.no 72)) (.no 76)) (.no 75)) (.no 70)) (.no 76)) (.no 75)).sat
        (inLoopJ J N (isMemo fun v m => v = .tup [] ∧ ∃ S', m = S'.mem b ∧ Settled S L S')) := by
    intro N S2 t n hl2 ht hn hne hrb
    cases t with
    | nil => exact absurd rfl hne
    | nd p s g c l r =>
      rw [← like_p hl2]
      refine settle_end ht fun S' hl' ht' => ⟨rfl, S', rfl, ?_⟩
      refine ⟨hl2.trans hl', .nd p s g false l r, (match c with | true => n + 1 | false => n), ht', hn, ?_, rfl⟩
      cases c with
      | true => exact ⟨n, rfl, hrb.1, hrb.2.1⟩
      | false => exact hrb
  cases k with
  | nil =>
    obtain ⟨r1, r2⟩ := red_spec (b := b) h.ok (.inl rfl : S1.has (topP []))
    rw [show topP [] = 0 from rfl, H_zero h.ok] at r2
    rw [sat_req]
    refine ⟨r1, ?_⟩
    rw [brF (show redV (S1.mem b) (topP []) = false from r2)]
    exact fin _ S1 _ n hlike h hL (fun e => by cases i <;> cases e) (RB_red.2 ⟨h1, h2, h3, h4⟩)
  | cons f k =>
    have hf := h.getf
    obtain ⟨r1, r2⟩ := red_spec (b := b) h.ok (.inr ⟨_, hf⟩ : S1.has f.p)
    rw [hf] at r2
    simp only [node_c] at r2
    have htop : topP (f :: k) = f.p := rfl
    rw [sat_req, htop]
    refine ⟨r1, ?_⟩
    cases hfc : f.c with
    | false =>
      rw [hfc] at r2
      rw [brF r2]
      rw [RBC_blk hfc] at h5
      obtain ⟨m, g1, g2⟩ := plug_RB (k := k) (t := f.mk' (mkT i x s g true l r)) (n := n + 1) (by rw [Fr.mk', hfc]; exact RB_blk.2 ⟨RB_red.2 ⟨h1, h2, h3, h4⟩, h5.1⟩) (fun hh => by rw [Fr.mk', red_mk, hfc] at hh; cases hh) h5.2
      refine fin _ S1 (plug (mkT i x s g true l r) (f :: k)) m hlike h.outs hL ?_ g1
      intro e
      have := size_plug (f :: k) (mkT i x s g true l r)
      rw [e, size_mk] at this
      simp only [T.size] at this
      omega
    | true =>
      rw [hfc] at r2
      rw [brT r2]
      rw [RBC_red hfc] at h5
      obtain ⟨h5a, h5b, h5c, h5d⟩ := h5
      cases k with
      | nil => simp [mayR] at h5c
      | cons f2 k =>
      have h5c : f2.c = false := by simpa [mayR] using h5c
      rw [RBC_blk h5c] at h5d
      obtain ⟨h6, h7⟩ := h5d
      have ho := h.out
      have hg := ho.getf
      have hfu : gP (S1.mem b) f.p 4 = f2.p := (gP_u h.ok hf).trans (node_u _ _ _ _)
      rw [Fr.mk'] at ho
      obtain ⟨w1, w2⟩ := At.which (b := b) ho
      obtain ⟨wx1, wx2⟩ := At.which (b := b) h
      have hgo : gP (S1.mem b) f2.p (bOff (!f2.i)) = f2.o.ptr := (gP_ch h.ok hg (!f2.i)).trans (node_ch' _ _ _ _)
      have hrep2 : Rep S1.H f2.p f2.o := ho.ctx.2.1
      obtain ⟨q1, q2⟩ := red_at (b := b) h.ok hrep2
      rw [brT (nz_n h.ok hx), brT (nz_n h.ok hx), brT (okL_4 h.ok hx), brT (nz_n h.ok hf), brT (nz_n h.ok hf), brT (okL_4 h.ok hf), hfu, sat_req]
      refine ⟨w1, ?_⟩
      rw [w2, sub_bi, aOff_bi, brT (nz_n h.ok hg), brT (nz_n h.ok hg), brT (nz_n h.ok hg), brT (inR_bi _), brT (okL_ch h.ok hg _), hgo, sat_req]
      refine ⟨q1, ?_⟩
      cases hro : red f2.o with
      | true =>
        rw [brT (q2.trans hro)]
        obtain ⟨u, us, ug, ul, ur, hU⟩ := red_form hro
        -- the one above: black
        have a2 := At.setc ho false
        rw [brT (nz_n h.ok hf), brT (nz_n h.ok hf), brT (okS_n h.ok hf rfl), sat_letm, wr_c h.ok hf]
        have e2 : S1.set f.p { f.node (mkT i x s g true l r).ptr (topP (f2 :: k)) (mkT i x s g true l r).size with c := false } = S1.set f.p { (Fr.mk f.i f.p f.s f.g f.c f.o).node (mkT i x s g true l r).ptr (topP (f2 :: k)) (mkT i x s g true l r).size with c := false } := rfl
        rw [e2]
        generalize hS2 : S1.set f.p { (Fr.mk f.i f.p f.s f.g f.c f.o).node (mkT i x s g true l r).ptr (topP (f2 :: k)) (mkT i x s g true l r).size with c := false } = S2 at a2
        have l2 : S1.like S2 := by rw [← hS2]; exact like_set hf
        -- the uncle: black
        have b2 := a2.side
        rw [hU] at b2
        have hu2 := b2.get
        have b3 := At.setc b2 false
        have hup : f2.o.ptr = u := by rw [hU]; rfl
        rw [hup, brT (nz_n a2.ok hu2), brT (nz_n a2.ok hu2), brT (okS_n a2.ok hu2 rfl), sat_letm, wr_c a2.ok hu2]
        generalize hS3 : S2.set u _ = S3 at b3
        have l3 : S2.like S3 := by rw [← hS3]; exact like_set hu2
        -- the grandparent: red
        have c3 := b3.out
        have hg3 := b3.getf
        rw [Fr.mk', mk_flip] at c3
        simp only [Bool.not_not] at c3
        have c4 := At.setc c3 true
        have hg3' := c3.get
        rw [brT (nz_n b3.ok hg3'), brT (nz_n b3.ok hg3'), brT (okS_n b3.ok hg3' rfl), sat_letm, wr_c b3.ok hg3']
        generalize hS4 : S3.set f2.p _ = S4 at c4
        have l4 : S3.like S4 := by rw [← hS4]; exact like_set hg3'
        rw [sat_req]
        refine ⟨by simp, k.length, by simp only [List.length_cons]; omega, f2.i, f2.p, f2.s, f2.g, _, _, k, n + 1, S4, rfl, rfl, rfl, ((hlike.trans l2).trans l3).trans l4, c4, ?_, ?_, ?_, rfl, h7, ?_⟩
        · exact RB_blk.2 ⟨RB_red.2 ⟨h1, h2, h3, h4⟩, h5a⟩
        · rw [hU] at h6
          exact RB_blk.2 ⟨(RB_red.1 h6).1, (RB_red.1 h6).2.1⟩
        · exact red_mk _ _ _ _ _ _ _
        · rw [← hL]
          refine nodes_plug_congr k ?_
          rw [Fr.mk', Fr.mk']
          refine nodes_mk _ _ _ _ _ _ (nodes_mk _ _ _ _ _ _ rfl rfl) ?_
          rw [hU]; rfl
      | false =>
        rw [brF (q2.trans hro), sat_req]
        refine ⟨wx1, ?_⟩
        rw [wx2]
        by_cases hff : f.i = f2.i
        · have hne : iNe (bi f.i) (bi f2.i) = false := by rw [hff]; simp [iNe]
          rw [brF hne]
          have a2 := At.setc ho false
          rw [brT (nz_n h.ok hf), brT (nz_n h.ok hf), brT (okS_n h.ok hf rfl), sat_letm, wr_c h.ok hf]
          have e2 : S1.set f.p { f.node (mkT i x s g true l r).ptr (topP (f2 :: k)) (mkT i x s g true l r).size with c := false } = S1.set f.p { (Fr.mk f.i f.p f.s f.g f.c f.o).node (mkT i x s g true l r).ptr (topP (f2 :: k)) (mkT i x s g true l r).size with c := false } := rfl
          rw [e2]
          generalize hS2 : S1.set f.p { (Fr.mk f.i f.p f.s f.g f.c f.o).node (mkT i x s g true l r).ptr (topP (f2 :: k)) (mkT i x s g true l r).size with c := false } = S2 at a2
          have l2 : S1.like S2 := by rw [← hS2]; exact like_set hf
          have c2 := a2.out
          rw [Fr.mk'] at c2
          have hg2 := c2.get
          have c3 := At.setc c2 true
          rw [brT (nz_n a2.ok hg2), brT (nz_n a2.ok hg2), brT (okS_n a2.ok hg2 rfl), sat_letm, wr_c a2.ok hg2]
          generalize hS3 : S2.set f2.p _ = S3 at c3
          have l3 : S2.like S3 := by rw [← hS3]; exact like_set hg2
          have hl3 := (hlike.trans l2).trans l3
          rw [mk_flip f2.i, hff, mk_flip f2.i f.p] at c3
          obtain ⟨t1, S4, t2, tl, t7⟩ := At.turn (b := b) c3
          rw [like_p hl3] at t1 t2
          rw [sat_req]
          refine ⟨t1, ?_⟩
          rw [sat_letm, t2]
          obtain ⟨m, g1, g2⟩ := plug_RB (k := k) (n := n + 1) (RB_blk.2 ⟨RB_red.2 ⟨h6, h5a, hro, h5b⟩, RB_red.2 ⟨h1, h2, h3, h4⟩⟩ : RB (mkT (!f2.i) f.p f.s f.g false (mkT (!f2.i) f2.p f2.s f2.g true f2.o f.o) (mkT i x s g true l r)) (n + 1)) (fun hh => by rw [red_mk] at hh; cases hh) h7
          refine fin _ S4 _ m (hl3.trans tl) t7.outs ?_ ?_ g1
          · rw [← hL]
            refine nodes_plug_congr k ?_
            rw [Fr.mk', Fr.mk', nodes_turn (!f2.i) f2.p f2.s f2.g f.p f.s f.g f2.c f.c, ← mk_flip, hff, ← mk_flip]
          · intro e
            have := size_plug k (mkT (!f2.i) f.p f.s f.g false (mkT (!f2.i) f2.p f2.s f2.g true f2.o f.o) (mkT i x s g true l r))
            rw [e, size_mk] at this
            simp only [T.size] at this
            omega
        · have hfi : f.i = !f2.i := by cases h8 : f.i <;> cases h9 : f2.i <;> simp_all
          have hne : iNe (bi f.i) (bi f2.i) = true := by rw [hfi]; cases f2.i <;> rfl
          rw [brT hne, sat_req]
          obtain ⟨m, c, hX, x1, x2, x3, x4⟩ : ∃ m c, mkT i x s g true l r = mkT f2.i x s g true m c ∧ RB m n ∧ RB c n ∧ red m = false ∧ red c = false := by
            by_cases e : i = f2.i
            · subst e; exact ⟨l, r, rfl, h1, h2, h3, h4⟩
            · have e : f2.i = !i := by cases h8 : f2.i <;> cases h9 : i <;> simp_all
              exact ⟨r, l, by rw [e]; exact mk_flip _ _ _ _ _ _ _, h2, h1, h4, h3⟩
          rw [hX, hfi, mk_flip (!f2.i)] at ho
          simp only [Bool.not_not] at ho
          obtain ⟨t1, S2, t2, tl, a2⟩ := At.turn (b := b) ho
          rw [hp1] at t1 t2
          refine ⟨t1, ?_⟩
          rw [sat_letm, t2]
          have hx2 := a2.get
          have a3 := At.setc a2 false
          rw [brT (nz_n a2.ok hx2), brT (nz_n a2.ok hx2), brT (okS_n a2.ok hx2 rfl), sat_letm, wr_c a2.ok hx2]
          generalize hS3 : S2.set x _ = S3 at a3
          have l3 : S2.like S3 := by rw [← hS3]; exact like_set hx2
          have c3 := a3.out
          rw [Fr.mk'] at c3
          have hg3 := c3.get
          have c4 := At.setc c3 true
          rw [brT (nz_n a3.ok hg3), brT (nz_n a3.ok hg3), brT (okS_n a3.ok hg3 rfl), sat_letm, wr_c a3.ok hg3]
          generalize hS4 : S3.set f2.p _ = S4 at c4
          have l4 : S3.like S4 := by rw [← hS4]; exact like_set hg3
          have hl4 := ((hlike.trans tl).trans l3).trans l4
          rw [mk_flip f2.i f2.p, mk_flip f2.i x] at c4
          obtain ⟨u1, S5, u2, ul, c5⟩ := At.turn (b := b) c4
          rw [like_p hl4] at u1 u2
          rw [sat_req]
          refine ⟨u1, ?_⟩
          rw [sat_letm, u2]
          obtain ⟨m', g1, g2⟩ := plug_RB (k := k) (n := n + 1) (RB_blk.2 ⟨RB_red.2 ⟨h6, x2, hro, x4⟩, RB_red.2 ⟨h5a, x1, h5b, x3⟩⟩ : RB (mkT (!f2.i) x s g false (mkT (!f2.i) f2.p f2.s f2.g true f2.o c) (mkT f2.i f.p f.s f.g true f.o m)) (n + 1)) (fun hh => by rw [red_mk] at hh; cases hh) h7
          rw [hfc] at c5
          refine fin _ S5 _ m' (hl4.trans ul) c5.outs ?_ ?_ g1
          · rw [← hL]
            refine nodes_plug_congr k ?_
            rw [Fr.mk', Fr.mk', nodes_turn (!f2.i) f2.p f2.s f2.g x s g f2.c true, ← mk_flip, hfi, hX]
            refine nodes_mk _ _ _ _ _ _ ?_ rfl
            rw [← mk_flip, nodes_turn f2.i f.p f.s f.g x s g f.c true, mk_flip f2.i]
          · intro e
            have := size_plug k (mkT (!f2.i) x s g false (mkT (!f2.i) f2.p f2.s f2.g true f2.o c) (mkT f2.i f.p f.s f.g true f.o m))
            rw [e, size_mk] at this
            simp only [T.size] at this
            omega
end Go.Proofs.Ytnlohongffpkpaa.T16
