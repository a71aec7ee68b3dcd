/- Layer 16: a node goes: the end. A text of the session's own. -/
import Derived.Test.YtnlohongffpkpaaT16Q
namespace Go.Proofs.Ytnlohongffpkpaa.T16
open Go Go.RowKit Go.Proofs.Ytnlohongffpkpaa.Sx
set_option linter.unusedVariables false
set_option linter.unusedSimpArgs false

section
variable {S : TS} {b : Mem}
theorem Dec.which {j : Bool} {x xs xg : Int} {xc : Bool} {c : T} {f : Fr} {k : Ctx} (h : Dec S (mkT j x xs xg xc .nil c) (f :: k)) : whichOK (S.mem b) x ∧ whichV (S.mem b) x = bi f.i := by
  obtain ⟨hx, _, hc⟩ := Rep.mk.1 h.rep
  have hctx := h.ctx
  obtain ⟨k1, k2, k3⟩ := hctx
  have hne : f.o.ptr ≠ x := by
    intro e
    rcases cnt_ptr f.o with h0 | h0
    · rw [h0] at e; exact p_ne0 h.ok hx e.symm
    · have := h.dj x
      rw [e] at h0
      rw [cnt_mk, if_pos rfl] at this
      simp only [ccnt] at this; omega
  rw [ptr_mk] at k1
  have hu : ((Fr.mk j x xs xg xc c).node T.nil.ptr (topP (f :: k)) T.nil.size).u = f.p := node_u _ _ _ _
  have hr : ∀ n u, (f.node x u n).r = match f.i with | true => x | false => f.o.ptr := by
    intro n u; unfold Fr.node; split <;> (rename_i e; rw [e])
  obtain ⟨w1, w2⟩ := which_spec (b := b) h.ok hx (du := f.node x (topP k) ((mkT j x xs xg xc .nil c).size - 1)) (by rw [hu]; exact k1) (by
    rw [hr]
    cases f.i
    · exact rep_has k2
    · exact .inr ⟨_, hx⟩)
  refine ⟨w1, ?_⟩
  rw [w2, hr]
  cases f.i
  · simp [hne]
  · simp
theorem remH_walk {S0 : TS} {j : Bool} {x xs xg : Int} {xc : Bool} {c : T} {k : Ctx} {n : Nat} {i : Int} {W : Leaf → Leaf} {Q : Leaf → Prop} (hl : S0.like S) (h : Dec S (mkT j x xs xg xc .nil c) k)
    (h1 : RB (mkT j x xs xg xc .nil c) n) (h2 : xc = true → mayR k = true) (h3 : RBC k n) (hQ : ∀ S', Settled S0 (nodes (plug c k)) S' → Q (W (.memo (.tup [(.c (.si .i64 i)), (.c (.lb true))]) (S'.mem b)))) :
    (T_remH (S.mem b) S0.p x c.ptr i W).sat (fun l => match l with | .up l => Q l | _ => False) := by
  unfold T_remH
  obtain ⟨hx, _, hc⟩ := Rep.mk.1 h.rep
  have hS := h.ok
  have hw : whichOK (S.mem b) x ∧ ∀ f k', k = f :: k' → whichV (S.mem b) x = bi f.i := by
    cases k with
    | nil => exact ⟨(which_top (b := b) hS hx (node_u _ _ _ _)).1, fun f k' e => by cases e⟩
    | cons f k =>
      obtain ⟨w1, w2⟩ := Dec.which (b := b) h
      exact ⟨w1, fun f' k' e => by cases e; exact w2⟩
  have hu : gP (S.mem b) x 4 = topP k := (gP_u hS hx).trans (node_u _ _ _ _)
  obtain ⟨g1, S1, g2, g3, hA, d, hd1, hd2⟩ := h.hang (b := b)
  rw [brT (nz_n hS hx), brT (nz_n hS hx), brT (okL_4 hS hx), sat_req, sat_req, ← like_p hl, sat_letm, g2, hu]
  refine ⟨hw.1, g1, ?_⟩
  rw [brT (cmp_zero _ _)]
  have hl1 := hl.trans g3
  cases xc with
  | true =>
    obtain ⟨a1, a2, a3, a4⟩ := RB_red.1 h1
    have hn : n = 0 := a1
    subst hn
    have hcn : c = .nil := by
      cases c with
      | nil => rfl
      | nd p s g cc l r =>
        cases cc with
        | true => cases a4
        | false => obtain ⟨m, e, _⟩ := a2; cases e
    subst hcn
    rw [brF (by rfl), brT (nz_n hA.ok hd1), brT (nz_n hA.ok hd1), brT (okL_6 hA.ok hd1), gB_c hA.ok hd1, hd2, brF (by rfl)]
    obtain ⟨m, b1, b2⟩ := plug_RB (k := k) (t := .nil) (n := 0) rfl (fun e => by cases e) h3
    exact hQ S1 (settle_fin hl1 hA.outs rfl b1 b2)
  | false =>
    have : ∃ m, n = m + 1 := by cases j <;> (obtain ⟨m, e, _⟩ := h1; exact ⟨m, e⟩)
    obtain ⟨m, rfl⟩ := this
    obtain ⟨a1, a2⟩ := RB_blk.1 h1
    have hm : m = 0 := a1
    subst hm
    cases c with
    | nil =>
      rw [brF (by rfl), brT (nz_n hA.ok hd1), brT (nz_n hA.ok hd1), brT (okL_6 hA.ok hd1), gB_c hA.ok hd1, hd2, brT (by rfl), brT (cmp_zero _ _)]
      cases k with
      | nil =>
        rw [brF (by rfl)]
        exact hQ S1 (settle_fin hl1 hA rfl rfl rfl)
      | cons f k =>
        have hf := hA.getf
        rw [brT (by rw [show topP (f :: k) = f.p from rfl, peq_n hA.ok hf]; rfl), sat_req, sat_any, hw.2 f k rfl]
        have hG : (FillG.mk S1 b .nil (f :: k) 0).pre (S1.mem b) S.p (topP (f :: k)) (bi f.i) := ⟨rfl, (like_p g3).symm, rfl, hA, rfl, rfl, h3, fun f' k' e => by cases e; rfl⟩
        refine ⟨⟨_, hG⟩, fun y hy => ?_⟩
        obtain ⟨S2, e1, e2⟩ := hy _ hG
        rw [sat_leaf, e1]
        exact hQ S2 ⟨hl1.trans e2.like, e2.tree⟩
    | nd p s g cc l r =>
      have hcc : cc = true := by
        cases cc with
        | true => rfl
        | false => obtain ⟨m, e, _⟩ := a2; cases e
      subst hcc
      have hA' : At S1 (mkT false p s g true l r) k := hA
      have hp := hA'.get
      rw [brT (show bNot (peq (T.nd p s g true l r).ptr 0) = true by rw [show (T.nd p s g true l r).ptr = p from rfl, peq_n hA.ok hp]; rfl)]
      refine At.col hA' false fun S2 hl2 hA2 => ?_
      obtain ⟨b1, b2, b3, b4⟩ := a2
      obtain ⟨m, c1, c2⟩ := plug_RB (k := k) (t := mkT false p s g false l r) (n := 1) (RB_blk.2 ⟨b1, b2⟩) (fun e => by cases e) h3
      refine hQ S2 (settle_fin (hl1.trans hl2) hA2.outs ?_ c1 c2)
      exact nodes_plug_congr k rfl
end
end Go.Proofs.Ytnlohongffpkpaa.T16
