/- Layer 16: New, Insert. A text of the session's own. -/
import Derived.Test.YtnlohongffpkpaaT16J
namespace Go.Proofs.Ytnlohongffpkpaa.T16
open Go Go.RowKit Go.Proofs.Ytnlohongffpkpaa.Sx
set_option linter.unusedVariables false
set_option linter.unusedSimpArgs false

/-! an object comes -/
def TS.put (S : TS) (es : Array MapEntry) (k : Nat) : TS := { S with es := es, k := k }
section
variable {S : TS} {b : Mem} {t : T} {n : Nat}
theorem free_at {a : Nat} (h : S.mem b a = none) : a ≠ S.t ∧ a ≠ S.q ∧ S.H ((a : Int) + 1) = none := by
  unfold TS.mem at h
  by_cases h1 : a = S.t
  · simp [h1] at h
  · by_cases h2 : a = S.q
    · rw [if_neg h1, if_pos h2] at h; cases h
    · refine ⟨h1, h2, ?_⟩
      rw [if_neg h1, if_neg h2] at h
      split at h
      · cases h
      · assumption
theorem new_mem {a : Nat} {d : Nd} (h : S.mem b a = none) : alM (S.mem b) ((a : Int) + 1) d.cells 98 = (S.set ((a : Int) + 1) d).mem b := by
  obtain ⟨h1, h2, h3⟩ := free_at h
  funext c
  unfold alM TS.mem
  rw [show (((a : Int) + 1).toNat) = a + 1 by omega]
  by_cases e : c = a
  · subst e
    simp [h1, h2, upd]
  · have : ¬ ((c : Int) + 1 = (a : Int) + 1) := by omega
    simp [e, upd, this]
theorem new_ok {a : Nat} {d : Nd} (h : S.mem b a = none) (hS : S.ok) (hl : 0 ≤ d.l) (hr : 0 ≤ d.r) (hu : 0 ≤ d.u) : (S.set ((a : Int) + 1) d).ok := by
  obtain ⟨h1, h2, h3⟩ := free_at h
  refine ⟨hS.ne, ?_, ?_, hS.root, fun p e he => ?_⟩
  · rw [set_H, set_t, upd_ne _ (by omega)]; exact hS.ht
  · rw [set_H, set_q, upd_ne _ (by omega)]; exact hS.hq
  · by_cases e' : p = (a : Int) + 1
    · subst e'; rw [set_H, upd_self] at he; cases he; exact ⟨by omega, hl, hr, hu⟩
    · rw [set_H, upd_ne _ e'] at he; exact hS.nd p e he
theorem Ents.congr {es : List MapEntry} {L L' : List (Int × Int × Int)} (h : Ents es L) (hL : ∀ x, x ∈ L' ↔ x ∈ L) : Ents es L' :=
  ⟨h.ap, fun e he => by obtain ⟨x, h1, h2⟩ := h.to e he; exact ⟨x, (hL x).2 h1, h2⟩, fun x hx => h.fro x ((hL x).1 hx), fun x hx => h.rng x ((hL x).1 hx)⟩
theorem Ents.push {es : List MapEntry} {L : List (Int × Int × Int)} (h : Ents es L) {p s g : Int} {c : Nat} (hx : ∀ x ∈ L, ¬ (x.2.1 = s ∧ x.2.2 = g)) (h1 : inI s) (h2 : inU g) : Ents (es ++ [⟨hKey s g, pv p 0, c⟩]) ((p, s, g) :: L) := by
  have hk : ∀ e ∈ es, e.key ≠ hKey s g := fun e he hk => by
    obtain ⟨x, g1, g2, g3⟩ := h.to e he
    exact hx x g1 (hKey_inj (g2.symm.trans hk))
  refine ⟨List.pairwise_append.2 ⟨h.ap, by simp, fun e he e' he' => ?_⟩, fun e he => ?_, fun x hx => ?_, fun x hx => ?_⟩
  · simp only [List.mem_singleton] at he'; subst he'; exact hk e he
  · rcases List.mem_append.1 he with he | he
    · obtain ⟨x, g1, g2⟩ := h.to e he; exact ⟨x, List.mem_cons_of_mem _ g1, g2⟩
    · simp only [List.mem_singleton] at he; subst he; exact ⟨(p, s, g), by simp, rfl, rfl⟩
  · rcases List.mem_cons.1 hx with rfl | hx
    · exact ⟨_, List.mem_append_right _ (List.mem_singleton.2 rfl), rfl, rfl⟩
    · obtain ⟨e, g1, g2⟩ := h.fro x hx; exact ⟨e, List.mem_append_left _ g1, g2⟩
  · rcases List.mem_cons.1 hx with rfl | hx
    · exact ⟨h1, h2⟩
    · exact h.rng x hx
theorem put_mem (hS : S.ok) {L : List (Int × Int × Int)} (he : Ents S.es.toList L) {s g p : Int} (hx : ∀ x ∈ L, ¬ (x.2.1 = s ∧ x.2.2 = g)) :
    mput (S.mem b) (.map (some S.q)) (.agg (.mk [(.int .i64 s), (.int .u64 g)])) (pv p 0) = (S.put (S.es.push ⟨hKey s g, pv p 0, S.k⟩) (S.k + 1)).mem b := by
  have hm := he.miss hx
  funext a
  simp only [mput, mchg]
  by_cases e : a = S.q
  · subst e
    rw [if_pos rfl, mem_q hS]
    simp only [esPut]
    rw [show efind (.agg (.mk [(.int .i64 s), (.int .u64 g)])) S.es.toList 0 = none from hm]
    simp [TS.mem, TS.put, Ne.symm hS.ne]
  · rw [if_neg e]
    simp [TS.mem, TS.put, e]
theorem put_ok {es : Array MapEntry} {k : Nat} (h : S.ok) : (S.put es k).ok := ⟨h.ne, h.ht, h.hq, h.root, h.nd⟩

/-! the way down -/
structure Dn (S : TS) (t : T) (k : Ctx) : Prop where
  ok : S.ok
  rep : Rep S.H (topP k) t
  ctx : RepC S.H S.root t.ptr (t.size + 1) k
  dj : Dj t k
  sm : t.size + csize k + 1 < 1152921504606846976
def stepN (p s g : Int) (c : Bool) (l r : T) (u : Int) : Nd := ⟨s, g, l.ptr, r.ptr, u, ((l.size + r.size + 2 : Nat) : Int), c⟩
theorem Dn.step {p s g : Int} {c : Bool} {l r : T} {k : Ctx} (h : Dn S (.nd p s g c l r) k) :
    Dn (S.set p (stepN p s g c l r (topP k))) l (Fr.mk false p s g c r :: k) ∧ Dn (S.set p (stepN p s g c l r (topP k))) r (Fr.mk true p s g c l :: k) := by
  obtain ⟨h1, h2, h3⟩ := h.rep
  have hd := h.dj
  have hdp := hd p
  simp only [cnt, if_true] at hdp
  have hnn := h.ok.nd p _ h1
  have hok : (S.set p (stepN p s g c l r (topP k))).ok := h.ok.set h1 hnn.2.1 hnn.2.2.1 hnn.2.2.2
  have oth : ∀ q, 0 < cnt q l + cnt q r + ccnt q k → (S.set p (stepN p s g c l r (topP k))).H q = S.H q := by
    intro q hq
    rw [set_H, upd_ne]
    intro e; subst e; omega
  have hself : (S.set p (stepN p s g c l r (topP k))).H p = some (stepN p s g c l r (topP k)) := by rw [set_H, upd_self]
  have rl := rep_congr (fun q hq => oth q (by omega)) h2
  have rr := rep_congr (fun q hq => oth q (by omega)) h3
  have rc : RepC (S.set p (stepN p s g c l r (topP k))).H S.root p (l.size + r.size + 2) k := repC_congr (fun q hq => oth q (by omega)) h.ctx
  have hsm := h.sm
  simp only [T.size] at hsm
  refine ⟨⟨hok, rl, ⟨?_, rr, ?_⟩, fun q => ?_, ?_⟩, ⟨hok, rr, ⟨?_, rl, ?_⟩, fun q => ?_, ?_⟩⟩
  · rw [hself]; simp only [stepN, Fr.node, Option.some.injEq, Nd.mk.injEq]; refine ⟨trivial, trivial, trivial, trivial, trivial, ?_, trivial⟩; omega
  · show RepC _ S.root p (l.size + 1 + r.size + 1) k
    rw [show l.size + 1 + r.size + 1 = l.size + r.size + 2 by omega]; exact rc
  · have := hd q; simp only [cnt, ccnt] at this ⊢; omega
  · simp only [csize]; omega
  · rw [hself]; simp only [stepN, Fr.node, Option.some.injEq, Nd.mk.injEq]; refine ⟨trivial, trivial, trivial, trivial, trivial, ?_, trivial⟩; omega
  · show RepC _ S.root p (r.size + 1 + l.size + 1) k
    rw [show r.size + 1 + l.size + 1 = l.size + r.size + 2 by omega]; exact rc
  · have := hd q; simp only [cnt, ccnt] at this ⊢; omega
  · simp only [csize]; omega
theorem Dn.plant {f : Fr} {k : Ctx} {x s g : Int} (h : Dn S .nil (f :: k)) (hx : S.H x = some ⟨s, g, 0, 0, 0, 1, true⟩) (hc : ccnt x (f :: k) = 0) :
    S.H f.p = some (f.node 0 (topP k) 1) ∧ (S.set f.p ((f.node 0 (topP k) 1).wch f.i x)).ok ∧ (S.set f.p ((f.node 0 (topP k) 1).wch f.i x)).H x = some ⟨s, g, 0, 0, 0, 1, true⟩ ∧
    At ((S.set f.p ((f.node 0 (topP k) 1).wch f.i x)).set x ⟨s, g, 0, 0, f.p, 1, true⟩) (mkT false x s g true .nil .nil) (f :: k) := by
  obtain ⟨h1, h2, h3⟩ := h.ctx
  have hxp := h.ok.nd x _ hx
  have hfp := h.ok.nd f.p _ h1
  simp only [ccnt] at hc
  have hne : x ≠ f.p := by intro e; rw [if_pos e] at hc; omega
  rw [if_neg hne] at hc
  have hok := h.ok.wch h1 f.i (Int.le_of_lt hxp.1)
  have hx' : (S.set f.p ((f.node 0 (topP k) 1).wch f.i x)).H x = some ⟨s, g, 0, 0, 0, 1, true⟩ := by rw [set_H, upd_ne _ hne]; exact hx
  refine ⟨h1, hok, hx', ⟨hok.set hx' (Int.le_refl _) (Int.le_refl _) (Int.le_of_lt hfp.1), ?_, ?_, fun q => ?_, ?_⟩⟩
  · exact ⟨by rw [set_H, upd_self]; rfl, trivial, trivial⟩
  · have hd := h.dj
    have oth : ∀ q, 0 < cnt q f.o + ccnt q k → ((S.set f.p ((f.node 0 (topP k) 1).wch f.i x)).set x ⟨s, g, 0, 0, f.p, 1, true⟩).H q = S.H q := by
      intro q hq
      have := hd q
      simp only [ccnt, cnt] at this
      rw [set_H, upd_ne, set_H, upd_ne]
      · intro e; subst e; rw [if_pos rfl] at this; omega
      · intro e; subst e; omega
    refine ⟨?_, rep_congr (fun q hq => oth q (by omega)) h2, repC_congr (fun q hq => oth q (by omega)) h3⟩
    rw [set_H, upd_ne _ (Ne.symm hne), set_H, upd_self]
    unfold Fr.node
    cases f.i <;> rfl
  · have := h.dj q
    simp only [mkT, cnt, ccnt] at this ⊢
    by_cases e : q = x
    · subst e
      rw [if_neg hne]
      simp; omega
    · rw [if_neg e]; omega
  · have := h.sm
    simp only [mkT, T.size, csize] at this ⊢; omega
theorem RB_down {i : Bool} {p s g : Int} {c : Bool} {x y : T} {k : Ctx} {n : Nat} (h : RB (mkT i p s g c x y) n) (h2 : c = true → mayR k = true) (h3 : RBC k n) : ∃ m, RB x m ∧ (red x = true → mayR (Fr.mk i p s g c y :: k) = true) ∧ RBC (Fr.mk i p s g c y :: k) m := by
  cases c with
  | true =>
    obtain ⟨g1, g2, g3, g4⟩ := RB_red.1 h
    exact ⟨n, g1, fun e => (by rw [g3] at e; cases e), (RBC_red rfl).2 ⟨g2, g4, h2 rfl, h3⟩⟩
  | false =>
    have : ∃ m, n = m + 1 := by cases i <;> (obtain ⟨m, e, _⟩ := h; exact ⟨m, e⟩)
    obtain ⟨m, rfl⟩ := this
    obtain ⟨g1, g2⟩ := RB_blk.1 h
    exact ⟨m, g1, fun _ => rfl, (RBC_blk rfl).2 ⟨g2, h3⟩⟩
theorem Dn.fin {S0 : TS} {f : Fr} {k : Ctx} {x s g : Int} {L : List (Int × Int × Int)} (hl : S0.like S) (h : Dn S .nil (f :: k)) (hx : S.H x = some ⟨s, g, 0, 0, 0, 1, true⟩) (hc : ccnt x (f :: k) = 0) (hr : RBC (f :: k) 0)
    (hL : cl (f :: k) ++ (x, s, g) :: cr (f :: k) = L) {Q : Leaf → Prop} {l : Mem → Leaf} {n1 n2 n3 n4 n5 n6 n7 : Nat} (hQ : ∀ S', Settled S0 L S' → Q (l (S'.mem b))) :
    (Tr.br (nzp f.p) (.br (nzp f.p) (.br (nzp f.p) (.br (okS (S.mem b) f.p (bOff f.i) 1) (.letm (wrL (S.mem b) f.p (bOff f.i) [(pv x 0)]) (fun m3 => (.br (nzp x) (.br (nzp x) (.br (okS m3 x 4 1) (.letm (wrL m3 x 4 [(pv f.p 0)]) (fun m4 => (.req (settlesP m4 S0.p x) (.any (settlesQ m4 S0.p x) (fun y2 => (.leaf (l y2.4))))))) (.no n1)) (.no n2)) (.no n3)))) (.no n4)) (.no n5)) (.no n6)) (.no n7)).sat Q := by
  obtain ⟨h1, h2, h3, h4⟩ := h.plant hx hc
  rw [brT (nz_n h.ok h1), brT (nz_n h.ok h1), brT (nz_n h.ok h1), brT (okS_ch h.ok h1 _), sat_letm, wr_ch h.ok h1, brT (nz_n h2 h3), brT (nz_n h2 h3), brT (okS_n h2 h3 rfl), sat_letm, wr_u h2 h3, sat_req, sat_any]
  let G : SettG := ⟨(S.set f.p ((f.node 0 (topP k) 1).wch f.i x)).set x ⟨s, g, 0, 0, f.p, 1, true⟩, b, false, s, g, .nil, .nil, f :: k, 0⟩
  have hG : G.pre (((S.set f.p ((f.node 0 (topP k) 1).wch f.i x)).set x ⟨s, g, 0, 0, f.p, 1, true⟩).mem b) S0.p x := ⟨rfl, (like_p ((hl.trans (like_set h1)).trans (like_set h3))).symm, h4, rfl, rfl, rfl, rfl, hr⟩
  refine ⟨⟨G, hG⟩, fun y hy => ?_⟩
  obtain ⟨S', e, hs⟩ := hy G hG
  rw [sat_leaf, e]
  refine hQ S' ⟨((hl.trans (like_set h1)).trans (like_set h3)).trans hs.like, ?_⟩
  obtain ⟨t', m, a1, a2, a3, a4⟩ := hs.tree
  refine ⟨t', m, a1, ?_, a3, a4⟩
  rw [a2, nodes_plug, ← hL]
  show cl (f :: k) ++ [(x, s, g)] ++ cr (f :: k) = _
  simp
end
def T_insert (m : Mem) (t : Int) (i : Int) (hs hg : Int) : Tr := (.br (cmpOK m t 0) (.br (peq t 0) (.leaf (.memo (.u (.c (.li .i64 1))) m)) (.br (nzp t) (.br (nzp t) (.br (okL m t 1 [(.raw (.map (.none)))]) (.br (isMpV (pl (mcell m t 1))) (.br (isNilM (pl (mcell m t 1))) (.leaf (.memo (.u (.c (.li .i64 1))) m)) (.br (iLt i 0) (.leaf (.memo (.u (.c (.li .i64 2))) m)) (.req (lenOK m t) (.br (iGt i (lenV m t)) (.leaf (.memo (.u (.c (.li .i64 2))) m)) (.br (nzp t) (.br (nzp t) (.br (okL m t 1 [(.raw (.map (.none)))]) (.req ((Go.Maps.Keyed Try.prog 29) ∧ ((okM Try.prog 29 m (pl (mcell m t 1))) ∧ ((okKey Try.prog 29 (.agg (.mk [(.int .i64 hs), (.int .u64 hg)]))) ∧ (((okU (.c .nilp) (lkZ m (pl (mcell m t 1)) (.agg (.mk [(.int .i64 hs), (.int .u64 hg)])) (.pointer (.none)))) : Bool) = true)))) (.br (cmpOK m (vP (lkZ m (pl (mcell m t 1)) (.agg (.mk [(.int .i64 hs), (.int .u64 hg)])) (.pointer (.none)))) 0) (.br (bNot (peq (vP (lkZ m (pl (mcell m t 1)) (.agg (.mk [(.int .i64 hs), (.int .u64 hg)])) (.pointer (.none)))) 0)) (.leaf (.memo (.u (.c (.li .i64 7))) m)) (.any (newQ m (.mk [(.int .i64 hs), (.int .u64 hg), (.pointer (.none)), (.pointer (.none)), (.pointer (.none)), (.int .i64 1), (.bool true)]) 98) (fun y0 => (.br (nzp t) (.br (nzp t) (.br (okL y0.4 t 1 [(.raw (.map (.none)))]) (.req ((Go.Maps.Keyed Try.prog 29) ∧ ((okM Try.prog 29 y0.4 (pl (mcell y0.4 t 1))) ∧ ((((isNilM (pl (mcell y0.4 t 1))) : Bool) = false) ∧ (okKey Try.prog 29 (.agg (.mk [(.int .i64 hs), (.int .u64 hg)])))))) (.letm (mput y0.4 (pl (mcell y0.4 t 1)) (.agg (.mk [(.int .i64 hs), (.int .u64 hg)])) (pv (pI y0.1) 0)) (fun m1 => (.br (nzp t) (.br (nzp t) (.br (okL m1 t 0 [.nilp]) (.br (cmpOK m1 (gP m1 t 0) 0) (.br (peq (gP m1 t 0) 0) (.br (nzp t) (.br (nzp t) (.br (okS m1 t 0 1) (.letm (wrL m1 t 0 [(pv (pI y0.1) 0)]) (fun m2 => (.br (nzp (pI y0.1)) (.br (nzp (pI y0.1)) (.br (okS m2 (pI y0.1) 6 1) (.letm (wrL m2 (pI y0.1) 6 [(.bool false)]) (fun m3 => (.leaf (.memo (.u (.c (.li .i64 0))) m3)))) (.no 72)) (.no 76)) (.no 75)))) (.no 72)) (.no 76)) (.no 75)) (.br (nzp t) (.br (nzp t) (.br (okL m1 t 0 [.nilp]) (.lp (.mk [i, (gP m1 t 0), 0] [] [] m1) (fun y1 j1 => (.br (nzp (hdI (tlI y1.1))) (.br (nzp (hdI (tlI y1.1))) (.br (okL y1.4 (hdI (tlI y1.1)) 5 [(.li .i64 0)]) (.br (nzp (hdI (tlI y1.1))) (.br (nzp (hdI (tlI y1.1))) (.br (okS y1.4 (hdI (tlI y1.1)) 5 1) (.letm (wrL y1.4 (hdI (tlI y1.1)) 5 [(.int .i64 (iAdd .i64 (gI y1.4 (hdI (tlI y1.1)) 5) 1))]) (fun m2 => (.br (nzp (hdI (tlI y1.1))) (.br (nzp (hdI (tlI y1.1))) (.br (nzp (hdI (tlI y1.1))) (.br (okL m2 (hdI (tlI y1.1)) 2 [.nilp]) (.req (sizeOK m2 (gP m2 (hdI (tlI y1.1)) 2)) (.br (iGt (hdI y1.1) (sizeV m2 (gP m2 (hdI (tlI y1.1)) 2))) (.br (nzp (hdI (tlI y1.1))) (.br (nzp (hdI (tlI y1.1))) (.br (nzp (hdI (tlI y1.1))) (.br (okL m2 (hdI (tlI y1.1)) 3 [.nilp]) (.br (cmpOK m2 (gP m2 (hdI (tlI y1.1)) 3) 0) (.br (peq (gP m2 (hdI (tlI y1.1)) 3) 0) (.br (nzp (hdI (tlI y1.1))) (.br (nzp (hdI (tlI y1.1))) (.br (nzp (hdI (tlI y1.1))) (.br (okS m2 (hdI (tlI y1.1)) 3 1) (.letm (wrL m2 (hdI (tlI y1.1)) 3 [(pv (pI y0.1) 0)]) (fun m3 => (.br (nzp (pI y0.1)) (.br (nzp (pI y0.1)) (.br (okS m3 (pI y0.1) 4 1) (.letm (wrL m3 (pI y0.1) 4 [(pv (hdI (tlI y1.1)) 0)]) (fun m4 => (.req (settlesP m4 t (pI y0.1)) (.any (settlesQ m4 t (pI y0.1)) (fun y2 => (.leaf (.up (.memo (.u (.c (.li .i64 0))) y2.4)))))))) (.no 72)) (.no 76)) (.no 75)))) (.no 72)) (.no 81)) (.no 76)) (.no 75)) (.br (nzp (hdI (tlI y1.1))) (.br (nzp (hdI (tlI y1.1))) (.br (nzp (hdI (tlI y1.1))) (.br (okL m2 (hdI (tlI y1.1)) 3 [.nilp]) (.req ((([(0, (.u (.c (.np t 0)))), (7, (.u (.c (.np (pI y0.1) 0))))] : List (Nat × V)) = [(0, (.u (.c (.np t 0)))), (7, (.u (.c (.np (pI y0.1) 0))))]) ∧ (([] : List (Nat × Blk)) = [])) (.leaf (.again (.mk [(iSub .i64 (hdI y1.1) (iAdd .i64 (sizeV m2 (gP m2 (hdI (tlI y1.1)) 2)) 1)), (gP m2 (hdI (tlI y1.1)) 3), 1] [] [] m2)))) (.no 70)) (.no 81)) (.no 76)) (.no 75))) (.no 78)) (.no 70)) (.no 81)) (.no 76)) (.no 75)) (.br (nzp (hdI (tlI y1.1))) (.br (nzp (hdI (tlI y1.1))) (.br (nzp (hdI (tlI y1.1))) (.br (okL m2 (hdI (tlI y1.1)) 2 [.nilp]) (.br (cmpOK m2 (gP m2 (hdI (tlI y1.1)) 2) 0) (.br (peq (gP m2 (hdI (tlI y1.1)) 2) 0) (.br (nzp (hdI (tlI y1.1))) (.br (nzp (hdI (tlI y1.1))) (.br (nzp (hdI (tlI y1.1))) (.br (okS m2 (hdI (tlI y1.1)) 2 1) (.letm (wrL m2 (hdI (tlI y1.1)) 2 [(pv (pI y0.1) 0)]) (fun m3 => (.br (nzp (pI y0.1)) (.br (nzp (pI y0.1)) (.br (okS m3 (pI y0.1) 4 1) (.letm (wrL m3 (pI y0.1) 4 [(pv (hdI (tlI y1.1)) 0)]) (fun m4 => (.req (settlesP m4 t (pI y0.1)) (.any (settlesQ m4 t (pI y0.1)) (fun y2 => (.leaf (.up (.memo (.u (.c (.li .i64 0))) y2.4)))))))) (.no 72)) (.no 76)) (.no 75)))) (.no 72)) (.no 81)) (.no 76)) (.no 75)) (.br (nzp (hdI (tlI y1.1))) (.br (nzp (hdI (tlI y1.1))) (.br (nzp (hdI (tlI y1.1))) (.br (okL m2 (hdI (tlI y1.1)) 2 [.nilp]) (.req ((([(0, (.u (.c (.np t 0)))), (7, (.u (.c (.np (pI y0.1) 0))))] : List (Nat × V)) = [(0, (.u (.c (.np t 0)))), (7, (.u (.c (.np (pI y0.1) 0))))]) ∧ (([] : List (Nat × Blk)) = [])) (.leaf (.again (.mk [(hdI y1.1), (gP m2 (hdI (tlI y1.1)) 2), 0] [] [] m2)))) (.no 70)) (.no 81)) (.no 76)) (.no 75))) (.no 78)) (.no 70)) (.no 81)) (.no 76)) (.no 75)))) (.no 70)) (.no 81)) (.no 76)) (.no 75)))) (.no 72)) (.no 76)) (.no 75)) (.no 70)) (.no 76)) (.no 75)))) (.no 70)) (.no 76)) (.no 75))) (.no 78)) (.no 70)) (.no 76)) (.no 75))))) (.no 70)) (.no 76)) (.no 75))))) (.no 78))) (.no 70)) (.no 76)) (.no 75)))))) (.no 109)) (.no 70)) (.no 76)) (.no 75))) (.no 78))
def T_fresh (m : Mem)  : Tr := (.any (newMQ m) (fun y0 => (.any (newQ y0.4 (.mk [(.pointer (.none)), (pl (hdV y0.3))]) 95) (fun y1 => (.leaf (.memo (.u (.c (.np (pI y1.1) 0))) y1.4))))))
section
variable {S : TS} {b : Mem} {t : T} {n : Nat}
def insPost (S : TS) (b : Mem) (L : List (Int × Int × Int)) (i s g : Int) (y : Vars) : Prop :=
  ((i < 0 ∨ (L.length : Int) < i) ∧ y.i = [2] ∧ y.m = S.mem b) ∨
  (0 ≤ i ∧ i ≤ L.length ∧ (∃ x ∈ L, x.2.1 = s ∧ x.2.2 = g) ∧ y.i = [7] ∧ y.m = S.mem b) ∨
  (0 ≤ i ∧ i ≤ L.length ∧ (∀ x ∈ L, ¬ (x.2.1 = s ∧ x.2.2 = g)) ∧ y.i = [0] ∧ ∃ (S' : TS) (t' : T) (n' a : Nat), y.m = S'.mem b ∧ S'.t = S.t ∧ S'.q = S.q ∧ Tre S' t' n' ∧ nodes t' = L.take i.toNat ++ ((a : Int) + 1, s, g) :: L.drop i.toNat ∧ S.mem b a = none ∧ ∀ q, S'.H q = none ↔ S.H q = none ∧ q ≠ (a : Int) + 1)
def retI (y : Vars) : V := .u (.c (.si .i64 (hdI y.i)))
theorem cnt_of_none {H : Int → Option Nd} {x : Int} (hx : H x = none) : ∀ {t : T} {u : Int}, Rep H u t → cnt x t = 0
  | .nil, _, _ => rfl
  | .nd p s g c l r, u, ⟨h1, h2, h3⟩ => by
    have : x ≠ p := by rintro rfl; rw [hx] at h1; cases h1
    simp only [cnt, if_neg this, cnt_of_none hx h2, cnt_of_none hx h3]
theorem insert_walk (h : Tre S t n) (hsz : t.size + 1 < 1152921504606846976) {i s g : Int} (h1 : inI s) (h2 : inU g) :
    (T_insert (S.mem b) S.p i s g).sat (isMemo fun v m => insPost S b (nodes t) i s g (yOf v m) ∧ ∀ ρ, v.den ρ = (retI (yOf v m)).den ρ) := by
  have hS := h.at'.ok
  have hroot : S.root = t.ptr := h.at'.ctx
  unfold T_insert
  obtain ⟨l1, l2⟩ := len_spec (b := b) h.at'
  rw [brT (cmp_zero _ _), brF peq_t, brT nz_t, brT nz_t, brT okL_m]
  rw [cell_q, brT (by rfl), brF (by rfl)]
  by_cases hi : i < 0
  · rw [brT (by simp [iLt, hi])]
    exact ⟨.inl ⟨.inl hi, rfl, rfl⟩, fun ρ => rfl⟩
  rw [brF (by simp [iLt, hi]), sat_req, l2]
  refine ⟨l1, ?_⟩
  by_cases hj : (t.size : Int) < i
  · rw [brT (by simp [iGt, hj])]
    exact ⟨.inl ⟨.inr (by rw [len_nodes]; exact hj), rfl, rfl⟩, fun ρ => rfl⟩
  rw [brF (by simp [iGt]; omega), brT nz_t, brT nz_t, brT okL_m]
  by_cases hf : ∃ x ∈ nodes t, x.2.1 = s ∧ x.2.2 = g
  · obtain ⟨⟨p, s', g'⟩, hx, rfl, rfl⟩ := hf
    have hp : ∃ d, S.H p = some d := by
      obtain ⟨i0, hi0⟩ := List.getElem?_of_mem hx
      obtain ⟨c, l, r, k, hk, hl⟩ := split_at hi0
      have hA : At S (mkT false p s' g' c l r) k := At.ins (by rw [show plug (mkT false p s' g' c l r) k = t from hk]; exact h.at')
      exact ⟨_, hA.get⟩
    obtain ⟨d, hp⟩ := hp
    have hpn : 0 ≤ p := Int.le_of_lt (hS.nd p _ hp).1
    rw [lk_hit hS h.en hx, sat_req]
    refine ⟨⟨keyed29, okM29 hS h.en, okKey29 h1 h2, isP_pv p⟩, ?_⟩
    rw [vP_pv hpn, brT (cmp_zero _ _), brT (by rw [peq_n hS hp]; rfl)]
    exact ⟨.inr (.inl ⟨by omega, by rw [len_nodes]; omega, ⟨_, hx, rfl, rfl⟩, rfl, rfl⟩), fun ρ => rfl⟩
  have hf' : ∀ x ∈ nodes t, ¬ (x.2.1 = s ∧ x.2.2 = g) := fun x hx he => hf ⟨x, hx, he⟩
  rw [lk_miss hS h.en hf', sat_req]
  refine ⟨⟨keyed29, okM29 hS h.en, okKey29 h1 h2, rfl⟩, ?_⟩
  rw [brT (by rfl), brF (by rfl), sat_any]
  rintro ⟨yi, yb, yv, ym⟩ ⟨a, ha, hfr, hym⟩
  simp only at ha hym
  subst ha hym
  obtain ⟨fa1, fa2, fa3⟩ := free_at hfr
  have e0 : alM (S.mem b) ((a : Int) + 1) (.mk [(.int .i64 s), (.int .u64 g), (.pointer .none), (.pointer .none), (.pointer .none), (.int .i64 1), (.bool true)]) 98 = (S.set ((a : Int) + 1) ⟨s, g, 0, 0, 0, 1, true⟩).mem b := new_mem (d := ⟨s, g, 0, 0, 0, 1, true⟩) hfr
  have ok1 : (S.set ((a : Int) + 1) ⟨s, g, 0, 0, 0, 1, true⟩).ok := new_ok hfr hS (Int.le_refl _) (Int.le_refl _) (Int.le_refl _)
  have hx1 : (S.set ((a : Int) + 1) ⟨s, g, 0, 0, 0, 1, true⟩).H ((a : Int) + 1) = some ⟨s, g, 0, 0, 0, 1, true⟩ := by rw [set_H, upd_self]
  have oth : ∀ q, 0 < cnt q t → (S.set ((a : Int) + 1) ⟨s, g, 0, 0, 0, 1, true⟩).H q = S.H q := fun q hq => by
    rw [set_H, upd_ne]
    rintro rfl
    rw [cnt_of_none fa3 h.at'.rep] at hq; omega
  have rep1 : Rep (S.set ((a : Int) + 1) ⟨s, g, 0, 0, 0, 1, true⟩).H 0 t := rep_congr oth h.at'.rep
  have hcx : cnt ((a : Int) + 1) t = 0 := cnt_of_none fa3 h.at'.rep
  have en1 : Ents (S.set ((a : Int) + 1) ⟨s, g, 0, 0, 0, 1, true⟩).es.toList (nodes t) := h.en
  have ep : (S.set ((a : Int) + 1) ⟨s, g, 0, 0, 0, 1, true⟩).p = S.p := rfl
  have el : (S.set ((a : Int) + 1) ⟨s, g, 0, 0, 0, 1, true⟩).t = S.t ∧ (S.set ((a : Int) + 1) ⟨s, g, 0, 0, 0, 1, true⟩).q = S.q ∧ (S.set ((a : Int) + 1) ⟨s, g, 0, 0, 0, 1, true⟩).root = t.ptr := ⟨rfl, rfl, hroot⟩
  have ed : ∀ q, (S.set ((a : Int) + 1) ⟨s, g, 0, 0, 0, 1, true⟩).H q = none ↔ S.H q = none ∧ q ≠ (a : Int) + 1 := fun q => by
    by_cases e : q = (a : Int) + 1
    · rw [e, hx1]; simp
    · rw [set_H, upd_ne _ e]; simp [e]
  simp only [pI, e0]
  generalize S.set ((a : Int) + 1) ⟨s, g, 0, 0, 0, 1, true⟩ = S1 at ok1 hx1 rep1 en1 ep el ed
  generalize hxa : ((a : Int) + 1) = x at hx1 hcx ed
  obtain ⟨et, eq, er⟩ := el
  rw [← ep, brT nz_t, brT nz_t, brT okL_m, cell_q, sat_req]
  refine ⟨⟨keyed29, okM29 ok1 en1, rfl, okKey29 h1 h2⟩, ?_⟩
  rw [sat_letm, put_mem ok1 en1 hf']
  have ok2 : (S1.put (S1.es.push ⟨hKey s g, pv x 0, S1.k⟩) (S1.k + 1)).ok := put_ok ok1
  have en2 : Ents (S1.put (S1.es.push ⟨hKey s g, pv x 0, S1.k⟩) (S1.k + 1)).es.toList ((x, s, g) :: nodes t) := by
    have := en1.push (p := x) (c := S1.k) hf' h1 h2
    simpa [TS.put] using this
  have ep2 : S1.p = (S1.put (S1.es.push ⟨hKey s g, pv x 0, S1.k⟩) (S1.k + 1)).p := rfl
  have hx2 : (S1.put (S1.es.push ⟨hKey s g, pv x 0, S1.k⟩) (S1.k + 1)).H x = some ⟨s, g, 0, 0, 0, 1, true⟩ := hx1
  have rep2 : Rep (S1.put (S1.es.push ⟨hKey s g, pv x 0, S1.k⟩) (S1.k + 1)).H 0 t := rep1
  have el2 : (S1.put (S1.es.push ⟨hKey s g, pv x 0, S1.k⟩) (S1.k + 1)).t = S.t ∧ (S1.put (S1.es.push ⟨hKey s g, pv x 0, S1.k⟩) (S1.k + 1)).q = S.q ∧ (S1.put (S1.es.push ⟨hKey s g, pv x 0, S1.k⟩) (S1.k + 1)).root = t.ptr := ⟨et, eq, er⟩
  have ed2 : ∀ q, (S1.put (S1.es.push ⟨hKey s g, pv x 0, S1.k⟩) (S1.k + 1)).H q = none ↔ S.H q = none ∧ q ≠ x := ed
  rw [ep2]
  generalize S1.put (S1.es.push ⟨hKey s g, pv x 0, S1.k⟩) (S1.k + 1) = S2 at ok2 en2 ep2 hx2 rep2 el2 ed2
  obtain ⟨et2, eq2, er2⟩ := el2
  clear ok1 hx1 rep1 en1 ep et eq er oth ep2 e0 ed
  have hxp := ok2.nd x _ hx2
  rw [brT nz_t, brT nz_t, brT okL_t, gP_t ok2, er2, brT (cmp_zero _ _)]
  cases t with
  | nil =>
    have hi0 : i = 0 := by simp only [T.size] at hj; omega
    subst hi0
    rw [brT (by rfl), brT nz_t, brT nz_t, brT okS_t, sat_letm, wr_t ok2]
    have ok3 : (S2.top x).ok := ok2.top (Int.le_of_lt hxp.1)
    have hA : At (S2.top x) (mkT false x s g true .nil .nil) [] := ⟨ok3, ⟨hx2, trivial, trivial⟩, rfl, fun q => (by simp [mkT, cnt, ccnt]; split <;> omega), by simp [mkT, T.size, csize]⟩
    refine At.col hA false fun S' hl hA' => ?_
    refine ⟨.inr (.inr ⟨Int.le_refl _, by simp [nodes], hf', rfl, S', _, 1, a, rfl, hl.t.trans et2, hl.q.trans eq2, ⟨hA', ⟨0, rfl, rfl, rfl⟩, rfl, ?_⟩, by rw [hxa]; rfl, hfr, fun q => (hl.dom q).trans (by rw [hxa]; exact ed2 q)⟩), fun ρ => rfl⟩
    rw [hl.es]
    exact en2
  | nd p0 s0 g0 c0 l0 r0 =>
    have hpn0 := (ok2.nd p0 _ rep2.1).1
    rw [brF (show peq (T.nd p0 s0 g0 c0 l0 r0).ptr 0 = false from peq_n ok2 rep2.1), brT nz_t, brT nz_t, brT okL_t]
    generalize hL0 : nodes (.nd p0 s0 g0 c0 l0 r0) = L0 at *
    obtain ⟨i0, rfl⟩ : ∃ i0 : Nat, i = i0 := ⟨i.toNat, by omega⟩
    have hlen : L0.length = (T.nd p0 s0 g0 c0 l0 r0).size := by rw [← hL0, len_nodes]
    let J : Nat → Vars → Prop := fun N y => ∃ (S3 : TS) (t' : T) (k : Ctx) (j : Nat) (z : Int) (n : Nat), N = t'.size ∧ y = ⟨[(j : Int), t'.ptr, z], [], [], S3.mem b⟩ ∧ S2.like S3 ∧ Dn S3 t' k ∧ t' ≠ .nil ∧ S3.H x = some ⟨s, g, 0, 0, 0, 1, true⟩ ∧ cnt x t' + ccnt x k = 0 ∧ RB t' n ∧ (red t' = true → mayR k = true) ∧ RBC k n ∧ nodes (plug t' k) = L0 ∧ (cl k).length + j = i0 ∧ j ≤ t'.size
    have hd0 : Dn S2 (.nd p0 s0 g0 c0 l0 r0) [] := ⟨ok2, rep2, er2, fun q => by have := h.at'.dj q; exact this, by simp only [csize]; omega⟩
    refine lp_idx J (n0 := (T.nd p0 s0 g0 c0 l0 r0).size) ⟨S2, _, [], i0, 0, n, rfl, rfl, TS.like.refl _, hd0, by simp, hx2, by simpa [ccnt] using hcx, h.rb, (fun e => by rw [h.blk] at e; cases e), trivial, hL0, by simp [cl], by omega⟩ ?_
    rintro N y _ ⟨S3, t', k, j, z, n', rfl, rfl, hl, hD, hne, hx3, hcx3, hrb, hmr, hrc, hL, hj0, hjs⟩
    have hQ : ∀ S', Settled S2 (L0.take i0 ++ (x, s, g) :: L0.drop i0) S' → inLoopJ J t'.size (isMemo fun v m => insPost S b L0 i0 s g (yOf v m) ∧ ∀ ρ, v.den ρ = (retI (yOf v m)).den ρ) (.up (.memo (.u (.c (.li .i64 0))) (S'.mem b))) := by
      rintro S' ⟨g1, t1, n1, g2, g3, g4, g5⟩
      refine ⟨.inr (.inr ⟨by omega, by omega, hf', rfl, S', t1, n1, a, rfl, g1.t.trans et2, g1.q.trans eq2, ⟨g2, g4, g5, ?_⟩, by rw [Int.toNat_natCast, hxa]; exact g3, hfr, fun q => (g1.dom q).trans (by rw [hxa]; exact ed2 q)⟩), fun ρ => rfl⟩
      rw [g1.es, g3]
      refine en2.congr fun e => ?_
      conv => rhs; rw [← List.take_append_drop i0 L0]
      simp only [List.mem_append, List.mem_cons]
      constructor
      · rintro (h | h | h)
        · exact .inr (.inl h)
        · exact .inl h
        · exact .inr (.inr h)
      · rintro (h | h | h)
        · exact .inr (.inl h)
        · exact .inl h
        · exact .inr (.inr h)
    have hcut : ∀ (f : Fr) (k : Ctx), nodes (plug .nil (f :: k)) = L0 → (cl (f :: k)).length = i0 → cl (f :: k) ++ (x, s, g) :: cr (f :: k) = L0.take i0 ++ (x, s, g) :: L0.drop i0 := by
      intro f k e1 e2
      rw [nodes_plug, show nodes T.nil = [] from rfl, List.append_nil] at e1
      rw [← e1, ← e2, List.take_left, List.drop_left]
    cases t' with
    | nil => exact absurd rfl hne
    | nd p s' g' c l r =>
      obtain ⟨dl, dr⟩ := hD.step
      obtain ⟨hp3, _, _⟩ := hD.rep
      have hsm := hD.sm
      simp only [T.size] at hsm hjs
      have hxne : x ≠ p := by
        rintro rfl
        simp only [cnt, if_true] at hcx3; omega
      have ev : iAdd .i64 ((l.size + r.size + 1 : Nat) : Int) 1 = ((l.size + r.size + 2 : Nat) : Int) := by rw [iadd_i (by omega)]; omega
      simp only [hdI, tlI, show (T.nd p s' g' c l r).ptr = p from rfl]
      rw [brT (nz_n hD.ok hp3), brT (nz_n hD.ok hp3), brT (okL_5 hD.ok hp3), brT (nz_n hD.ok hp3), brT (nz_n hD.ok hp3), brT (okS_n hD.ok hp3 rfl), sat_letm, gI_n hD.ok hp3]
      rw [ev, wr_sz hD.ok hp3]
      have hp4 : (S3.set p (stepN p s' g' c l r (topP k))).H p = some (stepN p s' g' c l r (topP k)) := by rw [set_H, upd_self]
      have hx4 : (S3.set p (stepN p s' g' c l r (topP k))).H x = some ⟨s, g, 0, 0, 0, 1, true⟩ := by rw [set_H, upd_ne _ hxne]; exact hx3
      have hl4 : S2.like (S3.set p (stepN p s' g' c l r (topP k))) := hl.trans (like_set hp3)
      rw [show S3.set p { s := s', g := g', l := l.ptr, r := r.ptr, u := topP k, n := ((l.size + r.size + 2 : Nat) : Int), c := c } = S3.set p (stepN p s' g' c l r (topP k)) from rfl]
      generalize S3.set p (stepN p s' g' c l r (topP k)) = S4 at dl dr hp4 hx4 hl4
      have ok4 := dl.ok
      obtain ⟨z1, z2⟩ := size_spec (b := b) ok4 (rep_has dl.rep)
      have z2 := z2.trans (rep_sz ok4 dl.rep)
      have gl : gP (S4.mem b) p 2 = l.ptr := gP_l ok4 hp4
      have gr : gP (S4.mem b) p 3 = r.ptr := gP_r ok4 hp4
      rw [gl, gr, brT (nz_n ok4 hp4), brT (nz_n ok4 hp4), brT (nz_n ok4 hp4), brT (okL_2 ok4 hp4), sat_req, z2]
      refine ⟨z1, ?_⟩
      have hcc : ∀ q, cnt q (.nd p s' g' c l r) = (if q = p then 1 else 0) + cnt q l + cnt q r := fun q => rfl
      by_cases hgo : (l.size : Int) < j
      · rw [brT (by simp only [iGt, decide_eq_true_eq]; omega), brT (nz_n ok4 hp4), brT (nz_n ok4 hp4), brT (nz_n ok4 hp4), brT (okL_3 ok4 hp4), brT (cmp_zero _ _)]
        obtain ⟨m, b1, b2, b3⟩ := RB_down (i := true) (p := p) (s := s') (g := g') (c := c) (x := r) (y := l) hrb hmr hrc
        cases r with
        | nil =>
          rw [brT (by rfl)]
          have hm : m = 0 := b1
          subst hm
          simp only [T.size] at hjs
          refine Dn.fin (l := fun m => .up (.memo (.u (.c (.li .i64 0))) m)) (f := Fr.mk true p s' g' c l) hl4 dr hx4 ?_ b3 (hcut (Fr.mk true p s' g' c l) k hL ?_) (fun S' hs => hQ S' hs)
          · simp only [cnt] at hcx3; simp only [ccnt]; omega
          · simp only [cl, List.length_append, len_nodes, List.length_cons, List.length_nil]; omega
        | nd rp rs rg rc rl rr =>
          rw [brF (show peq (T.nd rp rs rg rc rl rr).ptr 0 = false from peq_n ok4 dr.rep.1), brT (nz_n ok4 hp4), brT (nz_n ok4 hp4), brT (nz_n ok4 hp4), brT (okL_3 ok4 hp4), sat_req]
          refine ⟨by simp, ?_⟩
          rw [iadd_i (by omega), isub_i (by omega), show (j : Int) - ((l.size : Int) + 1) = ((j - (l.size + 1) : Nat) : Int) by omega]
          refine ⟨(T.nd rp rs rg rc rl rr).size, by simp only [T.size]; omega, S4, _, Fr.mk true p s' g' c l :: k, _, 1, m, rfl, rfl, hl4, dr, by simp, hx4, ?_, b1, b2, b3, hL, ?_, ?_⟩
          · simp only [cnt] at hcx3; simp only [cnt, ccnt]; omega
          · simp only [cl, List.length_append, len_nodes, List.length_cons, List.length_nil]; omega
          · omega
      · rw [brF (by simp only [iGt, decide_eq_false_iff_not]; omega), brT (nz_n ok4 hp4), brT (nz_n ok4 hp4), brT (nz_n ok4 hp4), brT (okL_2 ok4 hp4), brT (cmp_zero _ _)]
        obtain ⟨m, b1, b2, b3⟩ := RB_down (i := false) (p := p) (s := s') (g := g') (c := c) (x := l) (y := r) hrb hmr hrc
        cases l with
        | nil =>
          rw [brT (by rfl)]
          have hm : m = 0 := b1
          subst hm
          simp only [T.size] at hgo
          refine Dn.fin (l := fun m => .up (.memo (.u (.c (.li .i64 0))) m)) (f := Fr.mk false p s' g' c r) hl4 dl hx4 ?_ b3 (hcut (Fr.mk false p s' g' c r) k hL ?_) (fun S' hs => hQ S' hs)
          · simp only [cnt] at hcx3; simp only [ccnt]; omega
          · simp only [cl]; omega
        | nd rp rs rg rc rl rr =>
          rw [brF (show peq (T.nd rp rs rg rc rl rr).ptr 0 = false from peq_n ok4 dl.rep.1), brT (nz_n ok4 hp4), brT (nz_n ok4 hp4), brT (nz_n ok4 hp4), brT (okL_2 ok4 hp4), sat_req]
          refine ⟨by simp, ?_⟩
          refine ⟨(T.nd rp rs rg rc rl rr).size, by simp only [T.size]; omega, S4, _, Fr.mk false p s' g' c r :: k, j, 0, m, rfl, rfl, hl4, dl, by simp, hx4, ?_, b1, b2, b3, hL, ?_, ?_⟩
          · simp only [cnt] at hcx3; simp only [cnt, ccnt]; omega
          · simp only [cl]; omega
          · omega
end

/-! summaries -/
def insertP (m : Mem) (t i hs hg : Int) : Prop := ∃ G : TG, G.is m t ∧ G.t.size + 1 < 1152921504606846976 ∧ inI hs ∧ inU hg
def insertQ (m : Mem) (t i hs hg : Int) (y : Vars) : Prop := ∀ G : TG, (G.is m t ∧ G.t.size + 1 < 1152921504606846976 ∧ inI hs ∧ inU hg) → insPost G.S G.b (nodes G.t) i hs hg y
def s_insert : Sum := memSum 17 fun m a => match a with | [a0, a1, a2] => (match ptrOf a0, intOf a1, hanOf a2 with | some t, some i, some (hs, hg) => some ⟨insertP m t i hs hg, insertQ m t i hs hg, fun y => .u (.c (.si .i64 (hdI y.i)))⟩ | _, _, _ => none) | _ => none
theorem t_insert (m : Mem) (t : Int) (i : Int) (hs hg : Int) : runm Try.prog [s_size, s_len, s_settles] (drawl Try.prog [s_size, s_len, s_settles] (fun _ _ => some ⟨[1, 8, 9], [], [0, 7], []⟩)) 300 17 [.u (.c (.np t 0)), .u (.c (.si .i64 i)), .u (.agg [.si .i64 hs, .si .u64 hg])] m [98] = T_insert m t i hs hg := by kernel_rfl
theorem s_insert_ok : SumOK Try.prog s_insert := by
  refine memSum_ok ⟨_, Try.func17, by kernel_rfl⟩ fun m args ms h hp hw ρ w hm => ?_
  split at h
  · split at h
    · rename_i a0 a1 a2 _ _ _ t i hs hg h0 h1 h2
      cases h
      have hS : ∀ q ∈ [s_size, s_len, s_settles], SumOK Try.prog q := okc s_size_ok (okc s_len_ok (okc s_settles_ok okn))
      refine mm_ghost nameOK hS (drawl_sound nameOK hS (by kernel_rfl) _) 300 _ m _ (t_insert m t i hs hg) hp (fun G hG => ?_) ρ w hm (by simp only [List.map_cons, List.map_nil, ptrOf_den h0, intOf_den h1, hanOf_den h2])
      obtain ⟨⟨rfl, rfl, g1⟩, g2, g3, g4⟩ := hG
      refine sat_mono (fun l hl => ?_) (insert_walk g1 g2 g3 g4)
      cases l with
      | memo v x => exact ⟨hl.1, yOf_m _ _, hl.2⟩
      | _ => exact hl.elim
    · cases h
  · cases h
/-- a tree with nothing in it -/
def freshP (m : Mem) : Prop := True
def freshQ (m : Mem) (y : Vars) : Prop := ∃ S : TS, y.i = [S.p] ∧ y.m = S.mem m ∧ Tre S .nil 0 ∧ m S.t = none ∧ m S.q = none ∧ ∀ q, S.H q = none
def s_fresh : Sum := memSum 14 fun m a => match a with | [] => some ⟨freshP m, freshQ m, fun y => .u (.c (.np (hdI y.i) 0))⟩ | _ => none
theorem t_fresh (m : Mem)  : runm Try.prog [] (drawx Try.prog []) 300 14 [] m [98, 92, 95] = T_fresh m  := by kernel_rfl
theorem s_fresh_ok : SumOK Try.prog s_fresh := by
  refine memSum_ok ⟨_, Try.func14, by kernel_rfl⟩ fun m args ms h hp hw ρ w hm => ?_
  split at h
  · cases h
    refine (mm_ghost nameOK okn (dOK okn) 300 _ m _ (t_fresh m) (G := Unit) (pre := fun _ => True) (post := fun _ y => freshQ m y) (ret := fun y => .u (.c (.np (hdI y.i) 0))) ⟨(), trivial⟩ (fun _ _ => ?_) ρ w hm (by simp only [List.map_nil])).mono ?_
    · unfold T_fresh
      rw [sat_any]
      rintro ⟨yi, yb, yv, ym⟩ ⟨q, hq1, hq2, hq3⟩
      simp only at hq2 hq3
      subst hq2 hq3
      rw [sat_any]
      rintro ⟨zi, zb, zv, zm⟩ ⟨a, ha1, ha2, ha3⟩
      simp only at ha1 ha3
      subst ha1 ha3
      have hne : a ≠ q := by
        rintro rfl
        simp [alO] at ha2
      refine ⟨⟨⟨a, q, 0, #[], 0, fun _ => none⟩, rfl, ?_, ⟨⟨⟨hne, rfl, rfl, Int.le_refl _, fun p d h => by cases h⟩, trivial, rfl, fun _ => Nat.zero_le _, by simp [T.size, csize]⟩, rfl, rfl, ⟨by simp, by simp, by simp [nodes], by simp [nodes]⟩⟩, ?_, hq1, fun _ => rfl⟩, rfl, fun ρ => rfl⟩
      · funext c
        simp only [yOf_m, alM, TS.mem, alO, hdV]
        rw [show (((a : Int) + 1).toNat) = a + 1 by omega]
        by_cases e : c = a
        · subst e; simp; exact ⟨rfl, rfl⟩
        · by_cases e2 : c = q
          · subst e2; simp [e]
          · simp [e, e2]
      · simp only [alO] at ha2
        rw [if_neg hne] at ha2; exact ha2
    · rintro e w' ⟨y, h1, h2, h3⟩
      exact ⟨y, h1 () trivial, h2, h3⟩
  · cases h
end Go.Proofs.Ytnlohongffpkpaa.T16
