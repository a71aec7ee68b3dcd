/- Layer 16: TreeLow's walk. A text of the session's own. -/
import Derived.Test.YtnlohongffpkpaaT16Y
namespace Go.Proofs.Ytnlohongffpkpaa.T16
open Go Go.RowKit Go.Proofs.Ytnlohongffpkpaa.Sx Go.Proofs Go.WideShapes Go.ChangeShapes
set_option linter.unusedVariables false
set_option linter.unusedSimpArgs false

theorem Tre.inj {S : TS} {t : T} {n : Nat} (h : Tre S t n) {i j : Nat} {x : Int × Int} (hi : (hans t)[i]? = some x) (hj : (hans t)[j]? = some x) : i = j := by
  unfold hans at hi hj
  rw [List.getElem?_map] at hi hj
  obtain ⟨u, hu, hux⟩ := Option.map_eq_some_iff.1 hi
  obtain ⟨v, hv, hvx⟩ := Option.map_eq_some_iff.1 hj
  obtain ⟨e, he, hk, hw⟩ := h.en.fro u (List.mem_of_getElem? hu)
  obtain ⟨e', he', hk', hw'⟩ := h.en.fro v (List.mem_of_getElem? hv)
  have hkk : e.key = e'.key := by
    rw [← hvx] at hux
    simp only [Prod.mk.injEq] at hux
    rw [hk, hk', hux.1, hux.2]
  have hee : e = e' := by
    obtain ⟨a, ha⟩ := List.getElem?_of_mem he
    obtain ⟨c, hc⟩ := List.getElem?_of_mem he'
    have hac : a = c := by
      rcases Nat.lt_trichotomy a c with h1 | h1 | h1
      · have := List.pairwise_iff_getElem.1 h.en.ap a c (List.getElem?_eq_some_iff.1 ha).1 (List.getElem?_eq_some_iff.1 hc).1 h1
        rw [(List.getElem?_eq_some_iff.1 ha).2, (List.getElem?_eq_some_iff.1 hc).2] at this
        exact absurd hkk this
      · exact h1
      · have := List.pairwise_iff_getElem.1 h.en.ap c a (List.getElem?_eq_some_iff.1 hc).1 (List.getElem?_eq_some_iff.1 ha).1 h1
        rw [(List.getElem?_eq_some_iff.1 ha).2, (List.getElem?_eq_some_iff.1 hc).2] at this
        exact absurd hkk.symm this
    subst hac
    rw [ha] at hc; cases hc; rfl
  subst hee
  have hp := pv_inj (nodes_nn h.at' u (List.mem_of_getElem? hu)) (nodes_nn h.at' v (List.mem_of_getElem? hv)) (hw.symm.trans hw')
  have hi' : ((nodes t).map (·.1))[i]? = some u.1 := by simp [hu]
  have hj' : ((nodes t).map (·.1))[j]? = some u.1 := by simp [hv, hp]
  exact (List.getElem?_inj (List.getElem?_eq_some_iff.1 hi').1 (nodes_nodup h.at')).1 (hi'.trans hj'.symm)
theorem hans_nodes {t : T} {j : Nat} {x : Int × Int} (h : (hans t)[j]? = some x) : ∃ p, (nodes t)[j]? = some (p, x.1, x.2) := by
  unfold hans at h
  rw [List.getElem?_map] at h
  obtain ⟨u, hu, hux⟩ := Option.map_eq_some_iff.1 h
  exact ⟨u.1, by rw [hu, ← hux]⟩
theorem Tre.rng {S : TS} {t : T} {n : Nat} (h : Tre S t n) {x : Int × Int} (hx : x ∈ hans t) : inI x.1 ∧ inU x.2 := by
  obtain ⟨j, hj⟩ := List.getElem?_of_mem hx
  obtain ⟨p, hp⟩ := hans_nodes hj
  exact h.en.rng _ (List.mem_of_getElem? hp)
theorem at_ok {t : T} {a : Nat} {y : Vars} {x : Int × Int} (h : atPost (nodes t) a y) (hx : (hans t)[a]? = some x) : y.i = [x.1, x.2] ∧ y.b = [true] := by
  rcases h with ⟨j, p, s, g, e1, e2, e3, e4⟩ | ⟨e1, _⟩
  · have e1 : j = a := by omega
    subst e1
    rw [hans_get e2] at hx; cases hx
    exact ⟨e3, e4⟩
  · exfalso
    have := (List.getElem?_eq_some_iff.1 hx).1
    rw [len_nodes, ← len_hans] at e1; omega
theorem at_no {t : T} {a : Int} {y : Vars} (h : atPost (nodes t) a y) (hx : a < 0 ∨ (t.size : Int) ≤ a) : y.i = [0, 0] ∧ y.b = [false] := by
  rcases h with ⟨j, p, s, g, e1, e2, e3, e4⟩ | ⟨e1, e3, e4⟩
  · exfalso
    have := (List.getElem?_eq_some_iff.1 e2).1
    rw [len_nodes] at this; omega
  · exact ⟨e3, e4⟩
theorem rem_ok {S : TS} {b : Mem} {t : T} {n : Nat} (hT : Tre S t n) {s g : Int} {y : Vars} {a : Nat} (h : remPost S b t s g y) (hx : (hans t)[a]? = some (s, g)) :
    y.i = [(a : Int)] ∧ y.b = [true] ∧ ∃ (S' : TS) (t' : T) (n' : Nat), y.m = S'.mem b ∧ S'.t = S.t ∧ S'.q = S.q ∧ Tre S' t' n' ∧ hans t' = (hans t).eraseIdx a ∧ ∀ q, S'.H q = none ↔ S.H q = none := by
  rcases h with ⟨j, g1, g2, g3, r⟩ | ⟨g1, _⟩
  · obtain rfl := hT.inj g1 hx
    exact ⟨g2, g3, r⟩
  · exact absurd rfl (g1 _ (List.mem_of_getElem? hx))
theorem rem_no {S : TS} {b : Mem} {t : T} {s g : Int} {y : Vars} (h : remPost S b t s g y) (hx : ∀ x ∈ hans t, x ≠ (s, g)) : y.i = [0] ∧ y.b = [false] ∧ y.m = S.mem b := by
  rcases h with ⟨j, g1, _⟩ | ⟨_, r⟩
  · exact absurd rfl (hx _ (List.mem_of_getElem? g1))
  · exact r
/-- a slice of handles is made: the tree stays -/
theorem row_mem {S : TS} {b : Mem} {L : List (Int × Int)} {v : Value} {m' : Mem} (h : rowOf (S.mem b) L v m') : ∃ b', m' = S.mem b' ∧ (∀ a, b a ≠ none → b' a = b a) ∧ (Fre S b → Fre S b') := by
  rcases h with ⟨_, _, rfl⟩ | ⟨g, cap, cur, _, hg, rfl, _⟩
  · exact ⟨b, rfl, fun _ _ => rfl, id⟩
  · obtain ⟨f1, f2, f3⟩ := free_at hg
    have hb : b g = none := by simpa [TS.mem, f1, f2, f3] using hg
    refine ⟨alO b g (.cells cur 29 (0, 0)), ?_, fun a ha => ?_, fun hF => ⟨?_, ?_, fun a ha => ?_⟩⟩
    · funext a
      by_cases e : a = g
      · subst e; simp [alO, TS.mem, f1, f2, f3]
      · simp [alO, TS.mem, e]
    · have : a ≠ g := by rintro rfl; exact ha hb
      simp [alO, this]
    · simp [alO, Ne.symm f1, hF.t]
    · simp [alO, Ne.symm f2, hF.q]
    · have : a ≠ g := by rintro rfl; exact ha f3
      simp [alO, this, hF.H a ha]
def T_lowI (c : Int) (k l : Value) (y0 y1 : Vars) (a : Int) : Tr := (.req (insertP y1.4 (hdI y0.1) a (hdI y1.1) 1) (.any (insertQ y1.4 (hdI y0.1) a (hdI y1.1) 1) (fun y2 => (.br (iNe (hdI y2.1) 0) (.leaf (.up (.memo (.u (.c (.lb false))) y2.4))) (.req (atP y2.4 (hdI y0.1) a) (.any (atQ y2.4 (hdI y0.1) a) (fun y3 => (.br (bNot (hdB y3.2)) (.leaf (.up (.memo (.u (.c (.lb false))) y3.4))) (.br (bNot (bAnd (iEq (hdI y3.1) (hdI y1.1)) (iEq (hdI (tlI y3.1)) 1))) (.leaf (.up (.memo (.u (.c (.lb false))) y3.4))) (.req (deepsOK y3.4 (hdI y0.1)) (.req (lenOK y3.4 (hdI y0.1)) (.req (digitsOK y3.4 (iAdd .i64 (lenV y3.4 (hdI y0.1)) 1)) (.br (iGt (deepsV y3.4 (hdI y0.1)) (iMul .i64 2 (digitsV y3.4 (iAdd .i64 (lenV y3.4 (hdI y0.1)) 1)))) (.leaf (.up (.memo (.u (.c (.lb false))) y3.4))) (.req ((([(1, (.u (.c (.sv k)))), (2, (.u (.c (.sv l)))), (7, (.u (.c (.np (hdI y0.1) 0)))), (8, (.u (.c (.si .i64 (iRem (iConv .i64 c) 800)))))] : List (Nat × V)) = [(1, (.u (.c (.sv k)))), (2, (.u (.c (.sv l)))), (7, (.u (.c (.np (hdI y0.1) 0)))), (8, (.u (.c (.si .i64 (iRem (iConv .i64 c) 800)))))]) ∧ (([] : List (Nat × Blk)) = [])) (.leaf (.again (.mk [(iAdd .i64 (hdI y1.1) 1)] [] [] y3.4)))))))))))))))))
def T_lowE (y0 y2 : Vars) : Tr := (.req (allP y2.4 (hdI y0.1)) (.any (allQ y2.4 (hdI y0.1)) (fun y3 => (.br (isSlV (pl (hdV y3.3))) (.req (lenOK y3.4 (hdI y0.1)) (.br (iEq (slN (pl (hdV y3.3))) (lenV y3.4 (hdI y0.1))) (.leaf (.up (.up (.memo (.u (.c (.lb true))) y3.4)))) (.leaf (.up (.up (.memo (.u (.c (.lb false))) y3.4)))))) (.no 123)))))
def T_low (m : Mem) (c : Int) (k : Value) (l : Value) : Tr := (.br (isSlV (pl k)) (.br (iGt (slN (pl k)) 500) (.leaf (.memo (.u (.c (.lb true))) m)) (.br (isSlV (pl l)) (.br (iGt (slN (pl l)) 500) (.leaf (.memo (.u (.c (.lb true))) m)) (.req (freshP m) (.any (freshQ m) (fun y0 => (.lp (.mk [0] [] [] y0.4) (fun y1 j1 => (.br (iLt (hdI y1.1) (iRem (iConv .i64 c) 800)) (.br (isSlV (pl k)) (.br (iLt (hdI y1.1) (slN (pl k))) (.br (inSl (pl k) (hdI y1.1)) (.br (okL y1.4 (slB (pl k)) (aOff (slO (pl k)) (hdI y1.1) 1) [(.li .u16 0)]) (.br (iZero? (iAdd .i64 (hdI y1.1) 1)) (.no 11) (T_lowI c k l y0 y1 (iRem (iConv .i64 (gI y1.4 (slB (pl k)) (aOff (slO (pl k)) (hdI y1.1) 1))) (iAdd .i64 (hdI y1.1) 1)))) (.no 70)) (.no 104)) (T_lowI c k l y0 y1 (hdI y1.1))) (.no 123)) (.lp (.mk [0] [] [] y1.4) (fun y2 j2 => (.br (isSlV (pl l)) (.br (iLt (hdI y2.1) (slN (pl l))) (.req (lenOK y2.4 (hdI y0.1)) (.br (iGt (lenV y2.4 (hdI y0.1)) 0) (.br (inSl (pl l) (hdI y2.1)) (.br (okL y2.4 (slB (pl l)) (aOff (slO (pl l)) (hdI y2.1) 1) [(.li .u16 0)]) (.req (lenOK y2.4 (hdI y0.1)) (.br (iZero? (lenV y2.4 (hdI y0.1))) (.no 11) (.req (atP y2.4 (hdI y0.1) (iRem (iConv .i64 (gI y2.4 (slB (pl l)) (aOff (slO (pl l)) (hdI y2.1) 1))) (lenV y2.4 (hdI y0.1)))) (.any (atQ y2.4 (hdI y0.1) (iRem (iConv .i64 (gI y2.4 (slB (pl l)) (aOff (slO (pl l)) (hdI y2.1) 1))) (lenV y2.4 (hdI y0.1)))) (fun y3 => (.req (atP y3.4 (hdI y0.1) (iAdd .i64 (iRem (iConv .i64 (gI y2.4 (slB (pl l)) (aOff (slO (pl l)) (hdI y2.1) 1))) (lenV y2.4 (hdI y0.1))) 1)) (.any (atQ y3.4 (hdI y0.1) (iAdd .i64 (iRem (iConv .i64 (gI y2.4 (slB (pl l)) (aOff (slO (pl l)) (hdI y2.1) 1))) (lenV y2.4 (hdI y0.1))) 1)) (fun y4 => (.req (removeP y4.4 (hdI y0.1) (hdI y3.1) (hdI (tlI y3.1))) (.any (removeQ y4.4 (hdI y0.1) (hdI y3.1) (hdI (tlI y3.1))) (fun y5 => (.br (bNot (hdB y5.2)) (.leaf (.up (.up (.memo (.u (.c (.lb false))) y5.4)))) (.br (iNe (hdI y5.1) (iRem (iConv .i64 (gI y2.4 (slB (pl l)) (aOff (slO (pl l)) (hdI y2.1) 1))) (lenV y2.4 (hdI y0.1)))) (.leaf (.up (.up (.memo (.u (.c (.lb false))) y5.4)))) (.req (deepsOK y5.4 (hdI y0.1)) (.req (lenOK y5.4 (hdI y0.1)) (.req (digitsOK y5.4 (iAdd .i64 (lenV y5.4 (hdI y0.1)) 1)) (.br (iGt (deepsV y5.4 (hdI y0.1)) (iMul .i64 2 (digitsV y5.4 (iAdd .i64 (lenV y5.4 (hdI y0.1)) 1)))) (.leaf (.up (.up (.memo (.u (.c (.lb false))) y5.4)))) (.req (atP y5.4 (hdI y0.1) (iRem (iConv .i64 (gI y2.4 (slB (pl l)) (aOff (slO (pl l)) (hdI y2.1) 1))) (lenV y2.4 (hdI y0.1)))) (.any (atQ y5.4 (hdI y0.1) (iRem (iConv .i64 (gI y2.4 (slB (pl l)) (aOff (slO (pl l)) (hdI y2.1) 1))) (lenV y2.4 (hdI y0.1)))) (fun y6 => (.br (bNot (bEq (hdB y6.2) (hdB y4.2))) (.leaf (.up (.up (.memo (.u (.c (.lb false))) y6.4)))) (.br (hdB y6.2) (.br (bNot (bAnd (iEq (hdI y6.1) (hdI y4.1)) (iEq (hdI (tlI y6.1)) (hdI (tlI y4.1))))) (.leaf (.up (.up (.memo (.u (.c (.lb false))) y6.4)))) (.req ((([(2, (.u (.c (.sv l)))), (7, (.u (.c (.np (hdI y0.1) 0))))] : List (Nat × V)) = [(2, (.u (.c (.sv l)))), (7, (.u (.c (.np (hdI y0.1) 0))))]) ∧ (([] : List (Nat × Blk)) = [])) (.leaf (.again (.mk [(iAdd .i64 (hdI y2.1) 1)] [] [] y6.4))))) (.req ((([(2, (.u (.c (.sv l)))), (7, (.u (.c (.np (hdI y0.1) 0))))] : List (Nat × V)) = [(2, (.u (.c (.sv l)))), (7, (.u (.c (.np (hdI y0.1) 0))))]) ∧ (([] : List (Nat × Blk)) = [])) (.leaf (.again (.mk [(iAdd .i64 (hdI y2.1) 1)] [] [] y6.4)))))))))))))))))))))))))) (.no 70)) (.no 104)) (T_lowE y0 y2))) (T_lowE y0 y2)) (.no 123))))))))))) (.no 123))) (.no 123))
theorem lowI_walk {c : Int} {k l : Value} {m0 : Mem} {y0 : Vars} {S1 : TS} {t : T} {nn i a : Nat} (h0 : hdI y0.i = S1.p) (hT : Tre S1 t nn) (hF : Fre S1 m0) (hs : t.size = i) (hi : i < 800) (ha : a ≤ i) (hh : ∀ h ∈ hans t, h.1 < (i : Int)) {R : Leaf → Prop}
    (hR : ∀ (S2 : TS) (t2 : T) (n2 : Nat), S2.p = S1.p → Tre S2 t2 n2 → Fre S2 m0 → t2.size = i + 1 → (∀ h ∈ hans t2, h.1 < ((i + 1 : Nat) : Int)) → R (.again ⟨[((i + 1 : Nat) : Int)], [], [], S2.mem m0⟩)) :
    (T_lowI c k l y0 ⟨[(i : Int)], [], [], S1.mem m0⟩ a).sat R := by
  unfold T_lowI
  have hG0 : (TG.mk S1 m0 t nn).is (S1.mem m0) S1.p ∧ t.size + 1 < 1152921504606846976 ∧ inI (i : Int) ∧ inU 1 := ⟨⟨rfl, rfl, hT⟩, by omega, by unfold inI; omega, by unfold inU; omega⟩
  simp only [h0, show hdI [(i : Int)] = (i : Int) from rfl]
  rw [sat_req]
  refine ⟨⟨_, hG0⟩, ?_⟩
  rw [sat_any]
  rintro ⟨zi, zb, zv, zm⟩ hz
  obtain ⟨e3, S2, t2, n2, w, e4, et, eq, hT2, hN, hw, hd⟩ := ins_ok (a := a) (hz _ hG0) rfl (by simp only; omega) (by
    intro x hx e
    have := hh x hx
    rw [e] at this
    exact absurd this (Int.lt_irrefl _))
  simp only at e3 e4 et eq hN hw hd
  subst e3 e4
  have hF2 := hF.ins et eq hw hd
  have hp2 : S2.p = S1.p := by unfold TS.p; rw [et]
  have hl2 : (hans t2).length = i + 1 := by rw [hN, List.length_append, List.length_cons, List.length_take, List.length_drop, len_hans, hs]; omega
  have hs2 : t2.size = i + 1 := by rw [← len_hans, hl2]
  rw [brF (by simp [iNe, hdI]), sat_req, ← hp2]
  refine ⟨⟨⟨S2, m0, t2, n2⟩, rfl, rfl, hT2⟩, ?_⟩
  rw [sat_any]
  rintro ⟨ui, ub, uv, um⟩ hu
  obtain ⟨hu, hum⟩ := hu ⟨S2, m0, t2, n2⟩ ⟨rfl, rfl, hT2⟩
  simp only at hu hum
  subst hum
  have hat : (hans t2)[a]? = some ((i : Int), 1) := by
    have hl3 : ((hans t).take a).length = a := by rw [List.length_take, len_hans, hs]; omega
    rw [hN, List.getElem?_append_right (by omega), hl3, Nat.sub_self, List.getElem?_cons_zero]
  obtain ⟨g1, g2⟩ := at_ok hu hat
  simp only at g1 g2
  subst g1 g2
  obtain ⟨⟨d1, d2, d3⟩, d4⟩ := low_spec (b := m0) hT2 (by omega)
  rw [brF (by rfl), brF (by simp [hdI, tlI, iEq, bAnd, bNot]), sat_req]
  refine ⟨d1, ?_⟩
  rw [sat_req]
  refine ⟨d2, ?_⟩
  rw [sat_req]
  refine ⟨d3, ?_⟩
  rw [brF d4, sat_req]
  refine ⟨by simp, ?_⟩
  have := hR S2 t2 n2 hp2 hT2 hF2 hs2 (by
    intro h hm
    rw [hN] at hm
    rcases mem_ins hm with rfl | hm
    · simp only; omega
    · have := hh h hm; omega)
  rw [show (((i + 1 : Nat)) : Int) = iAdd .i64 (i : Int) 1 by rw [iadd_i (by omega)]; omega] at this
  exact this
theorem lowE_walk {m0 : Mem} {y0 : Vars} {S1 : TS} {t : T} {nn : Nat} {yi : List Int} {yb : List Bool} {yv : List Value} (h0 : hdI y0.i = S1.p) (hT : Tre S1 t nn) (hF : Fre S1 m0) (hs : t.size < 1000) {R : Leaf → Prop}
    (hR : ∀ zm, (∀ a, m0 a ≠ none → zm a = m0 a) → R (.up (.up (.memo tru zm)))) : (T_lowE y0 ⟨yi, yb, yv, S1.mem m0⟩).sat R := by
  unfold T_lowE
  simp only [h0]
  have hG0 : (TG.mk S1 m0 t nn).is (S1.mem m0) S1.p ∧ t.size < 1099511627776 := ⟨⟨rfl, rfl, hT⟩, by omega⟩
  rw [sat_req]
  refine ⟨⟨_, hG0⟩, ?_⟩
  rw [sat_any]
  rintro ⟨zi, zb, zv, zm⟩ hz
  have hz' := hz _ hG0
  obtain ⟨hR2, hmore⟩ := Row.of hz'
  obtain ⟨b', e1, e2, e3⟩ := row_mem hz'
  simp only at hR2 hmore e1 ⊢
  subst e1
  obtain ⟨l1, l2⟩ := len_spec (b := b') hT.at'
  rw [brT hR2.sl, sat_req]
  refine ⟨l1, ?_⟩
  rw [hR2.n, l2, len_hans, brT (by simp [iEq])]
  refine hR _ fun a ha => ?_
  have := hF.more a ha
  rw [hmore a (by rw [this]; exact ha), this]
set_option maxHeartbeats 4000000 in
theorem low_walk {k l : Value} {m0 : Mem} {ks xs : List Int} {c : Int} (hc : u16 c) (hK : Arg k ks m0) (hA : Arg l xs m0) : (T_low m0 c k l).sat (isMemo fun v m => v = tru ∧ ∀ a, m0 a ≠ none → m a = m0 a) := by
  unfold T_low
  obtain ⟨n, hn, hn2⟩ : ∃ n : Nat, iRem (iConv .i64 c) 800 = (n : Int) ∧ n < 800 := by
    rw [conv_u16 hc]
    unfold u16 at hc
    have e : iRem c 800 = c % 800 := by unfold iRem; rw [Int.tmod_eq_emod_of_nonneg hc.1]
    exact ⟨(c % 800).toNat, by rw [e]; omega, by omega⟩
  simp only [hn]
  rw [brT hK.sl, hK.n]
  by_cases hb1 : (500 : Int) < ks.length
  · rw [brT (by simp only [iGt, decide_eq_true_eq]; exact hb1)]
    exact ⟨rfl, fun _ _ => rfl⟩
  rw [brF (by simp only [iGt, decide_eq_false_iff_not]; exact hb1), brT hA.sl, hA.n]
  by_cases hb2 : (500 : Int) < xs.length
  · rw [brT (by simp only [iGt, decide_eq_true_eq]; exact hb2)]
    exact ⟨rfl, fun _ _ => rfl⟩
  rw [brF (by simp only [iGt, decide_eq_false_iff_not]; exact hb2), sat_req]
  refine ⟨trivial, ?_⟩
  rw [sat_any]
  rintro ⟨yi, yb, yv, ym⟩ ⟨S, hi, hm, hT0, ft, fq, fH⟩
  simp only at hi hm
  subst hi hm
  let J1 : Nat → Vars → Prop := fun N y => ∃ (S1 : TS) (t : T) (nn i : Nat), N = n - i ∧ y = ⟨[(i : Int)], [], [], S1.mem m0⟩ ∧ S1.p = S.p ∧ Tre S1 t nn ∧ Fre S1 m0 ∧ i ≤ n ∧ t.size = i ∧ ∀ h ∈ hans t, h.1 < (i : Int)
  refine lp_idx J1 (n0 := n) ⟨S, .nil, 0, 0, rfl, rfl, rfl, hT0, ⟨ft, fq, fun a h => absurd (fH _) h⟩, Nat.zero_le _, rfl, by simp [hans, nodes]⟩ ?_
  rintro N y _ ⟨S1, t, nn, i, rfl, rfl, hp, hT, hF, hi, hs, hh⟩
  simp only [hdI, tlI]
  by_cases hlt : i < n
  · rw [brT (by simp only [iLt, decide_eq_true_eq]; omega), brT hK.sl]
    have hK1 := hK.more hF.more
    have hgo : ∀ (y0 : Vars) (a : Nat), hdI y0.i = S1.p → a ≤ i → (T_lowI c k l y0 ⟨[(i : Int)], [], [], S1.mem m0⟩ a).sat (inLoopJ J1 (n - i) (isMemo fun v m => v = tru ∧ ∀ a, m0 a ≠ none → m a = m0 a)) := fun y0 a e ha =>
      lowI_walk e hT hF hs (by omega) ha hh fun S2 t2 n2 a1 a2 a3 a4 a5 => ⟨n - (i + 1), by omega, S2, t2, n2, i + 1, rfl, rfl, a1.trans hp, a2, a3, by omega, a4, a5⟩
    by_cases hjl : i < ks.length
    · obtain ⟨x, hx⟩ : ∃ x, ks[i]? = some x := ⟨ks[i], by rw [List.getElem?_eq_getElem hjl]⟩
      obtain ⟨q1, q2, q3⟩ := hK1.at' i x hx
      have hxr : u16 x := hK.rng x (List.mem_of_getElem? hx)
      have hi1 : iAdd .i64 (i : Int) 1 = ((i + 1 : Nat) : Int) := by rw [iadd_i (by omega)]; omega
      obtain ⟨a, ha, hal⟩ : ∃ a : Nat, iRem x ((i + 1 : Nat) : Int) = (a : Int) ∧ a ≤ i := by
        unfold u16 at hxr
        unfold iRem
        rw [Int.tmod_eq_emod_of_nonneg hxr.1]
        have h0 := Int.emod_nonneg x (show ((i + 1 : Nat) : Int) ≠ 0 by omega)
        have h1 := Int.emod_lt_of_pos x (show (0 : Int) < ((i + 1 : Nat) : Int) by omega)
        exact ⟨(x % ((i + 1 : Nat) : Int)).toNat, by omega, by omega⟩
      rw [brT (by simp only [iLt, decide_eq_true_eq]; omega), brT q1, brT q2, hi1, brF (by simp only [iZero?, decide_eq_false_iff_not]; first | omega | (simp; omega)), q3, conv_u16 hxr, ha]
      exact hgo _ a (by simp only [hdI]; exact hp.symm) hal
    · rw [brF (by simp only [iLt, decide_eq_false_iff_not]; omega)]
      exact hgo _ i (by simp only [hdI]; exact hp.symm) (Nat.le_refl _)
  rw [brF (by simp only [iLt, decide_eq_false_iff_not]; omega)]
  let J2 : Nat → Vars → Prop := fun N y => ∃ (S1 : TS) (t : T) (nn j : Nat), N = xs.length - j ∧ y = ⟨[(j : Int)], [], [], S1.mem m0⟩ ∧ S1.p = S.p ∧ Tre S1 t nn ∧ Fre S1 m0 ∧ t.size < 1000
  refine lp_idx J2 (n0 := xs.length) ⟨S1, t, nn, 0, rfl, rfl, hp, hT, hF, by omega⟩ ?_
  clear hp hT hF hh hs hlt hi S1 t nn
  rintro N y _ ⟨S1, t, nn, j, rfl, rfl, hp, hT, hF, hs⟩
  have hA1 := hA.more hF.more
  have hend : ∀ (y0 : Vars) (y2 : Vars), hdI y0.i = S1.p → y2.m = S1.mem m0 → (T_lowE y0 y2).sat (inLoopJ J2 (xs.length - j) (inLoopJ J1 (n - i) (isMemo fun v m => v = tru ∧ ∀ a, m0 a ≠ none → m a = m0 a))) := by
    rintro y0 ⟨_, _, _, _⟩ e1 e2
    simp only at e2; subst e2
    exact lowE_walk e1 hT hF hs fun zm hz => ⟨rfl, hz⟩
  simp only [hdI, tlI]
  rw [brT hA.sl, ← hp]
  obtain ⟨l1, l2⟩ := len_spec (b := m0) hT.at'
  by_cases hjl : j < xs.length
  · rw [brT (by simp only [iLt, decide_eq_true_eq]; omega), sat_req, l2]
    refine ⟨l1, ?_⟩
    by_cases hz : 0 < t.size
    · obtain ⟨x, hx⟩ : ∃ x, xs[j]? = some x := ⟨xs[j], by rw [List.getElem?_eq_getElem hjl]⟩
      obtain ⟨q1, q2, q3⟩ := hA1.at' j x hx
      have hxr : u16 x := hA.rng x (List.mem_of_getElem? hx)
      obtain ⟨a, ha, hal⟩ : ∃ a : Nat, iRem x (t.size : Int) = (a : Int) ∧ a < t.size := by
        unfold u16 at hxr
        unfold iRem
        rw [Int.tmod_eq_emod_of_nonneg hxr.1]
        have h0 := Int.emod_nonneg x (show (t.size : Int) ≠ 0 by omega)
        have h1 := Int.emod_lt_of_pos x (show (0 : Int) < (t.size : Int) by omega)
        exact ⟨(x % (t.size : Int)).toNat, by omega, by omega⟩
      have ha1 : iAdd .i64 (a : Int) 1 = ((a + 1 : Nat) : Int) := by rw [iadd_i (by omega)]; omega
      simp only [q3, conv_u16 hxr, ha, ha1]
      rw [brT (by simp only [iGt, decide_eq_true_eq]; omega), brT q1, brT q2, sat_req]
      refine ⟨l1, ?_⟩
      rw [brF (by simp only [iZero?, decide_eq_false_iff_not]; first | omega | (simp; omega)), sat_req]
      refine ⟨⟨⟨S1, m0, t, nn⟩, rfl, rfl, hT⟩, ?_⟩
      rw [sat_any]
      rintro ⟨ui, ub, uv, um⟩ hu
      obtain ⟨hu, hum⟩ := hu ⟨S1, m0, t, nn⟩ ⟨rfl, rfl, hT⟩
      simp only at hu hum
      subst hum
      obtain ⟨⟨s, g⟩, hx1⟩ : ∃ x, (hans t)[a]? = some x := ⟨(hans t)[a]'(by rw [len_hans]; exact hal), by rw [List.getElem?_eq_getElem (by rw [len_hans]; exact hal)]⟩
      obtain ⟨g1, g2⟩ := at_ok hu hx1
      simp only at g1 g2
      subst g1 g2
      obtain ⟨r1, r2⟩ := hT.rng (List.mem_of_getElem? hx1)
      rw [sat_req]
      refine ⟨⟨⟨S1, m0, t, nn⟩, rfl, rfl, hT⟩, ?_⟩
      rw [sat_any]
      rintro ⟨vi, vb, vv, vm⟩ hv
      obtain ⟨hv, hvm⟩ := hv ⟨S1, m0, t, nn⟩ ⟨rfl, rfl, hT⟩
      simp only at hv hvm
      subst hvm
      simp only [hdI, tlI]
      have hG2 : (TG.mk S1 m0 t nn).is (S1.mem m0) S1.p ∧ inI s ∧ inU g := ⟨⟨rfl, rfl, hT⟩, r1, r2⟩
      rw [sat_req]
      refine ⟨⟨_, hG2⟩, ?_⟩
      rw [sat_any]
      rintro ⟨wi, wb, wv, wm⟩ hw
      obtain ⟨e1, e2, S3, t3, n3, e3, f2, f3, hT3, hN3, fd⟩ := rem_ok hT (hw _ hG2) hx1
      simp only at e1 e2 e3 f2 f3 hN3 fd
      subst e1 e2 e3
      have hF3 := hF.rem f2 f3 fd
      have hp3 : S3.p = S1.p := by unfold TS.p; rw [f2]
      have hl3 : (hans t3).length = t.size - 1 := by rw [hN3, List.length_eraseIdx_of_lt (by rw [len_hans]; exact hal), len_hans]
      have hs3 : t3.size = t.size - 1 := by rw [← len_hans, hl3]
      obtain ⟨⟨d1, d2, d3⟩, d4⟩ := low_spec (b := m0) hT3 (by omega)
      simp only [hdI, hdB]
      rw [brF (by rfl), brF (by simp [iNe]), ← hp3, sat_req]
      refine ⟨d1, ?_⟩
      rw [sat_req]
      refine ⟨d2, ?_⟩
      rw [sat_req]
      refine ⟨d3, ?_⟩
      rw [brF d4, sat_req]
      refine ⟨⟨⟨S3, m0, t3, n3⟩, rfl, rfl, hT3⟩, ?_⟩
      rw [sat_any]
      rintro ⟨xi, xb, xv, xm⟩ hxx
      obtain ⟨hxx, hxm⟩ := hxx ⟨S3, m0, t3, n3⟩ ⟨rfl, rfl, hT3⟩
      simp only at hxx hxm
      subst hxm
      have hag : inLoopJ J2 (xs.length - j) (inLoopJ J1 (n - i) (isMemo fun v m => v = tru ∧ ∀ a, m0 a ≠ none → m a = m0 a)) (.again ⟨[iAdd .i64 (j : Int) 1], [], [], S3.mem m0⟩) := by
        rw [iadd_i (by omega), show (j : Int) + 1 = ((j + 1 : Nat) : Int) by omega]
        exact ⟨xs.length - (j + 1), by omega, S3, t3, n3, j + 1, rfl, rfl, hp3.trans hp, hT3, hF3, by omega⟩
      by_cases hla : a + 1 < t.size
      · obtain ⟨u, hu1⟩ : ∃ x, (hans t)[a + 1]? = some x := ⟨(hans t)[a + 1]'(by rw [len_hans]; exact hla), by rw [List.getElem?_eq_getElem (by rw [len_hans]; exact hla)]⟩
        have hu3 : (hans t3)[a]? = some u := by rw [hN3, List.getElem?_eraseIdx_of_ge (Nat.le_refl _)]; exact hu1
        obtain ⟨g1, g2⟩ := at_ok hv hu1
        obtain ⟨k1, k2⟩ := at_ok hxx hu3
        simp only at g1 g2 k1 k2
        subst g1 g2 k1 k2
        rw [brF (by rfl), brT (by rfl), brF (by simp [hdI, tlI, iEq, bAnd, bNot]), sat_req]
        exact ⟨by simp, hag⟩
      · obtain ⟨g1, g2⟩ := at_no hv (.inr (by omega))
        obtain ⟨k1, k2⟩ := at_no hxx (.inr (by omega))
        simp only at g1 g2 k1 k2
        subst g1 g2 k1 k2
        rw [brF (by rfl), brF (by rfl), sat_req]
        exact ⟨by simp, hag⟩
    · rw [brF (by simp only [iGt, decide_eq_false_iff_not]; omega)]
      exact hend _ _ (by simp only [hdI]) rfl
  · rw [brF (by simp only [iLt, decide_eq_false_iff_not]; omega)]
    exact hend _ _ (by simp only [hdI]) rfl
end Go.Proofs.Ytnlohongffpkpaa.T16
