/- Layer 16: TreeOrder's walk. A text of the session's own. -/
import Derived.Test.YtnlohongffpkpaaT16N
namespace Go.Proofs.Ytnlohongffpkpaa.T16
open Go Go.RowKit Go.Proofs.Ytnlohongffpkpaa.Sx Go.Proofs
set_option linter.unusedVariables false
set_option linter.unusedSimpArgs false

def lt2 (a b : Int × Int) : Prop := a.1 < b.1 ∨ (a.1 = b.1 ∧ a.2 < b.2)
theorem ins_pw {α : Type} {r : α → α → Prop} {hs : List α} {i : Nat} {x : α} (h : hs.Pairwise r) (h1 : ∀ j y, j < i → hs[j]? = some y → r y x) (h2 : ∀ j y, i ≤ j → hs[j]? = some y → r x y) : (hs.take i ++ x :: hs.drop i).Pairwise r := by
  have h0 := h
  rw [← List.take_append_drop i hs, List.pairwise_append] at h0
  obtain ⟨a1, a2, a3⟩ := h0
  rw [List.pairwise_append, List.pairwise_cons]
  refine ⟨a1, ⟨fun y hy => ?_, a2⟩, fun a ha b hb => ?_⟩
  · obtain ⟨j, hj⟩ := List.getElem?_of_mem hy
    rw [List.getElem?_drop] at hj
    exact h2 _ y (by omega) hj
  · rcases List.mem_cons.1 hb with rfl | hb
    · obtain ⟨j, hj⟩ := List.getElem?_of_mem ha
      by_cases hji : j < i
      · rw [List.getElem?_take_of_lt hji] at hj
        exact h1 j a hji hj
      · rw [List.getElem?_eq_none (by rw [List.length_take]; omega)] at hj; cases hj
    · exact a3 a ha b hb
theorem hans_ins {t t' : T} {i : Nat} {p s g : Int} (h : nodes t' = (nodes t).take i ++ (p, s, g) :: (nodes t).drop i) : hans t' = (hans t).take i ++ (s, g) :: (hans t).drop i := by
  simp [hans, h, List.map_take, List.map_drop]
theorem hans_get {t : T} {j : Nat} {p s g : Int} (h : (nodes t)[j]? = some (p, s, g)) : (hans t)[j]? = some (s, g) := by
  simp [hans, h]
theorem mem_ins {α : Type} {hs : List α} {i : Nat} {x y : α} (h : y ∈ hs.take i ++ x :: hs.drop i) : y = x ∨ y ∈ hs := by
  rcases List.mem_append.1 h with h | h
  · exact .inr (List.mem_of_mem_take h)
  · rcases List.mem_cons.1 h with h | h
    · exact .inl h
    · exact .inr (List.mem_of_mem_drop h)
theorem conv_u16 {x : Int} (h : u16 x) : iConv .i64 x = x := by unfold u16 at h; rw [conv_i]; omega
theorem half {a b : Nat} (h : a + b < 4611686018427387904) : iQuo .i64 (iAdd .i64 (a : Int) (b : Int)) 2 = (((a + b) / 2 : Nat) : Int) := by
  rw [iadd_i (by omega)]
  unfold iQuo
  rw [IntKind.wrap_i64]
  have : ((a : Int) + (b : Int)).tdiv 2 = (((a + b) / 2 : Nat) : Int) := by
    rw [← Int.natCast_add]
    exact (Int.ofNat_tdiv (a + b) 2)
  rw [this]; omega
def T_order (m : Mem) (l : Value) : Tr := (.br (isSlV (pl l)) (.br (iGt (slN (pl l)) 300) (.leaf (.memo (.u (.c (.lb true))) m)) (.req (freshP m) (.any (freshQ m) (fun y0 => (.lp (.mk [0] [] [] y0.4) (fun y1 j1 => (.br (isSlV (pl l)) (.br (iLt (hdI y1.1) (slN (pl l))) (.req (lenOK y1.4 (hdI y0.1)) (.lp (.mk [0, (lenV y1.4 (hdI y0.1))] [] [] y1.4) (fun y2 j2 => (.br (iLt (hdI y2.1) (hdI (tlI y2.1))) (.req (atP y2.4 (hdI y0.1) (iQuo .i64 (iAdd .i64 (hdI y2.1) (hdI (tlI y2.1))) 2)) (.any (atQ y2.4 (hdI y0.1) (iQuo .i64 (iAdd .i64 (hdI y2.1) (hdI (tlI y2.1))) 2)) (fun y3 => (.br (inSl (pl l) (hdI y1.1)) (.br (okL y3.4 (slB (pl l)) (aOff (slO (pl l)) (hdI y1.1) 1) [(.li .u16 0)]) (.br (iLt (iConv .i64 (gI y3.4 (slB (pl l)) (aOff (slO (pl l)) (hdI y1.1) 1))) (hdI y3.1)) (.req ((([(0, (.u (.c (.sv l)))), (3, (.u (.c (.np (hdI y0.1) 0)))), (4, (.u (.c (.si .i64 (hdI y1.1)))))] : List (Nat × V)) = [(0, (.u (.c (.sv l)))), (3, (.u (.c (.np (hdI y0.1) 0)))), (4, (.u (.c (.si .i64 (hdI y1.1)))))]) ∧ (([] : List (Nat × Blk)) = [])) (.leaf (.again (.mk [(hdI y2.1), (iQuo .i64 (iAdd .i64 (hdI y2.1) (hdI (tlI y2.1))) 2)] [] [] y3.4)))) (.req ((([(0, (.u (.c (.sv l)))), (3, (.u (.c (.np (hdI y0.1) 0)))), (4, (.u (.c (.si .i64 (hdI y1.1)))))] : List (Nat × V)) = [(0, (.u (.c (.sv l)))), (3, (.u (.c (.np (hdI y0.1) 0)))), (4, (.u (.c (.si .i64 (hdI y1.1)))))]) ∧ (([] : List (Nat × Blk)) = [])) (.leaf (.again (.mk [(iAdd .i64 (iQuo .i64 (iAdd .i64 (hdI y2.1) (hdI (tlI y2.1))) 2) 1), (hdI (tlI y2.1))] [] [] y3.4))))) (.no 70)) (.no 104))))) (.br (inSl (pl l) (hdI y1.1)) (.br (okL y2.4 (slB (pl l)) (aOff (slO (pl l)) (hdI y1.1) 1) [(.li .u16 0)]) (.req (insertP y2.4 (hdI y0.1) (hdI y2.1) (iConv .i64 (gI y2.4 (slB (pl l)) (aOff (slO (pl l)) (hdI y1.1) 1))) (iConv .u64 (hdI y1.1))) (.any (insertQ y2.4 (hdI y0.1) (hdI y2.1) (iConv .i64 (gI y2.4 (slB (pl l)) (aOff (slO (pl l)) (hdI y1.1) 1))) (iConv .u64 (hdI y1.1))) (fun y3 => (.br (iNe (hdI y3.1) 0) (.leaf (.up (.up (.memo (.u (.c (.lb false))) y3.4)))) (.req ((([(0, (.u (.c (.sv l)))), (3, (.u (.c (.np (hdI y0.1) 0))))] : List (Nat × V)) = [(0, (.u (.c (.sv l)))), (3, (.u (.c (.np (hdI y0.1) 0))))]) ∧ (([] : List (Nat × Blk)) = [])) (.leaf (.up (.again (.mk [(iAdd .i64 (hdI y1.1) 1)] [] [] y3.4))))))))) (.no 70)) (.no 104)))))) (.req (allP y1.4 (hdI y0.1)) (.any (allQ y1.4 (hdI y0.1)) (fun y2 => (.lp (.mk [1] [] [] y2.4) (fun y3 j3 => (.br (isSlV (pl (hdV y2.3))) (.br (iLt (hdI y3.1) (slN (pl (hdV y2.3)))) (.br (inSl (pl (hdV y2.3)) (iSub .i64 (hdI y3.1) 1)) (.br (nzp (slB (pl (hdV y2.3)))) (.br (okL y3.4 (slB (pl (hdV y2.3))) (aOff (slO (pl (hdV y2.3))) (iSub .i64 (hdI y3.1) 1) 2) [(.li .i64 0)]) (.br (inSl (pl (hdV y2.3)) (hdI y3.1)) (.br (nzp (slB (pl (hdV y2.3)))) (.br (okL y3.4 (slB (pl (hdV y2.3))) (aOff (slO (pl (hdV y2.3))) (hdI y3.1) 2) [(.li .i64 0)]) (.br (iGt (gI y3.4 (slB (pl (hdV y2.3))) (aOff (slO (pl (hdV y2.3))) (iSub .i64 (hdI y3.1) 1) 2)) (gI y3.4 (slB (pl (hdV y2.3))) (aOff (slO (pl (hdV y2.3))) (hdI y3.1) 2))) (.leaf (.up (.up (.memo (.u (.c (.lb false))) y3.4)))) (.br (inSl (pl (hdV y2.3)) (iSub .i64 (hdI y3.1) 1)) (.br (nzp (slB (pl (hdV y2.3)))) (.br (okL y3.4 (slB (pl (hdV y2.3))) (aOff (slO (pl (hdV y2.3))) (iSub .i64 (hdI y3.1) 1) 2) [(.li .i64 0)]) (.br (inSl (pl (hdV y2.3)) (hdI y3.1)) (.br (nzp (slB (pl (hdV y2.3)))) (.br (okL y3.4 (slB (pl (hdV y2.3))) (aOff (slO (pl (hdV y2.3))) (hdI y3.1) 2) [(.li .i64 0)]) (.br (iEq (gI y3.4 (slB (pl (hdV y2.3))) (aOff (slO (pl (hdV y2.3))) (iSub .i64 (hdI y3.1) 1) 2)) (gI y3.4 (slB (pl (hdV y2.3))) (aOff (slO (pl (hdV y2.3))) (hdI y3.1) 2))) (.br (inSl (pl (hdV y2.3)) (iSub .i64 (hdI y3.1) 1)) (.br (nzp (slB (pl (hdV y2.3)))) (.br (okL y3.4 (slB (pl (hdV y2.3))) (.succ (aOff (slO (pl (hdV y2.3))) (iSub .i64 (hdI y3.1) 1) 2)) [(.li .u64 0)]) (.br (inSl (pl (hdV y2.3)) (hdI y3.1)) (.br (nzp (slB (pl (hdV y2.3)))) (.br (okL y3.4 (slB (pl (hdV y2.3))) (.succ (aOff (slO (pl (hdV y2.3))) (hdI y3.1) 2)) [(.li .u64 0)]) (.br (iGt (gI y3.4 (slB (pl (hdV y2.3))) (.succ (aOff (slO (pl (hdV y2.3))) (iSub .i64 (hdI y3.1) 1) 2))) (gI y3.4 (slB (pl (hdV y2.3))) (.succ (aOff (slO (pl (hdV y2.3))) (hdI y3.1) 2)))) (.leaf (.up (.up (.memo (.u (.c (.lb false))) y3.4)))) (.req ((([(0, (.u (.c (.sv l)))), (11, (.u (.c (.sv (hdV y2.3)))))] : List (Nat × V)) = [(0, (.u (.c (.sv l)))), (11, (.u (.c (.sv (hdV y2.3)))))]) ∧ (([] : List (Nat × Blk)) = [])) (.leaf (.again (.mk [(iAdd .i64 (hdI y3.1) 1)] [] [] y3.4))))) (.no 70)) (.no 76)) (.no 104)) (.no 70)) (.no 76)) (.no 104)) (.req ((([(0, (.u (.c (.sv l)))), (11, (.u (.c (.sv (hdV y2.3)))))] : List (Nat × V)) = [(0, (.u (.c (.sv l)))), (11, (.u (.c (.sv (hdV y2.3)))))]) ∧ (([] : List (Nat × Blk)) = [])) (.leaf (.again (.mk [(iAdd .i64 (hdI y3.1) 1)] [] [] y3.4))))) (.no 70)) (.no 76)) (.no 104)) (.no 70)) (.no 76)) (.no 104))) (.no 70)) (.no 76)) (.no 104)) (.no 70)) (.no 76)) (.no 104)) (.br (isSlV (pl (hdV y2.3))) (.br (isSlV (pl l)) (.br (iEq (slN (pl (hdV y2.3))) (slN (pl l))) (.leaf (.up (.up (.memo (.u (.c (.lb true))) y3.4)))) (.leaf (.up (.up (.memo (.u (.c (.lb false))) y3.4))))) (.no 123)) (.no 123))) (.no 123)))))))) (.no 123)))))))) (.no 123))
def tru : V := .u (.c (.lb true))
theorem order_walk {l : Value} {m0 : Mem} {xs : List Int} (hA : Arg l xs m0) : (T_order m0 l).sat (isMemo fun v m => v = tru ∧ ∀ a, m0 a ≠ none → m a = m0 a) := by
  unfold T_order
  rw [brT hA.sl, hA.n]
  by_cases hbig : (300 : Int) < xs.length
  · rw [brT (by simp only [iGt, decide_eq_true_eq]; exact hbig)]
    exact ⟨rfl, fun _ _ => rfl⟩
  rw [brF (by simp only [iGt, decide_eq_false_iff_not]; exact hbig), sat_req]
  refine ⟨trivial, ?_⟩
  rw [sat_any]
  rintro ⟨yi, yb, yv, ym⟩ ⟨S, hi, hm, hT0, ft, fq, fH⟩
  simp only at hi hm
  subst hi hm
  let J1 : Nat → Vars → Prop := fun N y => ∃ (S1 : TS) (t : T) (n i : Nat), N = xs.length - i ∧ y = ⟨[(i : Int)], [], [], S1.mem m0⟩ ∧ S1.p = S.p ∧ Tre S1 t n ∧ Fre S1 m0 ∧ t.size = i ∧ i ≤ xs.length ∧ (hans t).Pairwise lt2 ∧ ∀ h ∈ hans t, u16 h.1 ∧ 0 ≤ h.2 ∧ h.2 < i
  refine lp_idx J1 (n0 := xs.length) ⟨S, .nil, 0, 0, rfl, rfl, rfl, hT0, ⟨ft, fq, fun a h => absurd (fH _) h⟩, rfl, Nat.zero_le _, by simp [hans, nodes], by simp [hans, nodes]⟩ ?_
  rintro N y _ ⟨S1, t, n, i, rfl, rfl, hp, hT, hF, hs, hi, hP, hG⟩
  have hA1 := hA.more hF.more
  have hlen : (hans t).length = i := by rw [len_hans, hs]
  simp only [hdI, tlI]
  rw [← hp, brT hA.sl]
  by_cases hlt : i < xs.length
  · rw [brT (by simp only [iLt, decide_eq_true_eq]; omega), sat_req]
    obtain ⟨l1, l2⟩ := len_spec (b := m0) hT.at'
    refine ⟨l1, ?_⟩
    rw [l2, hs]
    obtain ⟨x, hx⟩ : ∃ x, xs[i]? = some x := ⟨xs[i], by rw [List.getElem?_eq_getElem hlt]⟩
    obtain ⟨q1, q2, q3⟩ := hA1.at' i x hx
    have hxr : u16 x := hA.rng x (List.mem_of_getElem? hx)
    let J2 : Nat → Vars → Prop := fun N y => ∃ (lo hi : Nat), N = hi - lo ∧ y = ⟨[(lo : Int), (hi : Int)], [], [], S1.mem m0⟩ ∧ lo ≤ hi ∧ hi ≤ i ∧ (∀ j h, j < lo → (hans t)[j]? = some h → h.1 ≤ x) ∧ (∀ j h, hi ≤ j → (hans t)[j]? = some h → x < h.1)
    refine lp_idx J2 (n0 := i) ⟨0, i, rfl, rfl, Nat.zero_le _, Nat.le_refl _, fun j h hj => absurd hj (Nat.not_lt_zero _), fun j h hj hh => ?_⟩ ?_
    · have := (List.getElem?_eq_some_iff.1 hh).1; omega
    rintro N y _ ⟨lo, hi', rfl, rfl, h1, h2, h3, h4⟩
    simp only [hdI, tlI]
    by_cases hlh : lo < hi'
    · rw [brT (by simp only [iLt, decide_eq_true_eq]; omega), half (by omega), sat_req]
      refine ⟨⟨⟨S1, m0, t, n⟩, rfl, rfl, hT⟩, ?_⟩
      rw [sat_any]
      rintro ⟨zi, zb, zv, zm⟩ hz
      obtain ⟨hz, hzm⟩ := hz ⟨S1, m0, t, n⟩ ⟨rfl, rfl, hT⟩
      simp only at hzm hz
      subst hzm
      rcases hz with ⟨j, p, s, g, e1, e2, e3, e4⟩ | ⟨e1, _, _⟩
      · have e1 : (lo + hi') / 2 = j := by omega
        subst e1
        simp only at e3
        subst e3
        have hg := hans_get e2
        have hcmp : ∀ {a b : Nat} {u v : Int × Int}, a < b → (hans t)[a]? = some u → (hans t)[b]? = some v → u.1 ≤ v.1 := by
          intro a b u v hab hu hv
          have hb := (List.getElem?_eq_some_iff.1 hv).1
          have := List.pairwise_iff_getElem.1 hP a b (by omega) hb hab
          rw [(List.getElem?_eq_some_iff.1 hu).2, (List.getElem?_eq_some_iff.1 hv).2] at this
          rcases this with h | h <;> omega
        simp only [hdI]
        rw [brT q1, brT q2, q3, conv_u16 hxr]
        by_cases hxs : x < s
        · rw [brT (by simp only [iLt, decide_eq_true_eq]; exact hxs), sat_req]
          refine ⟨by simp, (lo + hi') / 2 - lo, by omega, lo, (lo + hi') / 2, rfl, rfl, by omega, by omega, h3, fun j h hj hh => ?_⟩
          rcases Nat.eq_or_lt_of_le hj with e | e
          · subst e; rw [hg] at hh; cases hh; exact hxs
          · have := hcmp e hg hh; simp only at this; omega
        · rw [brF (by simp only [iLt, decide_eq_false_iff_not]; exact hxs), sat_req]
          rw [iadd_i (by omega), show (((lo + hi') / 2 : Nat) : Int) + 1 = (((lo + hi') / 2 + 1 : Nat) : Int) by omega]
          refine ⟨by simp, hi' - ((lo + hi') / 2 + 1), by omega, (lo + hi') / 2 + 1, hi', rfl, rfl, by omega, by omega, fun j h hj hh => ?_, h4⟩
          rcases Nat.eq_or_lt_of_le (Nat.le_of_lt_succ hj) with e | e
          · subst e; rw [hg] at hh; cases hh; simp only; omega
          · have := hcmp e hh hg; simp only at this; omega
      · exfalso
        rw [len_nodes] at e1; omega
    · have e : lo = hi' := by omega
      subst e
      have hiu : iConv .u64 (i : Int) = (i : Int) := by rw [conv_u]; omega
      rw [brF (by simp only [iLt, decide_eq_false_iff_not]; omega), brT q1, brT q2, q3, conv_u16 hxr, hiu, sat_req]
      have hG0 : (TG.mk S1 m0 t n).is (S1.mem m0) S1.p ∧ t.size + 1 < 1152921504606846976 ∧ inI x ∧ inU (i : Int) := ⟨⟨rfl, rfl, hT⟩, by omega, by unfold u16 at hxr; unfold inI; omega, by unfold inU; omega⟩
      refine ⟨⟨_, hG0⟩, ?_⟩
      rw [sat_any]
      rintro ⟨zi, zb, zv, zm⟩ hz
      have hz := hz _ hG0
      simp only [insPost] at hz
      rw [len_nodes] at hz
      rcases hz with ⟨e1, _⟩ | ⟨_, _, ⟨⟨p, s, g⟩, e1, rfl, rfl⟩, _⟩ | ⟨_, _, _, e3, S2, t2, n2, a, rfl, et, eq, hT2, hn, ha, hd⟩
      · exfalso; omega
      · exfalso
        have := hG (s, (i : Int)) (by unfold hans; exact List.mem_map.2 ⟨_, e1, rfl⟩)
        simp only at this; omega
      · subst e3
        rw [Int.toNat_natCast] at hn
        have hh := hans_ins hn
        rw [brF (by simp [iNe, hdI]), sat_req]
        refine ⟨by simp, ?_⟩
        rw [iadd_i (by omega), show (i : Int) + 1 = ((i + 1 : Nat) : Int) by omega]
        refine ⟨xs.length - (i + 1), by omega, S2, t2, n2, i + 1, rfl, rfl, ?_, hT2, hF.ins et eq ha hd, ?_, by omega, ?_, ?_⟩
        · rw [← hp]; unfold TS.p; rw [et]
        · rw [← len_nodes, hn]; simp [len_nodes]; omega
        · rw [hh]
          refine ins_pw hP (fun j y hj hy => ?_) fun j y hj hy => ?_
          · have g1 := h3 j y hj hy
            have g2 := hG y (List.mem_of_getElem? hy)
            unfold lt2; simp only; omega
          · have := h4 j y hj hy
            exact .inl this
        · intro h hm
          rw [hh] at hm
          rcases mem_ins hm with rfl | hm
          · exact ⟨hxr, by simp only; omega, by simp only; omega⟩
          · have := hG h hm; exact ⟨this.1, this.2.1, by omega⟩
  · have e : i = xs.length := by omega
    rw [brF (by simp only [iLt, decide_eq_false_iff_not]; omega), sat_req]
    have hG0 : (TG.mk S1 m0 t n).is (S1.mem m0) S1.p ∧ t.size < 1099511627776 := ⟨⟨rfl, rfl, hT⟩, by omega⟩
    refine ⟨⟨_, hG0⟩, ?_⟩
    rw [sat_any]
    rintro ⟨zi, zb, zv, zm⟩ hz
    obtain ⟨hR, hmore⟩ := Row.of (hz _ hG0)
    simp only at hR hmore ⊢
    generalize hdV zv = v at hR
    have hfin : ∀ a, m0 a ≠ none → zm a = m0 a := fun a ha => by
      have := hF.more a ha
      rw [hmore a (by rw [this]; exact ha), this]
    let J3 : Nat → Vars → Prop := fun N y => ∃ (j : Nat), N = xs.length + 1 - j ∧ y = ⟨[(j : Int)], [], [], zm⟩ ∧ 1 ≤ j
    refine lp_idx J3 (n0 := xs.length) ⟨1, by omega, rfl, Nat.le_refl _⟩ ?_
    rintro N y _ ⟨j, rfl, rfl, hj⟩
    simp only [hdI, tlI]
    rw [brT hR.sl, hR.n, hlen]
    by_cases hjl : j < i
    · obtain ⟨u, hu⟩ : ∃ u, (hans t)[j - 1]? = some u := ⟨(hans t)[j - 1], by rw [List.getElem?_eq_getElem (by omega)]⟩
      obtain ⟨w, hw⟩ : ∃ w, (hans t)[j]? = some w := ⟨(hans t)[j], by rw [List.getElem?_eq_getElem (by omega)]⟩
      obtain ⟨a1, a2, a3, a4, a5, a6⟩ := hR.at' (j - 1) u hu
      obtain ⟨b1, b2, b3, b4, b5, b6⟩ := hR.at' j w hw
      have hord : lt2 u w := by
        have := List.pairwise_iff_getElem.1 hP (j - 1) j (by omega) (by omega) (by omega)
        rw [(List.getElem?_eq_some_iff.1 hu).2, (List.getElem?_eq_some_iff.1 hw).2] at this
        exact this
      unfold lt2 at hord
      have ej : iSub .i64 (j : Int) 1 = ((j - 1 : Nat) : Int) := by rw [isub_i (by omega)]; omega
      have hag : inLoopJ J3 (xs.length + 1 - j) (inLoopJ J1 (xs.length - i) (isMemo fun v m => v = tru ∧ ∀ a, m0 a ≠ none → m a = m0 a)) (.again ⟨[iAdd .i64 (j : Int) 1], [], [], zm⟩) := by
        rw [iadd_i (by omega), show (j : Int) + 1 = ((j + 1 : Nat) : Int) by omega]
        exact ⟨xs.length + 1 - (j + 1), by omega, j + 1, rfl, rfl, by omega⟩
      rw [ej, brT (by simp only [iLt, decide_eq_true_eq]; omega), brT a1, brT a2, brT a3, brT b1, brT b2, brT b3, a4, b4, brF (by simp only [iGt, decide_eq_false_iff_not]; omega), brT a1, brT a2, brT a3, brT b1, brT b2, brT b3]
      by_cases huw : u.1 = w.1
      · rw [brT (by simp [iEq, huw]), brT a1, brT a2, brT a5, brT b1, brT b2, brT b5, a6, b6, brF (by simp only [iGt, decide_eq_false_iff_not]; omega), sat_req]
        exact ⟨by simp, hag⟩
      · rw [brF (by simp [iEq, huw]), sat_req]
        exact ⟨by simp, hag⟩
    · rw [brF (by simp only [iLt, decide_eq_false_iff_not]; omega), brT hR.sl, brT hA.sl, brT (by simp only [iEq, e, beq_self_eq_true])]
      exact ⟨rfl, hfin⟩
end Go.Proofs.Ytnlohongffpkpaa.T16
