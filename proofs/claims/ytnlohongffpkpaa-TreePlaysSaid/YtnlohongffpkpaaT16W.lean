/- Layer 16: TreeBack's walk. A text of the session's own. -/
import Derived.Test.YtnlohongffpkpaaT16P
import Derived.Test.YtnlohongffpkpaaT16V
namespace Go.Proofs.Ytnlohongffpkpaa.T16
open Go Go.RowKit Go.Proofs.Ytnlohongffpkpaa.Sx Go.Proofs Go.WideShapes Go.ChangeShapes
set_option linter.unusedVariables false
set_option linter.unusedSimpArgs false

def s_one : Sum := { f := 19, s := fun args => match args with | [.u (.c (.li .i64 n))] => some ([], .u (.agg [.li .i64 n, .li .u64 1])) | [.u (.c (.si .i64 n))] => some ([], .u (.agg [.si .i64 n, .li .u64 1])) | _ => none }
theorem s_one_ok : SumOK Try.prog s_one := by
  refine ⟨⟨(fun _ h => by cases h), (fun _ h => by cases h), (fun _ h => by cases h)⟩, .inr ⟨rfl, .inr ⟨rfl, .inr ⟨rfl, ⟨_, Try.func19, by kernel_rfl⟩, fun args bs r ρ w hs hb => ?_⟩⟩⟩⟩
  simp only [s_one] at hs
  split at hs
  · rename_i n
    cases hs
    exact pure_to nameOK okn (dOK okn) 300 [.u (.c (.li .i64 n))] (T := .leaf (.val (.u (.agg [.li .i64 n, .li .u64 1])))) (by kernel_rfl) ρ rfl (by simp only [Tr.all]) w
  · rename_i n
    cases hs
    exact pure_to nameOK okn (dOK okn) 300 [.u (.c (.si .i64 n))] (T := .leaf (.val (.u (.agg [.si .i64 n, .li .u64 1])))) (by kernel_rfl) ρ rfl (by simp only [Tr.all]) w
  · cases hs
def u8 (x : Int) : Prop := 0 ≤ x ∧ x < 256
/-- a slice of numbers of 8 bits, in a memory -/
structure Arg8 (l : Value) (xs : List Int) (m : Mem) : Prop where
  sl : isSlV (pl l) = true
  n : slN (pl l) = xs.length
  at' : ∀ i : Nat, ∀ x, xs[i]? = some x → inSl (pl l) i = true ∧ okL m (slB (pl l)) (aOff (slO (pl l)) i 1) [.li .u8 0] = true ∧ gI m (slB (pl l)) (aOff (slO (pl l)) i 1) = x
  rng : ∀ x ∈ xs, u8 x
theorem Arg8.more {l : Value} {xs : List Int} {m m' : Mem} (h : Arg8 l xs m) (hm : ∀ a, m a ≠ none → m' a = m a) : Arg8 l xs m' := by
  refine ⟨h.sl, h.n, fun i x hx => ?_, h.rng⟩
  obtain ⟨a1, a2, a3⟩ := h.at' i x hx
  obtain ⟨b1, b2⟩ := okL_more hm a2
  exact ⟨a1, b1, by unfold gI at a3 ⊢; rw [b2]; exact a3⟩
theorem conv_u8 {x : Int} (h : u8 x) : iConv .i64 x = x := by unfold u8 at h; rw [conv_i]; omega

theorem ins_erase {α : Type} {L : List α} {a : Nat} {x : α} (h : a ≤ L.length) : (L.take a ++ x :: L.drop a).eraseIdx a = L := by
  have hl : (L.take a).length = a := by rw [List.length_take]; omega
  rw [List.eraseIdx_append_of_length_le (by omega), hl, Nat.sub_self, List.eraseIdx_cons_zero, List.take_append_drop]
theorem erase_ins {α : Type} {L : List α} {a : Nat} {x : α} (h : L[a]? = some x) : (L.eraseIdx a).take a ++ x :: (L.eraseIdx a).drop a = L := by
  obtain ⟨hl, he⟩ := List.getElem?_eq_some_iff.1 h
  have hl2 : (L.take a).length = a := by rw [List.length_take]; omega
  rw [List.eraseIdx_eq_take_drop_succ, List.take_left' hl2, List.drop_left' hl2]
  rw [← he, ← List.drop_eq_getElem_cons hl, List.take_append_drop]
def hs0 (n : Nat) : List (Int × Int) := (List.range n).map fun i : Nat => ((i : Int), (1 : Int))
theorem hs0_len (n : Nat) : (hs0 n).length = n := by simp [hs0]
theorem hs0_get {n i : Nat} (h : i < n) : (hs0 n)[i]? = some ((i : Int), (1 : Int)) := by simp [hs0, h]
theorem hs0_of {n i : Nat} {x : Int × Int} (h : (hs0 n)[i]? = some x) : i < n ∧ x = ((i : Int), (1 : Int)) := by
  have hl : i < n := by have := (List.getElem?_eq_some_iff.1 h).1; rw [hs0_len] at this; exact this
  rw [hs0_get hl] at h; cases h; exact ⟨hl, rfl⟩
theorem hs0_mem {n : Nat} {x : Int × Int} (h : x ∈ hs0 n) : ∃ i : Nat, i < n ∧ x = ((i : Int), (1 : Int)) := by
  obtain ⟨i, hi⟩ := List.getElem?_of_mem h
  exact ⟨i, hs0_of hi⟩
theorem hs0_succ (n : Nat) : hs0 (n + 1) = (hs0 n).take n ++ ((n : Int), 1) :: (hs0 n).drop n := by
  rw [List.take_of_length_le (by rw [hs0_len]; exact Nat.le_refl _), List.drop_of_length_le (by rw [hs0_len]; exact Nat.le_refl _)]
  simp [hs0, List.range_succ]
theorem okL_two {m : Mem} {p : Int} {k : Nat} {a c : C} (h1 : okL m p k [a] = true) (h2 : okL m p (.succ k) [c] = true) : okL m p k [a, c] = true := by
  unfold okL at h1 h2 ⊢
  cases hm : mget m p with
  | none => rw [hm] at h1; cases h1
  | some cs =>
    rw [hm] at h1 h2
    simp only [okR, Bool.and_eq_true] at h1 h2 ⊢
    exact ⟨h1.1, h2.1, trivial⟩
/-- Insert where there is room, of one that is not in -/
theorem ins_ok {S : TS} {b : Mem} {t : T} {i s g : Int} {y : Vars} {a : Nat} (h : insPost S b (nodes t) i s g y) (hi : i = a) (ha : a ≤ t.size) (hn : ∀ x ∈ hans t, x ≠ (s, g)) :
    y.i = [0] ∧ ∃ (S' : TS) (t' : T) (n' c : Nat), y.m = S'.mem b ∧ S'.t = S.t ∧ S'.q = S.q ∧ Tre S' t' n' ∧ hans t' = (hans t).take a ++ (s, g) :: (hans t).drop a ∧ S.mem b c = none ∧ ∀ q, S'.H q = none ↔ S.H q = none ∧ q ≠ (c : Int) + 1 := by
  subst hi
  unfold insPost at h
  rw [len_nodes] at h
  rcases h with ⟨e1, _⟩ | ⟨_, _, ⟨x, e1, e2, e3⟩, _⟩ | ⟨_, _, _, e3, S2, t2, n2, c, e4, et, eq, hT2, hN, hc, hd⟩
  · exfalso; omega
  · exfalso
    refine hn (x.2.1, x.2.2) (List.mem_map.2 ⟨x, e1, rfl⟩) ?_
    rw [e2, e3]
  · rw [Int.toNat_natCast] at hN
    exact ⟨e3, S2, t2, n2, c, e4, et, eq, hT2, hans_ins hN, hc, hd⟩
theorem Fre.rem {S S' : TS} {m : Mem} (h : Fre S m) (ht : S'.t = S.t) (hq : S'.q = S.q) (hd : ∀ q, S'.H q = none ↔ S.H q = none) : Fre S' m :=
  ⟨by rw [ht]; exact h.t, by rw [hq]; exact h.q, fun c hc => h.H c fun e => hc ((hd _).2 e)⟩
def T_back (m : Mem) (c : Int) (l : Value) : Tr := (.br (isSlV (pl l)) (.br (iGt (slN (pl l)) 200) (.leaf (.memo (.u (.c (.lb true))) m)) (.req (freshP m) (.any (freshQ m) (fun y0 => (.lp (.mk [0] [] [] y0.4) (fun y1 j1 => (.br (iLt (hdI y1.1) (iAdd .i64 (iConv .i64 (iRem c 100)) 1)) (.req (insertP y1.4 (hdI y0.1) (hdI y1.1) (hdI y1.1) 1) (.any (insertQ y1.4 (hdI y0.1) (hdI y1.1) (hdI y1.1) 1) (fun y2 => (.br (iNe (hdI y2.1) 0) (.leaf (.up (.memo (.u (.c (.lb false))) y2.4))) (.req ((([(1, (.u (.c (.sv l)))), (5, (.u (.c (.np (hdI y0.1) 0)))), (6, (.u (.c (.si .i64 (iAdd .i64 (iConv .i64 (iRem c 100)) 1)))))] : List (Nat × V)) = [(1, (.u (.c (.sv l)))), (5, (.u (.c (.np (hdI y0.1) 0)))), (6, (.u (.c (.si .i64 (iAdd .i64 (iConv .i64 (iRem c 100)) 1)))))]) ∧ (([] : List (Nat × Blk)) = [])) (.leaf (.again (.mk [(iAdd .i64 (hdI y1.1) 1)] [] [] y2.4)))))))) (.lp (.mk [0] [] [] y1.4) (fun y2 j2 => (.br (isSlV (pl l)) (.br (iLt (hdI y2.1) (slN (pl l))) (.br (inSl (pl l) (hdI y2.1)) (.br (okL y2.4 (slB (pl l)) (aOff (slO (pl l)) (hdI y2.1) 1) [(.li .u8 0)]) (.br (iZero? (iAdd .i64 (iAdd .i64 (iConv .i64 (iRem c 100)) 1) 1)) (.no 11) (.req (insertP y2.4 (hdI y0.1) (iRem (iConv .i64 (gI y2.4 (slB (pl l)) (aOff (slO (pl l)) (hdI y2.1) 1))) (iAdd .i64 (iAdd .i64 (iConv .i64 (iRem c 100)) 1) 1)) 1000 1) (.any (insertQ y2.4 (hdI y0.1) (iRem (iConv .i64 (gI y2.4 (slB (pl l)) (aOff (slO (pl l)) (hdI y2.1) 1))) (iAdd .i64 (iAdd .i64 (iConv .i64 (iRem c 100)) 1) 1)) 1000 1) (fun y3 => (.br (iNe (hdI y3.1) 0) (.leaf (.up (.up (.memo (.u (.c (.lb false))) y3.4)))) (.req (removeP y3.4 (hdI y0.1) 1000 1) (.any (removeQ y3.4 (hdI y0.1) 1000 1) (fun y4 => (.br (bNot (hdB y4.2)) (.leaf (.up (.up (.memo (.u (.c (.lb false))) y4.4)))) (.br (iNe (hdI y4.1) (iRem (iConv .i64 (gI y2.4 (slB (pl l)) (aOff (slO (pl l)) (hdI y2.1) 1))) (iAdd .i64 (iAdd .i64 (iConv .i64 (iRem c 100)) 1) 1))) (.leaf (.up (.up (.memo (.u (.c (.lb false))) y4.4)))) (.br (iZero? (iAdd .i64 (iConv .i64 (iRem c 100)) 1)) (.no 11) (.req (atP y4.4 (hdI y0.1) (iRem (iRem (iConv .i64 (gI y2.4 (slB (pl l)) (aOff (slO (pl l)) (hdI y2.1) 1))) (iAdd .i64 (iAdd .i64 (iConv .i64 (iRem c 100)) 1) 1)) (iAdd .i64 (iConv .i64 (iRem c 100)) 1))) (.any (atQ y4.4 (hdI y0.1) (iRem (iRem (iConv .i64 (gI y2.4 (slB (pl l)) (aOff (slO (pl l)) (hdI y2.1) 1))) (iAdd .i64 (iAdd .i64 (iConv .i64 (iRem c 100)) 1) 1)) (iAdd .i64 (iConv .i64 (iRem c 100)) 1))) (fun y5 => (.req (removeP y5.4 (hdI y0.1) (hdI y5.1) (hdI (tlI y5.1))) (.any (removeQ y5.4 (hdI y0.1) (hdI y5.1) (hdI (tlI y5.1))) (fun y6 => (.br (bNot (hdB y5.2)) (.leaf (.up (.up (.memo (.u (.c (.lb false))) y6.4)))) (.br (bNot (hdB y6.2)) (.leaf (.up (.up (.memo (.u (.c (.lb false))) y6.4)))) (.br (iZero? (iAdd .i64 (iConv .i64 (iRem c 100)) 1)) (.no 11) (.br (iNe (hdI y6.1) (iRem (iRem (iConv .i64 (gI y2.4 (slB (pl l)) (aOff (slO (pl l)) (hdI y2.1) 1))) (iAdd .i64 (iAdd .i64 (iConv .i64 (iRem c 100)) 1) 1)) (iAdd .i64 (iConv .i64 (iRem c 100)) 1))) (.leaf (.up (.up (.memo (.u (.c (.lb false))) y6.4)))) (.req (insertP y6.4 (hdI y0.1) (hdI y6.1) (hdI y5.1) (hdI (tlI y5.1))) (.any (insertQ y6.4 (hdI y0.1) (hdI y6.1) (hdI y5.1) (hdI (tlI y5.1))) (fun y7 => (.br (iNe (hdI y7.1) 0) (.leaf (.up (.up (.memo (.u (.c (.lb false))) y7.4)))) (.req ((([(1, (.u (.c (.sv l)))), (5, (.u (.c (.np (hdI y0.1) 0)))), (6, (.u (.c (.si .i64 (iAdd .i64 (iConv .i64 (iRem c 100)) 1)))))] : List (Nat × V)) = [(1, (.u (.c (.sv l)))), (5, (.u (.c (.np (hdI y0.1) 0)))), (6, (.u (.c (.si .i64 (iAdd .i64 (iConv .i64 (iRem c 100)) 1)))))]) ∧ (([] : List (Nat × Blk)) = [])) (.leaf (.again (.mk [(iAdd .i64 (hdI y2.1) 1)] [] [] y7.4))))))))))))))))))))))))))))) (.no 70)) (.no 104)) (.req (allP y2.4 (hdI y0.1)) (.any (allQ y2.4 (hdI y0.1)) (fun y3 => (.lp (.mk [0] [] [] y3.4) (fun y4 j4 => (.br (isSlV (pl (hdV y3.3))) (.br (iLt (hdI y4.1) (slN (pl (hdV y3.3)))) (.br (inSl (pl (hdV y3.3)) (hdI y4.1)) (.br (okL y4.4 (slB (pl (hdV y3.3))) (aOff (slO (pl (hdV y3.3))) (hdI y4.1) 2) [(.li .i64 0), (.li .u64 0)]) (.br (bNot (bAnd (iEq (gI y4.4 (slB (pl (hdV y3.3))) (aOff (slO (pl (hdV y3.3))) (hdI y4.1) 2)) (hdI y4.1)) (iEq (gI y4.4 (slB (pl (hdV y3.3))) (.succ (aOff (slO (pl (hdV y3.3))) (hdI y4.1) 2))) 1))) (.leaf (.up (.up (.up (.memo (.u (.c (.lb false))) y4.4))))) (.req ((([(6, (.u (.c (.si .i64 (iAdd .i64 (iConv .i64 (iRem c 100)) 1))))), (16, (.u (.c (.sv (hdV y3.3)))))] : List (Nat × V)) = [(6, (.u (.c (.si .i64 (iAdd .i64 (iConv .i64 (iRem c 100)) 1))))), (16, (.u (.c (.sv (hdV y3.3)))))]) ∧ (([] : List (Nat × Blk)) = [])) (.leaf (.again (.mk [(iAdd .i64 (hdI y4.1) 1)] [] [] y4.4))))) (.no 70)) (.no 104)) (.br (isSlV (pl (hdV y3.3))) (.br (iEq (slN (pl (hdV y3.3))) (iAdd .i64 (iConv .i64 (iRem c 100)) 1)) (.leaf (.up (.up (.up (.memo (.u (.c (.lb true))) y4.4))))) (.leaf (.up (.up (.up (.memo (.u (.c (.lb false))) y4.4)))))) (.no 123))) (.no 123)))))))) (.no 123))))))))))) (.no 123))
set_option maxHeartbeats 4000000 in
theorem back_walk {l : Value} {m0 : Mem} {xs : List Int} {c : Int} (hc : u8 c) (hA : Arg8 l xs m0) : (T_back m0 c l).sat (isMemo fun v m => v = tru ∧ ∀ a, m0 a ≠ none → m a = m0 a) := by
  unfold T_back
  obtain ⟨n, hn, hn1, hn2⟩ : ∃ n : Nat, iAdd .i64 (iConv .i64 (iRem c 100)) 1 = (n : Int) ∧ 1 ≤ n ∧ n ≤ 100 := by
    unfold u8 at hc
    have e : iRem c 100 = c % 100 := by unfold iRem; rw [Int.tmod_eq_emod_of_nonneg hc.1]
    refine ⟨(c % 100).toNat + 1, ?_, by omega, by omega⟩
    rw [e, conv_i, iadd_i (by omega)]; omega
  have hn3 : iAdd .i64 (n : Int) 1 = ((n + 1 : Nat) : Int) := by rw [iadd_i (by omega)]; omega
  simp only [hn, hn3]
  rw [brT hA.sl, hA.n]
  by_cases hbig : (200 : Int) < xs.length
  · rw [brT (by simp only [iGt, decide_eq_true_eq]; exact hbig)]
    exact ⟨rfl, fun _ _ => rfl⟩
  rw [brF (by simp only [iGt, decide_eq_false_iff_not]; exact hbig), sat_req]
  refine ⟨trivial, ?_⟩
  rw [sat_any]
  rintro ⟨yi, yb, yv, ym⟩ ⟨S, hi, hm, hT0, ft, fq, fH⟩
  simp only at hi hm
  subst hi hm
  let J1 : Nat → Vars → Prop := fun N y => ∃ (S1 : TS) (t : T) (nn i : Nat), N = n - i ∧ y = ⟨[(i : Int)], [], [], S1.mem m0⟩ ∧ S1.p = S.p ∧ Tre S1 t nn ∧ Fre S1 m0 ∧ i ≤ n ∧ hans t = hs0 i
  refine lp_idx J1 (n0 := n) ⟨S, .nil, 0, 0, rfl, rfl, rfl, hT0, ⟨ft, fq, fun a h => absurd (fH _) h⟩, Nat.zero_le _, rfl⟩ ?_
  rintro N y _ ⟨S1, t, nn, i, rfl, rfl, hp, hT, hF, hi, hh⟩
  have hs : t.size = i := by rw [← len_hans, hh, hs0_len]
  simp only [hdI, tlI]
  by_cases hlt : i < n
  · have hG0 : (TG.mk S1 m0 t nn).is (S1.mem m0) S1.p ∧ t.size + 1 < 1152921504606846976 ∧ inI (i : Int) ∧ inU 1 := ⟨⟨rfl, rfl, hT⟩, by omega, by unfold inI; omega, by unfold inU; omega⟩
    rw [brT (by simp only [iLt, decide_eq_true_eq]; omega), sat_req, ← hp]
    refine ⟨⟨_, hG0⟩, ?_⟩
    rw [sat_any]
    rintro ⟨zi, zb, zv, zm⟩ hz
    obtain ⟨e3, S2, t2, n2, a, e4, et, eq, hT2, hN, ha, hd⟩ := ins_ok (a := i) (hz _ hG0) rfl (by simp only; omega) (by
      intro x hx e
      simp only [hh] at hx
      obtain ⟨j, hj, rfl⟩ := hs0_mem hx
      simp only [Prod.mk.injEq] at e; omega)
    simp only at e3 e4 et eq hN ha hd
    subst e3 e4
    rw [brF (by simp [iNe, hdI]), sat_req]
    refine ⟨by simp, n - (i + 1), by omega, S2, t2, n2, i + 1, rfl, ?_, ?_, hT2, hF.ins et eq ha hd, hlt, ?_⟩
    · rw [iadd_i (by omega)]; rfl
    · rw [← hp]; unfold TS.p; rw [et]
    · rw [hN, hh, hs0_succ]
  have hin : i = n := by omega
  subst hin
  rw [brF (by simp only [iLt, decide_eq_false_iff_not]; omega)]
  clear hs hi
  let J2 : Nat → Vars → Prop := fun N y => ∃ (S1 : TS) (t : T) (nn j : Nat), N = xs.length - j ∧ y = ⟨[(j : Int)], [], [], S1.mem m0⟩ ∧ S1.p = S.p ∧ Tre S1 t nn ∧ Fre S1 m0 ∧ hans t = hs0 i
  refine lp_idx J2 (n0 := xs.length) ⟨S1, t, nn, 0, rfl, rfl, hp, hT, hF, hh⟩ ?_
  clear hp hT hF hh S1 t nn
  rintro N y _ ⟨S1, t, nn, j, rfl, rfl, hp, hT, hF, hh⟩
  have hs : t.size = i := by rw [← len_hans, hh, hs0_len]
  have hA1 := hA.more hF.more
  simp only [hdI, tlI]
  rw [brT hA.sl, ← hp]
  by_cases hjl : j < xs.length
  · obtain ⟨x, hx⟩ : ∃ x, xs[j]? = some x := ⟨xs[j], by rw [List.getElem?_eq_getElem hjl]⟩
    obtain ⟨q1, q2, q3⟩ := hA1.at' j x hx
    have hxr : u8 x := hA.rng x (List.mem_of_getElem? hx)
    obtain ⟨a, ha, hal⟩ : ∃ a : Nat, iRem x ((i + 1 : Nat) : Int) = (a : Int) ∧ a ≤ i := by
      unfold u8 at hxr
      unfold iRem
      rw [Int.tmod_eq_emod_of_nonneg hxr.1]
      have h0 := Int.emod_nonneg x (show ((i + 1 : Nat) : Int) ≠ 0 by omega)
      have h1 := Int.emod_lt_of_pos x (show (0 : Int) < ((i + 1 : Nat) : Int) by omega)
      exact ⟨(x % ((i + 1 : Nat) : Int)).toNat, by omega, by omega⟩
    obtain ⟨w, hw, hwl⟩ : ∃ w : Nat, iRem (a : Int) (i : Int) = (w : Int) ∧ w < i := by
      unfold iRem
      rw [Int.tmod_eq_emod_of_nonneg (by omega)]
      have h0 := Int.emod_nonneg (a : Int) (show (i : Int) ≠ 0 by omega)
      have h1 := Int.emod_lt_of_pos (a : Int) (show (0 : Int) < (i : Int) by omega)
      exact ⟨((a : Int) % (i : Int)).toNat, by omega, by omega⟩
    simp only [q3, conv_u8 hxr, ha, hw]
    rw [brT (by simp only [iLt, decide_eq_true_eq]; omega), brT q1, brT q2, brF (by simp only [iZero?, decide_eq_false_iff_not]; first | omega | (simp; omega))]
    have hG0 : (TG.mk S1 m0 t nn).is (S1.mem m0) S1.p ∧ t.size + 1 < 1152921504606846976 ∧ inI 1000 ∧ inU 1 := ⟨⟨rfl, rfl, hT⟩, by omega, by unfold inI; omega, by unfold inU; omega⟩
    rw [sat_req]
    refine ⟨⟨_, hG0⟩, ?_⟩
    rw [sat_any]
    rintro ⟨zi, zb, zv, zm⟩ hz
    obtain ⟨e3, S2, t2, n2, a2, e4, et, eq, hT2, hN, hfr, hd⟩ := ins_ok (a := a) (hz _ hG0) rfl (by simp only; omega) (by
      intro x hx e
      simp only [hh] at hx
      obtain ⟨j, hj, rfl⟩ := hs0_mem hx
      simp only [Prod.mk.injEq] at e; omega)
    simp only at e3 e4 et eq hN hfr hd
    subst e3 e4
    have hF2 := hF.ins et eq hfr hd
    have hp2 : S2.p = S1.p := by unfold TS.p; rw [et]
    rw [brF (by simp [iNe, hdI]), sat_req, ← hp2]
    have hG2 : (TG.mk S2 m0 t2 n2).is (S2.mem m0) S2.p ∧ inI 1000 ∧ inU 1 := ⟨⟨rfl, rfl, hT2⟩, by unfold inI; omega, by unfold inU; omega⟩
    refine ⟨⟨_, hG2⟩, ?_⟩
    rw [sat_any]
    rintro ⟨wi, wb, wv, wm⟩ hw2
    obtain ⟨S3, t3, n3, f1, f2, f3, hT3, hN3, fd⟩ : ∃ (S3 : TS) (t3 : T) (n3 : Nat), (wi = [(a : Int)] ∧ wb = [true] ∧ wm = S3.mem m0) ∧ S3.t = S2.t ∧ S3.q = S2.q ∧ Tre S3 t3 n3 ∧ hans t3 = hs0 i ∧ ∀ q, S3.H q = none ↔ S2.H q = none := by
      rcases hw2 _ hG2 with ⟨j1, g1, g2, g3, S3, t3, n3, g4, g5, g6, g7, g8, g9⟩ | ⟨g1, _⟩
      · simp only [hN, hh] at g1 g2 g3 g4 g8
        have hja : j1 = a := by
          have hl2 : ((hs0 i).take a).length = a := by rw [List.length_take, hs0_len]; omega
          rcases Nat.lt_trichotomy j1 a with hlt | hlt | hlt
          · rw [List.getElem?_append_left (by omega), List.getElem?_take_of_lt hlt] at g1
            have := hs0_of g1
            simp only [Prod.mk.injEq] at this; omega
          · exact hlt
          · rw [List.getElem?_append_right (by omega), hl2, show j1 - a = (j1 - a - 1) + 1 by omega, List.getElem?_cons_succ, List.getElem?_drop] at g1
            have := hs0_of g1
            simp only [Prod.mk.injEq] at this; omega
        subst hja
        refine ⟨S3, t3, n3, ⟨g2, g3, g4⟩, g5, g6, g7, ?_, g9⟩
        rw [g8]
        exact ins_erase (by rw [hs0_len]; exact hal)
      · exfalso
        simp only [hN] at g1
        exact g1 _ (List.mem_append_right _ (by simp)) rfl
    obtain ⟨rfl, rfl, rfl⟩ := f1
    have hF3 := hF2.rem f2 f3 fd
    have hp3 : S3.p = S2.p := by unfold TS.p; rw [f2]
    simp only [hdI, hdB]
    rw [brF (by rfl), brF (by simp [iNe]), brF (by simp only [iZero?, decide_eq_false_iff_not]; first | omega | (simp; omega)), sat_req, ← hp3]
    refine ⟨⟨⟨S3, m0, t3, n3⟩, rfl, rfl, hT3⟩, ?_⟩
    rw [sat_any]
    rintro ⟨ui, ub, uv, um⟩ hu
    obtain ⟨hu, hum⟩ := hu ⟨S3, m0, t3, n3⟩ ⟨rfl, rfl, hT3⟩
    simp only at hu hum
    subst hum
    rcases hu with ⟨j1, p, s, g, g1, g2, g3, g4⟩ | ⟨g1, _⟩
    rotate_left
    · exfalso
      rw [len_nodes, ← len_hans, hN3, hs0_len] at g1; omega
    have g1 : j1 = w := by omega
    subst g1
    have g5 := hans_get g2
    rw [hN3] at g5
    have g6 := (hs0_of g5).2
    simp only [Prod.mk.injEq] at g6 g3 g4
    obtain ⟨rfl, rfl⟩ := g6
    subst g3 g4
    simp only [hdI, tlI, hdB]
    have hG3 : (TG.mk S3 m0 t3 n3).is (S3.mem m0) S3.p ∧ inI (j1 : Int) ∧ inU 1 := ⟨⟨rfl, rfl, hT3⟩, by unfold inI; omega, by unfold inU; omega⟩
    rw [sat_req]
    refine ⟨⟨_, hG3⟩, ?_⟩
    rw [sat_any]
    rintro ⟨vi, vb, vv, vm⟩ hv
    obtain ⟨S5, t5, n5, k1, k2, k3, hT5, hN5, kd⟩ : ∃ (S5 : TS) (t5 : T) (n5 : Nat), (vi = [(j1 : Int)] ∧ vb = [true] ∧ vm = S5.mem m0) ∧ S5.t = S3.t ∧ S5.q = S3.q ∧ Tre S5 t5 n5 ∧ hans t5 = (hs0 i).eraseIdx j1 ∧ ∀ q, S5.H q = none ↔ S3.H q = none := by
      rcases hv _ hG3 with ⟨j2, r1, r2, r3, S3', t3', n3', r4, r5, r6, r7, r8, r9⟩ | ⟨r1, _⟩
      · simp only [hN3] at r1 r2 r3 r4 r8
        have := (hs0_of r1).2
        simp only [Prod.mk.injEq] at this
        have hj2 : j2 = j1 := by omega
        rw [hj2] at r2 r8
        exact ⟨S3', t3', n3', ⟨r2, r3, r4⟩, r5, r6, r7, r8, r9⟩
      · exfalso
        simp only [hN3] at r1
        exact r1 _ (List.mem_of_getElem? g5) rfl
    obtain ⟨rfl, rfl, rfl⟩ := k1
    have hF5 := hF3.rem k2 k3 kd
    have hp5 : S5.p = S3.p := by unfold TS.p; rw [k2]
    have hs5 : t5.size = i - 1 := by rw [← len_hans, hN5, List.length_eraseIdx_of_lt (by rw [hs0_len]; exact hwl), hs0_len]
    have hG5 : (TG.mk S5 m0 t5 n5).is (S5.mem m0) S5.p ∧ t5.size + 1 < 1152921504606846976 ∧ inI (j1 : Int) ∧ inU 1 := ⟨⟨rfl, rfl, hT5⟩, by omega, by unfold inI; omega, by unfold inU; omega⟩
    simp only [hdI, hdB]
    rw [brF (by rfl), brF (by rfl), brF (by simp only [iZero?, decide_eq_false_iff_not]; first | omega | (simp; omega)), brF (by simp [iNe]), sat_req, ← hp5]
    refine ⟨⟨_, hG5⟩, ?_⟩
    rw [sat_any]
    rintro ⟨zi, zb, zv, zm⟩ hz
    obtain ⟨e3, S6, t6, n6, a6, e4, et6, eq6, hT6, hN6, hfr6, hd6⟩ := ins_ok (a := j1) (hz _ hG5) rfl (by simp only; omega) (by
      intro x hx e
      simp only [hN5] at hx
      obtain ⟨c1, hc1, hc2⟩ := List.mem_eraseIdx_iff_getElem?.1 hx
      have := (hs0_of hc2).2
      rw [e] at this
      simp only [Prod.mk.injEq] at this; omega)
    simp only at e3 e4 et6 eq6 hN6 hfr6 hd6
    subst e3 e4
    rw [brF (by simp [iNe, hdI]), sat_req, iadd_i (by omega), show (j : Int) + 1 = ((j + 1 : Nat) : Int) by omega]
    refine ⟨by simp, xs.length - (j + 1), by omega, S6, t6, n6, j + 1, rfl, rfl, ?_, hT6, hF5.ins et6 eq6 hfr6 hd6, ?_⟩
    · rw [← hp, ← hp2, ← hp3, ← hp5]; unfold TS.p; rw [et6]
    · rw [hN6, hN5]; exact erase_ins g5
  · have hG0 : (TG.mk S1 m0 t nn).is (S1.mem m0) S1.p ∧ t.size < 1099511627776 := ⟨⟨rfl, rfl, hT⟩, by omega⟩
    rw [brF (by simp only [iLt, decide_eq_false_iff_not]; omega), sat_req]
    refine ⟨⟨_, hG0⟩, ?_⟩
    rw [sat_any]
    rintro ⟨zi, zb, zv, zm⟩ hz
    obtain ⟨hR, hmore⟩ := Row.of (hz _ hG0)
    simp only at hR hmore ⊢
    generalize hdV zv = v at hR
    have hfin : ∀ a, m0 a ≠ none → zm a = m0 a := fun a ha => by
      have := hF.more a ha
      rw [hmore a (by rw [this]; exact ha), this]
    let J3 : Nat → Vars → Prop := fun N y => ∃ (j : Nat), N = i + 1 - j ∧ y = ⟨[(j : Int)], [], [], zm⟩
    refine lp_idx J3 (n0 := i + 1) ⟨0, by omega, rfl⟩ ?_
    rintro N y _ ⟨d, rfl, rfl⟩
    simp only [hdI, tlI]
    rw [brT hR.sl, hR.n, hh, hs0_len]
    by_cases hdl : d < i
    · obtain ⟨b1, b2, b3, b4, b5, b6⟩ := hR.at' d _ (by rw [hh]; exact hs0_get hdl)
      rw [brT (by simp only [iLt, decide_eq_true_eq]; omega), brT b1, brT (okL_two b3 b5), b4, b6, brF (by simp [iEq, bNot, bAnd]), sat_req, iadd_i (by omega), show (d : Int) + 1 = ((d + 1 : Nat) : Int) by omega]
      exact ⟨by simp, i + 1 - (d + 1), by omega, d + 1, rfl, rfl⟩
    · rw [brF (by simp only [iLt, decide_eq_false_iff_not]; omega), brT hR.sl, brT (by simp [iEq])]
      exact ⟨rfl, hfin⟩
end Go.Proofs.Ytnlohongffpkpaa.T16
