/- What is made of two numbers alone (layer 5). Plain Lean. A text of the session's own. -/
import Derived.Test.YtafpbibpahjnhaaGreatL05O
namespace Go.Proofs.YtafpbibpahjnhaaGreat.L05
open Go Go.RowKit Go.Proofs.YtafpbibpahjnhaaGreat.Sx
open Go.Proofs.YtafpbibpahjnhaaGreat.L04 (mAdd1 mAdd2 mSub1 mSub2 mMul1 mMul2 mDiv1 mDiv2 mMod1 mMod2 mPlus1 mPlus2 mMinus1 mMinus2 mShl1 mShl2 mShr1 mShr2 mSar1 mSar2 Amid AmidI InU InI mHas)
set_option linter.unusedVariables false

theorem pmeet_point {p q : P2} {n : Int} (hp : Mid p n) (hq : q = ⟨n, n⟩) : pMeet p q = ⟨n, n⟩ := by
  subst hq
  unfold Mid at hp
  unfold pMeet
  dsimp only
  rw [if_neg (by omega)]
  rw [show max p.lo n = n by omega, show min p.hi n = n by omega]
theorem nar_point {p : P2} {n : Int} (h : Nar p ⟨n, n⟩) (k : Mid p n) : p = ⟨n, n⟩ := by
  unfold Nar at h; unfold Mid at k; dsimp only at h
  exact P2.ext' (by omega) (by omega)
theorem ti_point {t : P2} {n : Int} (h : UU t) (hn : isU n = true) (k : HT t n) (e : t.hi = 0) : t = ⟨n, 0⟩ := by
  refine P2.ext' (tb_ext h.1 hn fun i => ?_) e
  have := k i
  rw [e, tb_zero] at this
  simpa using this.symm
theorem orU_zero {x : Int} (hx : isU x = true) : orU x 0 = x := by
  refine tb_ext (or_u hx (by decide)) hx fun i => ?_
  rw [tb_or hx (by decide), tb_zero, Bool.or_false]
theorem andU_zero {x : Int} (hx : isU x = true) : andU x 0 = 0 ∧ andU 0 x = 0 := by
  constructor
  · refine tb_ext (and_u hx (by decide)) (by decide) fun i => ?_
    rw [tb_and hx (by decide), tb_zero, Bool.and_false]
  · refine tb_ext (and_u (by decide) hx) (by decide) fun i => ?_
    rw [tb_and (by decide) hx, tb_zero, Bool.false_and]
theorem notU_zero {x : Int} (hx : isU x = true) : notU 0 x = 0 := by
  refine tb_ext (not_u (by decide) hx) (by decide) fun i => ?_
  rw [tb_not (by decide) hx, tb_zero, Bool.false_and]
theorem xorU_self {x : Int} (hx : isU x = true) : xorU x x = 0 := by
  refine tb_ext (xor_u hx hx) (by decide) fun i => ?_
  rw [tb_xor hx hx, tb_zero, Bool.xor_self]
section
variable {q : Bd} {n : Int}
/-- A round of a bound whose number is known by its bits, or by its span. -/
theorem exact_round (hq : Inv5 q) (hn : isU n = true) (k : HasB q n) (h : q.t.hi = 0 ∨ Nar q.u ⟨n, n⟩) : Sub (rnd q).1 (bConst n) := by
  obtain ⟨a1, k1⟩ := st1_ok.has q n hq hn k
  have i1 := st1_ok.inv q hq
  have eu1 : (st1 q).1.u = ⟨n, n⟩ := by
    rcases h with h | h
    · have et := ti_point hq.t.1 hn k.t h
      show pMeet q.u ⟨q.t.lo, orU q.t.lo q.t.hi⟩ = _
      refine pmeet_point k.u ?_
      rw [et]; dsimp only; rw [orU_zero hn]
    · exact nar_point ((st1_ok.sub q hq k1.some).u.trans h) k1.u
  obtain ⟨a2, k2⟩ := st2_ok.has _ n i1 hn k1
  have i2 := st2_ok.inv _ i1
  have es2 : (st2 (st1 q).1).1.s = ⟨sgn n, sgn n⟩ := by
    show pMeet (st1 q).1.s (pSign (st1 q).1.u) = _
    refine pmeet_point k1.s ?_
    rw [eu1]; unfold pSign; dsimp only
    rw [if_neg (by omega), if_neg (by omega)]
  have eu2 : (st2 (st1 q).1).1.u = ⟨n, n⟩ := nar_point (by have := (st2_ok.sub _ i1 k2.some).u; rwa [eu1] at this) k2.u
  obtain ⟨a3, k3⟩ := st3_ok.has _ n i2 hn k2
  have i3 := st3_ok.inv _ i2
  have et3 : (st3 (st2 (st1 q).1).1).1.t.hi = 0 := by
    have ht : TM (tRange n n) := range_tm hn hn
    have hh : HT (tRange n n) n := range_has hn hn hn (Int.le_refl _) (Int.le_refl _)
    have hz : (tRange n n).hi = 0 := by
      unfold tRange
      rw [if_neg (by omega), xorU_self hn]
      show (2 : Int) ^ bitLen (Int.toNat 0) - 1 = 0
      decide
    have hs := (meet_has i2.t.1 ht.1 k2.t hh).1
    have e : (st3 (st2 (st1 q).1).1).1.t = tMeet (st2 (st1 q).1).1.t (tRange n n) := by
      unfold st3 meetT
      rw [eu2]; dsimp only
      rw [hs]
    refine tb_ext (by rw [e]; exact (meet_uu i2.t.1 ht.1).2) (by decide) fun i => ?_
    rw [e, (meet_bits i2.t.1 ht.1 hs i).2, hz, tb_zero, Bool.and_false]
  have et3' := ti_point i3.t.1 hn k3.t et3
  have h3 := st3_ok.sub _ i2 k3.some
  have es3 : (st3 (st2 (st1 q).1).1).1.s = ⟨sgn n, sgn n⟩ := nar_point (by have := h3.s; rwa [es2] at this) k3.s
  have eu3 : (st3 (st2 (st1 q).1).1).1.u = ⟨n, n⟩ := nar_point (by have := h3.u; rwa [eu2] at this) k3.u
  obtain ⟨a4, k4⟩ := st4_ok.has _ n i3 hn k3
  have i4 := st4_ok.inv _ i3
  have h4 := st4_ok.sub _ i3 k4.some
  have el : tLow ⟨n, 0⟩ = ⟨n % 4294967296, 0⟩ := by
    unfold tLow; dsimp only
    rw [and_low hn, (andU_zero (x := 4294967295) (by decide)).2]
  have hm : isU (n % 4294967296) = true := mod_u hn
  have ew4 : (st4 (st3 (st2 (st1 q).1).1).1).1.w = ⟨n % 4294967296, n % 4294967296⟩ := by
    show pMeet (st3 (st2 (st1 q).1).1).1.w ⟨(tLow (st3 (st2 (st1 q).1).1).1.t).lo, orU (tLow (st3 (st2 (st1 q).1).1).1.t).lo (tLow (st3 (st2 (st1 q).1).1).1.t).hi⟩ = _
    refine pmeet_point k3.w ?_
    rw [et3', el]; dsimp only; rw [orU_zero hm]
  have ev4 : (st4 (st3 (st2 (st1 q).1).1).1).1.v = ⟨sg32 n, sg32 n⟩ := by
    show pMeet (st3 (st2 (st1 q).1).1).1.v ⟨sg32 (orU (tLow (st3 (st2 (st1 q).1).1).1.t).lo (andU (tLow (st3 (st2 (st1 q).1).1).1.t).hi 2147483648)), sg32 (orU (tLow (st3 (st2 (st1 q).1).1).1.t).lo (notU (tLow (st3 (st2 (st1 q).1).1).1.t).hi 2147483648))⟩ = _
    refine pmeet_point k3.v ?_
    rw [et3', el]; dsimp only
    rw [(andU_zero top32).2, notU_zero top32, orU_zero hm, sg32_mod]
  have s4 : Sub (st4 (st3 (st2 (st1 q).1).1).1).1 (bConst n) := by
    refine ⟨?_, ?_, ?_, ?_, ?_⟩
    · have := h4.t
      rw [et3'] at this
      exact this
    · have := h4.u
      rw [eu3] at this
      exact this
    · have := h4.s
      rw [es3] at this
      exact this
    · rw [ew4]; exact Nar.refl _
    · rw [ev4]; exact Nar.refl _
  have e0 : ∀ (f : Bd → Bd × Bool) (l : List (Bd → Bd × Bool)) (b : Bd), (f b).2 = true → HasB (f b).1 n → runs (f :: l) b = runs l (f b).1 := fun f l b h1 h2 => by simp [runs, h1, h2.some]
  have er : rnd q = runs [st5, st6, st7, st8] (st4 (st3 (st2 (st1 q).1).1).1).1 := by
    unfold rnd steps
    rw [e0 _ _ _ a1 k1, e0 _ _ _ a2 k2, e0 _ _ _ a3 k3, e0 _ _ _ a4 k4]
  rw [er]
  have hok : ∀ f ∈ [st5, st6, st7, st8], StepOK f := by
    intro f hf
    simp only [List.mem_cons, List.not_mem_nil, or_false] at hf
    rcases hf with rfl | rfl | rfl | rfl
    · exact st5_ok
    · exact st6_ok
    · exact st7_ok
    · exact st8_ok
  obtain ⟨_, g2, g3⟩ := runs_ok _ hok _ i4
  exact (g2 (g3 n hn k4).1).1.trans s4
theorem exact_sync (hq : Inv5 q) (hn : isU n = true) (k : HasB q n) (h : q.t.hi = 0 ∨ Nar q.u ⟨n, n⟩) : sync q = bConst n := by
  have hs := sync_has hq hn k
  refine const_eq hn (sync_ok hq.raw).1 ?_ hs.some
  have e1 := exact_round hq hn k h
  unfold sync at hs ⊢
  rw [inv_may hq k.some] at hs ⊢
  obtain ⟨i1, _, k1⟩ := rnd_ok hq
  obtain ⟨b1, k1⟩ := k1 n hn k
  obtain ⟨i2, s2, k2⟩ := rnd_ok i1
  obtain ⟨b2, k2⟩ := k2 n hn k1
  obtain ⟨i3, s3, k3⟩ := rnd_ok i2
  obtain ⟨b3, k3⟩ := k3 n hn k2
  simp only [b1, b2, b3] at hs ⊢
  exact (s3 b3).1.trans ((s2 b2).1.trans e1)
end
section
variable {x y : Int}
theorem tAdd_z {a b : P2} (ha : UU a) (hb : UU b) (h : a.hi = 0) (k : b.hi = 0) : (tAdd a b).hi = 0 := by
  show orU (orU (xorU (addU (addU a.hi b.hi) (addU a.lo b.lo)) (addU a.lo b.lo)) a.hi) b.hi = 0
  have hv := addU_u a.lo b.lo
  rw [h, k]
  have e : addU (addU 0 0) (addU a.lo b.lo) = addU a.lo b.lo := by
    rw [show addU 0 0 = 0 by decide]
    have := isU_iff.1 hv
    rw [addU_mod 0]; unfold M64; omega
  rw [e, xorU_self hv]
  decide
theorem tSub_z {a b : P2} (ha : UU a) (hb : UU b) (h : a.hi = 0) (k : b.hi = 0) : (tSub a b).hi = 0 := by
  show orU (orU (xorU (addU (subU a.lo b.lo) a.hi) (subU (subU a.lo b.lo) b.hi)) a.hi) b.hi = 0
  have hv := subU_u a.lo b.lo
  have h0 := isU_iff.1 hv
  rw [h, k]
  have e1 : addU (subU a.lo b.lo) 0 = subU a.lo b.lo := by rw [addU_mod]; unfold M64; omega
  have e2 : subU (subU a.lo b.lo) 0 = subU a.lo b.lo := by rw [subU_mod _ 0]; unfold M64; omega
  rw [e1, e2, xorU_self hv]
  decide
theorem mulAdd_z {a b t : P2} (ha : a.hi = 0) (hb : b.hi = 0) (hbu : UU b) (ht : UU t) (h : t.hi = 0) : UU (mulAdd a b t) ∧ (mulAdd a b t).hi = 0 := by
  have e : iEq (iBit .and .u64 a.hi 1) 1 = false := by rw [ha]; decide
  unfold mulAdd
  rw [e]
  split
  · have hz : UU ⟨0, b.hi⟩ := ⟨(by decide : isU 0 = true), hbu.2⟩
    refine ⟨?_, tAdd_z ht hz h hb⟩
    exact ⟨not_u (addU_u _ _) (or_u (or_u (xor_u (addU_u _ _) (addU_u _ _)) ht.2) hz.2), or_u (or_u (xor_u (addU_u _ _) (addU_u _ _)) ht.2) hz.2⟩
  · rename_i h1; cases h1
  · exact ⟨ht, h⟩
theorem shr_z (n : Int) : iShr .u64 0 n = 0 := by rw [shr_u']; exact Int.zero_ediv _
theorem shl_z (n : Int) : iShl .u64 0 n = 0 := by rw [Sx.shl_u, Int.zero_mul]; rfl
theorem mulGo_z : ∀ (f : Nat) {a b t : P2}, a.hi = 0 → b.hi = 0 → UU b → UU t → t.hi = 0 → UU (mulGo f a b t) ∧ (mulGo f a b t).hi = 0
  | 0, a, b, t, _, _, _, ht, h => ⟨ht, h⟩
  | f + 1, a, b, t, ha, hb, hbu, ht, h => by
    obtain ⟨g1, g2⟩ := mulAdd_z ha hb hbu ht h
    simp only [mulGo]
    split
    · exact ⟨ht, h⟩
    · split
      · exact ⟨g1, g2⟩
      · refine mulGo_z f ?_ ?_ ⟨shl_u _ _, shl_u _ _⟩ g1 g2
        · show iShr .u64 a.hi 1 = 0; rw [ha, shr_z]
        · show iShl .u64 b.hi 1 = 0; rw [hb, shl_z]
theorem ct (x : Int) : (bConst x).t = ⟨x, 0⟩ := rfl
theorem opB_z (hx : isU x = true) (hy : isU y = true) (c : Int) (hc : 0 ≤ c) (hc2 : c ≤ 10) (h6 : c ≠ 6) (h7 : c ≠ 7) (h9 : c ≠ 9) (h3 : c = 3 → y ≠ 0) (wide : Bool) :
    (opB c (bConst x) (bConst y)).t.hi = 0 ∨ Nar (opB c (bConst x) (bConst y)).u ⟨aluR c wide x y, aluR c wide x y⟩ := by
  have ux : UU (⟨x, 0⟩ : P2) := ⟨hx, (by decide : isU 0 = true)⟩
  have uy : UU (⟨y, 0⟩ : P2) := ⟨hy, (by decide : isU 0 = true)⟩
  have hcs : c = 0 ∨ c = 1 ∨ c = 2 ∨ c = 3 ∨ c = 4 ∨ c = 5 ∨ c = 8 ∨ c = 10 := by omega
  rcases hcs with rfl | rfl | rfl | rfl | rfl | rfl | rfl | rfl
  · exact .inl (tAdd_z ux uy rfl rfl)
  · exact .inl (tSub_z ux uy rfl rfl)
  · refine .inl ?_
    obtain ⟨g1, g2⟩ := mulGo_z 64 (a := ⟨x, 0⟩) (b := ⟨y, 0⟩) (t := ⟨0, 0⟩) rfl rfl uy ⟨by decide, by decide⟩ rfl
    exact tAdd_z g1 ⟨mulU_u x y, (by decide : isU 0 = true)⟩ g2 rfl
  · refine .inr ?_
    have hy0 := h3 rfl
    have e : aluR 3 wide x y = x / y := by
      show (if y = 0 then 0 else iQuo .u64 x y) = _
      rw [if_neg hy0, (quo_uu hx hy).1]
    rw [e]
    have e2 : (opB 3 (bConst x) (bConst y)).u = ⟨x / y, x / y⟩ := by
      show (⟨mDiv1 x x y y, mDiv2 x x y y⟩ : P2) = _
      have h1 : ¬ (x < x ∨ y < y) := by omega
      simp only [mDiv1, mDiv2, L04.mDiv, if_neg h1, if_neg hy0]
    rw [e2]
    exact Nar.refl _
  · refine .inl ?_
    show notU (orU 0 0) (orU x y) = 0
    rw [show orU 0 0 = 0 by decide, notU_zero (or_u hx hy)]
  · refine .inl ?_
    show notU (andU (orU x 0) (orU y 0)) (andU x y) = 0
    have hz := and_u hx hy
    rw [orU_zero hx, orU_zero hy]
    refine tb_ext (not_u hz hz) (by decide) fun i => ?_
    rw [tb_not hz hz, tb_zero]; cases tb (andU x y) i <;> rfl
  · exact .inl (tSub_z (a := ⟨0, 0⟩) ⟨by decide, by decide⟩ ux rfl rfl)
  · refine .inl ?_
    show orU 0 0 = 0
    decide
theorem known_const (hy : isU y = true) (n : Int) : iEq (tLowN (bConst y).t n).hi 0 = true := by
  rw [eq_t]
  show andU 0 _ = 0
  exact (andU_zero lown_u).2
theorem shift_z (hx : isU x = true) (c m : Int) (hm : isU m = true) : shiftB c (bConst x) m true = bConst (shV c x m) := by
  obtain ⟨ic, kc⟩ := const_ok hx
  have hz := shV_u hx c m
  have kz := any_has hz
  have hm0 := isU_iff.1 hm
  unfold shiftB
  dsimp only
  split
  · rename_i h; subst h
    obtain ⟨t1, t2⟩ := tShl_has ic.t hx kc.t m
    exact exact_sync ⟨t1, uShl_uu ic.u, any_inv.s, any_inv.w, any_inv.v⟩ hz ⟨t2, has_mid (a := uShl (bConst x).u m) (L04.shl_snd (mid_amid ic.u kc.u) hm0), kz.s, kz.w, kz.v⟩ (.inl (shl_z m))
  · split
    · rename_i h; subst h
      obtain ⟨t1, t2⟩ := tShr_has ic.t hx kc.t m
      exact exact_sync ⟨t1, uShr_uu ic.u, any_inv.s, any_inv.w, any_inv.v⟩ hz ⟨t2, has_mid (a := uShr (bConst x).u m) (L04.shr_snd (mid_amid ic.u kc.u) hm0), kz.s, kz.w, kz.v⟩ (.inl (shr_z m))
    · rename_i h6 h7
      have ez : shV c x m = iConv .u64 (iShr .i64 (sgn x) m) := by unfold shV; rw [if_neg h6, if_neg h7]
      obtain ⟨t1, t2⟩ := tSar_has ic.t hx kc.t m
      refine exact_sync ⟨t1, any_inv.u, sSar_ii ic.s, any_inv.w, any_inv.v⟩ hz ⟨by rw [ez]; exact t2, kz.u, ?_, kz.w, kz.v⟩ (.inl ?_)
      · rw [ez, sgn_conv (sar_i (sgn_i hx) m)]
        exact has_mid (a := sSar (bConst x).s m) (L04.sar_snd (mid_amidI ic.s kc.s) hm0)
      · show iConv .u64 (iShr .i64 (iConv .i64 0) m) = 0
        rw [show iConv .i64 0 = 0 by decide, shr_i', Int.zero_ediv]; decide
theorem low_z (hx : isU x = true) : lowB (bConst x) 32 = bConst (x % 4294967296) := by
  obtain ⟨ic, kc⟩ := const_ok hx
  obtain ⟨q1, q2⟩ := low32_q ic hx kc
  rw [lowB32 kc.some]
  exact exact_sync q1 (mod_u hx) q2 (.inl (andU_zero lown_u).2)
theorem long_z (hx : isU x = true) : longB (bConst x) = bConst (iConv .u64 (sg32 x)) := by
  obtain ⟨ic, kc⟩ := const_ok hx
  obtain ⟨t1, t2⟩ := tLong_has ic.t hx kc.t
  have hz := iConv_u (sg32 x)
  have kz := any_has hz
  have r := sg32_range x
  have q : Inv5 (longQ (bConst x)) ∧ HasB (longQ (bConst x)) (iConv .u64 (sg32 x)) := by
    refine ⟨⟨t1, any_inv.u, ?_, any_inv.w, any_inv.v⟩, ⟨t2, kz.u, ?_, kz.w, kz.v⟩⟩
    · have := ic.v; unfold VV at this; show II (bConst x).v; unfold II; omega
    · rw [sgn_conv (isI_iff.2 (by omega))]; exact kc.v
  refine exact_sync q.1 hz q.2 (.inl ?_)
  show iConv .u64 (sg32 (tLowN (bConst x).t 32).hi) = 0
  have : (tLowN (bConst x).t 32).hi = 0 := (andU_zero lown_u).2
  rw [this]; decide
theorem op_z (hx : isU x = true) (hy : isU y = true) (c : Int) (hc : 0 ≤ c) (hc2 : c ≤ 10) (h6 : c ≠ 6) (h7 : c ≠ 7) (h9 : c ≠ 9) (h3 : c = 3 → y ≠ 0) (wide : Bool) :
    isU (aluR c wide x y) = true ∧ sync (opB c (bConst x) (bConst y)) = bConst (aluR c wide x y) := by
  obtain ⟨ix, kx⟩ := const_ok hx
  obtain ⟨iy, ky⟩ := const_ok hy
  obtain ⟨g0, g1, g2⟩ := opB_ok ix iy hx hy kx ky c hc hc2 h6 h7 wide
  exact ⟨g0, exact_sync g1 g0 g2 (opB_z hx hy c hc hc2 h6 h7 h9 h3 wide)⟩
/-- Of two numbers alone each instruction makes the one number that it makes of these. -/
theorem does_alone (hx : isU x = true) (hy : isU y = true) (c : Int) (wide : Bool) (hc : 0 ≤ c) (hc2 : c ≤ 12) (h9 : c ≠ 9) (h3 : c = 3 → lowM wide y ≠ 0) :
    doesB c wide (bConst x) (bConst y) = bConst (aluN c wide x y) := by
  obtain ⟨ix, kx⟩ := const_ok hx
  obtain ⟨iy, ky⟩ := const_ok hy
  unfold doesB aluN
  rw [if_neg (by omega), if_neg (by omega), kx.some, ky.some]
  cases wide with
  | true =>
    show wideB c (bConst x) (bConst y) = bConst (aluR c true x y)
    replace h3 : c = 3 → y ≠ 0 := h3
    unfold wideB
    cases hs : isSh c with
    | true =>
      dsimp only
      rw [known_const hy 6, known_is iy.t hy ky.t 6 6 rfl (by omega) (known_const hy 6), shift_z hx c _ (pow_u hy 6), shR hs]
      split
      · rename_i h; subst h; rfl
      · rfl
    | false =>
      have hn : ¬ (c = 6 ∨ c = 7 ∨ c = 12) := of_decide_eq_false hs
      dsimp only
      split
      · rename_i h; subst h; rfl
      · exact (op_z hx hy c hc (by omega) (by omega) (by omega) h9 h3 true).2
  | false =>
    have hx' := mod_u hx
    have hy' := mod_u hy
    show halfB c (bConst x) (bConst y) = bConst (aluR c false (x % 4294967296) (y % 4294967296) % 4294967296)
    replace h3 : c = 3 → y % 4294967296 ≠ 0 := h3
    unfold halfB
    cases hs : isSh c with
    | true =>
      dsimp only
      have hm : isU (y % 2 ^ 5) = true := pow_u hy 5
      have e5 : y % 4294967296 % nBits false = y % 2 ^ 5 := by show y % 4294967296 % 32 = y % 32; omega
      rw [known_const hy 5, known_is iy.t hy ky.t 5 5 rfl (by omega) (known_const hy 5), low_z hx, shR hs, e5]
      split
      · rename_i h; subst h
        have r := sg32_range (x % 4294967296)
        rw [long_z hx', shift_z (iConv_u _) 12 _ hm, low_z (shV_u (iConv_u _) _ _)]
        unfold shV
        rw [if_neg (by decide), if_neg (by decide), sgn_conv (isI_iff.2 (by omega))]
        rfl
      · rw [shift_z hx' c _ hm, low_z (shV_u hx' _ _)]
    | false =>
      have hn : ¬ (c = 6 ∨ c = 7 ∨ c = 12) := of_decide_eq_false hs
      dsimp only
      rw [low_z hx, low_z hy, (const_ok hx').2.some, (const_ok hy').2.some]
      show lowB (if c = 11 then bConst (y % 4294967296) else sync (opB c (bConst (x % 4294967296)) (bConst (y % 4294967296)))) 32 = _
      split
      · rename_i h; subst h; rw [low_z hy']; rfl
      · obtain ⟨g0, g1⟩ := op_z hx' hy' c hc (by omega) (by omega) (by omega) h9 h3 false
        rw [g1, low_z g0]
end
end Go.Proofs.YtafpbibpahjnhaaGreat.L05
