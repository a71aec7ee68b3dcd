/- The document's answer of layer 5: its rounds come to the same as the program's. Plain Lean. A text of the session's own. -/
import Derived.Test.YtafpbibpahjnhaaGreatL05W
namespace Go.Proofs.YtafpbibpahjnhaaGreat.L05
open Go Go.RowKit Go.Proofs.YtafpbibpahjnhaaGreat.Sx
set_option linter.unusedVariables false

def isN (n : Int) : Bool := decide (0 ≤ n ∧ n ≤ 64)
theorem isN_iff {n : Int} : isN n = true ↔ 0 ≤ n ∧ n ≤ 64 := by simp [isN]
def invB (b : Bd) : Bool := tMay b.t && (isU b.t.lo && isU b.t.hi && isU b.u.lo && isU b.u.hi && isI b.s.lo && isI b.s.hi) && (decide ((0 ≤ b.w.lo ∧ b.w.lo < 4294967296) ∧ 0 ≤ b.w.hi ∧ b.w.hi < 4294967296) && decide ((-2147483648 ≤ b.v.lo ∧ b.v.lo < 2147483648) ∧ -2147483648 ≤ b.v.hi ∧ b.v.hi < 2147483648))
theorem invB_iff {b : Bd} : invB b = true ↔ Inv5 b := by
  simp only [invB, Bool.and_eq_true, decide_eq_true_eq, isI_iff]
  constructor
  · rintro ⟨⟨h1, ⟨⟨⟨⟨h2, h3⟩, h4⟩, h5⟩, h6⟩, h7⟩, h8, h9⟩
    exact ⟨(tMay_iff ⟨h2, h3⟩).1 h1, ⟨h4, h5⟩, ⟨h6, h7⟩, h8, h9⟩
  · intro h
    exact ⟨⟨(tMay_iff h.t.1).2 h.t, ⟨⟨⟨⟨h.t.1.1, h.t.1.2⟩, h.u.1⟩, h.u.2⟩, h.s.1⟩, h.s.2⟩, h.w, h.v⟩
def goodB (b : Bd) : Bool := invB b && !bNone b
theorem goodB_iff {b : Bd} : goodB b = true ↔ Inv5 b ∧ bNone b = false := by
  simp only [goodB, Bool.and_eq_true, Bool.not_eq_true', invB_iff]
def endsM (t : P2) : P2 := ⟨iConv .i64 (orU t.lo (andU t.hi 9223372036854775808)), iConv .i64 (orU t.lo (notU t.hi 9223372036854775808))⟩
def halfM (t : P2) : P2 := ⟨sg32 (orU (tLowN t 32).lo (andU (tLowN t 32).hi 2147483648)), sg32 (orU (tLowN t 32).lo (notU (tLowN t 32).hi 2147483648))⟩
/-! the round, as the words say it -/
def q1U (b : Bd) : P2 := pMeet b.u ⟨b.t.lo, orU b.t.lo b.t.hi⟩
def q1S (b : Bd) : P2 := pMeet (pMeet b.s (endsM b.t)) (pSign (q1U b))
def q1 (b : Bd) : Bd := ⟨b.t, pMeet (q1U b) (pBare (q1S b)), q1S b, b.w, b.v⟩
def q2T (b : Bd) : P2 := tMeet b.t (tRange b.u.lo b.u.hi)
def q2W (b : Bd) : P2 := pMeet b.w ⟨(tLowN b.t 32).lo, orU (tLowN b.t 32).lo (tLowN b.t 32).hi⟩
def q2 (b : Bd) : Bd := ⟨b.t, b.u, b.s, q2W b, pMeet b.v (halfM b.t)⟩
def setT (b : Bd) (t : P2) : Bd := ⟨t, b.u, b.s, b.w, b.v⟩
def q3 (b : Bd) : Bd := ⟨b.t, b.u, b.s, b.w, pMeet b.v ⟨sg32 b.w.lo, sg32 b.w.hi⟩⟩
def q4 (b : Bd) : Bd := ⟨b.t, b.u, b.s, pMeet b.w ⟨iRem (iConv .u64 b.v.lo) 4294967296, iRem (iConv .u64 b.v.hi) 4294967296⟩, b.v⟩
def hT (b : Bd) : P2 := ⟨(tRange b.w.lo b.w.hi).lo, orU (tRange b.w.lo b.w.hi).hi 18446744069414584320⟩
def upQ (b : Bd) : Int := iShl .u64 (iShr .u64 b.u.lo 32) 32
def q5W (b : Bd) : P2 := pMeet b.w ⟨subU b.u.lo (upQ b), subU b.u.hi (upQ b)⟩
def q5 (b : Bd) : Bd := ⟨b.t, b.u, b.s, q5W b, b.v⟩
def q6 (b : Bd) : Bd := ⟨b.t, pMeet b.u ⟨addU (iShl .u64 (iShr .u64 b.u.lo 32) 32) b.w.lo, addU (iShl .u64 (iShr .u64 b.u.lo 32) 32) b.w.hi⟩, b.s, b.w, b.v⟩
/-- whether both ends are on the same side -/
def cW (b : Bd) : Bool := bEq (iLt b.w.lo 2147483648) (iLt b.w.hi 2147483648)
def cV (b : Bd) : Bool := bEq (iLt b.v.lo 0) (iLt b.v.hi 0)
def cU (b : Bd) : Bool := iEq (iShr .u64 b.u.lo 32) (iShr .u64 b.u.hi 32)
def r8 (b : Bd) : Bd × Bool := match cU b with
  | false => (b, !bNone b)
  | true => match bNone (q5 b) with | true => (q5 b, false) | false => (q6 (q5 b), !bNone (q6 (q5 b)))
def r7 (b : Bd) : Bd × Bool := match tMeetIs b.t (hT b) with | false => (b, false) | true => r8 (setT b (tMeet b.t (hT b)))
def r6 (b : Bd) : Bd × Bool := match bNone b with | true => (b, false) | false => r7 b
def r5 (b : Bd) : Bd × Bool := match bNone b with | true => (b, false) | false => match cV b with | true => r6 (q4 b) | false => r6 b
def r4 (b : Bd) : Bd × Bool := match bNone b with | true => (b, false) | false => match cW b with | true => r5 (q3 b) | false => r5 b
def r3 (b : Bd) : Bd × Bool := match tMeetIs b.t (tRange b.u.lo b.u.hi) with | false => (b, false) | true => r4 (q2 (setT b (q2T b)))
def rndR (b : Bd) : Bd × Bool := match bNone (q1 b) with | true => (q1 b, false) | false => r3 (q1 b)

/-! it comes to the same as the program's round -/
theorem ends_eq {t : P2} (h : UU t) : endsM t = ⟨sgn (orU t.lo (andU t.hi 9223372036854775808)), sgn (orU t.lo (notU t.hi 9223372036854775808))⟩ := by
  unfold endsM; rw [conv_sgn (or_u h.1 (and_u h.2 top64)), conv_sgn (or_u h.1 (not_u h.2 top64))]
theorem half_eq (t : P2) : halfM t = ⟨sg32 (orU (tLow t).lo (andU (tLow t).hi 2147483648)), sg32 (orU (tLow t).lo (notU (tLow t).hi 2147483648))⟩ := by
  unfold halfM; rw [tLowN32]
section
variable {b : Bd}
theorem q1_eq (h : Inv5 b) : q1 b = (st2 (st1 b).1).1 := by
  unfold q1 q1S q1U; rw [ends_eq h.t.1]; rfl
theorem none_st2 (h : bNone (st1 b).1 = true) : bNone (st2 (st1 b).1).1 = true := by
  rw [none_t] at *
  have e1 : ∀ p q : P2, p.hi < p.lo → (pMeet p q).hi < (pMeet p q).lo := fun p q hp => by unfold pMeet; rw [if_pos (.inl hp)]; decide
  rcases h with h | h | h | h
  · exact .inl (e1 _ _ h)
  · exact .inr (.inl (e1 _ _ h))
  · exact .inr (.inr (.inl h))
  · exact .inr (.inr (.inr h))
theorem q2_eq (b : Bd) : q2 b = (st4 b).1 := by
  unfold q2 q2W; rw [half_eq, tLowN32]; rfl
theorem q3_eq (h : Inv5 b) : (match cW b with | true => (q3 b, true) | false => (b, true)) = st5 b := by
  have := h.w
  unfold WW at this
  unfold cW st5
  by_cases e : b.w.lo / 2147483648 = b.w.hi / 2147483648
  · rw [if_pos e]
    have : bEq (iLt b.w.lo 2147483648) (iLt b.w.hi 2147483648) = true := by rw [beq_t, lt_t, lt_t]; omega
    rw [this]; rfl
  · rw [if_neg e]
    have : bEq (iLt b.w.lo 2147483648) (iLt b.w.hi 2147483648) = false := by rw [beq_f, lt_t, lt_t]; omega
    rw [this]
theorem q4_eq (h : Inv5 b) : (match cV b with | true => (q4 b, true) | false => (b, true)) = st6 b := by
  have := h.v
  unfold VV at this
  have e1 : ∀ z, -2147483648 ≤ z → z < 2147483648 → iRem (iConv .u64 z) 4294967296 = z % 4294967296 := fun z h1 h2 => by
    rw [rem_p (iConv_u z), conv_u]; omega
  unfold cV st6
  by_cases e : (b.v.lo < 0 ↔ b.v.hi < 0)
  · rw [if_pos e]
    have : bEq (iLt b.v.lo 0) (iLt b.v.hi 0) = true := by rw [beq_t, lt_t, lt_t]; exact e
    rw [this]
    unfold q4
    rw [e1 _ (by omega) (by omega), e1 _ (by omega) (by omega)]
  · rw [if_neg e]
    have : bEq (iLt b.v.lo 0) (iLt b.v.hi 0) = false := by rw [beq_f, lt_t, lt_t]; exact e
    rw [this]
theorem up_eq {x : Int} (hx : isU x = true) : iShl .u64 (iShr .u64 x 32) 32 = x - x % 4294967296 := by
  have := isU_iff.1 hx
  rw [shr32, Sx.shl_u]; show x / 4294967296 * 4294967296 % _ = _; omega
theorem q56_eq (h : Inv5 b) : st8 b = match cU b with | true => (q6 (q5 b), true) | false => (b, true) := by
  have hu := uu_iff.1 h.u
  unfold st8 cU
  by_cases e : b.u.lo / 4294967296 = b.u.hi / 4294967296
  · rw [if_pos e]
    have e2 : iEq (iShr .u64 b.u.lo 32) (iShr .u64 b.u.hi 32) = true := by rw [eq_t, shr32, shr32]; exact e
    rw [e2]
    have e3 : upQ b = b.u.lo - b.u.lo % 4294967296 := up_eq h.u.1
    have e4 : subU b.u.lo (upQ b) = b.u.lo % 4294967296 := by rw [e3, subU_mod]; unfold M64; omega
    have e5 : subU b.u.hi (upQ b) = b.u.hi % 4294967296 := by rw [e3, subU_mod]; unfold M64; omega
    have e6 : q5W b = pMeet b.w ⟨b.u.lo % 4294967296, b.u.hi % 4294967296⟩ := by unfold q5W; rw [e4, e5]
    have hw : WW (q5W b) := by rw [e6]; exact meet_ww h.w (by unfold WW; dsimp only; omega)
    have hw' := hw
    unfold WW at hw'
    have e7 : ∀ z, 0 ≤ z → z < 4294967296 → addU (iShl .u64 (iShr .u64 b.u.lo 32) 32) z = orU (andU b.u.lo 18446744069414584320) z := fun z h1 h2 => by
      rw [or_up h.u.1 h1 h2, up_eq h.u.1, addU_mod]; unfold M64; omega
    show (_, true) = (q6 (q5 b), true)
    have : q6 (q5 b) = ⟨b.t, pMeet b.u ⟨orU (andU b.u.lo 18446744069414584320) (q5W b).lo, orU (andU b.u.lo 18446744069414584320) (q5W b).hi⟩, b.s, q5W b, b.v⟩ := by
      unfold q6 q5
      dsimp only
      rw [e7 _ hw'.1.1 hw'.1.2, e7 _ hw'.2.1 hw'.2.2]
    rw [this, e6]
  · rw [if_neg e]
    have e2 : iEq (iShr .u64 b.u.lo 32) (iShr .u64 b.u.hi 32) = false := by rw [eq_f, shr32, shr32]; exact e
    rw [e2]
theorem none_q6 (h : bNone (q5 b) = true) : bNone (q6 (q5 b)) = true := by
  rw [none_t] at *
  rcases h with h | h | h | h
  · refine .inl ?_
    unfold q6
    dsimp only
    unfold pMeet
    rw [if_pos (.inl h)]; decide
  · exact .inr (.inl h)
  · exact .inr (.inr (.inl h))
  · exact .inr (.inr (.inr h))
/-- the same answer, and, if something is left, the same bound -/
def Same (p q : Bd × Bool) : Prop := p.2 = q.2 ∧ (p.2 = true → p = q)
theorem Same.rfl' (p : Bd × Bool) : Same p p := ⟨rfl, fun _ => rfl⟩
theorem Same.no {p q : Bd × Bool} (h : p.2 = false) (k : q.2 = false) : Same p q := ⟨by rw [h, k], fun e => by rw [h] at e; cases e⟩
theorem runs_cons (f : Bd → Bd × Bool) (l : List (Bd → Bd × Bool)) (b : Bd) : runs (f :: l) b = match (f b).2 && !bNone (f b).1 with | true => runs l (f b).1 | false => ((f b).1, false) := rfl
theorem runs_nil (b : Bd) : runs [] b = (b, true) := rfl
theorem st7_def (b : Bd) : st7 b = match tMeetIs b.t (hT b) with | true => (setT b (tMeet b.t (hT b)), true) | false => (b, false) := by
  unfold st7 meetT; rfl
theorem st3_def (b : Bd) : st3 b = match tMeetIs b.t (tRange b.u.lo b.u.hi) with | true => (setT b (q2T b), true) | false => (b, false) := by
  unfold st3 meetT; rfl
theorem same8 (h : Inv5 b) : Same (r8 b) (runs [st8] b) := by
  rw [runs_cons, runs_nil, q56_eq h]
  unfold r8
  cases cU b with
  | false => dsimp only [Bool.true_and]; cases bNone b <;> exact Same.rfl' _
  | true =>
    dsimp only [Bool.true_and]
    cases e : bNone (q5 b) with
    | true => rw [none_q6 e]; exact Same.no rfl rfl
    | false => dsimp only; cases bNone (q6 (q5 b)) <;> exact Same.rfl' _
theorem setT_none (b : Bd) (t : P2) : bNone (setT b t) = bNone b := rfl
theorem hT_tm (h : Inv5 b) : TM (hT b) := by
  have ht := range_tm (ww_uu h.w).1 (ww_uu h.w).2
  have e : (st7 b).1.t = (st7 b).1.t := rfl
  refine ⟨⟨ht.1.1, or_u ht.1.2 high32⟩, fun i => ?_⟩
  show (tb (tRange b.w.lo b.w.hi).lo i && tb (orU (tRange b.w.lo b.w.hi).hi 18446744069414584320) i) = false
  rw [tb_or ht.1.2 high32, tb_high32]
  have a3 := ht.2 i
  have hw := h.w
  unfold WW at hw
  by_cases hi : i < 32
  · rw [decide_eq_true hi]; simpa using a3
  · have : tb (tRange b.w.lo b.w.hi).lo i = false := by
      unfold tRange
      split
      · exact tb_zero i
      · have hx := xor_u (ww_uu h.w).1 (ww_uu h.w).2
        simp only [tOf]
        rw [tb_not (ww_uu h.w).1 (ones_u (bitLen_le _ (nat_lt hx))).1]
        have : tb b.w.lo i = false := by
          rw [tb]
          refine Nat.testBit_lt_two_pow (Nat.lt_of_lt_of_le (show b.w.lo.toNat < 2 ^ 32 by have : (2 : Nat) ^ 32 = 4294967296 := rfl; omega) (Nat.pow_le_pow_right (by omega) (by omega)))
        rw [this]; rfl
    rw [this]; rfl
theorem same7 (h : Inv5 b) (hn : bNone b = false) : Same (r7 b) (runs [st7, st8] b) := by
  rw [runs_cons]
  have i7 := st7_ok.inv b h
  rw [st7_def] at i7 ⊢
  unfold r7
  cases e : tMeetIs b.t (hT b) with
  | false => exact Same.no rfl rfl
  | true =>
    rw [e] at i7
    dsimp only at i7 ⊢
    rw [setT_none, hn]
    exact same8 i7
theorem same6 (h : Inv5 b) : Same (r6 b) (match !bNone b with | true => runs [st7, st8] b | false => (b, false)) := by
  unfold r6
  cases e : bNone b with
  | true => exact Same.rfl' _
  | false => exact same7 h e
theorem same5 (h : Inv5 b) : Same (r5 b) (match !bNone b with | true => runs [st6, st7, st8] b | false => (b, false)) := by
  unfold r5
  cases e : bNone b with
  | true => exact Same.rfl' _
  | false =>
    show Same _ (runs [st6, st7, st8] b)
    rw [runs_cons, ← q4_eq h]
    have i6 := st6_ok.inv b h
    rw [← q4_eq h] at i6
    cases ec : cV b with
    | true => rw [ec] at i6; exact same6 i6
    | false => exact same6 h
theorem same4 (h : Inv5 b) : Same (r4 b) (match !bNone b with | true => runs [st5, st6, st7, st8] b | false => (b, false)) := by
  unfold r4
  cases e : bNone b with
  | true => exact Same.rfl' _
  | false =>
    show Same _ (runs [st5, st6, st7, st8] b)
    rw [runs_cons, ← q3_eq h]
    have i5 := st5_ok.inv b h
    rw [← q3_eq h] at i5
    cases ec : cW b with
    | true => rw [ec] at i5; exact same5 i5
    | false => exact same5 h
theorem same3 (h : Inv5 b) (hn : bNone b = false) : Same (r3 b) (runs [st3, st4, st5, st6, st7, st8] b) := by
  rw [runs_cons]
  have i3 := st3_ok.inv b h
  rw [st3_def] at i3 ⊢
  unfold r3
  cases e : tMeetIs b.t (tRange b.u.lo b.u.hi) with
  | false => exact Same.no rfl rfl
  | true =>
    rw [e] at i3
    dsimp only at i3 ⊢
    rw [setT_none, hn]
    show Same _ (runs [st4, st5, st6, st7, st8] (setT b (q2T b)))
    rw [runs_cons, ← q2_eq]
    have i4 := st4_ok.inv _ i3
    rw [← q2_eq] at i4
    exact same4 i4
theorem rnd_same (h : Inv5 b) : Same (rndR b) (rnd b) := by
  have i1 := st1_ok.inv b h
  have i2 := st2_ok.inv _ i1
  rw [← q1_eq h] at i2
  unfold rndR rnd steps
  rw [runs_cons]
  cases e : bNone (st1 b).1 with
  | true =>
    have := none_st2 e
    rw [← q1_eq h] at this
    rw [this]
    exact Same.no rfl rfl
  | false =>
    show Same _ (runs [st2, st3, st4, st5, st6, st7, st8] (st1 b).1)
    rw [runs_cons, ← q1_eq h]
    cases e2 : bNone (q1 b) with
    | true => exact Same.no rfl rfl
    | false => exact same3 i2 e2
/-- behind three rounds -/
theorem sync_no1 (h : mayB b = false) : sync b = nothing := by unfold sync; rw [h]
theorem may_parts (r : Raw5 b) (h1 : bNone b = false) (h2 : tMay b.t = true) (h3 : b.w.hi ≤ 4294967295) (h4 : -2147483648 ≤ b.v.lo) (h5 : b.v.hi ≤ 2147483647) : mayB b = true := by
  have n := none_f.1 h1
  have w := uu_iff.1 r.w
  simp only [mayB, Bool.and_eq_true, Bool.not_eq_true']
  refine ⟨⟨⟨h1, h2⟩, ?_⟩, ?_⟩
  · rw [pIn_t]; simp only [anyB]; omega
  · rw [pBoth_t]; simp only [anyB]; omega
theorem may_not (h : bNone b = true ∨ tMay b.t = false ∨ 4294967295 < b.w.hi ∨ b.v.lo < -2147483648 ∨ 2147483647 < b.v.hi) : mayB b = false := by
  cases e : mayB b with
  | false => rfl
  | true =>
    simp only [mayB, Bool.and_eq_true, Bool.not_eq_true', pIn_t, pBoth_t, anyB] at e
    obtain ⟨⟨⟨e1, e2⟩, e3⟩, e4⟩ := e
    have n := none_f.1 e1
    rcases h with h | h | h | h | h
    · rw [e1] at h; cases h
    · rw [e2] at h; cases h
    · omega
    · omega
    · omega
theorem sync_steps (h : mayB b = true) (i : Inv5 b) : sync b = match (rndR b).2 with | false => nothing | true => match (rndR (rndR b).1).2 with | false => nothing | true => match (rndR (rndR (rndR b).1).1).2 with | false => nothing | true => (rndR (rndR (rndR b).1).1).1 := by
  unfold sync
  rw [h]
  dsimp only
  have s1 := rnd_same i
  cases e1 : (rndR b).2 with
  | false => rw [← s1.1, e1]
  | true =>
    rw [← s1.2 e1, e1]
    have i1 : Inv5 (rndR b).1 := by rw [s1.2 e1]; exact (rnd_ok i).1
    have s2 := rnd_same i1
    dsimp only
    cases e2 : (rndR (rndR b).1).2 with
    | false => rw [← s2.1, e2]
    | true =>
      rw [← s2.2 e2, e2]
      have i2 : Inv5 (rndR (rndR b).1).1 := by rw [s2.2 e2]; exact (rnd_ok i1).1
      have s3 := rnd_same i2
      dsimp only
      cases e3 : (rndR (rndR (rndR b).1).1).2 with
      | false => rw [← s3.1, e3]
      | true => rw [← s3.2 e3, e3]
theorem rnd_inv (i : Inv5 b) (h : (rndR b).2 = true) : Inv5 (rndR b).1 := by rw [(rnd_same i).2 h]; exact (rnd_ok i).1
end
end Go.Proofs.YtafpbibpahjnhaaGreat.L05
