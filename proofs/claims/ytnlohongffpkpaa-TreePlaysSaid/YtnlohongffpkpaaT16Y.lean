/- Layer 16: how deep a tree is, how many digits a number has; a tree stays low. A text of the session's own. -/
import Derived.Test.YtnlohongffpkpaaT16X
namespace Go.Proofs.Ytnlohongffpkpaa.T16
open Go Go.RowKit Go.Proofs.Ytnlohongffpkpaa.Sx Go.Proofs
set_option linter.unusedVariables false
set_option linter.unusedSimpArgs false

def T.high : T → Nat
  | .nil => 0
  | .nd _ _ _ _ l r => 1 + max l.high r.high
theorem high_le : ∀ t : T, t.high ≤ t.size
  | .nil => Nat.le_refl _
  | .nd _ _ _ _ l r => by have := high_le l; have := high_le r; simp only [T.high, T.size]; omega
theorem RB_size : ∀ {t : T} {n : Nat}, RB t n → 2 ^ n ≤ t.size + 1
  | .nil, n, h => by cases h; simp [T.size]
  | .nd p s g true l r, n, h => by
    obtain ⟨h1, h2, _, _⟩ := h
    have := RB_size h1
    simp only [T.size]; omega
  | .nd p s g false l r, n, h => by
    obtain ⟨m, rfl, h1, h2⟩ := h
    have := RB_size h1
    have := RB_size h2
    simp only [T.size]; rw [Nat.pow_succ]; omega
theorem RB_high : ∀ {t : T} {n : Nat}, RB t n → t.high ≤ 2 * n + (match red t with | true => 1 | false => 0)
  | .nil, n, h => by simp [T.high]
  | .nd p s g true l r, n, h => by
    obtain ⟨h1, h2, h3, h4⟩ := h
    have e1 := RB_high h1
    have e2 := RB_high h2
    rw [h3] at e1; rw [h4] at e2
    simp only [T.high, red] at *; omega
  | .nd p s g false l r, n, h => by
    obtain ⟨m, rfl, h1, h2⟩ := h
    have e1 := RB_high h1
    have e2 := RB_high h2
    simp only [T.high, red]
    revert e1 e2
    cases red l <;> cases red r <;> simp only <;> omega
def digits (n : Nat) : Nat := if h : n = 0 then 0 else digits (n / 2) + 1
termination_by n
decreasing_by omega
theorem digits_pow : ∀ (k n : Nat), 2 ^ k ≤ n → k < digits n
  | 0, n, h => by rw [digits, dif_neg (by omega)]; omega
  | k + 1, n, h => by
    rw [Nat.pow_succ] at h
    have hp : 0 < 2 ^ k := Nat.pow_pos (by omega)
    rw [digits, dif_neg (by omega)]
    have := digits_pow k (n / 2) (by omega)
    omega
theorem digits_le (n : Nat) : digits n ≤ n := by
  induction n using Nat.strongRecOn with
  | _ n ih =>
    rw [digits]
    split
    · omega
    · have := ih (n / 2) (by omega); omega
theorem RB_low {t : T} {n : Nat} (h : RB t n) (hb : red t = false) : t.high ≤ 2 * digits (t.size + 1) := by
  have h1 := RB_high h
  rw [hb] at h1
  have h2 := digits_pow n _ (RB_size h)
  simp only at h1; omega

section
variable (deepOK : Mem → Int → Prop) (deepV : Mem → Int → Int)
def T_deep (m : Mem) (p : Int) : Tr := (.br (cmpOK m p 0) (.br (peq p 0) (.leaf (.memo (.u (.c (.li .i64 0))) m)) (.br (nzp p) (.br (nzp p) (.br (nzp p) (.br (okL m p 2 [.nilp]) (.req (deepOK m (gP m p 2)) (.br (nzp p) (.br (nzp p) (.br (nzp p) (.br (okL m p 3 [.nilp]) (.req (deepOK m (gP m p 3)) (.leaf (.memo (.u (.c (.si .i64 (iAdd .i64 1 (iMax2 (deepV m (gP m p 2)) (deepV m (gP m p 3))))))) m))) (.no 70)) (.no 81)) (.no 76)) (.no 75))) (.no 70)) (.no 81)) (.no 76)) (.no 75))) (.no 78))
end
def deepK : Nat → (Mem → Int → Prop) × (Mem → Int → Int)
  | 0 => (fun _ _ => False, fun _ _ => 0)
  | k + 1 => (fun m p => okP (T_deep (deepK k).1 (deepK k).2 m p), fun m p => vInt (outV (T_deep (deepK k).1 (deepK k).2 m p)))
def s_deepK (k : Nat) : Sum := rdSum 55 fun m a => match a with | [a0] => (match ptrOf a0 with | some p => some ((deepK k).1 m p, .u (.c (.si .i64 ((deepK k).2 m p)))) | _ => none) | _ => none
theorem t_deepK (k : Nat) (m : Mem) (p : Int) : runm Try.prog [s_deepK k] (drawx Try.prog [s_deepK k]) 300 55 [.u (.c (.np p 0))] m [98] = T_deep (deepK k).1 (deepK k).2 m p := by kernel_rfl
theorem deep_all (k : Nat) (m : Mem) (p : Int) : allL (fun v m' => m' = m ∧ ∀ ρ, V.den ρ v = V.den ρ (.u (.c (.si .i64 (vInt v))))) (T_deep (deepK k).1 (deepK k).2 m p) := by
  simp only [T_deep, allL]
  repeat' (first | exact fun _ => rfl | exact fun _ => trivial | exact trivial | rfl | constructor)
theorem s_deepK_ok : ∀ k, SumOK Try.prog (s_deepK k)
  | 0 => by
    refine rdSum_ok ⟨_, Try.func55, by kernel_rfl⟩ fun m args pre v h hp hw ρ w hm => ?_
    split at h
    · split at h
      · cases h; exact hp.elim
      · cases h
    · cases h
  | k + 1 => by
    refine rdSum_ok ⟨_, Try.func55, by kernel_rfl⟩ fun m args pre v h hp hw ρ w hm => ?_
    split at h
    · split at h
      · rename_i a0 _ p h0
        cases h
        exact dm_calls nameOK (okc (s_deepK_ok k) okn) (dOK (okc (s_deepK_ok k) okn)) 300 _ m _ (t_deepK k m p) hp (allL_out (deep_all k m p) hp).1 ρ ((allL_out (deep_all k m p) hp).2 ρ) w hm (by simp only [List.map_cons, List.map_nil, ptrOf_den h0])
      · cases h
    · cases h
theorem deepK_spec {S : TS} {b : Mem} (hS : S.ok) : ∀ (k : Nat) (t : T) (u : Int), Rep S.H u t → t.high < k → t.high < 1152921504606846976 → (deepK k).1 (S.mem b) t.ptr ∧ (deepK k).2 (S.mem b) t.ptr = t.high
  | 0, _, _, _, h, _ => absurd h (Nat.not_lt_zero _)
  | k + 1, .nil, u, hR, h, hb => by
    simp [deepK, T_deep, okP, outV, cmp_zero, peq_zero, vInt, intOf, T.ptr, T.high]
  | k + 1, .nd p s g c l r, u, hR, h, hb => by
    obtain ⟨hp, hl, hr⟩ := hR
    simp only [T.high] at h hb
    obtain ⟨l1, l2⟩ := deepK_spec (b := b) hS k l p hl (by omega) (by omega)
    obtain ⟨r1, r2⟩ := deepK_spec (b := b) hS k r p hr (by omega) (by omega)
    have h0 : p ≠ 0 := p_ne0 hS hp
    have hnn : 0 ≤ p := Int.le_of_lt (hS.nd p _ hp).1
    have ea : iAdd .i64 1 (iMax2 (l.high : Int) (r.high : Int)) = ((1 + max l.high r.high : Nat) : Int) := by
      have : iMax2 (l.high : Int) (r.high : Int) = ((max l.high r.high : Nat) : Int) := by
        unfold iMax2; split <;> omega
      rw [this, iadd_i (by omega)]; omega
    rw [show (T.nd p s g c l r).ptr = p from rfl]
    simp [deepK, T_deep, okP, outV, cmp_zero, peq_zero hnn, h0, nz_n hS hp, okL_2 hS hp, okL_3 hS hp, gP_l hS hp, gP_r hS hp, l1, l2, r1, r2, vInt, intOf, ea, T.high]
def deepOK (m : Mem) (p : Int) : Prop := (deepK 1000).1 m p
def deepV (m : Mem) (p : Int) : Int := (deepK 1000).2 m p
def s_deep : Sum := rdSum 55 fun m a => match a with | [a0] => (match ptrOf a0 with | some p => some (deepOK m p, .u (.c (.si .i64 (deepV m p)))) | _ => none) | _ => none
theorem s_deep_ok : SumOK Try.prog s_deep := s_deepK_ok 1000
def T_deeps (m : Mem) (t : Int) : Tr := (.br (cmpOK m t 0) (.br (peq t 0) (.leaf (.memo (.u (.c (.li .i64 0))) m)) (.br (nzp t) (.br (nzp t) (.br (okL m t 0 [.nilp]) (.req (deepOK m (gP m t 0)) (.leaf (.memo (.u (.c (.si .i64 (deepV m (gP m t 0))))) m))) (.no 70)) (.no 76)) (.no 75))) (.no 78))
theorem t_deeps (m : Mem) (t : Int) : runm Try.prog [s_deep] (drawx Try.prog [s_deep]) 300 26 [.u (.c (.np t 0))] m [98] = T_deeps m t := by kernel_rfl
def deepsOK (m : Mem) (t : Int) : Prop := okP (T_deeps m t)
def deepsV (m : Mem) (t : Int) : Int := vInt (outV (T_deeps m t))
theorem deeps_all (m : Mem) (t : Int) : allL (fun v m' => m' = m ∧ ∀ ρ, V.den ρ v = V.den ρ (.u (.c (.si .i64 (vInt v))))) (T_deeps m t) := by
  simp only [T_deeps, allL]
  repeat' (first | exact fun _ => rfl | exact fun _ => trivial | exact trivial | rfl | constructor)
def s_deeps : Sum := rdSum 26 fun m a => match a with | [a0] => (match ptrOf a0 with | some t => some (deepsOK m t, .u (.c (.si .i64 (deepsV m t)))) | _ => none) | _ => none
theorem s_deeps_ok : SumOK Try.prog s_deeps := by
  refine rdSum_ok ⟨_, Try.func26, by kernel_rfl⟩ fun m args pre v h hp hw ρ w hm => ?_
  split at h
  · split at h
    · rename_i a0 _ t h0
      cases h
      exact dm_calls nameOK (okc s_deep_ok okn) (dOK (okc s_deep_ok okn)) 300 _ m _ (t_deeps m t) hp (allL_out (deeps_all m t) hp).1 ρ ((allL_out (deeps_all m t) hp).2 ρ) w hm (by simp only [List.map_cons, List.map_nil, ptrOf_den h0])
    · cases h
  · cases h
theorem deeps_spec {S : TS} {b : Mem} {t : T} (h : At S t []) (hb : t.high < 1000) : deepsOK (S.mem b) S.p ∧ deepsV (S.mem b) S.p = t.high := by
  have hroot : S.root = t.ptr := h.ctx
  obtain ⟨a1, a2⟩ := deepK_spec (b := b) h.ok 1000 t 0 h.rep hb (by omega)
  simp [deepsOK, deepsV, T_deeps, okP, outV, cmp_zero, peq_t, vInt, intOf, nz_t, okL_t, gP_t h.ok, hroot, deepOK, deepV, a1, a2]
/-! digits -/
def digitsOK (m : Mem) (n : Int) : Prop := 0 ≤ n ∧ n < 1152921504606846976
def digitsV (m : Mem) (n : Int) : Int := (digits n.toNat : Nat)
def T_digits (m : Mem) (n : Int) : Tr := (.lp (.mk [n, 0] [] [] m) (fun y0 j0 => (.br (iGt (hdI y0.1) 0) (.req ((([] : List (Nat × V)) = []) ∧ (([] : List (Nat × Blk)) = [])) (.leaf (.again (.mk [(iQuo .i64 (hdI y0.1) 2), (iAdd .i64 (hdI (tlI y0.1)) 1)] [] [] y0.4)))) (.leaf (.up (.memo (.u (.c (.si .i64 (hdI (tlI y0.1))))) y0.4))))))
theorem t_digits (m : Mem) (n : Int) : runm Try.prog [] (drawl Try.prog [] (fun _ _ => some ⟨[0, 3], [], [], []⟩)) 300 27 [.u (.c (.si .i64 n))] m [98] = T_digits m n := by kernel_rfl
def s_digits : Sum := rdSum 27 fun m a => match a with | [a0] => (match intOf a0 with | some n => some (digitsOK m n, .u (.c (.si .i64 (digitsV m n)))) | _ => none) | _ => none
theorem quo2 (n : Nat) (h : n < 4611686018427387904) : iQuo .i64 (n : Int) 2 = ((n / 2 : Nat) : Int) := by
  unfold iQuo
  rw [IntKind.wrap_i64]
  have : ((n : Int)).tdiv 2 = ((n / 2 : Nat) : Int) := Int.ofNat_tdiv n 2
  rw [this]; omega
theorem digits_walk {m : Mem} {n : Int} (h : digitsOK m n) : (T_digits m n).sat (isMemo fun v x => x = m ∧ v = .u (.c (.si .i64 (digitsV m n)))) := by
  unfold T_digits
  obtain ⟨h0, h1⟩ := h
  obtain ⟨n, rfl⟩ : ∃ k : Nat, n = k := ⟨n.toNat, by omega⟩
  let J : Nat → Vars → Prop := fun N y => ∃ d : Nat, y = ⟨[(N : Int), (d : Int)], [], [], m⟩ ∧ d + digits N = digits n ∧ N ≤ n
  refine lp_idx J (n0 := n) ⟨0, rfl, by omega, Nat.le_refl _⟩ ?_
  rintro N y _ ⟨d, rfl, hd, hN⟩
  simp only [hdI, tlI]
  by_cases hz : N = 0
  · subst hz
    rw [brF (by simp [iGt])]
    refine ⟨rfl, ?_⟩
    rw [digits, dif_pos rfl] at hd
    show V.u (.c (.si .i64 (d : Int))) = _
    unfold digitsV
    rw [Int.toNat_natCast, ← hd]; simp
  · rw [brT (by simp [iGt]; omega), sat_req, quo2 N (by omega)]
    have := digits_le n
    rw [iadd_i (by omega), show (d : Int) + 1 = ((d + 1 : Nat) : Int) by omega]
    rw [digits, dif_neg hz] at hd
    exact ⟨by simp, N / 2, by omega, d + 1, rfl, by omega, by omega⟩
theorem s_digits_ok : SumOK Try.prog s_digits := by
  refine rdSum_ok ⟨_, Try.func27, by kernel_rfl⟩ fun m args pre v h hp hw ρ w hm => ?_
  split at h
  · split at h
    · rename_i a0 _ n h0
      cases h
      have := memo_sound nameOK okn (drawl_sound nameOK okn (by kernel_rfl) _) 300 _ m _ (t_digits m n) (digits_walk hp) ρ w hm
      have he : List.map (V.den ρ) [a0] = List.map (V.den ρ) [V.u (U.c (C.si .i64 n))] := by simp only [List.map_cons, List.map_nil, intOf_den h0]
      rw [he]
      refine this.mono ?_
      rintro e w' ⟨v, x, ⟨rfl, rfl⟩, rfl, g⟩
      exact ⟨rfl, g⟩
    · cases h
  · cases h
/-- a tree stays low -/
theorem low_spec {S : TS} {b : Mem} {t : T} {n : Nat} (h : Tre S t n) (hb : t.size < 1000) : (deepsOK (S.mem b) S.p ∧ lenOK (S.mem b) S.p ∧ digitsOK (S.mem b) (iAdd .i64 (lenV (S.mem b) S.p) 1)) ∧ iGt (deepsV (S.mem b) S.p) (iMul .i64 2 (digitsV (S.mem b) (iAdd .i64 (lenV (S.mem b) S.p) 1))) = false := by
  have hl := high_le t
  obtain ⟨d1, d2⟩ := deeps_spec (b := b) h.at' (by omega)
  obtain ⟨l1, l2⟩ := len_spec (b := b) h.at'
  have hd := digits_le (t.size + 1)
  have hlow := RB_low h.rb h.blk
  rw [d2, l2, iadd_i (by omega)]
  refine ⟨⟨d1, l1, ?_⟩, ?_⟩
  · unfold digitsOK; omega
  · have e : digitsV (S.mem b) ((t.size : Int) + 1) = ((digits (t.size + 1) : Nat) : Int) := by
      unfold digitsV; rw [show ((t.size : Int) + 1).toNat = t.size + 1 by omega]
    rw [e, mul_i]
    simp only [iGt, decide_eq_false_iff_not]; omega
end Go.Proofs.Ytnlohongffpkpaa.T16
