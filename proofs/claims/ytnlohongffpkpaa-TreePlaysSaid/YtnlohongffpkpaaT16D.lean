/- Layer 16: what a turn does to a tree's nodes. A text of the session's own. -/
import Derived.Test.YtnlohongffpkpaaT16C
namespace Go.Proofs.Ytnlohongffpkpaa.T16
open Go Go.RowKit Go.Proofs.Ytnlohongffpkpaa.Sx
set_option linter.unusedVariables false
set_option linter.unusedSimpArgs false

section
variable {S : TS} {b : Mem} {p : Int} {d : Nd}
theorem sz_set (S : TS) (p : Int) (d : Nd) (q : Int) : (S.set p d).sz q = if q = p then d.n else S.sz q := by
  unfold TS.sz
  rw [set_H]
  by_cases e : q = p
  · subst e; rw [upd_self, if_pos rfl]
  · rw [upd_ne d e, if_neg e]
theorem sz_keep {d0 : Nd} (hp : S.H p = some d0) (hn : d.n = d0.n) (q : Int) : (S.set p d).sz q = S.sz q := by
  rw [sz_set]
  split
  · rename_i e; subst e; unfold TS.sz; rw [hp, hn]
  · rfl
theorem has_set {q : Int} (h : S.has q) : (S.set p d).has q := by
  rcases h with h | ⟨e, h⟩
  · exact .inl h
  · by_cases e2 : q = p
    · subst e2; exact .inr ⟨d, by rw [set_H, upd_self]⟩
    · exact .inr ⟨e, by rw [set_H, upd_ne d e2]; exact h⟩
theorem wch_n (d : Nd) (i : Bool) (v : Int) : (d.wch i v).n = d.n := by cases i <;> rfl
theorem wch_u (d : Nd) (i : Bool) (v : Int) : (d.wch i v).u = d.u := by cases i <;> rfl
theorem wch_c (d : Nd) (i : Bool) (v : Int) : (d.wch i v).c = d.c := by cases i <;> rfl
theorem wch_s (d : Nd) (i : Bool) (v : Int) : (d.wch i v).s = d.s := by cases i <;> rfl
theorem wch_g (d : Nd) (i : Bool) (v : Int) : (d.wch i v).g = d.g := by cases i <;> rfl
theorem wch_ch (d : Nd) (i : Bool) (v : Int) : (d.wch i v).ch i = v := by cases i <;> rfl
theorem wch_ch' (d : Nd) (i : Bool) (v : Int) : (d.wch i v).ch (!i) = d.ch (!i) := by cases i <;> rfl
theorem wch_ch2 (d : Nd) (i : Bool) (v : Int) : (d.wch (!i) v).ch i = d.ch i := by cases i <;> rfl

/-- hang, node by node -/
theorem hang_at (h : S.ok) {o x : Int} (ho : S.H o = some d) (hx : S.has x) (hu : d.u = 0 ∨ ∃ du, S.H d.u = some du ∧ S.has du.r) (hne : d.u ≠ o) (hxu : d.u ≠ 0 → x ≠ d.u) :
    let S' := S.hang o d x
    S'.t = S.t ∧ S'.q = S.q ∧ S'.es = S.es ∧ S'.k = S.k ∧ S'.root = (if d.u = 0 then x else S.root) ∧ (∀ dx, S.H x = some dx → S'.H x = some { dx with u := d.u }) ∧
    (∀ du, S.H d.u = some du → S'.H d.u = some (du.wch (decide (du.r = o)) x)) ∧ (∀ q, q ≠ x → q ≠ d.u → S'.H q = S.H q) ∧ (∀ q, S'.sz q = S.sz q) ∧ (∀ q, S.has q → S'.has q) := by
  intro S'
  have hS' : S' = (S.hg o d x).up x d.u := rfl
  have key : ∀ S1 : TS, S1.ok → S1.H x = S.H x →
      (S1.up x d.u).t = S1.t ∧ (S1.up x d.u).q = S1.q ∧ (S1.up x d.u).es = S1.es ∧ (S1.up x d.u).k = S1.k ∧ (S1.up x d.u).root = S1.root ∧ (∀ dx, S.H x = some dx → (S1.up x d.u).H x = some { dx with u := d.u }) ∧
      (∀ q, q ≠ x → (S1.up x d.u).H q = S1.H q) ∧ (∀ q, (S1.up x d.u).sz q = S1.sz q) ∧ (∀ q, S1.has q → (S1.up x d.u).has q) := by
    intro S1 h1 he
    cases hh : S1.H x with
    | none =>
      have : S1.up x d.u = S1 := by simp [TS.up, hh]
      rw [this]
      exact ⟨rfl, rfl, rfl, rfl, rfl, (fun dx hdx => by rw [he, hdx] at hh; cases hh), fun _ _ => rfl, fun _ => rfl, fun _ h => h⟩
    | some dx =>
      have : S1.up x d.u = S1.set x { dx with u := d.u } := by simp [TS.up, hh]
      rw [this]
      refine ⟨rfl, rfl, rfl, rfl, rfl, fun dx' hdx => ?_, fun q hq => by rw [set_H, upd_ne _ hq], fun q => sz_keep (d := { dx with u := d.u }) hh rfl q, fun q h => has_set h⟩
      rw [he, hdx] at hh; cases hh; rw [set_H, upd_self]
  rcases hu with hu | ⟨du, hu, hr⟩
  · have e1 : S.hg o d x = S.top x := by simp [TS.hg, hu]
    rw [hS', e1]
    obtain ⟨k1, k2, k3, k4, k5, k6, k7, k8, k9⟩ := key (S.top x) (h.top (TS.has.nn h hx)) rfl
    refine ⟨k1, k2, k3, k4, by rw [k5, if_pos hu]; rfl, k6, fun du hdu => ?_, fun q hq _ => k7 q hq, k8, fun q hq => k9 q hq⟩
    rw [hu, H_zero h] at hdu; cases hdu
  · have h0 : d.u ≠ 0 := p_ne0 h hu
    have e1 : S.hg o d x = S.set d.u (du.wch (decide (du.r = o)) x) := by simp [TS.hg, h0, hu]
    rw [hS', e1]
    obtain ⟨k1, k2, k3, k4, k5, k6, k7, k8, k9⟩ := key (S.set d.u (du.wch (decide (du.r = o)) x)) (h.wch hu _ (TS.has.nn h hx)) (by rw [set_H, upd_ne _ (hxu h0)])
    refine ⟨k1, k2, k3, k4, by rw [k5, if_neg h0]; rfl, k6, fun du' hdu => ?_, fun q hq hqu => ?_, fun q => ?_, fun q hq => k9 q (has_set hq)⟩
    · rw [hu] at hdu; cases hdu
      rw [k7 d.u (Ne.symm (hxu h0)), set_H, upd_self]
    · rw [k7 q hq, set_H, upd_ne _ hqu]
    · rw [k8, sz_keep hu (wch_n _ _ _)]

theorem turn_spec (h : S.ok) (i : Bool) {x : Int} {dx dy : Nd} (hx : S.H x = some dx) (hy : S.H (dx.ch (!i)) = some dy) (hm : S.has (dy.ch i)) (hu : dx.u = 0 ∨ ∃ du, S.H dx.u = some du ∧ S.has du.r)
    (ha : S.has (dx.ch i)) (hc : S.has (dy.ch (!i))) (nxy : x ≠ dx.ch (!i)) (nmx : dy.ch i ≠ x) (nmy : dy.ch i ≠ dx.ch (!i)) (nux : dx.u ≠ x) (nuy : dx.u ≠ dx.ch (!i)) (num : dx.u ≠ 0 → dy.ch i ≠ dx.u) (ncx : dy.ch (!i) ≠ x)
    (b1 : 0 ≤ S.sz (dx.ch i)) (b2 : 0 ≤ S.sz (dy.ch i)) (b3 : 0 ≤ S.sz (dy.ch (!i))) (b4 : S.sz (dx.ch i) + S.sz (dy.ch i) + S.sz (dy.ch (!i)) < 2305843009213693952) :
    turnOK (S.mem b) S.p x (bi i) ∧ ∃ S' : TS, turnM (S.mem b) S.p x (bi i) = S'.mem b ∧ S'.ok ∧ S'.t = S.t ∧ S'.q = S.q ∧ S'.es = S.es ∧ S'.k = S.k ∧ S'.root = (if dx.u = 0 then dx.ch (!i) else S.root) ∧
      S'.H x = some { dx.wch (!i) (dy.ch i) with u := dx.ch (!i), n := 1 + S.sz (dx.ch i) + S.sz (dy.ch i) } ∧
      S'.H (dx.ch (!i)) = some { dy.wch i x with u := dx.u, n := 2 + S.sz (dx.ch i) + S.sz (dy.ch i) + S.sz (dy.ch (!i)) } ∧
      (∀ dm, S.H (dy.ch i) = some dm → S'.H (dy.ch i) = some { dm with u := x }) ∧ (∀ du, S.H dx.u = some du → S'.H dx.u = some (du.wch (decide (du.r = x)) (dx.ch (!i)))) ∧
      ∀ q, q ≠ x → q ≠ dx.ch (!i) → q ≠ dy.ch i → q ≠ dx.u → S'.H q = S.H q := by
  generalize hyy : dx.ch (!i) = y at *
  generalize hmm : dy.ch i = m at *
  have hyn : 0 < y := (h.nd y dy hy).1
  have hxn : 0 < x := (h.nd x dx hx).1
  have hmn : 0 ≤ m := TS.has.nn h hm
  obtain ⟨g1, g2, g3⟩ := hang_spec (b := b) h hx (.inr ⟨dy, hy⟩) hu nux
  obtain ⟨f1, f2, f3, f4, f5, f6, f7, f8, f9, f10⟩ := hang_at h hx (.inr ⟨dy, hy⟩) hu nux (fun _ => Ne.symm nuy)
  generalize hS1 : S.hang x dx y = S1 at *
  have x1 : S1.H x = some dx := by rw [f8 x nxy (Ne.symm nux)]; exact hx
  have y1 : S1.H y = some { dy with u := dx.u } := f6 dy hy
  have p1 : S1.p = S.p := by unfold TS.p; rw [f1]
  have e1 : gP (S1.mem b) y (bOff i) = m := by rw [gP_ch g3 y1]; exact hmm
  -- x's side
  have hw2 : wrL (S1.mem b) x (bOff (!i)) [pv m 0] = (S1.set x (dx.wch (!i) m)).mem b := wr_ch g3 x1 (!i) m
  have h2 : (S1.set x (dx.wch (!i) m)).ok := g3.wch x1 (!i) hmn
  generalize hS2 : S1.set x (dx.wch (!i) m) = S2 at *
  have x2 : S2.H x = some (dx.wch (!i) m) := by rw [← hS2, set_H, upd_self]
  have o2 : ∀ q, q ≠ x → S2.H q = S1.H q := fun q hq => by rw [← hS2, set_H, upd_ne _ hq]
  have y2 : S2.H y = some { dy with u := dx.u } := by rw [o2 y (Ne.symm nxy)]; exact y1
  have s2 : ∀ q, S2.sz q = S.sz q := fun q => by rw [← hS2, sz_keep x1 (wch_n _ _ _), f9]
  have a2 : ∀ q, S.has q → S2.has q := fun q hq => by rw [← hS2]; exact has_set (f10 q hq)
  have e2 : gP (S2.mem b) y (bOff i) = m := by rw [gP_ch h2 y2]; exact hmm
  have t2 : S2.t = S.t ∧ S2.q = S.q ∧ S2.es = S.es ∧ S2.k = S.k ∧ S2.root = S1.root := by rw [← hS2]; exact ⟨f1, f2, f3, f4, rfl⟩
  -- what follows once the middle one knows whom it stands under
  have tail : ∀ S3 : TS, S3.ok → S3.H x = some (dx.wch (!i) m) → S3.H y = some { dy with u := dx.u } → (∀ q, S3.sz q = S.sz q) → (∀ q, S.has q → S3.has q) →
      (okS (S3.mem b) y (bOff i) 1 = true ∧ ∃ S4 S5 S6 S' : TS, wrL (S3.mem b) y (bOff i) [pv x 0] = S4.mem b ∧ okS (S4.mem b) x 4 1 = true ∧ wrL (S4.mem b) x 4 [pv y 0] = S5.mem b ∧ countsOK (S5.mem b) x ∧ countsM (S5.mem b) x = S6.mem b ∧ countsOK (S6.mem b) y ∧ countsM (S6.mem b) y = S'.mem b ∧
        S'.ok ∧ S'.t = S3.t ∧ S'.q = S3.q ∧ S'.es = S3.es ∧ S'.k = S3.k ∧ S'.root = S3.root ∧ S'.H x = some { dx.wch (!i) m with u := y, n := 1 + S.sz (dx.ch i) + S.sz m } ∧ S'.H y = some { dy.wch i x with u := dx.u, n := 2 + S.sz (dx.ch i) + S.sz m + S.sz (dy.ch (!i)) } ∧ ∀ q, q ≠ x → q ≠ y → S'.H q = S3.H q) := by
    intro S3 h3 x3 y3 s3 a3
    refine ⟨okS_ch h3 y3 i, ?_⟩
    let d4 : Nd := ({ dy with u := dx.u } : Nd).wch i x
    let S4 := S3.set y d4
    have h4 : S4.ok := h3.wch y3 i (Int.le_of_lt hxn)
    have y4 : S4.H y = some d4 := upd_self _ _ _
    have x4 : S4.H x = some (dx.wch (!i) m) := by show upd S3.H y d4 x = _; rw [upd_ne _ nxy]; exact x3
    let d5 : Nd := { dx.wch (!i) m with u := y }
    let S5 := S4.set x d5
    have h5 : S5.ok := h4.wu x4 (Int.le_of_lt hyn)
    have x5 : S5.H x = some d5 := upd_self _ _ _
    have y5 : S5.H y = some d4 := by show upd S4.H x d5 y = _; rw [upd_ne _ (Ne.symm nxy)]; exact y4
    have s5 : ∀ q, S5.sz q = S.sz q := fun q => by
      show (S4.set x d5).sz q = _
      rw [sz_keep (d := d5) x4 (by show (dx.wch (!i) m).n = _; rfl)]
      show (S3.set y d4).sz q = _
      rw [sz_keep (d := d4) y3 (wch_n _ _ _), s3]
    have a5 : ∀ q, S.has q → S5.has q := fun q hq => has_set (has_set (a3 q hq))
    have c5 : d5.ch i = dx.ch i ∧ d5.ch (!i) = m := by cases i <;> exact ⟨rfl, rfl⟩
    have lr5 : (d5.l = dx.ch i ∧ d5.r = m) ∨ (d5.l = m ∧ d5.r = dx.ch i) := by cases i with | false => exact .inl c5 | true => exact .inr ⟨c5.2, c5.1⟩
    have hh5 : S5.has d5.l ∧ S5.has d5.r ∧ 0 ≤ S5.sz d5.l ∧ 0 ≤ S5.sz d5.r ∧ S5.sz d5.l + S5.sz d5.r = S.sz (dx.ch i) + S.sz m := by
      rw [s5, s5]
      rcases lr5 with ⟨e, e'⟩ | ⟨e, e'⟩ <;> rw [e, e']
      · exact ⟨a5 _ ha, a5 _ hm, b1, b2, rfl⟩
      · exact ⟨a5 _ hm, a5 _ ha, b2, b1, Int.add_comm _ _⟩
    obtain ⟨q1, q2, q3, q4, q5⟩ := hh5
    obtain ⟨k1, k2, k3⟩ := counts_spec (b := b) h5 x5 q1 q2 q3 q4 (by omega)
    have en : 1 + S5.sz d5.l + S5.sz d5.r = 1 + S.sz (dx.ch i) + S.sz m := by omega
    rw [en] at k2 k3
    let d6 : Nd := { d5 with n := 1 + S.sz (dx.ch i) + S.sz m }
    let S6 := S5.set x d6
    have h6 : S6.ok := k3
    have y6 : S6.H y = some d4 := by show upd S5.H x d6 y = _; rw [upd_ne _ (Ne.symm nxy)]; exact y5
    have x6 : S6.H x = some d6 := upd_self _ _ _
    have c4 : d4.ch i = x ∧ d4.ch (!i) = dy.ch (!i) := by cases i <;> exact ⟨rfl, rfl⟩
    have sx6 : S6.sz x = 1 + S.sz (dx.ch i) + S.sz m := by show (S5.set x d6).sz x = _; rw [sz_set, if_pos rfl]
    have sc6 : S6.sz (dy.ch (!i)) = S.sz (dy.ch (!i)) := by show (S5.set x d6).sz _ = _; rw [sz_set, if_neg ncx, s5]
    have lr4 : (d4.l = x ∧ d4.r = dy.ch (!i)) ∨ (d4.l = dy.ch (!i) ∧ d4.r = x) := by cases i with | false => exact .inl c4 | true => exact .inr ⟨c4.2, c4.1⟩
    have hh6 : S6.has d4.l ∧ S6.has d4.r ∧ 0 ≤ S6.sz d4.l ∧ 0 ≤ S6.sz d4.r ∧ S6.sz d4.l + S6.sz d4.r = 1 + S.sz (dx.ch i) + S.sz m + S.sz (dy.ch (!i)) := by
      have hx6 : S6.has x := .inr ⟨_, x6⟩
      have hc6 : S6.has (dy.ch (!i)) := has_set (a5 _ hc)
      rcases lr4 with ⟨e, e'⟩ | ⟨e, e'⟩ <;> rw [e, e', sx6, sc6]
      · exact ⟨hx6, hc6, by omega, b3, by omega⟩
      · exact ⟨hc6, hx6, b3, by omega, by omega⟩
    obtain ⟨r1, r2, r3, r4, r5⟩ := hh6
    obtain ⟨l1, l2, l3⟩ := counts_spec (b := b) h6 y6 r1 r2 r3 r4 (by omega)
    have en2 : 1 + S6.sz d4.l + S6.sz d4.r = 2 + S.sz (dx.ch i) + S.sz m + S.sz (dy.ch (!i)) := by omega
    rw [en2] at l2 l3
    refine ⟨S4, S5, S6, _, wr_ch h3 y3 i x, okS_n h4 x4 rfl, wr_u h4 x4 y, k1, k2, l1, l2, l3, rfl, rfl, rfl, rfl, rfl, ?_, ?_, fun q hq1 hq2 => ?_⟩
    · rw [set_H, upd_ne _ nxy]; exact x6
    · rw [set_H, upd_self]
      cases i <;> rfl
    · rw [set_H, upd_ne _ hq2]
      show upd S5.H x d6 q = _
      rw [upd_ne _ hq1]
      show upd S4.H x d5 q = _
      rw [upd_ne _ hq1]
      show upd S3.H y d4 q = _
      rw [upd_ne _ hq2]
  unfold turnOK turnM T_turn
  rw [sub_bi, aOff_bi, aOff_bi]
  have ey : gP (S.mem b) x (bOff (!i)) = y := by rw [gP_ch h hx]; exact hyy
  rcases hm with hm0 | ⟨dm, hm⟩
  · subst hm0
    obtain ⟨T0, S4, S5, S6, S', T1, T2, T3, T4, T5, T6, T7, T8, T9, T10, T11, T12, T13, T14, T15, T16⟩ := tail S2 h2 x2 y2 s2 a2
    have hp0 : peq 0 0 = true := rfl
    simp only [okP, outM, nz_n h hx, inR_bi, okL_ch h hx, ey, g2, nz_n h hy, okL_ch g3 y1, okS_ch g3 x1, e1, hw2, okL_ch h2 y2, e2, cmp_zero, hp0, bNot_t, T0, T1, T2, T3, T5, T7]
    refine ⟨by simp [g1, T4, T6], S', rfl, T8, T9.trans t2.1, T10.trans t2.2.1, T11.trans t2.2.2.1, T12.trans t2.2.2.2.1, by rw [T13, t2.2.2.2.2, f5], T14, T15, (fun dm hdm => by rw [H_zero h] at hdm; cases hdm), fun du hdu => ?_, fun q q1 q2 q3 q4 => by rw [T16 q q1 q2, o2 q q1, f8 q q2 q4]⟩
    rw [T16 _ nux nuy, o2 _ nux]; exact f7 du hdu
  · have hm1 : m ≠ 0 := p_ne0 h hm
    have m2 : ∃ dm2, S2.H m = some dm2 ∧ dm2 = dm := by
      refine ⟨dm, ?_, rfl⟩
      rw [o2 m nmx]
      by_cases e : dx.u = 0
      · rw [f8 m nmy (by rw [e]; exact hm1)]; exact hm
      · rw [f8 m nmy (num e)]; exact hm
    obtain ⟨dm2, m2, rfl⟩ := m2
    have hp0 : peq m 0 = false := by rw [peq_zero hmn]; simp [hm1]
    have h3 : (S2.set m { dm2 with u := x }).ok := h2.wu m2 (Int.le_of_lt hxn)
    obtain ⟨T0, S4, S5, S6, S', T1, T2, T3, T4, T5, T6, T7, T8, T9, T10, T11, T12, T13, T14, T15, T16⟩ := tail (S2.set m { dm2 with u := x }) h3 (by rw [set_H, upd_ne _ (Ne.symm nmx)]; exact x2) (by rw [set_H, upd_ne _ (Ne.symm nmy)]; exact y2) (fun q => by rw [sz_keep (d := { dm2 with u := x }) m2 rfl, s2]) (fun q hq => has_set (a2 q hq))
    have x4 : okS (S4.mem b) x 4 1 = true := T2
    simp only [okP, outM, nz_n h hx, inR_bi, okL_ch h hx, ey, g2, nz_n h hy, okL_ch g3 y1, okS_ch g3 x1, e1, hw2, okL_ch h2 y2, e2, cmp_zero, hp0, bNot_f, nz_n h hm, okS_n h2 m2 (show Nat.ble (4 + 1) 7 = true from rfl), wr_u h2 m2, T0, T1, T2, T3, T5, T7]
    refine ⟨by simp [g1, T4, T6], S', rfl, T8, T9.trans t2.1, T10.trans t2.2.1, T11.trans t2.2.2.1, T12.trans t2.2.2.2.1, by rw [T13]; show S2.root = _; rw [t2.2.2.2.2, f5], T14, T15, fun dm' hdm => ?_, fun du hdu => ?_, fun q q1 q2 q3 q4 => ?_⟩
    · rw [hm] at hdm; cases hdm
      rw [T16 _ nmx nmy, set_H, upd_self]
    · have hu0 : dx.u ≠ 0 := fun e => by rw [e, H_zero h] at hdu; cases hdu
      rw [T16 _ nux nuy, set_H, upd_ne _ (Ne.symm (num hu0)), o2 _ nux]; exact f7 du hdu
    · rw [T16 q q1 q2, set_H, upd_ne _ q3, o2 q q1, f8 q q2 q4]
end
end Go.Proofs.Ytnlohongffpkpaa.T16
