/- Layer 16: what the small functions of a tree do to its nodes. A text of the session's own. -/
import Derived.Test.YtnlohongffpkpaaT16B
namespace Go.Proofs.Ytnlohongffpkpaa.T16
open Go Go.RowKit Go.Proofs.Ytnlohongffpkpaa.Sx
set_option linter.unusedVariables false
set_option linter.unusedSimpArgs false

def bi (i : Bool) : Int := match i with | true => 1 | false => 0
def Nd.ch (d : Nd) (i : Bool) : Int := match i with | true => d.r | false => d.l
def Nd.wch (d : Nd) (i : Bool) (v : Int) : Nd := match i with | true => { d with r := v } | false => { d with l := v }
def bOff (i : Bool) : Nat := match i with | true => 3 | false => 2
theorem aOff_bi (i : Bool) : aOff 2 (bi i) 1 = bOff i := by cases i <;> rfl
theorem sub_bi (i : Bool) : iSub .i64 1 (bi i) = bi (!i) := by cases i <;> rfl
theorem inR_bi (i : Bool) : inR (bi i) 2 = true := by cases i <;> rfl
theorem bNot_t : bNot true = false := rfl
theorem bNot_f : bNot false = true := rfl
def TS.sz (S : TS) (p : Int) : Int := match S.H p with | some d => d.n | none => 0
section
variable {S : TS} {b : Mem} {p : Int} {d : Nd}
theorem H_zero (h : S.ok) : S.H 0 = none := by
  cases e : S.H 0 with
  | none => rfl
  | some d => have := (h.nd 0 d e).1; omega
theorem gP_ch (h : S.ok) (hp : S.H p = some d) (i : Bool) : gP (S.mem b) p (bOff i) = d.ch i := by
  cases i
  · exact gP_l h hp
  · exact gP_r h hp
theorem okL_ch (h : S.ok) (hp : S.H p = some d) (i : Bool) : okL (S.mem b) p (bOff i) [.nilp] = true := by
  cases i
  · exact okL_2 h hp
  · exact okL_3 h hp
theorem okS_ch (h : S.ok) (hp : S.H p = some d) (i : Bool) : okS (S.mem b) p (bOff i) 1 = true := by
  cases i <;> exact okS_n h hp rfl
theorem wr_ch (h : S.ok) (hp : S.H p = some d) (i : Bool) (v : Int) : wrL (S.mem b) p (bOff i) [pv v 0] = (S.set p (d.wch i v)).mem b := by
  cases i
  · exact wr_l h hp v
  · exact wr_r h hp v
theorem ch_nn (h : S.ok) (hp : S.H p = some d) (i : Bool) : 0 ≤ d.ch i := by
  obtain ⟨_, h1, h2, _⟩ := h.nd p d hp
  cases i
  · exact h1
  · exact h2
theorem u_nn (h : S.ok) (hp : S.H p = some d) : 0 ≤ d.u := (h.nd p d hp).2.2.2
theorem p_ne0 (h : S.ok) (hp : S.H p = some d) : p ≠ 0 := by have := (h.nd p d hp).1; omega
theorem TS.ok.wch (h : S.ok) (hp : S.H p = some d) (i : Bool) {v : Int} (hv : 0 ≤ v) : (S.set p (d.wch i v)).ok := by
  obtain ⟨_, h1, h2, h3⟩ := h.nd p d hp
  cases i
  · exact h.set hp hv h2 h3
  · exact h.set hp h1 hv h3
theorem TS.ok.wu (h : S.ok) (hp : S.H p = some d) {v : Int} (hv : 0 ≤ v) : (S.set p { d with u := v }).ok := by
  obtain ⟨_, h1, h2, h3⟩ := h.nd p d hp
  exact h.set hp h1 h2 hv
theorem TS.ok.wc (h : S.ok) (hp : S.H p = some d) (v : Bool) : (S.set p { d with c := v }).ok := by
  obtain ⟨_, h1, h2, h3⟩ := h.nd p d hp
  exact h.set hp h1 h2 h3
theorem TS.ok.wn (h : S.ok) (hp : S.H p = some d) (v : Int) : (S.set p { d with n := v }).ok := by
  obtain ⟨_, h1, h2, h3⟩ := h.nd p d hp
  exact h.set hp h1 h2 h3
theorem TS.ok.wh (h : S.ok) (hp : S.H p = some d) (s g : Int) : (S.set p { d with s := s, g := g }).ok := by
  obtain ⟨_, h1, h2, h3⟩ := h.nd p d hp
  exact h.set hp h1 h2 h3

theorem size_spec (h : S.ok) (hp : S.has p) : sizeOK (S.mem b) p ∧ sizeV (S.mem b) p = S.sz p := by
  rcases hp with rfl | ⟨d, hd⟩
  · simp [sizeOK, sizeV, T_size, okP, outV, cmp_zero, peq_zero, vInt, intOf, TS.sz, H_zero h]
  · have h0 : p ≠ 0 := p_ne0 h hd
    have hnn : 0 ≤ p := Int.le_of_lt (h.nd p d hd).1
    simp [sizeOK, sizeV, T_size, okP, outV, cmp_zero, peq_zero hnn, h0, vInt, intOf, TS.sz, hd, nz_n h hd, okL_5 h hd, gI_n h hd]
theorem red_spec (h : S.ok) (hp : S.has p) : redOK (S.mem b) p ∧ redV (S.mem b) p = (match S.H p with | some d => d.c | none => false) := by
  rcases hp with rfl | ⟨d, hd⟩
  · simp [redOK, redV, T_red, okP, outV, cmp_zero, peq_zero, bNot, vBool, H_zero h]
  · have h0 : p ≠ 0 := p_ne0 h hd
    have hnn : 0 ≤ p := Int.le_of_lt (h.nd p d hd).1
    simp [redOK, redV, T_red, okP, outV, cmp_zero, peq_zero hnn, h0, bNot, vBool, hd, nz_n h hd, okL_6 h hd, gB_c h hd]
theorem which_top (h : S.ok) (hp : S.H p = some d) (hu : d.u = 0) : whichOK (S.mem b) p ∧ whichV (S.mem b) p = 0 := by
  simp [whichOK, whichV, T_which, okP, outV, cmp_zero, nz_n h hp, okL_4 h hp, gP_u h hp, hu, peq_zero, bNot, vInt, intOf]
theorem which_spec (h : S.ok) (hp : S.H p = some d) {du : Nd} (hu : S.H d.u = some du) (hr : S.has du.r) : whichOK (S.mem b) p ∧ whichV (S.mem b) p = bi (decide (du.r = p)) := by
  have h0 : d.u ≠ 0 := p_ne0 h hu
  have hnn := u_nn h hp
  have hrn : 0 ≤ du.r := ch_nn h hu true
  have hpn : 0 ≤ p := Int.le_of_lt (h.nd p d hp).1
  have hc : cmpOK (S.mem b) du.r p = true := cmp_has h hr (.inr ⟨d, hp⟩)
  have h1 : peq d.u 0 = false := by rw [peq_zero hnn]; simp [h0]
  have h2 : peq du.r p = decide (du.r = p) := peq_dec hrn hpn
  unfold whichOK whichV T_which
  simp only [okP, outV, cmp_zero, nz_n h hp, okL_4 h hp, gP_u h hp, h1, bNot_f, nz_n h hu, okL_3 h hu, gP_r h hu, hc, h2]
  by_cases e : du.r = p
  · simp [e, vInt, intOf, bi]
  · simp [e, vInt, intOf, bi]

/-- another node stands in a node's place, seen from above -/
def TS.hg (S : TS) (o : Int) (d : Nd) (x : Int) : TS := if d.u = 0 then S.top x else match S.H d.u with | some du => S.set d.u (du.wch (decide (du.r = o)) x) | none => S
def TS.up (S : TS) (x u : Int) : TS := match S.H x with | some dx => S.set x { dx with u := u } | none => S
def TS.hang (S : TS) (o : Int) (d : Nd) (x : Int) : TS := (S.hg o d x).up x d.u

theorem hang_tail {S1 : TS} {o x : Int} {d1 : Nd} {M : Mem} (h1 : S1.ok) (ho : S1.H o = some d1) (hx : S1.has x) :
    let T := Tr.br (cmpOK (S1.mem b) x 0) (.br (bNot (peq x 0)) (.br (nzp o) (.br (nzp o) (.br (okL (S1.mem b) o 4 [.nilp]) (.br (nzp x) (.br (nzp x) (.br (okS (S1.mem b) x 4 1) (.letm (wrL (S1.mem b) x 4 [(pv (gP (S1.mem b) o 4) 0)]) (fun m2 => (.leaf (.memo (.tup []) m2)))) (.no 72)) (.no 76)) (.no 75)) (.no 70)) (.no 76)) (.no 75)) (.leaf (.memo (.tup []) (S1.mem b)))) (.no 78)
    okP T ∧ outM T = (S1.up x d1.u).mem b ∧ (S1.up x d1.u).ok := by
  rcases hx with rfl | ⟨dx, hdx⟩
  · have : S1.up 0 d1.u = S1 := by simp [TS.up, H_zero h1]
    rw [this]
    simp [okP, outM, cmp_zero, peq_zero, bNot, h1]
  · have hn : 0 ≤ x := Int.le_of_lt (h1.nd x dx hdx).1
    have h2 : peq x 0 = false := by rw [peq_zero hn]; simp [p_ne0 h1 hdx]
    have : S1.up x d1.u = S1.set x { dx with u := d1.u } := by simp [TS.up, hdx]
    rw [this]
    simp only [okP, outM, cmp_zero, h2, bNot_f, nz_n h1 ho, nz_n h1 hdx, okL_4 h1 ho, okS_n h1 hdx (show Nat.ble (4 + 1) 7 = true from rfl), gP_u h1 ho, wr_u h1 hdx]
    exact ⟨by simp, trivial, h1.wu hdx (u_nn h1 ho)⟩
theorem hang_spec (h : S.ok) {o x : Int} (ho : S.H o = some d) (hx : S.has x) (hu : d.u = 0 ∨ ∃ du, S.H d.u = some du ∧ S.has du.r) (hne : d.u ≠ o) :
    hangOK (S.mem b) S.p o x ∧ hangM (S.mem b) S.p o x = (S.hang o d x).mem b ∧ (S.hang o d x).ok := by
  have hxn := TS.has.nn h hx
  unfold hangOK hangM T_hang
  rcases hu with hu | ⟨du, hu, hr⟩
  · have h1 : (S.top x).ok := h.top hxn
    have e : S.hang o d x = (S.top x).up x d.u := by simp [TS.hang, TS.hg, hu]
    rw [e]
    obtain ⟨g1, g2, g3⟩ := hang_tail (b := b) (o := o) (x := x) (d1 := d) (M := noM) h1 ho (by rcases hx with h0 | ⟨dx, hx⟩; exact .inl h0; exact .inr ⟨dx, hx⟩)
    have hp0 : peq d.u 0 = true := by rw [hu]; rfl
    simp only [okP, outM, cmp_zero, nz_n h ho, okL_4 h ho, gP_u h ho, hp0, nz_t, okS_t, wr_t h] at g1 g2 ⊢
    refine ⟨?_, g2, g3⟩
    simpa using g1
  · have h0 : d.u ≠ 0 := p_ne0 h hu
    have hp0 : peq d.u 0 = false := by rw [peq_zero (u_nn h ho)]; simp [h0]
    obtain ⟨w1, w2⟩ := which_spec (b := b) h ho hu hr
    have h1 : (S.set d.u (du.wch (decide (du.r = o)) x)).ok := h.wch hu _ hxn
    have ho1 : (S.set d.u (du.wch (decide (du.r = o)) x)).H o = some d := by rw [set_H, upd_ne _ (Ne.symm hne)]; exact ho
    have hx1 : (S.set d.u (du.wch (decide (du.r = o)) x)).has x := by
      rcases hx with h0 | ⟨dx, hx⟩
      · exact .inl h0
      · by_cases e : x = d.u
        · subst e; exact .inr ⟨_, by rw [set_H, upd_self]⟩
        · exact .inr ⟨dx, by rw [set_H, upd_ne _ e]; exact hx⟩
    have e : S.hang o d x = (S.set d.u (du.wch (decide (du.r = o)) x)).up x d.u := by simp [TS.hang, TS.hg, h0, hu]
    rw [e]
    obtain ⟨g1, g2, g3⟩ := hang_tail (b := b) (o := o) (x := x) (d1 := d) (M := noM) h1 ho1 hx1
    simp only [okP, outM, cmp_zero, nz_n h ho, okL_4 h ho, gP_u h ho, hp0, nz_n h hu, w2, aOff_bi, inR_bi, okS_ch h hu, wr_ch h hu] at g1 g2 ⊢
    refine ⟨?_, g2, g3⟩
    simpa [w1] using g1
theorem counts_spec (h : S.ok) (hp : S.H p = some d) (hl : S.has d.l) (hr : S.has d.r) (hb1 : 0 ≤ S.sz d.l) (hb2 : 0 ≤ S.sz d.r) (hb3 : S.sz d.l + S.sz d.r < 4611686018427387904) :
    countsOK (S.mem b) p ∧ countsM (S.mem b) p = (S.set p { d with n := 1 + S.sz d.l + S.sz d.r }).mem b ∧ (S.set p { d with n := 1 + S.sz d.l + S.sz d.r }).ok := by
  obtain ⟨l1, l2⟩ := size_spec (b := b) h hl
  obtain ⟨r1, r2⟩ := size_spec (b := b) h hr
  have ea : iAdd .i64 (iAdd .i64 1 (S.sz d.l)) (S.sz d.r) = 1 + S.sz d.l + S.sz d.r := by
    rw [add_i, add_i]; omega
  unfold countsOK countsM T_counts
  simp only [okP, outM, nz_n h hp, okL_2 h hp, okL_3 h hp, gP_l h hp, gP_r h hp, l2, r2, okS_n h hp (show Nat.ble (5 + 1) 7 = true from rfl), ea, wr_sz h hp]
  exact ⟨by simp [l1, r1], trivial, h.wn hp _⟩
end
end Go.Proofs.Ytnlohongffpkpaa.T16
