/- The tree of the document's round (layer 5), and that its leaves tell the round. Plain Lean. A text of the session's own. -/
import Derived.Test.YtafpbibpahjnhaaGreatL05Y
namespace Go.Proofs.YtafpbibpahjnhaaGreat.L05
open Go Go.RowKit Go.Proofs.YtafpbibpahjnhaaGreat.Sx
set_option linter.unusedVariables false
def leafB (X : Bd) (c : C) : Tr := .leaf (.val (.tup [.agg (cB X), .c c]))
def ask (c : Bool) (T : Tr) : Tr := .br c T (.no 98)
def askT (t : P2) (T : Tr) : Tr := ask (isU t.1) (ask (isU t.2) T)
def T8 (Y : Bd) : Tr := .br (cU Y) (.br (bNone (q5 Y)) (leafB (q5 Y) (.lb false)) (leafB (q6 (q5 Y)) (.sb (bNot (bNone (q6 (q5 Y))))))) (leafB Y (.sb (bNot (bNone Y))))
def T6 (X : Bd) : Tr := .br (bNone X) (leafB X (.lb false)) (askT X.4 (askT X.1 (askT (hT X) (ask (tMay X.1) (ask (tMay (hT X)) (.br (bNot (tMeetIs X.1 (hT X))) (leafB X (.lb false)) (T8 (setT X (tMeet X.1 (hT X))))))))))
def T5 (X : Bd) : Tr := .br (bNone X) (leafB X (.lb false)) (.br (cV X) (T6 (q4 X)) (T6 X))
def T4 (X : Bd) : Tr := .br (bNone X) (leafB X (.lb false)) (.br (cW X) (askT X.4 (T5 (q3 X))) (T5 X))
def T3 (X : Bd) : Tr := askT X.2 (askT X.1 (askT (tRange X.2.1 X.2.2) (ask (tMay X.1) (ask (tMay (tRange X.2.1 X.2.2)) (.br (bNot (tMeetIs X.1 (tRange X.2.1 X.2.2))) (leafB X (.lb false))
  (askT (q2T X) (ask (tMay (q2T X)) (ask (isN 32) (askT (q2T X) (ask (tMay (q2T X)) (T4 (q2 (setT X (q2T X)))))))))))))) 
def T1 (b : Bd) : Tr := askT b.1 (askT (q1U b) (ask (isI (q1S b).1) (ask (isI (q1S b).2) (.br (bNone (q1 b)) (leafB (q1 b) (.lb false)) (T3 (q1 b))))))
def resR (r : Bd × Bool) : V := .tup [.agg (cB r.1), .c (.sb r.2)]
section
variable {p : V → Prop} {c : Bool} {T : Tr} {t : P2} {X : Bd} {ρ : Nat → Nat}
theorem ask_all (h : c = true) (k : T.all p) : (ask c T).all p := askB h k
theorem askT_all (h : UU t) (k : T.all p) : (askT t T).all p := askB h.1 (askB h.2 k)
theorem leaf_f : (leafB X (.lb false)).all fun v => v.den ρ = V.den ρ (resR (X, false)) := rfl
theorem leaf_n {d : Bool} (h : bNot (bNone X) = d) : (leafB X (.sb (bNot (bNone X)))).all fun v => v.den ρ = V.den ρ (resR (X, d)) := by subst h; rfl
theorem bnot_eq (b : Bool) : bNot b = !b := rfl
theorem T8_all : (T8 X).all fun v => v.den ρ = V.den ρ (resR (r8 X)) := by
  unfold T8 r8
  refine br2 (fun h => ?_) (fun h => ?_)
  · rw [h]
    refine br2 (fun k => ?_) (fun k => ?_)
    · rw [k]; exact leaf_f
    · rw [k]; exact leaf_n (bnot_eq _)
  · rw [h]; exact leaf_n (bnot_eq _)
theorem T6_all (h : Inv5 X) : (T6 X).all fun v => v.den ρ = V.den ρ (resR (r6 X)) := by
  have hh := hT_tm h
  unfold T6 r6
  refine br2 (fun k => ?_) (fun k => ?_)
  · rw [k]; exact leaf_f
  · rw [k]
    refine askT_all (ww_uu h.w) (askT_all h.t.1 (askT_all hh.1 (ask_all ((tMay_iff h.t.1).2 h.t) (ask_all ((tMay_iff hh.1).2 hh) ?_))))
    unfold r7
    refine brn2 (fun k2 => ?_) (fun k2 => ?_)
    · have k2' : tMeetIs X.t (hT X) = true := k2
      rw [k2']; exact T8_all
    · have k2' : tMeetIs X.t (hT X) = false := k2
      rw [k2']; exact leaf_f
theorem T5_all (h : Inv5 X) : (T5 X).all fun v => v.den ρ = V.den ρ (resR (r5 X)) := by
  have i6 := st6_ok.inv X h
  rw [← q4_eq h] at i6
  unfold T5 r5
  refine br2 (fun k => ?_) (fun k => ?_)
  · rw [k]; exact leaf_f
  · rw [k]
    refine br2 (fun k2 => ?_) (fun k2 => ?_)
    · rw [k2] at i6 ⊢; exact T6_all i6
    · rw [k2]; exact T6_all h
theorem T4_all (h : Inv5 X) : (T4 X).all fun v => v.den ρ = V.den ρ (resR (r4 X)) := by
  have i5 := st5_ok.inv X h
  rw [← q3_eq h] at i5
  unfold T4 r4
  refine br2 (fun k => ?_) (fun k => ?_)
  · rw [k]; exact leaf_f
  · rw [k]
    refine br2 (fun k2 => ?_) (fun k2 => ?_)
    · rw [k2] at i5 ⊢; exact askT_all (ww_uu h.w) (T5_all i5)
    · rw [k2]; exact T5_all h
theorem T3_all (h : Inv5 X) : (T3 X).all fun v => v.den ρ = V.den ρ (resR (r3 X)) := by
  have hr := range_tm h.u.1 h.u.2
  have i3 := st3_ok.inv X h
  rw [st3_def] at i3
  have ht := meet_tm h.t.1 hr.1
  have ht2 := (tMay_iff ht.1).2 ht
  unfold T3 r3
  refine askT_all h.u (askT_all h.t.1 (askT_all hr.1 (ask_all ((tMay_iff h.t.1).2 h.t) (ask_all ((tMay_iff hr.1).2 hr) ?_))))
  refine brn2 (fun k => ?_) (fun k => ?_)
  · have k' : tMeetIs X.t (tRange X.u.lo X.u.hi) = true := k
    rw [k'] at i3 ⊢
    have i4 := st4_ok.inv _ i3
    rw [← q2_eq] at i4
    exact askT_all ht.1 (ask_all ht2 (ask_all (by decide) (askT_all ht.1 (ask_all ht2 (T4_all i4)))))
  · have k' : tMeetIs X.t (tRange X.u.lo X.u.hi) = false := k
    rw [k']; exact leaf_f
theorem T1_all (h : Inv5 X) : (T1 X).all fun v => v.den ρ = V.den ρ (resR (rndR X)) := by
  have i1 := st1_ok.inv X h
  have i2 := st2_ok.inv _ i1
  rw [← q1_eq h] at i2
  have hu : UU (q1U X) := meet_uu2 h.u ⟨h.t.1.1, or_u h.t.1.1 h.t.1.2⟩
  have hs : II (q1S X) := i2.s
  unfold T1 rndR
  refine askT_all h.t.1 (askT_all hu (ask_all (isI_iff.2 hs.1) (ask_all (isI_iff.2 hs.2) ?_)))
  refine br2 (fun k => ?_) (fun k => ?_)
  · rw [k]; exact leaf_f
  · rw [k]; exact T3_all i2
end
end Go.Proofs.YtafpbibpahjnhaaGreat.L05
