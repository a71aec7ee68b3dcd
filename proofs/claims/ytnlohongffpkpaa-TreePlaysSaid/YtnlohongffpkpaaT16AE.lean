/- Layer 16: TreePlays' walk. A text of the session's own. -/
import Derived.Test.YtnlohongffpkpaaT16AB
import Derived.Test.YtnlohongffpkpaaSxU
namespace Go.Proofs.Ytnlohongffpkpaa.T16
open Go Go.RowKit Go.Proofs.Ytnlohongffpkpaa.Sx Go.Proofs
set_option linter.unusedVariables false
set_option linter.unusedSimpArgs false

/-! where paths meet -/
def joinR (Q : Vars → Prop) (R : Leaf → Prop) : Leaf → Prop
  | .again y => hdI y.i = 1 ∧ Q ⟨tlI y.i, y.b, y.v, y.m⟩
  | .up l => R l
  | _ => False
def upR (R : Leaf → Prop) : Leaf → Prop
  | .up l => R l
  | _ => False
theorem sat_jn {R : Leaf → Prop} {m : Mem} {A : Tr} {f : Vars → (Nat → Value) → Tr} (Q : Vars → Prop) (hA : A.sat (joinR Q R))
    (hf : ∀ v j, hdI v.i = 1 → Q ⟨tlI v.i, v.b, v.v, v.m⟩ → (f v j).sat (upR R)) : (Tr.lp ⟨[0], [], [], m⟩ fun v j => .br (iZero? (hdI v.i)) A (f v j)).sat R := by
  refine ⟨fun v => hdI v.i = 0 ∨ (hdI v.i = 1 ∧ Q ⟨tlI v.i, v.b, v.v, v.m⟩), fun v => if hdI v.i = 0 then 1 else 0, .inl rfl, fun v j hv => ⟨fun hz => ?_, fun hz => ?_⟩⟩
  · have hz : hdI v.i = 0 := by simpa [iZero?] using hz
    refine sat_mono (fun l hl => ?_) hA
    cases l with
    | again y =>
      refine ⟨.inr hl, ?_⟩
      have h1 : hdI y.i = 1 := hl.1
      simp only [h1, hz]; decide
    | up l => exact hl
    | _ => exact hl.elim
  · have hz : ¬ hdI v.i = 0 := by simpa [iZero?] using hz
    rcases hv with hv | hv
    · exact absurd hv hz
    · refine sat_mono (fun l hl => ?_) (hf v j hv.1 hv.2)
      cases l with
      | up l => exact hl
      | _ => exact hl.elim

/-! a slice of steps -/
structure Stp where
  rm : Bool
  at' : Int
  s : Int
  g : Int
structure ArgS (l : Value) (xs : List Stp) (m : Mem) : Prop where
  sl : isSlV (pl l) = true
  n : slN (pl l) = xs.length
  at' : ∀ i : Nat, ∀ x, xs[i]? = some x → inSl (pl l) i = true ∧ okL m (slB (pl l)) (aOff (slO (pl l)) i 4) [.lb false, .li .i64 0, .li .i64 0, .li .u64 0] = true ∧ gB m (slB (pl l)) (aOff (slO (pl l)) i 4) = x.rm ∧ gI m (slB (pl l)) (.succ (aOff (slO (pl l)) i 4)) = x.at' ∧
    gI m (slB (pl l)) (.succ (.succ (aOff (slO (pl l)) i 4))) = x.s ∧ gI m (slB (pl l)) (.succ (.succ (.succ (aOff (slO (pl l)) i 4)))) = x.g
  rng : ∀ x ∈ xs, inI x.s ∧ inU x.g
theorem ArgS.more {l : Value} {xs : List Stp} {m m' : Mem} (h : ArgS l xs m) (hm : ∀ a, m a ≠ none → m' a = m a) : ArgS l xs m' := by
  refine ⟨h.sl, h.n, fun i x hx => ?_, h.rng⟩
  obtain ⟨a1, a2, a3, a4, a5, a6⟩ := h.at' i x hx
  obtain ⟨b1, b2⟩ := okL_more hm a2
  unfold gI at a4 a5 a6
  unfold gB at a3
  refine ⟨a1, b1, ?_, ?_, ?_, ?_⟩
  · unfold gB; rw [b2]; exact a3
  · unfold gI; rw [b2]; exact a4
  · unfold gI; rw [b2]; exact a5
  · unfold gI; rw [b2]; exact a6

/-! a tree and a list, in one memory -/
theorem lst_mem {S : TS} {b : Mem} {r : Int} {v : Value} {hs ks : List (Int × Int)} {y : Vars} (hF : Fre S b) (hL : Lst b r v hs) (h : lstPost (S.mem b) r ks y) :
    ∃ b' u, y.m = S.mem b' ∧ Fre S b' ∧ Lst b' r u ks ∧ ∀ a : Nat, b a ≠ none → (a : Int) + 1 ≠ r → b' a = b a := by
  obtain ⟨u, h1, h2, h3⟩ := h
  obtain ⟨⟨p0, rfl, hp0⟩, hsl⟩ := hL
  have hb0 : b p0 ≠ none := by rw [hp0]; simp
  have ht : p0 ≠ S.t := by rintro rfl; exact hb0 hF.t
  have hq : p0 ≠ S.q := by rintro rfl; exact hb0 hF.q
  have hH : S.H ((p0 : Int) + 1) = none := by
    cases e : S.H ((p0 : Int) + 1) with
    | none => rfl
    | some d => exact absurd (hF.H p0 (by rw [e]; simp)) hb0
  let b' : Mem := fun a => if a = S.t ∨ a = S.q ∨ S.H ((a : Int) + 1) ≠ none then none else y.m a
  have e0 : ∀ a, ¬ (a = S.t ∨ a = S.q ∨ S.H ((a : Int) + 1) ≠ none) → b' a = y.m a := fun a ha => by simp only [b', if_neg ha]
  have em : y.m = S.mem b' := by
    funext a
    by_cases ha : a = S.t ∨ a = S.q ∨ S.H ((a : Int) + 1) ≠ none
    · have hs : S.mem b a ≠ none ∧ S.mem b a = S.mem b' a := by
        unfold TS.mem
        by_cases e1 : a = S.t
        · simp [e1]
        · by_cases e2 : a = S.q
          · subst e2; simp [e1]
          · have e3 : S.H ((a : Int) + 1) ≠ none := by rcases ha with h | h | h; exact absurd h e1; exact absurd h e2; exact h
            cases e : S.H ((a : Int) + 1) with
            | none => exact absurd e e3
            | some d => simp [e1, e2]
      have hne : (a : Int) + 1 ≠ (p0 : Int) + 1 := by
        intro e
        have : a = p0 := by omega
        subst this
        rcases ha with h | h | h
        · exact ht h
        · exact hq h
        · exact h hH
      rw [h2 a hs.1 hne, hs.2]
    · rw [← e0 a ha]
      have h' := ha
      simp only [not_or, Decidable.not_not] at h'
      obtain ⟨x1, x2, x3⟩ := h'
      simp [TS.mem, x1, x2, x3]
  have hpn : ¬ (p0 = S.t ∨ p0 = S.q ∨ S.H ((p0 : Int) + 1) ≠ none) := by simp [ht, hq, hH]
  refine ⟨b', u, em, ⟨by simp [b'], by simp [b'], fun a ha => by simp [b', ha]⟩, ⟨⟨p0, rfl, ?_⟩, ?_⟩, fun a ha hne => ?_⟩
  · obtain ⟨a, ha, h4⟩ := h1.hd
    have : a = p0 := by omega
    subst this
    rw [e0 _ hpn]; exact h4
  · refine h1.sl.more fun a ha _ => ?_
    have := h3 a ha
    obtain ⟨x1, x2, x3⟩ := free_at this
    exact e0 a (by simp [x1, x2, x3])
  · have hs : S.mem b a = b a := hF.more a ha
    have x1 : a ≠ S.t := by rintro rfl; exact ha hF.t
    have x2 : a ≠ S.q := by rintro rfl; exact ha hF.q
    have x3 : S.H ((a : Int) + 1) = none := by
      cases e : S.H ((a : Int) + 1) with
      | none => rfl
      | some d => exact absurd (hF.H a (by rw [e]; simp)) ha
    rw [e0 a (by simp [x1, x2, x3]), h2 a (by rw [hs]; exact ha) hne, hs]
/-- what holds ahead of each step -/
def PlI (m0 : Mem) (p r : Int) (k : Nat) (m : Mem) : Prop :=
  ∃ (S : TS) (b : Mem) (t : T) (n : Nat) (v : Value), m = S.mem b ∧ S.p = p ∧ Tre S t n ∧ Fre S b ∧ (∀ a, m0 a ≠ none → b a = m0 a) ∧ Lst b r v (hans t) ∧ t.size ≤ k ∧ ∀ a : Nat, r = (a : Int) + 1 → m0 a = none
theorem PlI.of {m0 : Mem} {p r : Int} {k : Nat} {S : TS} {b : Mem} {t : T} {n : Nat} {v : Value} {hs : List (Int × Int)} {y : Vars} (e1 : S.p = p) (hT : Tre S t n) (hF : Fre S b) (hk : ∀ a, m0 a ≠ none → b a = m0 a) (hL : Lst b r v hs) (hs' : t.size ≤ k) (hr : ∀ a : Nat, r = (a : Int) + 1 → m0 a = none)
    (h : lstPost (S.mem b) r (hans t) y) : PlI m0 p r k y.m := by
  obtain ⟨b', u, h1, h2, h3, h4⟩ := lst_mem hF hL h
  refine ⟨S, b', t, n, u, h1, e1, hT, h2, fun a ha => ?_, h3, hs', hr⟩
  rw [h4 a (by rw [hk a ha]; exact ha) (fun e => ha (hr a e.symm)), hk a ha]
theorem new_lst {S : TS} {m0 : Mem} {a : Nat} (h : S.mem m0 a = none) (hF : Fre S m0) : ∃ b, alM (S.mem m0) ((a : Int) + 1) (.mk [(.slice .none 0 0)]) 48 = S.mem b ∧ Fre S b ∧ (∀ c, m0 c ≠ none → b c = m0 c) ∧ Lst b ((a : Int) + 1) (.slice .none 0 0) [] ∧ m0 a = none := by
  obtain ⟨x1, x2, x3⟩ := free_at h
  have hm : m0 a = none := by simpa [TS.mem, x1, x2, x3] using h
  refine ⟨alM m0 ((a : Int) + 1) (.mk [(.slice .none 0 0)]) 48, ?_, ⟨?_, ?_, fun c hc => ?_⟩, fun c hc => ?_, ⟨⟨a, rfl, ?_⟩, SlH.nil0 _⟩, hm⟩
  · funext c
    unfold alM
    rw [show (((a : Int) + 1).toNat) = a + 1 by omega]
    by_cases e : c = a
    · subst e; simp [TS.mem, x1, x2, x3]
    · simp [TS.mem, e]
  · unfold alM; rw [if_neg (by omega)]; exact hF.t
  · unfold alM; rw [if_neg (by omega)]; exact hF.q
  · have : c ≠ a := by rintro rfl; exact hc x3
    unfold alM; rw [if_neg (by omega)]; exact hF.H c hc
  · have : c ≠ a := by rintro rfl; exact hc hm
    unfold alM; rw [if_neg (by omega)]
  · unfold alM; rw [if_pos (by omega)]
def T_plays (m : Mem) (l : Value) : Tr := (.br (isSlV (pl l)) (.br (iGt (slN (pl l)) 200) (.leaf (.memo (.u (.c (.lb true))) m)) (.req (freshP m) (.any (freshQ m) (fun y0 => (.any (newQ y0.4 (.mk [(.slice (.none) 0 0)]) 48) (fun y1 => (.lp (.mk [0] [] [] y1.4) (fun y2 j2 => (.br (isSlV (pl l)) (.br (iLt (hdI y2.1) (slN (pl l))) (.lp (.mk [0] [] [] y2.4) (fun y3 j3 => (.br (iZero? (hdI y3.1)) (.br (inSl (pl l) (hdI y2.1)) (.br (okL y2.4 (slB (pl l)) (aOff (slO (pl l)) (hdI y2.1) 4) [(.lb false), (.li .i64 0), (.li .i64 0), (.li .u64 0)]) (.br (nzp (pI y1.1)) (.br (nzp (pI y1.1)) (.req (ratkP y2.4 (pI y1.1) (gI y2.4 (slB (pl l)) (.succ (.succ (aOff (slO (pl l)) (hdI y2.1) 4)))) (gI y2.4 (slB (pl l)) (.succ (.succ (.succ (aOff (slO (pl l)) (hdI y2.1) 4)))))) (.any (ratkQ y2.4 (pI y1.1) (gI y2.4 (slB (pl l)) (.succ (.succ (aOff (slO (pl l)) (hdI y2.1) 4)))) (gI y2.4 (slB (pl l)) (.succ (.succ (.succ (aOff (slO (pl l)) (hdI y2.1) 4)))))) (fun y4 => (.lp (.mk [0] [] [] y4.4) (fun y5 j5 => (.br (iZero? (hdI y5.1)) (.br (gB y2.4 (slB (pl l)) (aOff (slO (pl l)) (hdI y2.1) 4)) (.req (removeP y4.4 (hdI y0.1) (gI y2.4 (slB (pl l)) (.succ (.succ (aOff (slO (pl l)) (hdI y2.1) 4)))) (gI y2.4 (slB (pl l)) (.succ (.succ (.succ (aOff (slO (pl l)) (hdI y2.1) 4)))))) (.any (removeQ y4.4 (hdI y0.1) (gI y2.4 (slB (pl l)) (.succ (.succ (aOff (slO (pl l)) (hdI y2.1) 4)))) (gI y2.4 (slB (pl l)) (.succ (.succ (.succ (aOff (slO (pl l)) (hdI y2.1) 4)))))) (fun y6 => (.lp (.mk [0] [] [] y6.4) (fun y7 j7 => (.br (iZero? (hdI y7.1)) (.br (bNot (bEq (hdB y6.2) (iGe (hdI y4.1) 0))) (.leaf (.up (.up (.up (.up (.memo (.u (.c (.lb false))) y6.4)))))) (.br (hdB y6.2) (.br (iNe (hdI y6.1) (hdI y4.1)) (.leaf (.up (.up (.up (.up (.memo (.u (.c (.lb false))) y6.4)))))) (.br (bNot (hdB y6.2)) (.br (iNe (hdI y6.1) 0) (.leaf (.up (.up (.up (.up (.memo (.u (.c (.lb false))) y6.4)))))) (.req ((([(0, (.u (.c (.sv l)))), (3, (.u (.c (.np (hdI y0.1) 0)))), (4, (.u (.c (.np (pI y1.1) 0)))), (5, (.u (.c (.si .i64 (hdI y2.1))))), (6, (.u (.c (.ptr 0 0)))), (7, (.u (.c (.si .i64 (hdI y4.1))))), (8, (.u (.c (.si .i64 (hdI y6.1))))), (9, (.u (.c (.sb (hdB y6.2)))))] : List (Nat × V)) = [(0, (.u (.c (.sv l)))), (3, (.u (.c (.np (hdI y0.1) 0)))), (4, (.u (.c (.np (pI y1.1) 0)))), (5, (.u (.c (.si .i64 (hdI y2.1))))), (6, (.u (.c (.ptr 0 0)))), (7, (.u (.c (.si .i64 (hdI y4.1))))), (8, (.u (.c (.si .i64 (hdI y6.1))))), (9, (.u (.c (.sb (hdB y6.2)))))]) ∧ (([(0, ([(.sb (gB y2.4 (slB (pl l)) (aOff (slO (pl l)) (hdI y2.1) 4))), (.si .i64 (gI y2.4 (slB (pl l)) (.succ (aOff (slO (pl l)) (hdI y2.1) 4)))), (.si .i64 (gI y2.4 (slB (pl l)) (.succ (.succ (aOff (slO (pl l)) (hdI y2.1) 4))))), (.si .u64 (gI y2.4 (slB (pl l)) (.succ (.succ (.succ (aOff (slO (pl l)) (hdI y2.1) 4))))))], 50))] : List (Nat × Blk)) = [(0, ([(.sb (gB y2.4 (slB (pl l)) (aOff (slO (pl l)) (hdI y2.1) 4))), (.si .i64 (gI y2.4 (slB (pl l)) (.succ (aOff (slO (pl l)) (hdI y2.1) 4)))), (.si .i64 (gI y2.4 (slB (pl l)) (.succ (.succ (aOff (slO (pl l)) (hdI y2.1) 4))))), (.si .u64 (gI y2.4 (slB (pl l)) (.succ (.succ (.succ (aOff (slO (pl l)) (hdI y2.1) 4))))))], 50))])) (.leaf (.again (.mk [1] [] [] y6.4))))) (.req ((([(0, (.u (.c (.sv l)))), (3, (.u (.c (.np (hdI y0.1) 0)))), (4, (.u (.c (.np (pI y1.1) 0)))), (5, (.u (.c (.si .i64 (hdI y2.1))))), (6, (.u (.c (.ptr 0 0)))), (7, (.u (.c (.si .i64 (hdI y4.1))))), (8, (.u (.c (.si .i64 (hdI y6.1))))), (9, (.u (.c (.sb (hdB y6.2)))))] : List (Nat × V)) = [(0, (.u (.c (.sv l)))), (3, (.u (.c (.np (hdI y0.1) 0)))), (4, (.u (.c (.np (pI y1.1) 0)))), (5, (.u (.c (.si .i64 (hdI y2.1))))), (6, (.u (.c (.ptr 0 0)))), (7, (.u (.c (.si .i64 (hdI y4.1))))), (8, (.u (.c (.si .i64 (hdI y6.1))))), (9, (.u (.c (.sb (hdB y6.2)))))]) ∧ (([(0, ([(.sb (gB y2.4 (slB (pl l)) (aOff (slO (pl l)) (hdI y2.1) 4))), (.si .i64 (gI y2.4 (slB (pl l)) (.succ (aOff (slO (pl l)) (hdI y2.1) 4)))), (.si .i64 (gI y2.4 (slB (pl l)) (.succ (.succ (aOff (slO (pl l)) (hdI y2.1) 4))))), (.si .u64 (gI y2.4 (slB (pl l)) (.succ (.succ (.succ (aOff (slO (pl l)) (hdI y2.1) 4))))))], 50))] : List (Nat × Blk)) = [(0, ([(.sb (gB y2.4 (slB (pl l)) (aOff (slO (pl l)) (hdI y2.1) 4))), (.si .i64 (gI y2.4 (slB (pl l)) (.succ (aOff (slO (pl l)) (hdI y2.1) 4)))), (.si .i64 (gI y2.4 (slB (pl l)) (.succ (.succ (aOff (slO (pl l)) (hdI y2.1) 4))))), (.si .u64 (gI y2.4 (slB (pl l)) (.succ (.succ (.succ (aOff (slO (pl l)) (hdI y2.1) 4))))))], 50))])) (.leaf (.again (.mk [1] [] [] y6.4)))))) (.br (bNot (hdB y6.2)) (.br (iNe (hdI y6.1) 0) (.leaf (.up (.up (.up (.up (.memo (.u (.c (.lb false))) y6.4)))))) (.req ((([(0, (.u (.c (.sv l)))), (3, (.u (.c (.np (hdI y0.1) 0)))), (4, (.u (.c (.np (pI y1.1) 0)))), (5, (.u (.c (.si .i64 (hdI y2.1))))), (6, (.u (.c (.ptr 0 0)))), (7, (.u (.c (.si .i64 (hdI y4.1))))), (8, (.u (.c (.si .i64 (hdI y6.1))))), (9, (.u (.c (.sb (hdB y6.2)))))] : List (Nat × V)) = [(0, (.u (.c (.sv l)))), (3, (.u (.c (.np (hdI y0.1) 0)))), (4, (.u (.c (.np (pI y1.1) 0)))), (5, (.u (.c (.si .i64 (hdI y2.1))))), (6, (.u (.c (.ptr 0 0)))), (7, (.u (.c (.si .i64 (hdI y4.1))))), (8, (.u (.c (.si .i64 (hdI y6.1))))), (9, (.u (.c (.sb (hdB y6.2)))))]) ∧ (([(0, ([(.sb (gB y2.4 (slB (pl l)) (aOff (slO (pl l)) (hdI y2.1) 4))), (.si .i64 (gI y2.4 (slB (pl l)) (.succ (aOff (slO (pl l)) (hdI y2.1) 4)))), (.si .i64 (gI y2.4 (slB (pl l)) (.succ (.succ (aOff (slO (pl l)) (hdI y2.1) 4))))), (.si .u64 (gI y2.4 (slB (pl l)) (.succ (.succ (.succ (aOff (slO (pl l)) (hdI y2.1) 4))))))], 50))] : List (Nat × Blk)) = [(0, ([(.sb (gB y2.4 (slB (pl l)) (aOff (slO (pl l)) (hdI y2.1) 4))), (.si .i64 (gI y2.4 (slB (pl l)) (.succ (aOff (slO (pl l)) (hdI y2.1) 4)))), (.si .i64 (gI y2.4 (slB (pl l)) (.succ (.succ (aOff (slO (pl l)) (hdI y2.1) 4))))), (.si .u64 (gI y2.4 (slB (pl l)) (.succ (.succ (.succ (aOff (slO (pl l)) (hdI y2.1) 4))))))], 50))])) (.leaf (.again (.mk [1] [] [] y6.4))))) (.req ((([(0, (.u (.c (.sv l)))), (3, (.u (.c (.np (hdI y0.1) 0)))), (4, (.u (.c (.np (pI y1.1) 0)))), (5, (.u (.c (.si .i64 (hdI y2.1))))), (6, (.u (.c (.ptr 0 0)))), (7, (.u (.c (.si .i64 (hdI y4.1))))), (8, (.u (.c (.si .i64 (hdI y6.1))))), (9, (.u (.c (.sb (hdB y6.2)))))] : List (Nat × V)) = [(0, (.u (.c (.sv l)))), (3, (.u (.c (.np (hdI y0.1) 0)))), (4, (.u (.c (.np (pI y1.1) 0)))), (5, (.u (.c (.si .i64 (hdI y2.1))))), (6, (.u (.c (.ptr 0 0)))), (7, (.u (.c (.si .i64 (hdI y4.1))))), (8, (.u (.c (.si .i64 (hdI y6.1))))), (9, (.u (.c (.sb (hdB y6.2)))))]) ∧ (([(0, ([(.sb (gB y2.4 (slB (pl l)) (aOff (slO (pl l)) (hdI y2.1) 4))), (.si .i64 (gI y2.4 (slB (pl l)) (.succ (aOff (slO (pl l)) (hdI y2.1) 4)))), (.si .i64 (gI y2.4 (slB (pl l)) (.succ (.succ (aOff (slO (pl l)) (hdI y2.1) 4))))), (.si .u64 (gI y2.4 (slB (pl l)) (.succ (.succ (.succ (aOff (slO (pl l)) (hdI y2.1) 4))))))], 50))] : List (Nat × Blk)) = [(0, ([(.sb (gB y2.4 (slB (pl l)) (aOff (slO (pl l)) (hdI y2.1) 4))), (.si .i64 (gI y2.4 (slB (pl l)) (.succ (aOff (slO (pl l)) (hdI y2.1) 4)))), (.si .i64 (gI y2.4 (slB (pl l)) (.succ (.succ (aOff (slO (pl l)) (hdI y2.1) 4))))), (.si .u64 (gI y2.4 (slB (pl l)) (.succ (.succ (.succ (aOff (slO (pl l)) (hdI y2.1) 4))))))], 50))])) (.leaf (.again (.mk [1] [] [] y6.4))))))) (.br (hdB y6.2) (.br (nzp (pI y1.1)) (.br (nzp (pI y1.1)) (.req (rcutP y7.4 (pI y1.1) (hdI y4.1)) (.any (rcutQ y7.4 (pI y1.1) (hdI y4.1)) (fun y8 => (.req ((([(0, (.u (.c (.sv l)))), (3, (.u (.c (.np (hdI y0.1) 0)))), (4, (.u (.c (.np (pI y1.1) 0)))), (5, (.u (.c (.si .i64 (hdI y2.1))))), (6, (.u (.c (.ptr 0 0))))] : List (Nat × V)) = [(0, (.u (.c (.sv l)))), (3, (.u (.c (.np (hdI y0.1) 0)))), (4, (.u (.c (.np (pI y1.1) 0)))), (5, (.u (.c (.si .i64 (hdI y2.1))))), (6, (.u (.c (.ptr 0 0))))]) ∧ (([(0, ([(.sb (gB y2.4 (slB (pl l)) (aOff (slO (pl l)) (hdI y2.1) 4))), (.si .i64 (gI y2.4 (slB (pl l)) (.succ (aOff (slO (pl l)) (hdI y2.1) 4)))), (.si .i64 (gI y2.4 (slB (pl l)) (.succ (.succ (aOff (slO (pl l)) (hdI y2.1) 4))))), (.si .u64 (gI y2.4 (slB (pl l)) (.succ (.succ (.succ (aOff (slO (pl l)) (hdI y2.1) 4))))))], 50))] : List (Nat × Blk)) = [(0, ([(.sb (gB y2.4 (slB (pl l)) (aOff (slO (pl l)) (hdI y2.1) 4))), (.si .i64 (gI y2.4 (slB (pl l)) (.succ (aOff (slO (pl l)) (hdI y2.1) 4)))), (.si .i64 (gI y2.4 (slB (pl l)) (.succ (.succ (aOff (slO (pl l)) (hdI y2.1) 4))))), (.si .u64 (gI y2.4 (slB (pl l)) (.succ (.succ (.succ (aOff (slO (pl l)) (hdI y2.1) 4))))))], 50))])) (.leaf (.up (.again (.mk [1] [] [] y8.4)))))))) (.no 76)) (.no 75)) (.req ((([(0, (.u (.c (.sv l)))), (3, (.u (.c (.np (hdI y0.1) 0)))), (4, (.u (.c (.np (pI y1.1) 0)))), (5, (.u (.c (.si .i64 (hdI y2.1))))), (6, (.u (.c (.ptr 0 0))))] : List (Nat × V)) = [(0, (.u (.c (.sv l)))), (3, (.u (.c (.np (hdI y0.1) 0)))), (4, (.u (.c (.np (pI y1.1) 0)))), (5, (.u (.c (.si .i64 (hdI y2.1))))), (6, (.u (.c (.ptr 0 0))))]) ∧ (([(0, ([(.sb (gB y2.4 (slB (pl l)) (aOff (slO (pl l)) (hdI y2.1) 4))), (.si .i64 (gI y2.4 (slB (pl l)) (.succ (aOff (slO (pl l)) (hdI y2.1) 4)))), (.si .i64 (gI y2.4 (slB (pl l)) (.succ (.succ (aOff (slO (pl l)) (hdI y2.1) 4))))), (.si .u64 (gI y2.4 (slB (pl l)) (.succ (.succ (.succ (aOff (slO (pl l)) (hdI y2.1) 4))))))], 50))] : List (Nat × Blk)) = [(0, ([(.sb (gB y2.4 (slB (pl l)) (aOff (slO (pl l)) (hdI y2.1) 4))), (.si .i64 (gI y2.4 (slB (pl l)) (.succ (aOff (slO (pl l)) (hdI y2.1) 4)))), (.si .i64 (gI y2.4 (slB (pl l)) (.succ (.succ (aOff (slO (pl l)) (hdI y2.1) 4))))), (.si .u64 (gI y2.4 (slB (pl l)) (.succ (.succ (.succ (aOff (slO (pl l)) (hdI y2.1) 4))))))], 50))])) (.leaf (.up (.again (.mk [1] [] [] y7.4)))))))))))) (.req (insertP y4.4 (hdI y0.1) (gI y2.4 (slB (pl l)) (.succ (aOff (slO (pl l)) (hdI y2.1) 4))) (gI y2.4 (slB (pl l)) (.succ (.succ (aOff (slO (pl l)) (hdI y2.1) 4)))) (gI y2.4 (slB (pl l)) (.succ (.succ (.succ (aOff (slO (pl l)) (hdI y2.1) 4)))))) (.any (insertQ y4.4 (hdI y0.1) (gI y2.4 (slB (pl l)) (.succ (aOff (slO (pl l)) (hdI y2.1) 4))) (gI y2.4 (slB (pl l)) (.succ (.succ (aOff (slO (pl l)) (hdI y2.1) 4)))) (gI y2.4 (slB (pl l)) (.succ (.succ (.succ (aOff (slO (pl l)) (hdI y2.1) 4)))))) (fun y6 => (.req ((([(0, ([(.sb (gB y2.4 (slB (pl l)) (aOff (slO (pl l)) (hdI y2.1) 4))), (.si .i64 (gI y2.4 (slB (pl l)) (.succ (aOff (slO (pl l)) (hdI y2.1) 4)))), (.si .i64 (gI y2.4 (slB (pl l)) (.succ (.succ (aOff (slO (pl l)) (hdI y2.1) 4))))), (.si .u64 (gI y2.4 (slB (pl l)) (.succ (.succ (.succ (aOff (slO (pl l)) (hdI y2.1) 4))))))], 50)), (0, ([(.lb false), (.li .i64 0), (.li .i64 0), (.li .u64 0)], 50))] : List (Nat × Blk)) = [(0, ([(.sb (gB y2.4 (slB (pl l)) (aOff (slO (pl l)) (hdI y2.1) 4))), (.si .i64 (gI y2.4 (slB (pl l)) (.succ (aOff (slO (pl l)) (hdI y2.1) 4)))), (.si .i64 (gI y2.4 (slB (pl l)) (.succ (.succ (aOff (slO (pl l)) (hdI y2.1) 4))))), (.si .u64 (gI y2.4 (slB (pl l)) (.succ (.succ (.succ (aOff (slO (pl l)) (hdI y2.1) 4))))))], 50)), (0, ([(.lb false), (.li .i64 0), (.li .i64 0), (.li .u64 0)], 50))]) ∧ (([] : List (Nat × MBlk)) = [])) (.req (rinsP y6.4 (pI y1.1) (gI y2.4 (slB (pl l)) (.succ (aOff (slO (pl l)) (hdI y2.1) 4))) (gI y2.4 (slB (pl l)) (.succ (.succ (aOff (slO (pl l)) (hdI y2.1) 4)))) (gI y2.4 (slB (pl l)) (.succ (.succ (.succ (aOff (slO (pl l)) (hdI y2.1) 4)))))) (.any (rinsQ y6.4 (pI y1.1) (gI y2.4 (slB (pl l)) (.succ (aOff (slO (pl l)) (hdI y2.1) 4))) (gI y2.4 (slB (pl l)) (.succ (.succ (aOff (slO (pl l)) (hdI y2.1) 4)))) (gI y2.4 (slB (pl l)) (.succ (.succ (.succ (aOff (slO (pl l)) (hdI y2.1) 4)))))) (fun y7 => (.req ((([(0, ([(.sb (gB y2.4 (slB (pl l)) (aOff (slO (pl l)) (hdI y2.1) 4))), (.si .i64 (gI y2.4 (slB (pl l)) (.succ (aOff (slO (pl l)) (hdI y2.1) 4)))), (.si .i64 (gI y2.4 (slB (pl l)) (.succ (.succ (aOff (slO (pl l)) (hdI y2.1) 4))))), (.si .u64 (gI y2.4 (slB (pl l)) (.succ (.succ (.succ (aOff (slO (pl l)) (hdI y2.1) 4))))))], 50)), (0, ([(.lb false), (.li .i64 0), (.li .i64 0), (.li .u64 0)], 50))] : List (Nat × Blk)) = [(0, ([(.sb (gB y2.4 (slB (pl l)) (aOff (slO (pl l)) (hdI y2.1) 4))), (.si .i64 (gI y2.4 (slB (pl l)) (.succ (aOff (slO (pl l)) (hdI y2.1) 4)))), (.si .i64 (gI y2.4 (slB (pl l)) (.succ (.succ (aOff (slO (pl l)) (hdI y2.1) 4))))), (.si .u64 (gI y2.4 (slB (pl l)) (.succ (.succ (.succ (aOff (slO (pl l)) (hdI y2.1) 4))))))], 50)), (0, ([(.lb false), (.li .i64 0), (.li .i64 0), (.li .u64 0)], 50))]) ∧ (([] : List (Nat × MBlk)) = [])) (.br (iNe (hdI y6.1) (hdI y7.1)) (.leaf (.up (.up (.up (.memo (.u (.c (.lb false))) y7.4))))) (.req ((([(0, (.u (.c (.sv l)))), (3, (.u (.c (.np (hdI y0.1) 0)))), (4, (.u (.c (.np (pI y1.1) 0)))), (5, (.u (.c (.si .i64 (hdI y2.1))))), (6, (.u (.c (.ptr 0 0))))] : List (Nat × V)) = [(0, (.u (.c (.sv l)))), (3, (.u (.c (.np (hdI y0.1) 0)))), (4, (.u (.c (.np (pI y1.1) 0)))), (5, (.u (.c (.si .i64 (hdI y2.1))))), (6, (.u (.c (.ptr 0 0))))]) ∧ (([(0, ([(.sb (gB y2.4 (slB (pl l)) (aOff (slO (pl l)) (hdI y2.1) 4))), (.si .i64 (gI y2.4 (slB (pl l)) (.succ (aOff (slO (pl l)) (hdI y2.1) 4)))), (.si .i64 (gI y2.4 (slB (pl l)) (.succ (.succ (aOff (slO (pl l)) (hdI y2.1) 4))))), (.si .u64 (gI y2.4 (slB (pl l)) (.succ (.succ (.succ (aOff (slO (pl l)) (hdI y2.1) 4))))))], 50))] : List (Nat × Blk)) = [(0, ([(.sb (gB y2.4 (slB (pl l)) (aOff (slO (pl l)) (hdI y2.1) 4))), (.si .i64 (gI y2.4 (slB (pl l)) (.succ (aOff (slO (pl l)) (hdI y2.1) 4)))), (.si .i64 (gI y2.4 (slB (pl l)) (.succ (.succ (aOff (slO (pl l)) (hdI y2.1) 4))))), (.si .u64 (gI y2.4 (slB (pl l)) (.succ (.succ (.succ (aOff (slO (pl l)) (hdI y2.1) 4))))))], 50))])) (.leaf (.again (.mk [1] [] [] y7.4)))))))))))))) (.req (atP y5.4 (hdI y0.1) (gI y2.4 (slB (pl l)) (.succ (aOff (slO (pl l)) (hdI y2.1) 4)))) (.any (atQ y5.4 (hdI y0.1) (gI y2.4 (slB (pl l)) (.succ (aOff (slO (pl l)) (hdI y2.1) 4)))) (fun y6 => (.lp (.mk [0] [] [] y6.4) (fun y7 j7 => (.br (iZero? (hdI y7.1)) (.br (iGe (gI y2.4 (slB (pl l)) (.succ (aOff (slO (pl l)) (hdI y2.1) 4))) 0) (.br (nzp (pI y1.1)) (.br (nzp (pI y1.1)) (.br (nzp (pI y1.1)) (.br (okL y6.4 (pI y1.1) 0 [(.raw (.slice (.none) 0 0))]) (.br (isSlV (pl (mcell y6.4 (pI y1.1) 0))) (.req ((([(1, ([(.si .i64 (hdI y6.1)), (.si .u64 (hdI (tlI y6.1)))], 29)), (1, ([(.li .i64 0), (.li .u64 0)], 29)), (0, ([(.sb (gB y2.4 (slB (pl l)) (aOff (slO (pl l)) (hdI y2.1) 4))), (.si .i64 (gI y2.4 (slB (pl l)) (.succ (aOff (slO (pl l)) (hdI y2.1) 4)))), (.si .i64 (gI y2.4 (slB (pl l)) (.succ (.succ (aOff (slO (pl l)) (hdI y2.1) 4))))), (.si .u64 (gI y2.4 (slB (pl l)) (.succ (.succ (.succ (aOff (slO (pl l)) (hdI y2.1) 4))))))], 50))] : List (Nat × Blk)) = [(1, ([(.si .i64 (hdI y6.1)), (.si .u64 (hdI (tlI y6.1)))], 29)), (1, ([(.li .i64 0), (.li .u64 0)], 29)), (0, ([(.sb (gB y2.4 (slB (pl l)) (aOff (slO (pl l)) (hdI y2.1) 4))), (.si .i64 (gI y2.4 (slB (pl l)) (.succ (aOff (slO (pl l)) (hdI y2.1) 4)))), (.si .i64 (gI y2.4 (slB (pl l)) (.succ (.succ (aOff (slO (pl l)) (hdI y2.1) 4))))), (.si .u64 (gI y2.4 (slB (pl l)) (.succ (.succ (.succ (aOff (slO (pl l)) (hdI y2.1) 4))))))], 50))]) ∧ ((([] : List (Nat × MBlk)) = []) ∧ ((y6.4 : Mem) = y6.4))) (.req ((([(0, (.u (.c (.sv l)))), (3, (.u (.c (.np (hdI y0.1) 0)))), (4, (.u (.c (.np (pI y1.1) 0)))), (5, (.u (.c (.si .i64 (hdI y2.1))))), (6, (.u (.c (.ptr 0 0)))), (10, (.u (.c (.ptr 1 0)))), (11, (.u (.c (.sb (hdB y6.2)))))] : List (Nat × V)) = [(0, (.u (.c (.sv l)))), (3, (.u (.c (.np (hdI y0.1) 0)))), (4, (.u (.c (.np (pI y1.1) 0)))), (5, (.u (.c (.si .i64 (hdI y2.1))))), (6, (.u (.c (.ptr 0 0)))), (10, (.u (.c (.ptr 1 0)))), (11, (.u (.c (.sb (hdB y6.2)))))]) ∧ (([(0, ([(.sb (gB y2.4 (slB (pl l)) (aOff (slO (pl l)) (hdI y2.1) 4))), (.si .i64 (gI y2.4 (slB (pl l)) (.succ (aOff (slO (pl l)) (hdI y2.1) 4)))), (.si .i64 (gI y2.4 (slB (pl l)) (.succ (.succ (aOff (slO (pl l)) (hdI y2.1) 4))))), (.si .u64 (gI y2.4 (slB (pl l)) (.succ (.succ (.succ (aOff (slO (pl l)) (hdI y2.1) 4))))))], 50)), (1, ([(.si .i64 (hdI y6.1)), (.si .u64 (hdI (tlI y6.1)))], 29))] : List (Nat × Blk)) = [(0, ([(.sb (gB y2.4 (slB (pl l)) (aOff (slO (pl l)) (hdI y2.1) 4))), (.si .i64 (gI y2.4 (slB (pl l)) (.succ (aOff (slO (pl l)) (hdI y2.1) 4)))), (.si .i64 (gI y2.4 (slB (pl l)) (.succ (.succ (aOff (slO (pl l)) (hdI y2.1) 4))))), (.si .u64 (gI y2.4 (slB (pl l)) (.succ (.succ (.succ (aOff (slO (pl l)) (hdI y2.1) 4))))))], 50)), (1, ([(.si .i64 (hdI y6.1)), (.si .u64 (hdI (tlI y6.1)))], 29))])) (.leaf (.again (.mk [1] [(iLt (gI y2.4 (slB (pl l)) (.succ (aOff (slO (pl l)) (hdI y2.1) 4))) (slN (pl (mcell y6.4 (pI y1.1) 0))))] [] y6.4))))) (.no 123)) (.no 70)) (.no 76)) (.no 76)) (.no 75)) (.req ((([(1, ([(.si .i64 (hdI y6.1)), (.si .u64 (hdI (tlI y6.1)))], 29)), (1, ([(.li .i64 0), (.li .u64 0)], 29)), (0, ([(.sb (gB y2.4 (slB (pl l)) (aOff (slO (pl l)) (hdI y2.1) 4))), (.si .i64 (gI y2.4 (slB (pl l)) (.succ (aOff (slO (pl l)) (hdI y2.1) 4)))), (.si .i64 (gI y2.4 (slB (pl l)) (.succ (.succ (aOff (slO (pl l)) (hdI y2.1) 4))))), (.si .u64 (gI y2.4 (slB (pl l)) (.succ (.succ (.succ (aOff (slO (pl l)) (hdI y2.1) 4))))))], 50))] : List (Nat × Blk)) = [(1, ([(.si .i64 (hdI y6.1)), (.si .u64 (hdI (tlI y6.1)))], 29)), (1, ([(.li .i64 0), (.li .u64 0)], 29)), (0, ([(.sb (gB y2.4 (slB (pl l)) (aOff (slO (pl l)) (hdI y2.1) 4))), (.si .i64 (gI y2.4 (slB (pl l)) (.succ (aOff (slO (pl l)) (hdI y2.1) 4)))), (.si .i64 (gI y2.4 (slB (pl l)) (.succ (.succ (aOff (slO (pl l)) (hdI y2.1) 4))))), (.si .u64 (gI y2.4 (slB (pl l)) (.succ (.succ (.succ (aOff (slO (pl l)) (hdI y2.1) 4))))))], 50))]) ∧ ((([] : List (Nat × MBlk)) = []) ∧ ((y6.4 : Mem) = y6.4))) (.req ((([(0, (.u (.c (.sv l)))), (3, (.u (.c (.np (hdI y0.1) 0)))), (4, (.u (.c (.np (pI y1.1) 0)))), (5, (.u (.c (.si .i64 (hdI y2.1))))), (6, (.u (.c (.ptr 0 0)))), (10, (.u (.c (.ptr 1 0)))), (11, (.u (.c (.sb (hdB y6.2)))))] : List (Nat × V)) = [(0, (.u (.c (.sv l)))), (3, (.u (.c (.np (hdI y0.1) 0)))), (4, (.u (.c (.np (pI y1.1) 0)))), (5, (.u (.c (.si .i64 (hdI y2.1))))), (6, (.u (.c (.ptr 0 0)))), (10, (.u (.c (.ptr 1 0)))), (11, (.u (.c (.sb (hdB y6.2)))))]) ∧ (([(0, ([(.sb (gB y2.4 (slB (pl l)) (aOff (slO (pl l)) (hdI y2.1) 4))), (.si .i64 (gI y2.4 (slB (pl l)) (.succ (aOff (slO (pl l)) (hdI y2.1) 4)))), (.si .i64 (gI y2.4 (slB (pl l)) (.succ (.succ (aOff (slO (pl l)) (hdI y2.1) 4))))), (.si .u64 (gI y2.4 (slB (pl l)) (.succ (.succ (.succ (aOff (slO (pl l)) (hdI y2.1) 4))))))], 50)), (1, ([(.si .i64 (hdI y6.1)), (.si .u64 (hdI (tlI y6.1)))], 29))] : List (Nat × Blk)) = [(0, ([(.sb (gB y2.4 (slB (pl l)) (aOff (slO (pl l)) (hdI y2.1) 4))), (.si .i64 (gI y2.4 (slB (pl l)) (.succ (aOff (slO (pl l)) (hdI y2.1) 4)))), (.si .i64 (gI y2.4 (slB (pl l)) (.succ (.succ (aOff (slO (pl l)) (hdI y2.1) 4))))), (.si .u64 (gI y2.4 (slB (pl l)) (.succ (.succ (.succ (aOff (slO (pl l)) (hdI y2.1) 4))))))], 50)), (1, ([(.si .i64 (hdI y6.1)), (.si .u64 (hdI (tlI y6.1)))], 29))])) (.leaf (.again (.mk [1] [false] [] y6.4)))))) (.req (indexP y7.4 (hdI y0.1) (gI y2.4 (slB (pl l)) (.succ (.succ (aOff (slO (pl l)) (hdI y2.1) 4)))) (gI y2.4 (slB (pl l)) (.succ (.succ (.succ (aOff (slO (pl l)) (hdI y2.1) 4)))))) (.any (indexQ y7.4 (hdI y0.1) (gI y2.4 (slB (pl l)) (.succ (.succ (aOff (slO (pl l)) (hdI y2.1) 4)))) (gI y2.4 (slB (pl l)) (.succ (.succ (.succ (aOff (slO (pl l)) (hdI y2.1) 4)))))) (fun y8 => (.br (nzp (pI y1.1)) (.br (nzp (pI y1.1)) (.req (ratkP y8.4 (pI y1.1) (gI y2.4 (slB (pl l)) (.succ (.succ (aOff (slO (pl l)) (hdI y2.1) 4)))) (gI y2.4 (slB (pl l)) (.succ (.succ (.succ (aOff (slO (pl l)) (hdI y2.1) 4)))))) (.any (ratkQ y8.4 (pI y1.1) (gI y2.4 (slB (pl l)) (.succ (.succ (aOff (slO (pl l)) (hdI y2.1) 4)))) (gI y2.4 (slB (pl l)) (.succ (.succ (.succ (aOff (slO (pl l)) (hdI y2.1) 4)))))) (fun y9 => (.req (alikeP y9.4 (hdI y0.1) (pI y1.1)) (.any (alikeQ y9.4 (hdI y0.1) (pI y1.1)) (fun y10 => (.br (bNot (hdB y10.2)) (.leaf (.up (.up (.up (.up (.memo (.u (.c (.lb false))) y10.4)))))) (.br (bNot (bEq (hdB y6.2) (hdB y7.2))) (.leaf (.up (.up (.up (.up (.memo (.u (.c (.lb false))) y10.4)))))) (.br (hdB y6.2) (.br (nzp (pI y1.1)) (.br (nzp (pI y1.1)) (.br (nzp (pI y1.1)) (.br (okL y10.4 (pI y1.1) 0 [(.raw (.slice (.none) 0 0))]) (.br (inSl (pl (mcell y10.4 (pI y1.1) 0)) (gI y2.4 (slB (pl l)) (.succ (aOff (slO (pl l)) (hdI y2.1) 4)))) (.br (okL y10.4 (slB (pl (mcell y10.4 (pI y1.1) 0))) (aOff (slO (pl (mcell y10.4 (pI y1.1) 0))) (gI y2.4 (slB (pl l)) (.succ (aOff (slO (pl l)) (hdI y2.1) 4))) 2) [(.li .i64 0), (.li .u64 0)]) (.br (bNot (bAnd (iEq (hdI y6.1) (gI y10.4 (slB (pl (mcell y10.4 (pI y1.1) 0))) (aOff (slO (pl (mcell y10.4 (pI y1.1) 0))) (gI y2.4 (slB (pl l)) (.succ (aOff (slO (pl l)) (hdI y2.1) 4))) 2))) (iEq (hdI (tlI y6.1)) (gI y10.4 (slB (pl (mcell y10.4 (pI y1.1) 0))) (.succ (aOff (slO (pl (mcell y10.4 (pI y1.1) 0))) (gI y2.4 (slB (pl l)) (.succ (aOff (slO (pl l)) (hdI y2.1) 4))) 2)))))) (.leaf (.up (.up (.up (.up (.memo (.u (.c (.lb false))) y10.4)))))) (.br (bNot (hdB y6.2)) (.br (bNot (bAnd (iEq (hdI y6.1) 0) (iEq (hdI (tlI y6.1)) 0))) (.leaf (.up (.up (.up (.up (.memo (.u (.c (.lb false))) y10.4)))))) (.br (bNot (bEq (hdB y8.2) (iGe (hdI y9.1) 0))) (.leaf (.up (.up (.up (.up (.memo (.u (.c (.lb false))) y10.4)))))) (.br (hdB y8.2) (.br (iNe (hdI y8.1) (hdI y9.1)) (.leaf (.up (.up (.up (.up (.memo (.u (.c (.lb false))) y10.4)))))) (.br (bNot (hdB y8.2)) (.br (iNe (hdI y8.1) 0) (.leaf (.up (.up (.up (.up (.memo (.u (.c (.lb false))) y10.4)))))) (.req ((([(0, (.u (.c (.sv l)))), (3, (.u (.c (.np (hdI y0.1) 0)))), (4, (.u (.c (.np (pI y1.1) 0)))), (5, (.u (.c (.si .i64 (hdI y2.1)))))] : List (Nat × V)) = [(0, (.u (.c (.sv l)))), (3, (.u (.c (.np (hdI y0.1) 0)))), (4, (.u (.c (.np (pI y1.1) 0)))), (5, (.u (.c (.si .i64 (hdI y2.1)))))]) ∧ (([] : List (Nat × Blk)) = [])) (.leaf (.up (.up (.again (.mk [1] [] [] y10.4))))))) (.req ((([(0, (.u (.c (.sv l)))), (3, (.u (.c (.np (hdI y0.1) 0)))), (4, (.u (.c (.np (pI y1.1) 0)))), (5, (.u (.c (.si .i64 (hdI y2.1)))))] : List (Nat × V)) = [(0, (.u (.c (.sv l)))), (3, (.u (.c (.np (hdI y0.1) 0)))), (4, (.u (.c (.np (pI y1.1) 0)))), (5, (.u (.c (.si .i64 (hdI y2.1)))))]) ∧ (([] : List (Nat × Blk)) = [])) (.leaf (.up (.up (.again (.mk [1] [] [] y10.4)))))))) (.br (bNot (hdB y8.2)) (.br (iNe (hdI y8.1) 0) (.leaf (.up (.up (.up (.up (.memo (.u (.c (.lb false))) y10.4)))))) (.req ((([(0, (.u (.c (.sv l)))), (3, (.u (.c (.np (hdI y0.1) 0)))), (4, (.u (.c (.np (pI y1.1) 0)))), (5, (.u (.c (.si .i64 (hdI y2.1)))))] : List (Nat × V)) = [(0, (.u (.c (.sv l)))), (3, (.u (.c (.np (hdI y0.1) 0)))), (4, (.u (.c (.np (pI y1.1) 0)))), (5, (.u (.c (.si .i64 (hdI y2.1)))))]) ∧ (([] : List (Nat × Blk)) = [])) (.leaf (.up (.up (.again (.mk [1] [] [] y10.4))))))) (.req ((([(0, (.u (.c (.sv l)))), (3, (.u (.c (.np (hdI y0.1) 0)))), (4, (.u (.c (.np (pI y1.1) 0)))), (5, (.u (.c (.si .i64 (hdI y2.1)))))] : List (Nat × V)) = [(0, (.u (.c (.sv l)))), (3, (.u (.c (.np (hdI y0.1) 0)))), (4, (.u (.c (.np (pI y1.1) 0)))), (5, (.u (.c (.si .i64 (hdI y2.1)))))]) ∧ (([] : List (Nat × Blk)) = [])) (.leaf (.up (.up (.again (.mk [1] [] [] y10.4)))))))))) (.br (bNot (bEq (hdB y8.2) (iGe (hdI y9.1) 0))) (.leaf (.up (.up (.up (.up (.memo (.u (.c (.lb false))) y10.4)))))) (.br (hdB y8.2) (.br (iNe (hdI y8.1) (hdI y9.1)) (.leaf (.up (.up (.up (.up (.memo (.u (.c (.lb false))) y10.4)))))) (.br (bNot (hdB y8.2)) (.br (iNe (hdI y8.1) 0) (.leaf (.up (.up (.up (.up (.memo (.u (.c (.lb false))) y10.4)))))) (.req ((([(0, (.u (.c (.sv l)))), (3, (.u (.c (.np (hdI y0.1) 0)))), (4, (.u (.c (.np (pI y1.1) 0)))), (5, (.u (.c (.si .i64 (hdI y2.1)))))] : List (Nat × V)) = [(0, (.u (.c (.sv l)))), (3, (.u (.c (.np (hdI y0.1) 0)))), (4, (.u (.c (.np (pI y1.1) 0)))), (5, (.u (.c (.si .i64 (hdI y2.1)))))]) ∧ (([] : List (Nat × Blk)) = [])) (.leaf (.up (.up (.again (.mk [1] [] [] y10.4))))))) (.req ((([(0, (.u (.c (.sv l)))), (3, (.u (.c (.np (hdI y0.1) 0)))), (4, (.u (.c (.np (pI y1.1) 0)))), (5, (.u (.c (.si .i64 (hdI y2.1)))))] : List (Nat × V)) = [(0, (.u (.c (.sv l)))), (3, (.u (.c (.np (hdI y0.1) 0)))), (4, (.u (.c (.np (pI y1.1) 0)))), (5, (.u (.c (.si .i64 (hdI y2.1)))))]) ∧ (([] : List (Nat × Blk)) = [])) (.leaf (.up (.up (.again (.mk [1] [] [] y10.4)))))))) (.br (bNot (hdB y8.2)) (.br (iNe (hdI y8.1) 0) (.leaf (.up (.up (.up (.up (.memo (.u (.c (.lb false))) y10.4)))))) (.req ((([(0, (.u (.c (.sv l)))), (3, (.u (.c (.np (hdI y0.1) 0)))), (4, (.u (.c (.np (pI y1.1) 0)))), (5, (.u (.c (.si .i64 (hdI y2.1)))))] : List (Nat × V)) = [(0, (.u (.c (.sv l)))), (3, (.u (.c (.np (hdI y0.1) 0)))), (4, (.u (.c (.np (pI y1.1) 0)))), (5, (.u (.c (.si .i64 (hdI y2.1)))))]) ∧ (([] : List (Nat × Blk)) = [])) (.leaf (.up (.up (.again (.mk [1] [] [] y10.4))))))) (.req ((([(0, (.u (.c (.sv l)))), (3, (.u (.c (.np (hdI y0.1) 0)))), (4, (.u (.c (.np (pI y1.1) 0)))), (5, (.u (.c (.si .i64 (hdI y2.1)))))] : List (Nat × V)) = [(0, (.u (.c (.sv l)))), (3, (.u (.c (.np (hdI y0.1) 0)))), (4, (.u (.c (.np (pI y1.1) 0)))), (5, (.u (.c (.si .i64 (hdI y2.1)))))]) ∧ (([] : List (Nat × Blk)) = [])) (.leaf (.up (.up (.again (.mk [1] [] [] y10.4))))))))))) (.no 70)) (.no 104)) (.no 70)) (.no 76)) (.no 76)) (.no 75)) (.br (bNot (hdB y6.2)) (.br (bNot (bAnd (iEq (hdI y6.1) 0) (iEq (hdI (tlI y6.1)) 0))) (.leaf (.up (.up (.up (.up (.memo (.u (.c (.lb false))) y10.4)))))) (.br (bNot (bEq (hdB y8.2) (iGe (hdI y9.1) 0))) (.leaf (.up (.up (.up (.up (.memo (.u (.c (.lb false))) y10.4)))))) (.br (hdB y8.2) (.br (iNe (hdI y8.1) (hdI y9.1)) (.leaf (.up (.up (.up (.up (.memo (.u (.c (.lb false))) y10.4)))))) (.br (bNot (hdB y8.2)) (.br (iNe (hdI y8.1) 0) (.leaf (.up (.up (.up (.up (.memo (.u (.c (.lb false))) y10.4)))))) (.req ((([(0, (.u (.c (.sv l)))), (3, (.u (.c (.np (hdI y0.1) 0)))), (4, (.u (.c (.np (pI y1.1) 0)))), (5, (.u (.c (.si .i64 (hdI y2.1)))))] : List (Nat × V)) = [(0, (.u (.c (.sv l)))), (3, (.u (.c (.np (hdI y0.1) 0)))), (4, (.u (.c (.np (pI y1.1) 0)))), (5, (.u (.c (.si .i64 (hdI y2.1)))))]) ∧ (([] : List (Nat × Blk)) = [])) (.leaf (.up (.up (.again (.mk [1] [] [] y10.4))))))) (.req ((([(0, (.u (.c (.sv l)))), (3, (.u (.c (.np (hdI y0.1) 0)))), (4, (.u (.c (.np (pI y1.1) 0)))), (5, (.u (.c (.si .i64 (hdI y2.1)))))] : List (Nat × V)) = [(0, (.u (.c (.sv l)))), (3, (.u (.c (.np (hdI y0.1) 0)))), (4, (.u (.c (.np (pI y1.1) 0)))), (5, (.u (.c (.si .i64 (hdI y2.1)))))]) ∧ (([] : List (Nat × Blk)) = [])) (.leaf (.up (.up (.again (.mk [1] [] [] y10.4)))))))) (.br (bNot (hdB y8.2)) (.br (iNe (hdI y8.1) 0) (.leaf (.up (.up (.up (.up (.memo (.u (.c (.lb false))) y10.4)))))) (.req ((([(0, (.u (.c (.sv l)))), (3, (.u (.c (.np (hdI y0.1) 0)))), (4, (.u (.c (.np (pI y1.1) 0)))), (5, (.u (.c (.si .i64 (hdI y2.1)))))] : List (Nat × V)) = [(0, (.u (.c (.sv l)))), (3, (.u (.c (.np (hdI y0.1) 0)))), (4, (.u (.c (.np (pI y1.1) 0)))), (5, (.u (.c (.si .i64 (hdI y2.1)))))]) ∧ (([] : List (Nat × Blk)) = [])) (.leaf (.up (.up (.again (.mk [1] [] [] y10.4))))))) (.req ((([(0, (.u (.c (.sv l)))), (3, (.u (.c (.np (hdI y0.1) 0)))), (4, (.u (.c (.np (pI y1.1) 0)))), (5, (.u (.c (.si .i64 (hdI y2.1)))))] : List (Nat × V)) = [(0, (.u (.c (.sv l)))), (3, (.u (.c (.np (hdI y0.1) 0)))), (4, (.u (.c (.np (pI y1.1) 0)))), (5, (.u (.c (.si .i64 (hdI y2.1)))))]) ∧ (([] : List (Nat × Blk)) = [])) (.leaf (.up (.up (.again (.mk [1] [] [] y10.4)))))))))) (.br (bNot (bEq (hdB y8.2) (iGe (hdI y9.1) 0))) (.leaf (.up (.up (.up (.up (.memo (.u (.c (.lb false))) y10.4)))))) (.br (hdB y8.2) (.br (iNe (hdI y8.1) (hdI y9.1)) (.leaf (.up (.up (.up (.up (.memo (.u (.c (.lb false))) y10.4)))))) (.br (bNot (hdB y8.2)) (.br (iNe (hdI y8.1) 0) (.leaf (.up (.up (.up (.up (.memo (.u (.c (.lb false))) y10.4)))))) (.req ((([(0, (.u (.c (.sv l)))), (3, (.u (.c (.np (hdI y0.1) 0)))), (4, (.u (.c (.np (pI y1.1) 0)))), (5, (.u (.c (.si .i64 (hdI y2.1)))))] : List (Nat × V)) = [(0, (.u (.c (.sv l)))), (3, (.u (.c (.np (hdI y0.1) 0)))), (4, (.u (.c (.np (pI y1.1) 0)))), (5, (.u (.c (.si .i64 (hdI y2.1)))))]) ∧ (([] : List (Nat × Blk)) = [])) (.leaf (.up (.up (.again (.mk [1] [] [] y10.4))))))) (.req ((([(0, (.u (.c (.sv l)))), (3, (.u (.c (.np (hdI y0.1) 0)))), (4, (.u (.c (.np (pI y1.1) 0)))), (5, (.u (.c (.si .i64 (hdI y2.1)))))] : List (Nat × V)) = [(0, (.u (.c (.sv l)))), (3, (.u (.c (.np (hdI y0.1) 0)))), (4, (.u (.c (.np (pI y1.1) 0)))), (5, (.u (.c (.si .i64 (hdI y2.1)))))]) ∧ (([] : List (Nat × Blk)) = [])) (.leaf (.up (.up (.again (.mk [1] [] [] y10.4)))))))) (.br (bNot (hdB y8.2)) (.br (iNe (hdI y8.1) 0) (.leaf (.up (.up (.up (.up (.memo (.u (.c (.lb false))) y10.4)))))) (.req ((([(0, (.u (.c (.sv l)))), (3, (.u (.c (.np (hdI y0.1) 0)))), (4, (.u (.c (.np (pI y1.1) 0)))), (5, (.u (.c (.si .i64 (hdI y2.1)))))] : List (Nat × V)) = [(0, (.u (.c (.sv l)))), (3, (.u (.c (.np (hdI y0.1) 0)))), (4, (.u (.c (.np (pI y1.1) 0)))), (5, (.u (.c (.si .i64 (hdI y2.1)))))]) ∧ (([] : List (Nat × Blk)) = [])) (.leaf (.up (.up (.again (.mk [1] [] [] y10.4))))))) (.req ((([(0, (.u (.c (.sv l)))), (3, (.u (.c (.np (hdI y0.1) 0)))), (4, (.u (.c (.np (pI y1.1) 0)))), (5, (.u (.c (.si .i64 (hdI y2.1)))))] : List (Nat × V)) = [(0, (.u (.c (.sv l)))), (3, (.u (.c (.np (hdI y0.1) 0)))), (4, (.u (.c (.np (pI y1.1) 0)))), (5, (.u (.c (.si .i64 (hdI y2.1)))))]) ∧ (([] : List (Nat × Blk)) = [])) (.leaf (.up (.up (.again (.mk [1] [] [] y10.4))))))))))))))))))) (.no 76)) (.no 75))))))))))))))))) (.no 76)) (.no 75)) (.no 70)) (.no 104)) (.req ((([(0, (.u (.c (.sv l)))), (3, (.u (.c (.np (hdI y0.1) 0)))), (4, (.u (.c (.np (pI y1.1) 0))))] : List (Nat × V)) = [(0, (.u (.c (.sv l)))), (3, (.u (.c (.np (hdI y0.1) 0)))), (4, (.u (.c (.np (pI y1.1) 0))))]) ∧ (([] : List (Nat × Blk)) = [])) (.leaf (.up (.again (.mk [(iAdd .i64 (hdI y2.1) 1)] [] [] y3.4)))))))) (.leaf (.up (.memo (.u (.c (.lb true))) y2.4)))) (.no 123)))))))))) (.no 123))
set_option maxHeartbeats 40000000 in
theorem plays_walk {l : Value} {m0 : Mem} {xs : List Stp} (hA : ArgS l xs m0) : (T_plays m0 l).sat (isMemo fun v m => v = tru ∧ ∀ a, m0 a ≠ none → m a = m0 a) := by
  unfold T_plays
  rw [brT hA.sl, hA.n]
  by_cases hbig : (200 : Int) < xs.length
  · rw [brT (by simp only [iGt, decide_eq_true_eq]; exact hbig)]
    exact ⟨rfl, fun _ _ => rfl⟩
  rw [brF (by simp only [iGt, decide_eq_false_iff_not]; exact hbig), sat_req]
  refine ⟨trivial, ?_⟩
  rw [sat_any]
  rintro ⟨yi, yb, yv, ym⟩ ⟨S, hi, hm, hT0, ft, fq, fH⟩
  simp only at hi hm
  subst hi hm
  rw [sat_any]
  rintro ⟨ri, rb, rv, rm⟩ ⟨r0, hri, hr0, hrm⟩
  simp only at hri hr0 hrm
  subst hri hrm
  obtain ⟨b0, n1, n2, n3, n4, n5⟩ := new_lst (S := S) (m0 := m0) hr0 ⟨ft, fq, fun a h => absurd (fH _) h⟩
  rw [n1]
  clear n1 hr0
  obtain ⟨r, hr⟩ : ∃ r : Int, r = (r0 : Int) + 1 := ⟨_, rfl⟩
  have hpI : pI [(r0 : Int) + 1] = r := hr.symm
  have hrn : ∀ a : Nat, r = (a : Int) + 1 → m0 a = none := fun a e => by
    have : a = r0 := by omega
    rw [this]; exact n5
  rw [← hr] at n4
  simp only [hpI, hdI]
  obtain ⟨p, hp⟩ : ∃ p, S.p = p := ⟨_, rfl⟩
  simp only [hp]
  let J : Nat → Vars → Prop := fun N y => ∃ j : Nat, N = xs.length - j ∧ y.i = [(j : Int)] ∧ y.b = [] ∧ y.v = [] ∧ PlI m0 p r j y.m
  refine lp_idx J (n0 := xs.length) ⟨0, rfl, rfl, rfl, rfl, ⟨S, b0, .nil, 0, _, rfl, hp, hT0, n2, n3, n4, Nat.le_refl _, hrn⟩⟩ ?_
  clear hp hT0 n2 n3 n4 ft fq fH
  rintro N ⟨yi, yb', yv', ym⟩ _ ⟨j, rfl, e1, e2, e3, hP⟩
  simp only at e1 e2 e3 hP
  subst e1 e2 e3
  simp only [hdI]
  rw [brT hA.sl]
  obtain ⟨S1, b, t, n, v, rfl, hp1, hT, hF, hk, hL, hsz, -⟩ := hP
  have hkm : ∀ a, m0 a ≠ none → S1.mem b a = m0 a := fun a ha => by rw [hF.more a (by rw [hk a ha]; exact ha), hk a ha]
  by_cases hjl : j < xs.length
  rotate_left
  · rw [brF (by simp only [iLt, decide_eq_false_iff_not]; omega)]
    exact ⟨rfl, hkm⟩
  rw [brT (by simp only [iLt, decide_eq_true_eq]; omega)]
  obtain ⟨x, hx⟩ : ∃ x, xs[j]? = some x := ⟨xs[j], by rw [List.getElem?_eq_getElem hjl]⟩
  obtain ⟨rg1, rg2⟩ := hA.rng x (List.mem_of_getElem? hx)
  obtain ⟨a1, a2, a3, a4, a5, a6⟩ := (hA.more hkm).at' j x hx
  simp only [a3, a4, a5, a6]
  have hlen : (hans t).length = t.size := len_hans t
  refine sat_jn (fun y => y.i = [] ∧ PlI m0 p r (j + 1) y.m) ?_ ?_
  rotate_left
  · rintro ⟨vi, vb, vv, vm⟩ _ _ ⟨_, hP'⟩
    rw [sat_req]
    refine ⟨by simp, xs.length - (j + 1), by omega, j + 1, rfl, ?_, rfl, rfl, hP'⟩
    rw [iadd_i (by omega)]; rfl
  have hLm : Lst (S1.mem b) r v (hans t) := hL.more hF.more
  have hlG : lG (S1.mem b) r (v, hans t) := ⟨hLm, by simp only; omega⟩
  rw [brT a1, brT a2, brT hLm.nz, brT hLm.nz, sat_req]
  refine ⟨⟨_, hlG⟩, ?_⟩
  rw [sat_any]
  rintro ⟨ui, ub, uv, um⟩ hu
  obtain ⟨⟨q, e4, hat⟩, em⟩ := hu _ hlG
  simp only at e4 hat em
  subst e4 em
  refine sat_jn (fun y => y.i = [] ∧ PlI m0 p r (j + 1) y.m) ?_ ?_
  · cases hrm : x.rm with
    | true =>
      have hG : (TG.mk S1 b t n).is (S1.mem b) p ∧ inI x.s ∧ inU x.g := ⟨⟨rfl, hp1.symm, hT⟩, rg1, rg2⟩
      rw [sat_brT, sat_req]
      refine ⟨⟨_, hG⟩, ?_⟩
      rw [sat_any]
      rintro ⟨wi, wb, wv, wm⟩ hw
      have hw2 := hw (TG.mk S1 b t n) hG
      clear hw hu
      simp only [hdI]
      rcases hat with ⟨a, rfl, hx2⟩ | ⟨rfl, hno⟩
      · obtain ⟨g1, g2, S3, t3, n3, g3, f2, f3, hT3, hN3, fd⟩ := rem_ok hT hw2 hx2
        simp only at g1 g2 g3 f2 f3 hN3 fd
        subst g1 g2 g3
        have hF3 := hF.rem f2 f3 fd
        have hp3 : S3.p = p := by rw [← hp1]; unfold TS.p; rw [f2]
        have hal := (List.getElem?_eq_some_iff.1 hx2).1
        have hl3 : t3.size ≤ j + 1 := by rw [← len_hans, hN3, List.length_eraseIdx_of_lt hal, hlen]; omega
        have hL3 : Lst (S3.mem b) r v (hans t) := hL.more hF3.more
        refine sat_jn (fun y => y.i = [] ∧ y.m = S3.mem b) ?_ ?_
        · simp only [hdI, hdB]
          rw [brF (by simp [bNot, bEq, iGe]), sat_brT, brF (by simp [iNe]), brF (by rfl), sat_req]
          exact ⟨by simp, rfl, rfl, rfl⟩
        · rintro ⟨ci, cb, cv, cm⟩ _ _ ⟨_, hc⟩
          simp only at hc
          subst hc
          have hG8 : lG (S3.mem b) r (v, hans t) ∧ (0 : Int) ≤ (a : Int) ∧ (a : Int) < (hans t).length := ⟨⟨hL3, by simp only; omega⟩, by omega, by omega⟩
          simp only [hdB]
          rw [sat_brT, brT hL3.nz, brT hL3.nz, sat_req]
          refine ⟨⟨_, hG8⟩, ?_⟩
          rw [sat_any]
          intro y8 h8
          have h8 := h8 _ hG8
          simp only [Int.toNat_natCast] at h8
          rw [← hN3] at h8
          rw [sat_req]
          exact ⟨by simp, rfl, rfl, PlI.of hp3 hT3 hF3 hk hL hl3 hrn h8⟩
      · obtain ⟨g1, g2, g3⟩ := rem_no hw2 hno
        simp only at g1 g2 g3
        subst g1 g2 g3
        refine sat_jn (fun y => y.i = [] ∧ y.m = S1.mem b) ?_ ?_
        · simp only [hdI, hdB]
          rw [brF (by rfl), sat_brF, brT (by rfl), brF (by rfl), sat_req]
          exact ⟨by simp, rfl, rfl, rfl⟩
        · rintro ⟨ci, cb, cv, cm⟩ _ _ ⟨_, hc⟩
          simp only at hc
          subst hc
          simp only [hdB]
          rw [sat_brF, sat_req]
          exact ⟨by simp, rfl, rfl, S1, b, t, n, v, rfl, hp1, hT, hF, hk, hL, by omega, hrn⟩
    | false =>
      have hG : (TG.mk S1 b t n).is (S1.mem b) p ∧ t.size + 1 < 1152921504606846976 ∧ inI x.s ∧ inU x.g := ⟨⟨rfl, hp1.symm, hT⟩, by omega, rg1, rg2⟩
      rw [sat_brF, sat_req]
      refine ⟨⟨_, hG⟩, ?_⟩
      rw [sat_any]
      rintro ⟨wi, wb, wv, wm⟩ hw
      have hw2 := hw (TG.mk S1 b t n) hG
      clear hw hu
      rw [sat_req]
      refine ⟨by simp, ?_⟩
      simp only [insPost] at hw2
      rw [len_nodes] at hw2
      have hnod : (∃ z ∈ nodes t, z.2.1 = x.s ∧ z.2.2 = x.g) → (x.s, x.g) ∈ hans t := by
        rintro ⟨z, h1, h2, h3⟩
        unfold hans
        exact List.mem_map.2 ⟨z, h1, by rw [h2, h3]⟩
      have hnod2 : (x.s, x.g) ∈ hans t → ∃ z ∈ nodes t, z.2.1 = x.s ∧ z.2.2 = x.g := by
        intro h
        unfold hans at h
        obtain ⟨z, h1, h2⟩ := List.mem_map.1 h
        simp only [Prod.mk.injEq] at h2
        exact ⟨z, h1, h2.1, h2.2⟩
      rcases hw2 with ⟨c1, c2, c3⟩ | ⟨c1, c2, c3, c4, c5⟩ | ⟨c1, c2, c3, c4, S2, t2, n2, a, c5, et, eq, hT2, hN, ha, hd⟩
      · subst c2 c3
        rw [sat_req]
        refine ⟨⟨_, hlG⟩, ?_⟩
        rw [sat_any]
        intro y7 h7
        have h7 := h7 _ hlG
        simp only [rinsPost] at h7
        rcases h7 with ⟨_, z1, z2⟩ | ⟨z1, z2, _⟩ | ⟨z1, z2, _⟩
        · rw [sat_req]
          refine ⟨by simp, ?_⟩
          rw [brF (by simp [iNe, z1, hdI]), sat_req]
          refine ⟨by simp, rfl, rfl, ?_⟩
          show PlI m0 p r (j + 1) y7.m
          rw [z2]
          exact ⟨S1, b, t, n, v, rfl, hp1, hT, hF, hk, hL, by omega, hrn⟩
        · exfalso; omega
        · exfalso; omega
      · subst c4 c5
        rw [sat_req]
        refine ⟨⟨_, hlG⟩, ?_⟩
        rw [sat_any]
        intro y7 h7
        have h7 := h7 _ hlG
        simp only [rinsPost] at h7
        rcases h7 with ⟨z1, _⟩ | ⟨_, _, _, z1, z2⟩ | ⟨_, _, z1, _⟩
        · exfalso; omega
        · rw [sat_req]
          refine ⟨by simp, ?_⟩
          rw [brF (by simp [iNe, z1, hdI]), sat_req]
          refine ⟨by simp, rfl, rfl, ?_⟩
          show PlI m0 p r (j + 1) y7.m
          rw [z2]
          exact ⟨S1, b, t, n, v, rfl, hp1, hT, hF, hk, hL, by omega, hrn⟩
        · exact absurd rfl (z1 _ (hnod c3))
      · subst c4 c5
        have hF2 := hF.ins et eq ha hd
        have hp2 : S2.p = p := by rw [← hp1]; unfold TS.p; rw [et]
        have hL2 : Lst (S2.mem b) r v (hans t) := hL.more hF2.more
        have hlG2 : lG (S2.mem b) r (v, hans t) := ⟨hL2, by simp only; omega⟩
        have hh := hans_ins hN
        have hl2 : t2.size ≤ j + 1 := by
          rw [← len_hans, hh, List.length_append, List.length_cons, List.length_take, List.length_drop, hlen]; omega
        rw [sat_req]
        refine ⟨⟨_, hlG2⟩, ?_⟩
        rw [sat_any]
        intro y7 h7
        have h7 := h7 _ hlG2
        simp only [rinsPost] at h7
        rcases h7 with ⟨z1, _⟩ | ⟨_, _, z1, _⟩ | ⟨_, _, _, z1, z2⟩
        · exfalso; omega
        · obtain ⟨z, q1, q2⟩ := hnod2 z1
          exact absurd q2 (c3 z q1)
        · rw [sat_req]
          refine ⟨by simp, ?_⟩
          rw [brF (by simp [iNe, z1, hdI]), sat_req]
          rw [← hh] at z2
          exact ⟨by simp, rfl, rfl, PlI.of hp2 hT2 hF2 hk hL hl2 hrn z2⟩
  · clear hat hu hlG hLm hL hF hT hp1 hkm hsz hlen a1 a2 a3 a4 a5 a6 hk
    rintro ⟨ci, cb, cv, cm⟩ _ _ ⟨_, hP2⟩
    simp only at hP2
    clear S1 b t n v
    obtain ⟨S1, b, t, n, v, rfl, hp1, hT, hF, hk, hL, hsz, -⟩ := hP2
    have hlen : (hans t).length = t.size := len_hans t
    have hLm : Lst (S1.mem b) r v (hans t) := hL.more hF.more
    have hGa : (TG.mk S1 b t n).is (S1.mem b) p := ⟨rfl, hp1.symm, hT⟩
    rw [sat_req]
    refine ⟨⟨_, hGa⟩, ?_⟩
    rw [sat_any]
    rintro ⟨wi, wb, wv, wm⟩ hw
    obtain ⟨hat, hwm⟩ := hw _ hGa
    simp only at hat hwm
    subst hwm
    refine sat_jn (fun y => y.m = S1.mem b ∧ y.b = [decide (0 ≤ x.at' ∧ x.at' < (t.size : Int))]) ?_ ?_
    · by_cases h0 : 0 ≤ x.at'
      · rw [brT (by simp [iGe, h0]), brT hLm.nz, brT hLm.nz, brT hLm.nz, brT hLm.ok]
        simp only [hLm.pc, hLm.sl.n, hlen]
        rw [brT hLm.sl.isv, sat_req]
        refine ⟨by simp, ?_⟩
        rw [sat_req]
        exact ⟨by simp, rfl, rfl, by simp [iLt, h0]⟩
      · rw [brF (by simp [iGe, h0]), sat_req]
        refine ⟨by simp, ?_⟩
        rw [sat_req]
        exact ⟨by simp, rfl, rfl, by simp [h0]⟩
    · rintro ⟨di, db, dv, dm⟩ _ _ ⟨h1, h2⟩
      simp only at h1 h2
      subst h1 h2
      have hGi : (TG.mk S1 b t n).is (S1.mem b) p ∧ inI x.s ∧ inU x.g := ⟨hGa, rg1, rg2⟩
      rw [sat_req]
      refine ⟨⟨_, hGi⟩, ?_⟩
      rw [sat_any]
      rintro ⟨ei, eb, ev, em⟩ he
      obtain ⟨hidx, hem⟩ := he _ hGi
      simp only at hidx hem
      subst hem
      have hlG : lG (S1.mem b) r (v, hans t) := ⟨hLm, by simp only; omega⟩
      rw [brT hLm.nz, brT hLm.nz, sat_req]
      refine ⟨⟨_, hlG⟩, ?_⟩
      rw [sat_any]
      rintro ⟨ui, ub, uv, um⟩ hu
      obtain ⟨⟨q, e4, hrat⟩, em⟩ := hu _ hlG
      simp only at e4 hrat em
      subst e4 em
      have hAG : (AG.mk S1 b t n v).is (S1.mem b) p r := ⟨hGa, by simp only; omega, hLm⟩
      rw [sat_req]
      refine ⟨⟨_, hAG⟩, ?_⟩
      rw [sat_any]
      rintro ⟨gi, gb, gv, gm⟩ hg
      obtain ⟨k1, b', k2, k3, k4⟩ := hg _ hAG
      simp only at k1 k2 k3 k4
      subst k1 k2
      have hL' : Lst b' r v (hans t) := hL.more k3
      have hLm' : Lst (S1.mem b') r v (hans t) := hL'.more (k4 hF).more
      have hfin : PlI m0 p r (j + 1) (S1.mem b') := ⟨S1, b', t, n, v, rfl, hp1, hT, k4 hF, fun a ha => by rw [k3 a (by rw [hk a ha]; exact ha), hk a ha], hL', hsz, hrn⟩
      simp only [hdI, hdB, hLm'.pc]
      rw [brF (by rfl)]
      by_cases hin : 0 ≤ x.at' ∧ x.at' < (t.size : Int)
      · obtain ⟨a, ha⟩ : ∃ a : Nat, x.at' = a := ⟨x.at'.toNat, by omega⟩
        rw [ha] at hat hin ⊢
        obtain ⟨u, hu1⟩ : ∃ u, (hans t)[a]? = some u := ⟨(hans t)[a]'(by omega), by rw [List.getElem?_eq_getElem (by omega)]⟩
        obtain ⟨g1, g2⟩ := at_ok hat hu1
        simp only at g1 g2
        subst g1 g2
        obtain ⟨q1, q2, q3, q4⟩ := hLm'.sl.get hu1
        simp only [q3, q4, hdI, tlI, hdB]
        rw [brF (by simp [bNot, bEq]; omega), sat_brT, brT hLm'.nz, brT hLm'.nz, brT hLm'.nz, brT hLm'.ok, brT q1, brT q2, brF (by simp [iEq, bAnd, bNot]), brF (by rfl)]
        rcases hrat with ⟨c, rfl, hc⟩ | ⟨rfl, hno⟩
        · obtain ⟨z1, z2⟩ := idx_ok hT hidx hc
          simp only at z1 z2
          subst z1 z2
          simp only [hdI, hdB]
          rw [brF (by simp [bNot, bEq, iGe]), sat_brT, brF (by simp [iNe]), brF (by rfl), sat_req]
          exact ⟨by simp, rfl, rfl, hfin⟩
        · obtain ⟨z1, z2⟩ := idx_no hidx hno
          simp only at z1 z2
          subst z1 z2
          simp only [hdI, hdB]
          rw [brF (by rfl), sat_brF, brT (by rfl), brF (by rfl), sat_req]
          exact ⟨by simp, rfl, rfl, hfin⟩
      · obtain ⟨g1, g2⟩ := at_no hat (by omega)
        simp only at g1 g2
        subst g1 g2
        simp only [hdI, tlI, hdB]
        rw [brF (by simp [bNot, bEq]; omega), sat_brF, brT (by rfl), brF (by rfl)]
        rcases hrat with ⟨c, rfl, hc⟩ | ⟨rfl, hno⟩
        · obtain ⟨z1, z2⟩ := idx_ok hT hidx hc
          simp only at z1 z2
          subst z1 z2
          simp only [hdI, hdB]
          rw [brF (by simp [bNot, bEq, iGe]), sat_brT, brF (by simp [iNe]), brF (by rfl), sat_req]
          exact ⟨by simp, rfl, rfl, hfin⟩
        · obtain ⟨z1, z2⟩ := idx_no hidx hno
          simp only at z1 z2
          subst z1 z2
          simp only [hdI, hdB]
          rw [brF (by rfl), sat_brF, brT (by rfl), brF (by rfl), sat_req]
          exact ⟨by simp, rfl, rfl, hfin⟩
end Go.Proofs.Ytnlohongffpkpaa.T16
