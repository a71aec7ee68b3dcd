/- What a bound's numbers may be stays so from step to step; and how trees are read (layer 5). A text of the session's own. -/
import Derived.Test.YtafpbibpahjnhaaGreatL05F
namespace Go.Proofs.YtafpbibpahjnhaaGreat.L05
open Go Go.RowKit Go.Proofs.YtafpbibpahjnhaaGreat.Sx
set_option linter.unusedVariables false

def cB (b : Bd) : List C := [.si .u64 b.1.1, .si .u64 b.1.2, .si .u64 b.2.1, .si .u64 b.2.2, .si .i64 b.3.1, .si .i64 b.3.2, .si .u64 b.4.1, .si .u64 b.4.2, .si .i64 b.5.1, .si .i64 b.5.2]
def iX0 (l : List Int) : Int := hdI l
def iX1 (l : List Int) : Int := hdI (tlI l)
def iX2 (l : List Int) : Int := hdI (tlI (tlI l))
def iX3 (l : List Int) : Int := hdI (tlI (tlI (tlI l)))
def iX4 (l : List Int) : Int := hdI (tlI (tlI (tlI (tlI l))))
def iX5 (l : List Int) : Int := hdI (tlI (tlI (tlI (tlI (tlI l)))))
def iX6 (l : List Int) : Int := hdI (tlI (tlI (tlI (tlI (tlI (tlI l))))))
def iX7 (l : List Int) : Int := hdI (tlI (tlI (tlI (tlI (tlI (tlI (tlI l)))))))
def iX8 (l : List Int) : Int := hdI (tlI (tlI (tlI (tlI (tlI (tlI (tlI (tlI l))))))))
def iX9 (l : List Int) : Int := hdI (tlI (tlI (tlI (tlI (tlI (tlI (tlI (tlI (tlI l)))))))))
def iX10 (l : List Int) : Int := hdI (tlI (tlI (tlI (tlI (tlI (tlI (tlI (tlI (tlI (tlI l))))))))))
def iX11 (l : List Int) : Int := hdI (tlI (tlI (tlI (tlI (tlI (tlI (tlI (tlI (tlI (tlI (tlI l)))))))))))
def iX12 (l : List Int) : Int := hdI (tlI (tlI (tlI (tlI (tlI (tlI (tlI (tlI (tlI (tlI (tlI (tlI l))))))))))))
def cN : List C := [.li .u64 0, .li .u64 0, .li .u64 1, .li .u64 0, .li .i64 1, .li .i64 0, .li .u64 1, .li .u64 0, .li .i64 1, .li .i64 0]
def a10 (b : Bd) (T : Tr) : Tr := .br (isU b.1.1) (.br (isU b.1.2) (.br (isU b.2.1) (.br (isU b.2.2) (.br (isI b.3.1) (.br (isI b.3.2) (.br (isU b.4.1) (.br (isU b.4.2) (.br (isI b.5.1) (.br (isI b.5.2) T (.no 98)) (.no 98)) (.no 98)) (.no 98)) (.no 98)) (.no 98)) (.no 98)) (.no 98)) (.no 98)) (.no 98)
theorem askB {c : Bool} {T : Tr} {p : V → Prop} (h : c = true) (k : T.all p) : (Tr.br c T (.no 98)).all p := ⟨fun _ => k, fun e => by rw [h] at e; cases e⟩
theorem br2 {c : Bool} {A B : Tr} {p : V → Prop} (h : c = true → A.all p) (k : c = false → B.all p) : (Tr.br c A B).all p := ⟨h, k⟩
theorem brn {c : Bool} {A B : Tr} {p : V → Prop} (h : c = false → A.all p) (k : c = true → B.all p) : (Tr.br (bNot c) A B).all p := ⟨fun e => h (not_t.1 e), fun e => k (not_f.1 e)⟩
theorem brT {c : Bool} {A B : Tr} {p : V → Prop} (h : c = true) (k : A.all p) : (Tr.br c A B).all p := ⟨fun _ => k, fun e => by rw [h] at e; cases e⟩
theorem brF {c : Bool} {A B : Tr} {p : V → Prop} (h : c = false) (k : B.all p) : (Tr.br c A B).all p := ⟨fun e => (by rw [h] at e; cases e), fun _ => k⟩
theorem brnT {c : Bool} {A B : Tr} {p : V → Prop} (h : c = true) (k : B.all p) : (Tr.br (bNot c) A B).all p := brF (by rw [h]; rfl) k
theorem brnF {c : Bool} {A B : Tr} {p : V → Prop} (h : c = false) (k : A.all p) : (Tr.br (bNot c) A B).all p := brT (by rw [h]; rfl) k
theorem brn2 {c : Bool} {A B : Tr} {p : V → Prop} (h : c = true → B.all p) (k : c = false → A.all p) : (Tr.br (bNot c) A B).all p := brn k h
theorem raw_t1 {b : Bd} (r : Raw5 b) : isU b.1.1 = true := r.t.1
theorem raw_t2 {b : Bd} (r : Raw5 b) : isU b.1.2 = true := r.t.2
theorem raw_u1 {b : Bd} (r : Raw5 b) : isU b.2.1 = true := r.u.1
theorem raw_u2 {b : Bd} (r : Raw5 b) : isU b.2.2 = true := r.u.2
theorem raw_s1 {b : Bd} (r : Raw5 b) : isI b.3.1 = true := isI_iff.2 r.s.1
theorem raw_s2 {b : Bd} (r : Raw5 b) : isI b.3.2 = true := isI_iff.2 r.s.2
theorem raw_w1 {b : Bd} (r : Raw5 b) : isU b.4.1 = true := r.w.1
theorem raw_w2 {b : Bd} (r : Raw5 b) : isU b.4.2 = true := r.w.2
theorem raw_v1 {b : Bd} (r : Raw5 b) : isI b.5.1 = true := isI_iff.2 r.v.1
theorem raw_v2 {b : Bd} (r : Raw5 b) : isI b.5.2 = true := isI_iff.2 r.v.2
theorem ask10 {b : Bd} {T : Tr} {p : V → Prop} (r : Raw5 b) (k : T.all p) : (Tr.br (isU b.1.1) (.br (isU b.1.2) (.br (isU b.2.1) (.br (isU b.2.2) (.br (isI b.3.1) (.br (isI b.3.2) (.br (isU b.4.1) (.br (isU b.4.2) (.br (isI b.5.1) (.br (isI b.5.2) T (.no 98)) (.no 98)) (.no 98)) (.no 98)) (.no 98)) (.no 98)) (.no 98)) (.no 98)) (.no 98)) (.no 98)).all p :=
  askB r.t.1 (askB r.t.2 (askB r.u.1 (askB r.u.2 (askB (isI_iff.2 r.s.1) (askB (isI_iff.2 r.s.2) (askB r.w.1 (askB r.w.2 (askB (isI_iff.2 r.v.1) (askB (isI_iff.2 r.v.2) k)))))))))
theorem raw_of {b : Bd} (h0 : isU b.1.1 = true) (h1 : isU b.1.2 = true) (h2 : isU b.2.1 = true) (h3 : isU b.2.2 = true) (h4 : isI b.3.1 = true) (h5 : isI b.3.2 = true) (h6 : isU b.4.1 = true) (h7 : isU b.4.2 = true) (h8 : isI b.5.1 = true) (h9 : isI b.5.2 = true) : Raw5 b :=
  ⟨⟨h0, h1⟩, ⟨h2, h3⟩, ⟨isI_iff.1 h4, isI_iff.1 h5⟩, ⟨h6, h7⟩, ⟨isI_iff.1 h8, isI_iff.1 h9⟩⟩

theorem sg32_ii (x y : Int) : II ⟨sg32 x, sg32 y⟩ := by have := sg32_vv x y; unfold VV at this; unfold II; omega
theorem range_uu {l h : Int} (hl : isU l = true) (hh : isU h = true) : UU (tRange l h) := (range_tm hl hh).1
theorem modI_u (x : Int) : isU (x % 4294967296) = true := by rw [isU_iff]; omega
theorem and_conv {z : Int} (h : isI z = true) : iBit .and .u64 (iConv .u64 z) 4294967295 = z % 4294967296 := by
  rw [conv_uns h]
  have hz := isI_iff.1 h
  have hu : isU (uns z) = true := by rw [isU_iff]; unfold uns; split <;> omega
  rw [show iBit .and .u64 (uns z) 4294967295 = andU (uns z) 4294967295 from rfl, and_low hu]
  unfold uns; split <;> omega

theorem st1_raw {b : Bd} (r : Raw5 b) : Raw5 (st1 b).1 :=
  ⟨r.t, meet_uu2 r.u ⟨r.t.1, or_u r.t.1 r.t.2⟩, meet_ii r.s (sgn_ii (or_u r.t.1 (and_u r.t.2 top64)) (or_u r.t.1 (not_u r.t.2 top64))), r.w, r.v⟩
theorem st2_raw {b : Bd} (r : Raw5 b) : Raw5 (st2 b).1 :=
  ⟨r.t, meet_uu2 r.u (bare_uu (meet_ii r.s (sign_ii r.u))), meet_ii r.s (sign_ii r.u), r.w, r.v⟩
theorem meetT_raw {b : Bd} {t : P2} (r : Raw5 b) (h : UU t) : Raw5 (meetT b t).1 := by
  unfold meetT
  split
  · exact ⟨meet_uu r.t h, r.u, r.s, r.w, r.v⟩
  · exact r
theorem st3_raw {b : Bd} (r : Raw5 b) : Raw5 (st3 b).1 := meetT_raw r (range_uu r.u.1 r.u.2)
theorem st4_raw {b : Bd} (r : Raw5 b) : Raw5 (st4 b).1 := by
  have hl := low_uu r.t
  exact ⟨r.t, r.u, r.s, meet_uu2 r.w ⟨hl.1, or_u hl.1 hl.2⟩, meet_ii r.v (sg32_ii _ _)⟩
theorem st5_raw {b : Bd} (r : Raw5 b) : Raw5 (st5 b).1 := by
  unfold st5
  split
  · exact ⟨r.t, r.u, r.s, r.w, meet_ii r.v (sg32_ii _ _)⟩
  · exact r
theorem st6_raw {b : Bd} (r : Raw5 b) : Raw5 (st6 b).1 := by
  unfold st6
  split
  · exact ⟨r.t, r.u, r.s, meet_uu2 r.w ⟨modI_u _, modI_u _⟩, r.v⟩
  · exact r
theorem st7_raw {b : Bd} (r : Raw5 b) : Raw5 (st7 b).1 := by
  have h := range_uu r.w.1 r.w.2
  exact meetT_raw r ⟨h.1, or_u h.2 high32⟩
theorem st8_raw {b : Bd} (r : Raw5 b) : Raw5 (st8 b).1 := by
  unfold st8
  split
  · have hw : UU (pMeet b.w ⟨b.u.lo % 4294967296, b.u.hi % 4294967296⟩) := meet_uu2 r.w ⟨modI_u _, modI_u _⟩
    have hu := and_u r.u.1 high32
    exact ⟨r.t, meet_uu2 r.u ⟨or_u hu hw.1, or_u hu hw.2⟩, r.s, hw, r.v⟩
  · exact r

theorem runs_raw : ∀ (l : List (Bd → Bd × Bool)), (∀ f ∈ l, ∀ b, Raw5 b → Raw5 (f b).1) → ∀ b, Raw5 b → Raw5 (runs l b).1
  | [], _, b, r => r
  | f :: l, h, b, r => by
    unfold runs
    split
    · exact runs_raw l (fun g hg => h g (by simp [hg])) _ (h f (by simp) b r)
    · exact h f (by simp) b r
theorem rnd_raw {b : Bd} (r : Raw5 b) : Raw5 (rnd b).1 := by
  refine runs_raw steps (fun f hf b r => ?_) b r
  simp only [steps, List.mem_cons, List.not_mem_nil, or_false] at hf
  rcases hf with rfl | rfl | rfl | rfl | rfl | rfl | rfl | rfl
  · exact st1_raw r
  · exact st2_raw r
  · exact st3_raw r
  · exact st4_raw r
  · exact st5_raw r
  · exact st6_raw r
  · exact st7_raw r
  · exact st8_raw r

theorem runs_f {f : Bd → Bd × Bool} {l : List (Bd → Bd × Bool)} {b : Bd} (h : (f b).2 = false) : runs (f :: l) b = ((f b).1, false) := by simp [runs, h]
theorem runs_n {f : Bd → Bd × Bool} {l : List (Bd → Bd × Bool)} {b : Bd} (h : bNone (f b).1 = true) : runs (f :: l) b = ((f b).1, false) := by simp [runs, h]
theorem runs_g {f : Bd → Bd × Bool} {l : List (Bd → Bd × Bool)} {b : Bd} (h : (f b).2 = true) (k : bNone (f b).1 = false) : runs (f :: l) b = runs l (f b).1 := by simp [runs, h, k]

end Go.Proofs.YtafpbibpahjnhaaGreat.L05
