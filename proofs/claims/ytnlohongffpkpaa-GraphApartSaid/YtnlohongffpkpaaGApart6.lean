import Derived.Test.YtnlohongffpkpaaGApart5
import Derived.Deep.Slices
set_option linter.unusedVariables false
set_option linter.unusedSimpArgs false
section
/- Layer 17: a graph's calls: New, Push, Insert, Pop, Peek, Remove. A text of the session's own. -/
namespace Go.Proofs.Ytnlohongffpkpaa.T16
open Go Go.RowKit Go.Proofs.Ytnlohongffpkpaa.Sx Go.Proofs
set_option linter.unusedVariables false
set_option linter.unusedSimpArgs false

def listB (r : Option Str) : Bool := match r with | none => false | some X => !X.tree
def treeB (r : Option Str) : Bool := match r with | none => false | some X => X.tree
theorem lP_b (r : Option Str) : peq (lP r) 0 = !listB r := by
  cases r with
  | none => rfl
  | some X => simp only [lP, listB]; cases X.tree <;> simp only [pz_p] <;> rfl
theorem tP_b (r : Option Str) : peq (tP r) 0 = !treeB r := by
  cases r with
  | none => rfl
  | some X => simp only [tP, treeB]; cases X.tree <;> simp only [pz_p] <;> rfl
theorem mayE_zero {G : GG} {p : Pl} {k : Hn} {n : Int} {f : Bool} (h : mayE G p k n f = 0) : G.I k n = none ∧ G.N p k = none ∧ ((G.R p).isSome = true → f = true) := by
  unfold mayE at h
  cases hI : G.I k n with
  | some q => rw [hI] at h; cases h
  | none =>
    rw [hI] at h
    simp only [Option.isSome_none] at h
    cases hN : G.N p k with
    | some q => rw [hN] at h; simp at h
    | none =>
      refine ⟨rfl, rfl, fun hR => ?_⟩
      rw [hN, hR] at h
      cases f with
      | true => rfl
      | false => simp at h
/-- the graph behind a node's coming -/
def GG.come (G : GG) (p : Pl) (k : Hn) (n : Int) (X' : Str) : GG := ⟨G.g, G.mr, G.mi, G.mb, upd1 G.R p (some X'), updN G.N p k (some n), updI G.I k n (some p)⟩
/-- .. a node's going -/
def GG.go (G : GG) (p : Pl) (k : Hn) (n : Int) (X' : Str) : GG := ⟨G.g, G.mr, G.mi, G.mb, upd1 G.R p (goneR X'), updN G.N p k none, updI G.I k n none⟩
theorem lifv {X' : Str} (h : X'.tree = false) {p : Int} (hp : p = (X'.t : Int) + 1) : pl (mkIf 112 p) = X'.ifv := by
  subst hp; simp only [Str.ifv, h, mkIf_eq]; rfl
theorem tifv {X' : Str} (h : X'.tree = true) {p : Int} (hp : p = (X'.t : Int) + 1) : pl (mkIf 24 p) = X'.ifv := by
  subst hp; simp only [Str.ifv, h, mkIf_eq]; rfl
/-- one of its structures, new -/
theorem GG.is.mid_new {G : GG} {m0 m1 m2 : Mem} {p : Pl} {X0 X' : Str} (h : G.is m0) (hR : G.R p = none) (h1 : ∀ a, X0.D a → m0 a = none) (h2 : ∀ a, m0 a ≠ none → m1 a = m0 a) (ht : X0.to X' m1 m2) : G.mid m0 m2 p X' := by
  refine ⟨h, ht.in', fun a ha _ => ?_, fun a ha => .inr ?_⟩
  · exact (ht.keep a (by rw [h2 a ha]; exact ha) fun hd => ha (h1 a hd)).trans (h2 a ha)
  · rcases ht.dom a ha with hd | hn
    · exact h1 a hd
    · cases e : m0 a with
      | none => rfl
      | some o => have := h2 a (by rw [e]; simp); rw [hn, e] at this; cases this

/-! New -/
def T_gnew (m : Mem)  : Tr := (.any (newMQ m) (fun y0 => (.any (newMQ y0.4) (fun y1 => (.any (newMQ y1.4) (fun y2 => (.any (newQ y2.4 (.mk [(pl (hdV y0.3)), (pl (hdV y1.3)), (pl (hdV y2.3))]) 111) (fun y3 => (.leaf (.memo (.u (.c (.np (pI y3.1) 0))) y3.4))))))))))
def gnewP (m : Mem) : Prop := ∃ G : Unit, True
def gnewPost (m : Mem) (y : Vars) : Prop := ∃ G : GG, y.i = [(G.g : Int) + 1] ∧ G.is y.m ∧ (∀ p, G.R p = none) ∧ (∀ p h, G.N p h = none) ∧ (∀ h n, G.I h n = none) ∧ (∀ a, G.dom a → m a = none) ∧ ∀ a, m a ≠ none → y.m a = m a
def gnewQ (m : Mem) (y : Vars) : Prop := ∀ G : Unit, True → gnewPost m y
def s_gnew : Sum := memSum 29 fun m a => match a with | [] => some ⟨gnewP m, gnewQ m, fun y => .u (.c (.np (hdI y.i) 0))⟩ | _ => none
theorem isMap_new {kt : TypeId} {m : Mem} {q : Nat} (h : m q = some (.map #[] 0)) : isMap kt m q ∧ ∀ k, mlook m (.map (some q)) k = none := by
  refine ⟨⟨#[], 0, h, fun e he => by simp at he, List.Pairwise.nil⟩, fun k => ?_⟩
  simp [mlook, mpE, h, efind]
theorem gnew_walk {m : Mem} (G : Unit) (hG : True) : (T_gnew m).sat (isMemo fun v x => gnewPost m (yOf v x) ∧ (yOf v x).m = x ∧ ∀ ρ, v.den ρ = V.den ρ (.u (.c (.np (hdI (yOf v x).i) 0)))) := by
  unfold T_gnew
  rw [sat_any]
  rintro ⟨ai, ab, av, am⟩ ⟨mr, a1, a2, a3⟩
  simp only at a2 a3
  subst a2 a3
  rw [sat_any]
  rintro ⟨bi, bb, bv, bm⟩ ⟨mi, b1, b2, b3⟩
  simp only at b1 b2 b3
  subst b2 b3
  rw [sat_any]
  rintro ⟨ci, cb, cv, cm⟩ ⟨mb, c1, c2, c3⟩
  simp only at c1 c2 c3
  subst c2 c3
  rw [sat_any]
  rintro ⟨di, db, dv, dm⟩ ⟨g, d1, d2, d3⟩
  simp only at d1 d2 d3
  subst d1
  have e1 : alM (alO (alO (alO m mr (.map #[] 0)) mi (.map #[] 0)) mb (.map #[] 0)) ((g : Int) + 1) (.mk [(pl (hdV [Value.map (some mr)])), (pl (hdV [Value.map (some mi)])), (pl (hdV [Value.map (some mb)]))]) 111 = alO (alO (alO (alO m mr (.map #[] 0)) mi (.map #[] 0)) mb (.map #[] 0)) g (gO mr mi mb) := alM_alO _ g _ 111
  rw [e1] at d3
  subst d3
  have n1 : mi ≠ mr := by rintro rfl; rw [alO_self] at b1; cases b1
  have n2 : mb ≠ mi := by rintro rfl; rw [alO_self] at c1; cases c1
  have n3 : mb ≠ mr := by rintro rfl; rw [alO_ne _ (Ne.symm n1), alO_self] at c1; cases c1
  have n4 : g ≠ mb := by rintro rfl; rw [alO_self] at d2; cases d2
  have n5 : g ≠ mi := by rintro rfl; rw [alO_ne _ (Ne.symm n2), alO_self] at d2; cases d2
  have n6 : g ≠ mr := by rintro rfl; rw [alO_ne _ (Ne.symm n3), alO_ne _ (Ne.symm n1), alO_self] at d2; cases d2
  have f2 : m mi = none := by rw [alO_ne _ n1] at b1; exact b1
  have f3 : m mb = none := by rw [alO_ne _ n2, alO_ne _ n3] at c1; exact c1
  have f4 : m g = none := by rw [alO_ne _ n4, alO_ne _ n5, alO_ne _ n6] at d2; exact d2
  generalize hM : alO (alO (alO (alO m mr (.map #[] 0)) mi (.map #[] 0)) mb (.map #[] 0)) g (gO mr mi mb) = M
  have hg : M g = some (gO mr mi mb) := by rw [← hM, alO_self]
  have hb : M mb = some (.map #[] 0) := by rw [← hM, alO_ne _ (Ne.symm n4), alO_self]
  have hi : M mi = some (.map #[] 0) := by rw [← hM, alO_ne _ (Ne.symm n5), alO_ne _ (Ne.symm n2), alO_self]
  have hr : M mr = some (.map #[] 0) := by rw [← hM, alO_ne _ (Ne.symm n6), alO_ne _ (Ne.symm n3), alO_ne _ (Ne.symm n1), alO_self]
  have ho : ∀ a, m a ≠ none → M a = m a := fun a ha => by
    rw [← hM, alO_ne _ (by rintro rfl; exact ha f4), alO_ne _ (by rintro rfl; exact ha f3), alO_ne _ (by rintro rfl; exact ha f2), alO_ne _ (by rintro rfl; exact ha a1)]
  refine ⟨⟨⟨g, mr, mi, mb, fun _ => none, fun _ _ => none, fun _ _ => none⟩, rfl, ⟨⟨hg, (isMap_new hr).1, (isMap_new hi).1, (isMap_new hb).1, fun p _ => (isMap_new (kt := 59) hr).2 _, fun h n _ _ => (isMap_new (kt := 59) hi).2 _, fun p h _ _ => (isMap_new (kt := 59) hb).2 _, Ne.symm n1, Ne.symm n3, Ne.symm n2⟩, (fun p X h => by cases h), (fun p q X Y h => by cases h), (fun p X h => by cases h), (fun p h => by simp), (fun p h n hn => by cases hn), (fun h n p => by simp)⟩, fun _ => rfl, fun _ _ => rfl, fun _ _ => rfl, fun a ha => ?_, ho⟩, rfl, fun ρ => rfl⟩
  rcases ha with (rfl | rfl | rfl | rfl) | ⟨p, X, hX, _⟩
  · exact f4
  · exact a1
  · exact f2
  · exact f3
  · cases hX
theorem t_gnew (m : Mem)  : runm Try.prog [] (drawx Try.prog []) 300 29 [] m [98, 92, 95, 142, 140, 137, 111, 107, 108, 109] = T_gnew m  := by kernel_rfl
theorem s_gnew_ok : SumOK Try.prog s_gnew := by
  refine memSum_ok ⟨_, Try.func29, by kernel_rfl⟩ fun m args ms h hp hw ρ w hm => ?_
  split at h
  · cases h
    exact mm_ghostY nameOK okn (dOK okn) 300 _ m _ (t_gnew m) yOf hp (pre := fun _ : Unit => True) (post := fun _ y => gnewPost m y) (ret := fun y => .u (.c (.np (hdI y.i) 0))) (fun G hG => gnew_walk G hG) ρ w hm (by simp only [List.map_nil])
  · cases h

/-! Push -/
def T_gpush (m : Mem) (t : Int) (pm ps pa : Int) (hs hg : Int) (n : Int) (o : Bool) : Tr := (.req (madeOK m t) (.req ((([(1, ([(.si .i64 hs), (.si .u64 hg)], 29)), (0, ([(.si .i64 pm), (.si .i64 ps), (.si .i64 pa)], 59))] : List (Nat × Blk)) = [(1, ([(.si .i64 hs), (.si .u64 hg)], 29)), (0, ([(.si .i64 pm), (.si .i64 ps), (.si .i64 pa)], 59))]) ∧ (([] : List (Nat × MBlk)) = [])) (.br (madeV m t) (.req (listedOK m t pm ps pa) (.req ((([(1, ([(.si .i64 hs), (.si .u64 hg)], 29)), (0, ([(.si .i64 pm), (.si .i64 ps), (.si .i64 pa)], 59))] : List (Nat × Blk)) = [(1, ([(.si .i64 hs), (.si .u64 hg)], 29)), (0, ([(.si .i64 pm), (.si .i64 ps), (.si .i64 pa)], 59))]) ∧ (([] : List (Nat × MBlk)) = [])) (.br (cmpOK m (listedV m t pm ps pa) 0) (.req (mayOK m t pm ps pa hs hg n (bNot (peq (listedV m t pm ps pa) 0))) (.req ((([(1, ([(.si .i64 hs), (.si .u64 hg)], 29)), (0, ([(.si .i64 pm), (.si .i64 ps), (.si .i64 pa)], 59))] : List (Nat × Blk)) = [(1, ([(.si .i64 hs), (.si .u64 hg)], 29)), (0, ([(.si .i64 pm), (.si .i64 ps), (.si .i64 pa)], 59))]) ∧ (([] : List (Nat × MBlk)) = [])) (.br (iNe (mayV m t pm ps pa hs hg n (bNot (peq (listedV m t pm ps pa) 0))) 0) (.leaf (.memo (.u (.c (.si .i64 (mayV m t pm ps pa hs hg n (bNot (peq (listedV m t pm ps pa) 0)))))) m)) (.req (listedOK m t pm ps pa) (.br (cmpOK m (listedV m t pm ps pa) 0) (.br (peq (listedV m t pm ps pa) 0) (.req (lnewP m) (.any (lnewQ m) (fun y0 => (.req (lpushP y0.4 (hdI y0.1) hs hg o) (.any (lpushQ y0.4 (hdI y0.1) hs hg o) (fun y1 => (.req (comesOK y1.4 t pm ps pa hs hg n (pl (mkIf 112 (hdI y0.1)))) (.letm (comesM y1.4 t pm ps pa hs hg n (pl (mkIf 112 (hdI y0.1)))) (fun m1 => (.leaf (.memo (.u (.c (.si .i64 (hdI y1.1)))) m1))))))))))) (.req (lpushP m (listedV m t pm ps pa) hs hg o) (.any (lpushQ m (listedV m t pm ps pa) hs hg o) (fun y0 => (.req (comesOK y0.4 t pm ps pa hs hg n (pl (mkIf 112 (listedV m t pm ps pa)))) (.letm (comesM y0.4 t pm ps pa hs hg n (pl (mkIf 112 (listedV m t pm ps pa)))) (fun m1 => (.leaf (.memo (.u (.c (.si .i64 (hdI y0.1)))) m1))))))))) (.no 78)))))) (.no 78)))) (.req ((([(1, ([(.si .i64 hs), (.si .u64 hg)], 29)), (0, ([(.si .i64 pm), (.si .i64 ps), (.si .i64 pa)], 59))] : List (Nat × Blk)) = [(1, ([(.si .i64 hs), (.si .u64 hg)], 29)), (0, ([(.si .i64 pm), (.si .i64 ps), (.si .i64 pa)], 59))]) ∧ (([] : List (Nat × MBlk)) = [])) (.req (mayOK m t pm ps pa hs hg n false) (.req ((([(1, ([(.si .i64 hs), (.si .u64 hg)], 29)), (0, ([(.si .i64 pm), (.si .i64 ps), (.si .i64 pa)], 59))] : List (Nat × Blk)) = [(1, ([(.si .i64 hs), (.si .u64 hg)], 29)), (0, ([(.si .i64 pm), (.si .i64 ps), (.si .i64 pa)], 59))]) ∧ (([] : List (Nat × MBlk)) = [])) (.br (iNe (mayV m t pm ps pa hs hg n false) 0) (.leaf (.memo (.u (.c (.si .i64 (mayV m t pm ps pa hs hg n false)))) m)) (.req (listedOK m t pm ps pa) (.br (cmpOK m (listedV m t pm ps pa) 0) (.br (peq (listedV m t pm ps pa) 0) (.req (lnewP m) (.any (lnewQ m) (fun y0 => (.req (lpushP y0.4 (hdI y0.1) hs hg o) (.any (lpushQ y0.4 (hdI y0.1) hs hg o) (fun y1 => (.req (comesOK y1.4 t pm ps pa hs hg n (pl (mkIf 112 (hdI y0.1)))) (.letm (comesM y1.4 t pm ps pa hs hg n (pl (mkIf 112 (hdI y0.1)))) (fun m1 => (.leaf (.memo (.u (.c (.si .i64 (hdI y1.1)))) m1))))))))))) (.req (lpushP m (listedV m t pm ps pa) hs hg o) (.any (lpushQ m (listedV m t pm ps pa) hs hg o) (fun y0 => (.req (comesOK y0.4 t pm ps pa hs hg n (pl (mkIf 112 (listedV m t pm ps pa)))) (.letm (comesM y0.4 t pm ps pa hs hg n (pl (mkIf 112 (listedV m t pm ps pa)))) (fun m1 => (.leaf (.memo (.u (.c (.si .i64 (hdI y0.1)))) m1))))))))) (.no 78))))))))))
def gpushPre (G : GG) (m : Mem) (t pm ps pa hs hg n : Int) : Prop := t = (G.g : Int) + 1 ∧ G.is m ∧ okP' (pm, ps, pa) ∧ okH (hs, hg) ∧ inI n
def gpushPost (m : Mem) (G : GG) (p : Pl) (k : Hn) (n : Int) (o : Bool) (y : Vars) : Prop :=
  (mayE G p k n (listB (G.R p)) ≠ 0 ∧ y.i = [mayE G p k n (listB (G.R p))] ∧ y.m = m) ∨
  (mayE G p k n (listB (G.R p)) = 0 ∧ y.i = [0] ∧ ∃ X', X'.tree = false ∧ X'.hs = putE o k (hsO (G.R p)) ∧ G.to (G.come p k n X') m y.m)
def gpushP (m : Mem) (t pm ps pa hs hg n : Int) (o : Bool) : Prop := ∃ G, gpushPre G m t pm ps pa hs hg n
def gpushQ (m : Mem) (t pm ps pa hs hg n : Int) (o : Bool) (y : Vars) : Prop := ∀ G, gpushPre G m t pm ps pa hs hg n → gpushPost m G (pm, ps, pa) (hs, hg) n o y
def s_gpush : Sum := memSum 31 fun m a => match a with | [a0, a1, a2, a3, a4] => (match ptrOf a0, plaOf a1, hanOf a2, intOf a3, booOf a4 with | some t, some (pm, ps, pa), some (hs, hg), some n, some o => some ⟨gpushP m t pm ps pa hs hg n o, gpushQ m t pm ps pa hs hg n o, fun y => .u (.c (.si .i64 (hdI y.i)))⟩ | _, _, _, _, _ => none) | _ => none
theorem mem_putE {α : Type} {o : Bool} {k j : α} {l : List α} : j ∈ putE o k l ↔ j = k ∨ j ∈ l := by
  cases o <;> simp [putE, or_comm]
theorem putE_ne {α : Type} (o : Bool) (k : α) (l : List α) : putE o k l ≠ [] := by cases o <;> simp [putE]
theorem gpush_walk {m : Mem} {t a b c k l n : Int} {o : Bool} (G : GG) (hG : gpushPre G m t a b c k l n) : (T_gpush m t a b c k l n o).sat (isMemo fun v x => gpushPost m G (a, b, c) (k, l) n o (yOf v x) ∧ (yOf v x).m = x ∧ ∀ ρ, v.den ρ = V.den ρ (.u (.c (.si .i64 (hdI (yOf v x).i))))) := by
  obtain ⟨rfl, h, hp, hk, hn⟩ := hG
  have hg := h.toGM
  obtain ⟨m1, m2⟩ := made_spec hg
  obtain ⟨l1, l2⟩ := listed_spec hg hp
  obtain ⟨y1, y2⟩ := may_spec hg hp hk hn (listB (G.R (a, b, c)))
  have hb : bNot (peq (lP (G.R (a, b, c))) 0) = listB (G.R (a, b, c)) := by rw [lP_b]; simp [bNot]
  unfold T_gpush
  simp only [l2, hb, y2]
  rw [sat_req]
  refine ⟨m1, ?_⟩
  rw [sat_req]
  refine ⟨⟨trivial, trivial⟩, ?_⟩
  rw [brT m2, sat_req]
  refine ⟨l1, ?_⟩
  rw [sat_req]
  refine ⟨⟨trivial, trivial⟩, ?_⟩
  rw [brT (cmp_zero _ _), sat_req]
  refine ⟨y1, ?_⟩
  rw [sat_req]
  refine ⟨⟨trivial, trivial⟩, ?_⟩
  by_cases he : mayE G (a, b, c) (k, l) n (listB (G.R (a, b, c))) = 0
  rotate_left
  · rw [brT (by simpa [iNe] using he)]
    exact ⟨.inl ⟨he, rfl, rfl⟩, rfl, fun ρ => rfl⟩
  rw [brF (by simp [iNe, he]), sat_req]
  refine ⟨l1, ?_⟩
  rw [brT (cmp_zero _ _), lP_b]
  obtain ⟨z1, z2, z3⟩ := mayE_zero he
  cases hX : G.R (a, b, c) with
  | none =>
    rw [brT (by rfl), sat_req]
    refine ⟨trivial, ?_⟩
    rw [sat_any]
    rintro ⟨ui, ub, uv, um⟩ hu
    obtain ⟨X0, u1, u2, u3, u4, u5, u6⟩ := Str.lnew hu
    simp only at u1 u2 u6
    subst u1
    obtain ⟨q1, q2⟩ := Str.push u2 u3 hk o
    simp only [hdI]
    rw [sat_req]
    refine ⟨q1, ?_⟩
    rw [sat_any]
    rintro ⟨wi, wb, wv, wm⟩ hw
    rcases q2 _ hw with ⟨s1, _⟩ | ⟨s1, s2, X', s3, s4⟩
    · rw [u4] at s1; cases s1
    simp only at s2 s3
    subst s2
    have hmid := h.mid_new hX u5 u6 s3
    have hX't : X'.tree = false := s3.tree.trans u3
    rw [lifv hX't (by rw [s3.t])]
    rw [u4] at s4
    obtain ⟨c1, c2⟩ := hmid.comes hp hk hn z1 z2 (by rw [s4]; exact putE_ne _ _ _) (fun j => by rw [s4, mem_putE, hX]; simp)
    rw [sat_req]
    refine ⟨c1, ?_⟩
    exact ⟨.inr ⟨he, rfl, X', hX't, by rw [hX]; exact s4, c2⟩, rfl, fun ρ => rfl⟩
  | some X =>
    have hf := z3 (by rw [hX]; rfl)
    rw [hX] at hf
    have ht : X.tree = false := by simpa [listB] using hf
    have hin := (h.st _ X hX).1
    have hl : lP (some X) = (X.t : Int) + 1 := by simp [lP, ht]
    obtain ⟨q1, q2⟩ := Str.push hin ht hk o
    rw [brF (by rw [hf]; rfl), sat_req, hl]
    refine ⟨q1, ?_⟩
    rw [sat_any]
    rintro ⟨wi, wb, wv, wm⟩ hw
    rcases q2 _ hw with ⟨s1, _⟩ | ⟨s1, s2, X', s3, s4⟩
    · exfalso
      have := (h.nh (a, b, c) (k, l)).2 ⟨X, hX, s1⟩
      rw [z2] at this; cases this
    simp only at s2 s3
    subst s2
    have hmid := h.mid_to hX s3
    have hX't : X'.tree = false := s3.tree.trans ht
    rw [lifv hX't (by rw [s3.t])]
    obtain ⟨c1, c2⟩ := hmid.comes hp hk hn z1 z2 (by rw [s4]; exact putE_ne _ _ _) (fun j => by rw [s4, mem_putE, hX]; simp)
    rw [sat_req]
    refine ⟨c1, ?_⟩
    exact ⟨.inr ⟨he, rfl, X', hX't, by rw [hX]; exact s4, c2⟩, rfl, fun ρ => rfl⟩
theorem t_gpush (m : Mem) (t : Int) (pm ps pa : Int) (hs hg : Int) (n : Int) (o : Bool) : runm Try.prog [s_made, s_listed, s_may, s_lnew, s_lpush, s_comes] (drawh Try.prog [s_made, s_listed, s_may, s_lnew, s_lpush, s_comes] (fun _ _ => none) (fun _ _ _ => none)) 300 31 [.u (.c (.np t 0)), .u (.agg [.si .i64 pm, .si .i64 ps, .si .i64 pa]), .u (.agg [.si .i64 hs, .si .u64 hg]), .u (.c (.si .i64 n)), .u (.c (.sb o))] m [98, 92, 95, 142, 140, 137, 111, 107, 108, 109] = T_gpush m t pm ps pa hs hg n o := by kernel_rfl
theorem s_gpush_ok : SumOK Try.prog s_gpush := by
  refine memSum_ok ⟨_, Try.func31, by kernel_rfl⟩ fun m args ms h hp hw ρ w hm => ?_
  split at h
  · split at h
    · rename_i a0 a1 a2 a3 a4 _ _ _ _ _ t pm ps pa hs hg n o h0 h1 h2 h3 h4
      cases h
      have hS : ∀ q ∈ [s_made, s_listed, s_may, s_lnew, s_lpush, s_comes], SumOK Try.prog q := (okc s_made_ok (okc s_listed_ok (okc s_may_ok (okc s_lnew_ok (okc s_lpush_ok (okc s_comes_ok okn))))))
      exact mm_ghostY nameOK hS (drawh_sound nameOK hS (by kernel_rfl) _ _) 300 _ m _ (t_gpush m t pm ps pa hs hg n o) yOf hp (fun G hG => gpush_walk G hG) ρ w hm (by simp only [List.map_cons, List.map_nil, ptrOf_den h0, plaOf_den h1, hanOf_den h2, intOf_den h3, booOf_den h4])
    · cases h
  · cases h

/-! Insert -/
def T_ginsert (m : Mem) (t : Int) (pm ps pa : Int) (i : Int) (hs hg : Int) (n : Int) : Tr := (.req (madeOK m t) (.req ((([(1, ([(.si .i64 hs), (.si .u64 hg)], 29)), (0, ([(.si .i64 pm), (.si .i64 ps), (.si .i64 pa)], 59))] : List (Nat × Blk)) = [(1, ([(.si .i64 hs), (.si .u64 hg)], 29)), (0, ([(.si .i64 pm), (.si .i64 ps), (.si .i64 pa)], 59))]) ∧ (([] : List (Nat × MBlk)) = [])) (.br (madeV m t) (.req (treedOK m t pm ps pa) (.req ((([(1, ([(.si .i64 hs), (.si .u64 hg)], 29)), (0, ([(.si .i64 pm), (.si .i64 ps), (.si .i64 pa)], 59))] : List (Nat × Blk)) = [(1, ([(.si .i64 hs), (.si .u64 hg)], 29)), (0, ([(.si .i64 pm), (.si .i64 ps), (.si .i64 pa)], 59))]) ∧ (([] : List (Nat × MBlk)) = [])) (.br (cmpOK m (treedV m t pm ps pa) 0) (.req (mayOK m t pm ps pa hs hg n (bNot (peq (treedV m t pm ps pa) 0))) (.req ((([(1, ([(.si .i64 hs), (.si .u64 hg)], 29)), (0, ([(.si .i64 pm), (.si .i64 ps), (.si .i64 pa)], 59))] : List (Nat × Blk)) = [(1, ([(.si .i64 hs), (.si .u64 hg)], 29)), (0, ([(.si .i64 pm), (.si .i64 ps), (.si .i64 pa)], 59))]) ∧ (([] : List (Nat × MBlk)) = [])) (.br (iNe (mayV m t pm ps pa hs hg n (bNot (peq (treedV m t pm ps pa) 0))) 0) (.leaf (.memo (.u (.c (.si .i64 (mayV m t pm ps pa hs hg n (bNot (peq (treedV m t pm ps pa) 0)))))) m)) (.req (treedOK m t pm ps pa) (.br (cmpOK m (treedV m t pm ps pa) 0) (.br (peq (treedV m t pm ps pa) 0) (.req (freshP m) (.any (freshQ m) (fun y0 => (.req (insertP y0.4 (hdI y0.1) i hs hg) (.any (insertQ y0.4 (hdI y0.1) i hs hg) (fun y1 => (.br (iEq (hdI y1.1) 0) (.req (comesOK y1.4 t pm ps pa hs hg n (pl (mkIf 24 (hdI y0.1)))) (.letm (comesM y1.4 t pm ps pa hs hg n (pl (mkIf 24 (hdI y0.1)))) (fun m1 => (.leaf (.memo (.u (.c (.si .i64 (hdI y1.1)))) m1))))) (.leaf (.memo (.u (.c (.si .i64 (hdI y1.1)))) y1.4))))))))) (.req (insertP m (treedV m t pm ps pa) i hs hg) (.any (insertQ m (treedV m t pm ps pa) i hs hg) (fun y0 => (.br (iEq (hdI y0.1) 0) (.req (comesOK y0.4 t pm ps pa hs hg n (pl (mkIf 24 (treedV m t pm ps pa)))) (.letm (comesM y0.4 t pm ps pa hs hg n (pl (mkIf 24 (treedV m t pm ps pa)))) (fun m1 => (.leaf (.memo (.u (.c (.si .i64 (hdI y0.1)))) m1))))) (.leaf (.memo (.u (.c (.si .i64 (hdI y0.1)))) y0.4))))))) (.no 78)))))) (.no 78)))) (.req ((([(1, ([(.si .i64 hs), (.si .u64 hg)], 29)), (0, ([(.si .i64 pm), (.si .i64 ps), (.si .i64 pa)], 59))] : List (Nat × Blk)) = [(1, ([(.si .i64 hs), (.si .u64 hg)], 29)), (0, ([(.si .i64 pm), (.si .i64 ps), (.si .i64 pa)], 59))]) ∧ (([] : List (Nat × MBlk)) = [])) (.req (mayOK m t pm ps pa hs hg n false) (.req ((([(1, ([(.si .i64 hs), (.si .u64 hg)], 29)), (0, ([(.si .i64 pm), (.si .i64 ps), (.si .i64 pa)], 59))] : List (Nat × Blk)) = [(1, ([(.si .i64 hs), (.si .u64 hg)], 29)), (0, ([(.si .i64 pm), (.si .i64 ps), (.si .i64 pa)], 59))]) ∧ (([] : List (Nat × MBlk)) = [])) (.br (iNe (mayV m t pm ps pa hs hg n false) 0) (.leaf (.memo (.u (.c (.si .i64 (mayV m t pm ps pa hs hg n false)))) m)) (.req (treedOK m t pm ps pa) (.br (cmpOK m (treedV m t pm ps pa) 0) (.br (peq (treedV m t pm ps pa) 0) (.req (freshP m) (.any (freshQ m) (fun y0 => (.req (insertP y0.4 (hdI y0.1) i hs hg) (.any (insertQ y0.4 (hdI y0.1) i hs hg) (fun y1 => (.br (iEq (hdI y1.1) 0) (.req (comesOK y1.4 t pm ps pa hs hg n (pl (mkIf 24 (hdI y0.1)))) (.letm (comesM y1.4 t pm ps pa hs hg n (pl (mkIf 24 (hdI y0.1)))) (fun m1 => (.leaf (.memo (.u (.c (.si .i64 (hdI y1.1)))) m1))))) (.leaf (.memo (.u (.c (.si .i64 (hdI y1.1)))) y1.4))))))))) (.req (insertP m (treedV m t pm ps pa) i hs hg) (.any (insertQ m (treedV m t pm ps pa) i hs hg) (fun y0 => (.br (iEq (hdI y0.1) 0) (.req (comesOK y0.4 t pm ps pa hs hg n (pl (mkIf 24 (treedV m t pm ps pa)))) (.letm (comesM y0.4 t pm ps pa hs hg n (pl (mkIf 24 (treedV m t pm ps pa)))) (fun m1 => (.leaf (.memo (.u (.c (.si .i64 (hdI y0.1)))) m1))))) (.leaf (.memo (.u (.c (.si .i64 (hdI y0.1)))) y0.4))))))) (.no 78))))))))))
def ginsertPre (G : GG) (m : Mem) (t pm ps pa hs hg n : Int) : Prop := gpushPre G m t pm ps pa hs hg n ∧ (hsO (G.R (pm, ps, pa))).length + 1 < 1152921504606846976
def ginsertPost (m : Mem) (G : GG) (p : Pl) (i : Int) (k : Hn) (n : Int) (y : Vars) : Prop :=
  (mayE G p k n (treeB (G.R p)) ≠ 0 ∧ y.i = [mayE G p k n (treeB (G.R p))] ∧ y.m = m) ∨
  (mayE G p k n (treeB (G.R p)) = 0 ∧ (i < 0 ∨ ((hsO (G.R p)).length : Int) < i) ∧ y.i = [2] ∧ ∀ a, m a ≠ none → y.m a = m a) ∨
  (mayE G p k n (treeB (G.R p)) = 0 ∧ 0 ≤ i ∧ i ≤ (hsO (G.R p)).length ∧ y.i = [0] ∧ ∃ X', X'.tree = true ∧ X'.hs = (hsO (G.R p)).take i.toNat ++ k :: (hsO (G.R p)).drop i.toNat ∧ G.to (G.come p k n X') m y.m)
def ginsertP (m : Mem) (t pm ps pa i hs hg n : Int) : Prop := ∃ G, ginsertPre G m t pm ps pa hs hg n
def ginsertQ (m : Mem) (t pm ps pa i hs hg n : Int) (y : Vars) : Prop := ∀ G, ginsertPre G m t pm ps pa hs hg n → ginsertPost m G (pm, ps, pa) i (hs, hg) n y
def s_ginsert : Sum := memSum 32 fun m a => match a with | [a0, a1, a2, a3, a4] => (match ptrOf a0, plaOf a1, intOf a2, hanOf a3, intOf a4 with | some t, some (pm, ps, pa), some i, some (hs, hg), some n => some ⟨ginsertP m t pm ps pa i hs hg n, ginsertQ m t pm ps pa i hs hg n, fun y => .u (.c (.si .i64 (hdI y.i)))⟩ | _, _, _, _, _ => none) | _ => none
theorem mem_cutin {k j : Hn} {l : List Hn} (i : Nat) : j ∈ l.take i ++ k :: l.drop i ↔ j = k ∨ j ∈ l := by
  conv => rhs; rw [← List.take_append_drop i l]
  simp only [List.mem_append, List.mem_cons]
  constructor
  · rintro (h | h | h)
    · exact .inr (.inl h)
    · exact .inl h
    · exact .inr (.inr h)
  · rintro (h | h | h)
    · exact .inr (.inl h)
    · exact .inl h
    · exact .inr (.inr h)
theorem ginsert_walk {m : Mem} {t a b c i k l n : Int} (G : GG) (hG : ginsertPre G m t a b c k l n) : (T_ginsert m t a b c i k l n).sat (isMemo fun v x => ginsertPost m G (a, b, c) i (k, l) n (yOf v x) ∧ (yOf v x).m = x ∧ ∀ ρ, v.den ρ = V.den ρ (.u (.c (.si .i64 (hdI (yOf v x).i))))) := by
  obtain ⟨⟨rfl, h, hp, hk, hn⟩, hsz⟩ := hG
  have hg := h.toGM
  obtain ⟨m1, m2⟩ := made_spec hg
  obtain ⟨l1, l2⟩ := treed_spec hg hp
  obtain ⟨y1, y2⟩ := may_spec hg hp hk hn (treeB (G.R (a, b, c)))
  have hb : bNot (peq (tP (G.R (a, b, c))) 0) = treeB (G.R (a, b, c)) := by rw [tP_b]; simp [bNot]
  unfold T_ginsert
  simp only [l2, hb, y2]
  rw [sat_req]
  refine ⟨m1, ?_⟩
  rw [sat_req]
  refine ⟨⟨trivial, trivial⟩, ?_⟩
  rw [brT m2, sat_req]
  refine ⟨l1, ?_⟩
  rw [sat_req]
  refine ⟨⟨trivial, trivial⟩, ?_⟩
  rw [brT (cmp_zero _ _), sat_req]
  refine ⟨y1, ?_⟩
  rw [sat_req]
  refine ⟨⟨trivial, trivial⟩, ?_⟩
  by_cases he : mayE G (a, b, c) (k, l) n (treeB (G.R (a, b, c))) = 0
  rotate_left
  · rw [brT (by simpa [iNe] using he)]
    exact ⟨.inl ⟨he, rfl, rfl⟩, rfl, fun ρ => rfl⟩
  rw [brF (by simp [iNe, he]), sat_req]
  refine ⟨l1, ?_⟩
  rw [brT (cmp_zero _ _), tP_b]
  obtain ⟨z1, z2, z3⟩ := mayE_zero he
  cases hX : G.R (a, b, c) with
  | none =>
    rw [brT (by rfl), sat_req]
    refine ⟨trivial, ?_⟩
    rw [sat_any]
    rintro ⟨ui, ub, uv, um⟩ hu
    obtain ⟨X0, u1, u2, u3, u4, u5, u6⟩ := Str.tnew hu
    simp only at u1 u2 u6
    subst u1
    obtain ⟨q1, q2⟩ := Str.ins u2 u3 (by rw [u4]; decide) hk i
    simp only [hdI]
    rw [sat_req]
    refine ⟨q1, ?_⟩
    rw [sat_any]
    rintro ⟨wi, wb, wv, wm⟩ hw
    rcases q2 _ hw with ⟨s1, s2, s3⟩ | ⟨_, _, s1, _⟩ | ⟨i1, i2, s1, s2, X', s3, s4⟩
    · simp only at s2 s3
      subst s2 s3
      rw [brF (by rfl)]
      refine ⟨.inr (.inl ⟨he, ?_, rfl, u6⟩), rfl, fun ρ => rfl⟩
      rw [u4] at s1; rw [hX]; exact s1
    · rw [u4] at s1; cases s1
    simp only at s2 s3
    subst s2
    have hmid := h.mid_new hX u5 u6 s3
    have hX't : X'.tree = true := s3.tree.trans u3
    rw [brT (by rfl), tifv hX't (by rw [s3.t])]
    rw [u4] at s4 i2
    obtain ⟨c1, c2⟩ := hmid.comes hp hk hn z1 z2 (by rw [s4]; simp) (fun j => by rw [s4, mem_cutin, hX]; simp)
    rw [sat_req]
    refine ⟨c1, ?_⟩
    exact ⟨.inr (.inr ⟨he, i1, by rw [hX]; exact i2, rfl, X', hX't, by rw [hX]; exact s4, c2⟩), rfl, fun ρ => rfl⟩
  | some X =>
    have hf := z3 (by rw [hX]; rfl)
    rw [hX] at hf hsz
    have ht : X.tree = true := by simpa [treeB] using hf
    have hin := (h.st _ X hX).1
    have hl : tP (some X) = (X.t : Int) + 1 := by simp [tP, ht]
    obtain ⟨q1, q2⟩ := Str.ins hin ht hsz hk i
    rw [brF (by rw [hf]; rfl), sat_req, hl]
    refine ⟨q1, ?_⟩
    rw [sat_any]
    rintro ⟨wi, wb, wv, wm⟩ hw
    rcases q2 _ hw with ⟨s1, s2, s3⟩ | ⟨_, _, s1, _⟩ | ⟨i1, i2, s1, s2, X', s3, s4⟩
    · simp only at s2 s3
      subst s2 s3
      simp only [hdI]
      rw [brF (by rfl)]
      exact ⟨.inr (.inl ⟨he, by rw [hX]; exact s1, rfl, fun _ _ => rfl⟩), rfl, fun ρ => rfl⟩
    · exfalso
      have := (h.nh (a, b, c) (k, l)).2 ⟨X, hX, s1⟩
      rw [z2] at this; cases this
    simp only at s2 s3
    subst s2
    have hmid := h.mid_to hX s3
    have hX't : X'.tree = true := s3.tree.trans ht
    simp only [hdI]
    rw [brT (by rfl), tifv hX't (by rw [s3.t])]
    obtain ⟨c1, c2⟩ := hmid.comes hp hk hn z1 z2 (by rw [s4]; simp) (fun j => by rw [s4, mem_cutin, hX]; simp)
    rw [sat_req]
    refine ⟨c1, ?_⟩
    exact ⟨.inr (.inr ⟨he, i1, by rw [hX]; exact i2, rfl, X', hX't, by rw [hX]; exact s4, c2⟩), rfl, fun ρ => rfl⟩
theorem t_ginsert (m : Mem) (t : Int) (pm ps pa : Int) (i : Int) (hs hg : Int) (n : Int) : runm Try.prog [s_made, s_treed, s_may, s_fresh, s_insert, s_comes] (drawh Try.prog [s_made, s_treed, s_may, s_fresh, s_insert, s_comes] (fun _ _ => none) (fun _ _ _ => none)) 300 32 [.u (.c (.np t 0)), .u (.agg [.si .i64 pm, .si .i64 ps, .si .i64 pa]), .u (.c (.si .i64 i)), .u (.agg [.si .i64 hs, .si .u64 hg]), .u (.c (.si .i64 n))] m [98, 92, 95, 142, 140, 137, 111, 107, 108, 109] = T_ginsert m t pm ps pa i hs hg n := by kernel_rfl
theorem s_ginsert_ok : SumOK Try.prog s_ginsert := by
  refine memSum_ok ⟨_, Try.func32, by kernel_rfl⟩ fun m args ms h hp hw ρ w hm => ?_
  split at h
  · split at h
    · rename_i a0 a1 a2 a3 a4 _ _ _ _ _ t pm ps pa i hs hg n h0 h1 h2 h3 h4
      cases h
      have hS : ∀ q ∈ [s_made, s_treed, s_may, s_fresh, s_insert, s_comes], SumOK Try.prog q := (okc s_made_ok (okc s_treed_ok (okc s_may_ok (okc s_fresh_ok (okc s_insert_ok (okc s_comes_ok okn))))))
      exact mm_ghostY nameOK hS (drawh_sound nameOK hS (by kernel_rfl) _ _) 300 _ m _ (t_ginsert m t pm ps pa i hs hg n) yOf hp (fun G hG => ginsert_walk G hG) ρ w hm (by simp only [List.map_cons, List.map_nil, ptrOf_den h0, plaOf_den h1, intOf_den h2, hanOf_den h3, intOf_den h4])
    · cases h
  · cases h

/-! Pop, Peek -/
def T_gpop (m : Mem) (t : Int) (pm ps pa : Int) (o : Bool) : Tr := (.req (madeOK m t) (.br (bNot (madeV m t)) (.leaf (.memo (.tup [(.agg [(.li .i64 0), (.li .u64 0)]), (.c (.lb false))]) m)) (.req (listedOK m t pm ps pa) (.req (lpopP m (listedV m t pm ps pa) o) (.any (lpopQ m (listedV m t pm ps pa) o) (fun y0 => (.br (hdB y0.2) (.req (goesOK y0.4 t pm ps pa (hdI y0.1) (hdI (tlI y0.1))) (.letm (goesM y0.4 t pm ps pa (hdI y0.1) (hdI (tlI y0.1))) (fun m1 => (.leaf (.memo (.tup [(.agg [(.si .i64 (hdI y0.1)), (.si .u64 (hdI (tlI y0.1)))]), (.c (.sb (hdB y0.2)))]) m1))))) (.leaf (.memo (.tup [(.agg [(.si .i64 (hdI y0.1)), (.si .u64 (hdI (tlI y0.1)))]), (.c (.sb (hdB y0.2)))]) y0.4)))))))))
def gpopPre (G : GG) (m : Mem) (t pm ps pa : Int) : Prop := t = (G.g : Int) + 1 ∧ G.is m ∧ okP' (pm, ps, pa)
def gpopPost (m : Mem) (G : GG) (p : Pl) (o : Bool) (y : Vars) : Prop :=
  (listB (G.R p) = false ∧ y.i = [0, 0] ∧ y.b = [false] ∧ y.m = m) ∨
  (∃ k n X', listB (G.R p) = true ∧ endH (hsO (G.R p)) o = some k ∧ y.i = [k.1, k.2] ∧ y.b = [true] ∧ G.N p k = some n ∧ X'.tree = false ∧ X'.hs = (hsO (G.R p)).erase k ∧ G.to (G.go p k n X') m y.m)
def gpopP (m : Mem) (t pm ps pa : Int) (o : Bool) : Prop := ∃ G, gpopPre G m t pm ps pa
def gpopQ (m : Mem) (t pm ps pa : Int) (o : Bool) (y : Vars) : Prop := ∀ G, gpopPre G m t pm ps pa → gpopPost m G (pm, ps, pa) o y
def s_gpop : Sum := memSum 33 fun m a => match a with | [a0, a1, a2] => (match ptrOf a0, plaOf a1, booOf a2 with | some t, some (pm, ps, pa), some o => some ⟨gpopP m t pm ps pa o, gpopQ m t pm ps pa o, fun y => .tup [.agg [.si .i64 (hdI y.i), .si .u64 (hdI (tlI y.i))], .c (.sb (hdB y.b))]⟩ | _, _, _ => none) | _ => none
theorem endH_mem {l : List Hn} {o : Bool} {k : Hn} (h : endH l o = some k) : k ∈ l := by
  cases o with
  | true => exact List.mem_of_mem_head? h
  | false => exact List.mem_of_mem_getLast? h
theorem gpop_walk {m : Mem} {t a b c : Int} {o : Bool} (G : GG) (hG : gpopPre G m t a b c) : (T_gpop m t a b c o).sat (isMemo fun v x => gpopPost m G (a, b, c) o (yOf v x) ∧ (yOf v x).m = x ∧ ∀ ρ, v.den ρ = V.den ρ (.tup [.agg [.si .i64 (hdI (yOf v x).i), .si .u64 (hdI (tlI (yOf v x).i))], .c (.sb (hdB (yOf v x).b))])) := by
  obtain ⟨rfl, h, hp⟩ := hG
  have hg := h.toGM
  obtain ⟨m1, m2⟩ := made_spec hg
  obtain ⟨l1, l2⟩ := listed_spec hg hp
  unfold T_gpop
  simp only [l2]
  rw [sat_req]
  refine ⟨m1, ?_⟩
  rw [m2, brF (by rfl), sat_req]
  refine ⟨l1, ?_⟩
  have no : listB (G.R (a, b, c)) = false → lP (G.R (a, b, c)) = 0 := fun hl => by
    cases hX : G.R (a, b, c) with
    | none => rfl
    | some X => rw [hX] at hl; simp only [listB, Bool.not_eq_false'] at hl; simp [lP, hl]
  cases hlb : listB (G.R (a, b, c)) with
  | false =>
    rw [no hlb, sat_req]
    refine ⟨⟨none, rfl⟩, ?_⟩
    rw [sat_any]
    rintro ⟨wi, wb, wv, wm⟩ hw
    obtain ⟨w1, w2, w3⟩ := hw none rfl
    simp only at w1 w2 w3
    subst w1 w2 w3
    simp only [hdB]
    rw [sat_brF]
    exact ⟨.inl ⟨hlb, rfl, rfl, rfl⟩, rfl, fun ρ => rfl⟩
  | true =>
    obtain ⟨X, hX, ht⟩ : ∃ X, G.R (a, b, c) = some X ∧ X.tree = false := by
      cases hX : G.R (a, b, c) with
      | none => rw [hX] at hlb; cases hlb
      | some X => rw [hX] at hlb; exact ⟨X, rfl, by simpa [listB] using hlb⟩
    obtain ⟨hin, hne, _⟩ := h.st _ X hX
    have hl : lP (some X) = (X.t : Int) + 1 := by simp [lP, ht]
    obtain ⟨q1, q2⟩ := Str.pop hin ht o
    rw [hX, hl, sat_req]
    refine ⟨q1, ?_⟩
    rw [sat_any]
    rintro ⟨wi, wb, wv, wm⟩ hw
    rcases q2 _ hw with ⟨s1, _⟩ | ⟨k, s1, s2, s3, X', s4, s5⟩
    · exact absurd s1 hne
    simp only at s2 s3 s4
    subst s2 s3
    simp only [hdB, hdI, tlI]
    have hkm : k ∈ X.hs := endH_mem s1
    obtain ⟨n, hN⟩ := Option.isSome_iff_exists.1 ((h.nh (a, b, c) k).2 ⟨X, hX, hkm⟩)
    obtain ⟨c1, c2⟩ := (h.mid_to hX s4).goes hX s4.tree s4.t (hin.rng hkm) hN s5
    rw [sat_brT, sat_req]
    refine ⟨c1, ?_⟩
    exact ⟨.inr ⟨k, n, X', hlb, by rw [hX]; exact s1, rfl, rfl, hN, s4.tree.trans ht, by rw [hX]; exact s5, c2⟩, rfl, fun ρ => rfl⟩
theorem t_gpop (m : Mem) (t : Int) (pm ps pa : Int) (o : Bool) : runm Try.prog [s_made, s_listed, s_lpop, s_goes] (drawx Try.prog [s_made, s_listed, s_lpop, s_goes]) 300 33 [.u (.c (.np t 0)), .u (.agg [.si .i64 pm, .si .i64 ps, .si .i64 pa]), .u (.c (.sb o))] m [98, 92, 95, 142, 140, 137, 111, 107, 108, 109] = T_gpop m t pm ps pa o := by kernel_rfl
theorem s_gpop_ok : SumOK Try.prog s_gpop := by
  refine memSum_ok ⟨_, Try.func33, by kernel_rfl⟩ fun m args ms h hp hw ρ w hm => ?_
  split at h
  · split at h
    · rename_i a0 a1 a2 _ _ _ t pm ps pa o h0 h1 h2
      cases h
      have hS : ∀ q ∈ [s_made, s_listed, s_lpop, s_goes], SumOK Try.prog q := (okc s_made_ok (okc s_listed_ok (okc s_lpop_ok (okc s_goes_ok okn))))
      exact mm_ghostY nameOK hS (dOK hS) 300 _ m _ (t_gpop m t pm ps pa o) yOf hp (fun G hG => gpop_walk G hG) ρ w hm (by simp only [List.map_cons, List.map_nil, ptrOf_den h0, plaOf_den h1, booOf_den h2])
    · cases h
  · cases h
/-! Remove -/
def T_gremove (m : Mem) (t : Int) (pm ps pa : Int) (hs hg : Int) (n : Int) : Tr := (.req (madeOK m t) (.br (bNot (madeV m t)) (.leaf (.memo (.u (.c (.lb false))) m)) (.br (nzp t) (.br (nzp t) (.br (okL m t 1 [(.raw (.map (.none)))]) (.req ((Go.Maps.Keyed Try.prog 121) ∧ ((okM Try.prog 121 m (pl (mcell m t 1))) ∧ ((okKey Try.prog 121 (.agg (.mk [(.int .i64 hs), (.int .u64 hg), (.int .i64 n)]))) ∧ (((okU (.agg [(.li .i64 0), (.li .i64 0), (.li .i64 0)]) (lkZ m (pl (mcell m t 1)) (.agg (.mk [(.int .i64 hs), (.int .u64 hg), (.int .i64 n)])) (.agg (.mk [(.int .i64 0), (.int .i64 0), (.int .i64 0)])))) : Bool) = true)))) (.br (bNot (mhas m (pl (mcell m t 1)) (.agg (.mk [(.int .i64 hs), (.int .u64 hg), (.int .i64 n)])))) (.leaf (.memo (.u (.c (.lb false))) m)) (.br (bNot (bAnd (iEq (vI (cellAt (lkZ m (pl (mcell m t 1)) (.agg (.mk [(.int .i64 hs), (.int .u64 hg), (.int .i64 n)])) (.agg (.mk [(.int .i64 0), (.int .i64 0), (.int .i64 0)]))) 0)) pm) (bAnd (iEq (vI (cellAt (lkZ m (pl (mcell m t 1)) (.agg (.mk [(.int .i64 hs), (.int .u64 hg), (.int .i64 n)])) (.agg (.mk [(.int .i64 0), (.int .i64 0), (.int .i64 0)]))) 1)) ps) (iEq (vI (cellAt (lkZ m (pl (mcell m t 1)) (.agg (.mk [(.int .i64 hs), (.int .u64 hg), (.int .i64 n)])) (.agg (.mk [(.int .i64 0), (.int .i64 0), (.int .i64 0)]))) 2)) pa)))) (.leaf (.memo (.u (.c (.lb false))) m)) (.br (nzp t) (.br (nzp t) (.br (okL m t 0 [(.raw (.map (.none)))]) (.req ((Go.Maps.Keyed Try.prog 59) ∧ ((okM Try.prog 59 m (pl (mcell m t 0))) ∧ ((okKey Try.prog 59 (.agg (.mk [(.int .i64 pm), (.int .i64 ps), (.int .i64 pa)]))) ∧ (((okU (.c (.raw .nilIface)) (lkZ m (pl (mcell m t 0)) (.agg (.mk [(.int .i64 pm), (.int .i64 ps), (.int .i64 pa)])) .nilIface)) : Bool) = true)))) (.br (isIfV (pl (lkZ m (pl (mcell m t 0)) (.agg (.mk [(.int .i64 pm), (.int .i64 ps), (.int .i64 pa)])) .nilIface))) (.br (ifIs 112 (pl (lkZ m (pl (mcell m t 0)) (.agg (.mk [(.int .i64 pm), (.int .i64 ps), (.int .i64 pa)])) .nilIface))) (.req (lremoveP m (ifP 112 (pl (lkZ m (pl (mcell m t 0)) (.agg (.mk [(.int .i64 pm), (.int .i64 ps), (.int .i64 pa)])) .nilIface))) hs hg) (.any (lremoveQ m (ifP 112 (pl (lkZ m (pl (mcell m t 0)) (.agg (.mk [(.int .i64 pm), (.int .i64 ps), (.int .i64 pa)])) .nilIface))) hs hg) (fun y0 => (.req (goesOK y0.4 t pm ps pa hs hg) (.letm (goesM y0.4 t pm ps pa hs hg) (fun m1 => (.leaf (.memo (.u (.c (.lb true))) m1)))))))) (.br (isIfV (pl (lkZ m (pl (mcell m t 0)) (.agg (.mk [(.int .i64 pm), (.int .i64 ps), (.int .i64 pa)])) .nilIface))) (.br (ifIs 24 (pl (lkZ m (pl (mcell m t 0)) (.agg (.mk [(.int .i64 pm), (.int .i64 ps), (.int .i64 pa)])) .nilIface))) (.req (removeP m (ifP 24 (pl (lkZ m (pl (mcell m t 0)) (.agg (.mk [(.int .i64 pm), (.int .i64 ps), (.int .i64 pa)])) .nilIface))) hs hg) (.any (removeQ m (ifP 24 (pl (lkZ m (pl (mcell m t 0)) (.agg (.mk [(.int .i64 pm), (.int .i64 ps), (.int .i64 pa)])) .nilIface))) hs hg) (fun y0 => (.req (goesOK y0.4 t pm ps pa hs hg) (.letm (goesM y0.4 t pm ps pa hs hg) (fun m1 => (.leaf (.memo (.u (.c (.lb true))) m1)))))))) (.req (goesOK m t pm ps pa hs hg) (.letm (goesM m t pm ps pa hs hg) (fun m1 => (.leaf (.memo (.u (.c (.lb true))) m1)))))) (.no 130))) (.no 130))) (.no 70)) (.no 76)) (.no 75))))) (.no 70)) (.no 76)) (.no 75))))
def gremovePost (m : Mem) (G : GG) (p : Pl) (k : Hn) (n : Int) (y : Vars) : Prop :=
  (G.I k n ≠ some p ∧ y.b = [false] ∧ y.m = m) ∨
  (G.I k n = some p ∧ y.b = [true] ∧ ∃ X X', G.R p = some X ∧ X'.tree = X.tree ∧ X'.hs = X.hs.erase k ∧ G.to (G.go p k n X') m y.m)
def gremoveP (m : Mem) (t pm ps pa hs hg n : Int) : Prop := ∃ G, gpushPre G m t pm ps pa hs hg n
def gremoveQ (m : Mem) (t pm ps pa hs hg n : Int) (y : Vars) : Prop := ∀ G, gpushPre G m t pm ps pa hs hg n → gremovePost m G (pm, ps, pa) (hs, hg) n y
def s_gremove : Sum := memSum 34 fun m a => match a with | [a0, a1, a2, a3] => (match ptrOf a0, plaOf a1, hanOf a2, intOf a3 with | some t, some (pm, ps, pa), some (hs, hg), some n => some ⟨gremoveP m t pm ps pa hs hg n, gremoveQ m t pm ps pa hs hg n, fun y => .u (.c (.sb (hdB y.b)))⟩ | _, _, _, _ => none) | _ => none
theorem iV_cells (p : Pl) : vI (cellAt (iV (some p)) 0) = p.1 ∧ vI (cellAt (iV (some p)) 1) = p.2.1 ∧ vI (cellAt (iV (some p)) 2) = p.2.2 := ⟨rfl, rfl, rfl⟩
theorem gremove_walk {m : Mem} {t a b c k l n : Int} (G : GG) (hG : gpushPre G m t a b c k l n) : (T_gremove m t a b c k l n).sat (isMemo fun v x => gremovePost m G (a, b, c) (k, l) n (yBoo v x) ∧ (yBoo v x).m = x ∧ ∀ ρ, v.den ρ = V.den ρ (.u (.c (.sb (hdB (yBoo v x).b))))) := by
  obtain ⟨rfl, h, hp, hk, hn⟩ := hG
  have hg := h.toGM
  obtain ⟨m1, m2⟩ := made_spec hg
  obtain ⟨i1, i2⟩ := hg.lkI hk hn
  unfold T_gremove
  simp only [hg.c0, hg.c1, i1, i2, hg.lkR hp]
  rw [sat_req]
  refine ⟨m1, ?_⟩
  rw [m2, brF (by rfl), brT (nz_p _), brT (nz_p _), brT hg.okL.2.1, sat_req]
  refine ⟨hg.iq hk hn, ?_⟩
  cases hI : G.I (k, l) n with
  | none =>
    rw [brT (by rfl)]
    exact ⟨.inl ⟨by rw [hI]; simp, rfl, rfl⟩, rfl, fun ρ => rfl⟩
  | some q =>
    obtain ⟨v1, v2, v3⟩ := iV_cells q
    rw [brF (by rfl), v1, v2, v3]
    by_cases hq : q = (a, b, c)
    rotate_left
    · have hne : bNot (bAnd (iEq q.1 a) (bAnd (iEq q.2.1 b) (iEq q.2.2 c))) = true := by
        obtain ⟨x, y, z⟩ := q
        simp only [bNot, bAnd, iEq, Bool.not_eq_true', Bool.and_eq_false_iff, beq_eq_false_iff_ne]
        by_cases e1 : x = a
        · by_cases e2 : y = b
          · by_cases e3 : z = c
            · subst e1 e2 e3; exact absurd rfl hq
            · exact .inr (.inr e3)
          · exact .inr (.inl e2)
        · exact .inl e1
      rw [brT hne]
      exact ⟨.inl ⟨by rw [hI]; simpa using hq, rfl, rfl⟩, rfl, fun ρ => rfl⟩
    subst hq
    rw [brF (by simp [bNot, bAnd, iEq]), brT (nz_p _), brT (nz_p _), brT hg.okL.1, sat_req]
    refine ⟨hg.rq hp, ?_⟩
    have hN := (h.nu (k, l) n (a, b, c)).1 hI
    obtain ⟨X, hX, hkm⟩ := (h.nh (a, b, c) (k, l)).1 (by rw [hN]; rfl)
    obtain ⟨hin, hne, _⟩ := h.st _ X hX
    obtain ⟨r1, r2, r3, r4, r5⟩ := rv_ok (G.R (a, b, c))
    rw [brT r2, r3, r4]
    rw [hX] at r2 ⊢
    cases ht : X.tree with
    | false =>
      have hif : ifIs 112 (pl (rv (some X))) = true := by simp only [rv, Str.ifv, ht, mkIf_eq]; rfl
      have hl : lP (some X) = (X.t : Int) + 1 := by simp [lP, ht]
      obtain ⟨q1, q2⟩ := Str.lrem hin ht hk
      rw [brT hif, hl, sat_req]
      refine ⟨q1, ?_⟩
      rw [sat_any]
      rintro ⟨wi, wb, wv, wm⟩ hw
      rcases q2 _ hw with ⟨s1, _⟩ | ⟨_, X', s4, s5⟩
      · exact absurd hkm s1
      simp only at s4
      obtain ⟨c1, c2⟩ := (h.mid_to hX s4).goes hX s4.tree s4.t hk hN s5
      rw [sat_req]
      refine ⟨c1, ?_⟩
      exact ⟨.inr ⟨hI, rfl, X, X', hX, s4.tree, s5, c2⟩, rfl, fun ρ => rfl⟩
    | true =>
      have hif : ifIs 112 (pl (rv (some X))) = false := by simp only [rv, Str.ifv, ht, mkIf_eq]; rfl
      have hif2 : ifIs 24 (pl (rv (some X))) = true := by simp only [rv, Str.ifv, ht, mkIf_eq]; rfl
      have hl : tP (some X) = (X.t : Int) + 1 := by simp [tP, ht]
      obtain ⟨q1, q2⟩ := Str.trem hin ht hk
      rw [brF hif, brT r2, brT hif2, hl, sat_req]
      refine ⟨q1, ?_⟩
      rw [sat_any]
      rintro ⟨wi, wb, wv, wm⟩ hw
      rcases q2 _ hw with ⟨s1, _⟩ | ⟨_, X', s4, s5⟩
      · exact absurd hkm s1
      simp only at s4
      obtain ⟨c1, c2⟩ := (h.mid_to hX s4).goes hX s4.tree s4.t hk hN s5
      rw [sat_req]
      refine ⟨c1, ?_⟩
      exact ⟨.inr ⟨hI, rfl, X, X', hX, s4.tree, s5, c2⟩, rfl, fun ρ => rfl⟩
theorem t_gremove (m : Mem) (t : Int) (pm ps pa : Int) (hs hg : Int) (n : Int) : runm Try.prog [s_made, s_goes, s_lremove, s_remove] (drawx Try.prog [s_made, s_goes, s_lremove, s_remove]) 300 34 [.u (.c (.np t 0)), .u (.agg [.si .i64 pm, .si .i64 ps, .si .i64 pa]), .u (.agg [.si .i64 hs, .si .u64 hg]), .u (.c (.si .i64 n))] m [98, 92, 95, 142, 140, 137, 111, 107, 108, 109] = T_gremove m t pm ps pa hs hg n := by kernel_rfl
theorem s_gremove_ok : SumOK Try.prog s_gremove := by
  refine memSum_ok ⟨_, Try.func34, by kernel_rfl⟩ fun m args ms h hp hw ρ w hm => ?_
  split at h
  · split at h
    · rename_i a0 a1 a2 a3 _ _ _ _ t pm ps pa hs hg n h0 h1 h2 h3
      cases h
      have hS : ∀ q ∈ [s_made, s_goes, s_lremove, s_remove], SumOK Try.prog q := (okc s_made_ok (okc s_goes_ok (okc s_lremove_ok (okc s_remove_ok okn))))
      exact mm_ghostY nameOK hS (dOK hS) 300 _ m _ (t_gremove m t pm ps pa hs hg n) yBoo hp (fun G hG => gremove_walk G hG) ρ w hm (by simp only [List.map_cons, List.map_nil, ptrOf_den h0, plaOf_den h1, hanOf_den h2, intOf_den h3])
    · cases h
  · cases h
end Go.Proofs.Ytnlohongffpkpaa.T16
end

section
/- Layer 17: At, Drain. A text of the session's own. -/
namespace Go.Proofs.Ytnlohongffpkpaa.T16
open Go Go.RowKit Go.Proofs.Ytnlohongffpkpaa.Sx Go.Proofs
set_option linter.unusedVariables false
set_option linter.unusedSimpArgs false

/-- a slice of handles that All has made -/
def RowB (m : Mem) (v : Value) (hs : List Hn) : Prop :=
  (v = .slice none 0 0 ∧ hs = []) ∨ ∃ g cap cur, v = .slice (some ⟨g, 0, none⟩) hs.length cap ∧ m g = some (.cells cur 29 (0, 0)) ∧ hs.length ≤ cap ∧ cur.toList.take (hs.length * 2) = hCells hs
section
variable {m m' : Mem} {v : Value} {hs : List Hn}
theorem RowB.of (h : rowOf m hs v m') : RowB m' v hs ∧ (∀ a, m a ≠ none → m' a = m a) ∧ ∀ a : Nat, slB v = (a : Int) + 1 → m a = none := by
  rcases h with ⟨rfl, rfl, rfl⟩ | ⟨g, cap, cur, rfl, hg, rfl, h1, h2, h3⟩
  · refine ⟨.inl ⟨rfl, rfl⟩, fun _ _ => rfl, fun a ha => ?_⟩
    simp only [slB] at ha; omega
  · refine ⟨.inr ⟨g, cap, cur, rfl, alO_self _ _ _, h1, h3⟩, fun a ha => alO_ne _ (by rintro rfl; exact ha hg), fun a ha => ?_⟩
    simp only [slB] at ha
    have : g = a := by omega
    rw [← this]; exact hg
theorem RowB.sl (h : RowB m v hs) : pl v = v ∧ isSlV v = true ∧ slN v = hs.length := by
  rcases h with ⟨rfl, rfl⟩ | ⟨g, cap, cur, rfl, _⟩ <;> exact ⟨rfl, rfl, rfl⟩
theorem RowB.more (h : RowB m v hs) (hm : ∀ a : Nat, slB v = (a : Int) + 1 → m a ≠ none → m' a = m a) : RowB m' v hs := by
  rcases h with ⟨rfl, rfl⟩ | ⟨g, cap, cur, rfl, h1, h2, h3⟩
  · exact .inl ⟨rfl, rfl⟩
  · exact .inr ⟨g, cap, cur, rfl, (hm g rfl (by rw [h1]; simp)).trans h1, h2, h3⟩
theorem RowB.there (h : RowB m v hs) {a : Nat} (ha : slB v = (a : Int) + 1) : m a ≠ none := by
  rcases h with ⟨rfl, rfl⟩ | ⟨g, cap, cur, rfl, h1, h2, h3⟩
  · simp only [slB] at ha; omega
  · simp only [slB] at ha
    have : g = a := by omega
    rw [← this, h1]; simp
theorem RowB.get (h : RowB m v hs) {i : Nat} {x : Hn} (hx : hs[i]? = some x) :
    inSl v (i : Int) = true ∧ okL m (slB v) (aOff (slO v) i 2) [.li .i64 0, .li .u64 0] = true ∧ gI m (slB v) (aOff (slO v) i 2) = x.1 ∧ gI m (slB v) (.succ (aOff (slO v) i 2)) = x.2 := by
  have hlt : i < hs.length := (List.getElem?_eq_some_iff.1 hx).1
  rcases h with ⟨rfl, rfl⟩ | ⟨g, cap, cur, rfl, h1, h2, h3⟩
  · simp at hlt
  obtain ⟨c1, c2⟩ := hCells_get hs i x hx
  have k1 : cur[2 * i]? = some (.int .i64 x.1) := by
    have : cur.toList[2 * i]? = some (.int .i64 x.1) := by rw [← c1, ← h3, List.getElem?_take_of_lt (by omega)]
    simpa using this
  have k2 : cur[2 * i + 1]? = some (.int .u64 x.2) := by
    have : cur.toList[2 * i + 1]? = some (.int .u64 x.2) := by rw [← c2, ← h3, List.getElem?_take_of_lt (by omega)]
    simpa using this
  have ea : aOff 0 (i : Int) 2 = 2 * i := by simp [aOff]; omega
  have eb : (2 * i).succ = 2 * i + 1 := rfl
  simp only [slB, slO, ea, eb]
  refine ⟨?_, ?_, ?_, ?_⟩
  · have : Nat.ble hs.length cap = true := Nat.ble_eq_true_of_le h2
    simp [inSl, isSl, slN, this, hlt]
  · unfold okL; rw [mget_of h1]
    simp only [okR, k1, k2, okC, isK, decide_true, Bool.and_self]
  · unfold gI mcell; rw [mget_of h1]; simp [k1, vI]
  · unfold gI mcell; rw [mget_of h1]; simp [k2, vI]
end

/-! At -/
def T_gat (m : Mem) (t : Int) (pm ps pa : Int) (i : Int) : Tr := (.br (iLt i 0) (.leaf (.memo (.tup [(.agg [(.li .i64 0), (.li .u64 0)]), (.c (.lb false))]) m)) (.req (glenOK m t pm ps pa) (.br (iGe i (glenV m t pm ps pa)) (.leaf (.memo (.tup [(.agg [(.li .i64 0), (.li .u64 0)]), (.c (.lb false))]) m)) (.req (treedOK m t pm ps pa) (.br (cmpOK m (treedV m t pm ps pa) 0) (.br (bNot (peq (treedV m t pm ps pa) 0)) (.req (atP m (treedV m t pm ps pa) i) (.any (atQ m (treedV m t pm ps pa) i) (fun y0 => (.leaf (.memo (.tup [(.agg [(.si .i64 (hdI y0.1)), (.si .u64 (hdI (tlI y0.1)))]), (.c (.sb (hdB y0.2)))]) y0.4))))) (.br (nzp t) (.br (nzp t) (.br (okL m t 0 [(.raw (.map (.none)))]) (.req ((Go.Maps.Keyed Try.prog 59) ∧ ((okM Try.prog 59 m (pl (mcell m t 0))) ∧ ((okKey Try.prog 59 (.agg (.mk [(.int .i64 pm), (.int .i64 ps), (.int .i64 pa)]))) ∧ (((okU (.c (.raw .nilIface)) (lkZ m (pl (mcell m t 0)) (.agg (.mk [(.int .i64 pm), (.int .i64 ps), (.int .i64 pa)])) .nilIface)) : Bool) = true)))) (.br (isIfV (pl (lkZ m (pl (mcell m t 0)) (.agg (.mk [(.int .i64 pm), (.int .i64 ps), (.int .i64 pa)])) .nilIface))) (.br (ifIs 112 (pl (lkZ m (pl (mcell m t 0)) (.agg (.mk [(.int .i64 pm), (.int .i64 ps), (.int .i64 pa)])) .nilIface))) (.req (lallP m (ifP 112 (pl (lkZ m (pl (mcell m t 0)) (.agg (.mk [(.int .i64 pm), (.int .i64 ps), (.int .i64 pa)])) .nilIface)))) (.any (lallQ m (ifP 112 (pl (lkZ m (pl (mcell m t 0)) (.agg (.mk [(.int .i64 pm), (.int .i64 ps), (.int .i64 pa)])) .nilIface)))) (fun y0 => (.req ((([(0, ([(.si .i64 pm), (.si .i64 ps), (.si .i64 pa)], 59))] : List (Nat × Blk)) = [(0, ([(.si .i64 pm), (.si .i64 ps), (.si .i64 pa)], 59))]) ∧ (([] : List (Nat × MBlk)) = [])) (.br (inSl (pl (hdV y0.3)) i) (.br (okL y0.4 (slB (pl (hdV y0.3))) (aOff (slO (pl (hdV y0.3))) i 2) [(.li .i64 0), (.li .u64 0)]) (.req ((([(0, ([(.si .i64 pm), (.si .i64 ps), (.si .i64 pa)], 59))] : List (Nat × Blk)) = [(0, ([(.si .i64 pm), (.si .i64 ps), (.si .i64 pa)], 59))]) ∧ (([] : List (Nat × MBlk)) = [])) (.leaf (.memo (.tup [(.agg [(.si .i64 (gI y0.4 (slB (pl (hdV y0.3))) (aOff (slO (pl (hdV y0.3))) i 2))), (.si .u64 (gI y0.4 (slB (pl (hdV y0.3))) (.succ (aOff (slO (pl (hdV y0.3))) i 2))))]), (.c (.lb true))]) y0.4))) (.no 70)) (.no 104)))))) (.br (ifIs 24 (pl (lkZ m (pl (mcell m t 0)) (.agg (.mk [(.int .i64 pm), (.int .i64 ps), (.int .i64 pa)])) .nilIface))) (.req (allP m (ifP 24 (pl (lkZ m (pl (mcell m t 0)) (.agg (.mk [(.int .i64 pm), (.int .i64 ps), (.int .i64 pa)])) .nilIface)))) (.any (allQ m (ifP 24 (pl (lkZ m (pl (mcell m t 0)) (.agg (.mk [(.int .i64 pm), (.int .i64 ps), (.int .i64 pa)])) .nilIface)))) (fun y0 => (.req ((([(0, ([(.si .i64 pm), (.si .i64 ps), (.si .i64 pa)], 59))] : List (Nat × Blk)) = [(0, ([(.si .i64 pm), (.si .i64 ps), (.si .i64 pa)], 59))]) ∧ (([] : List (Nat × MBlk)) = [])) (.br (inSl (pl (hdV y0.3)) i) (.br (okL y0.4 (slB (pl (hdV y0.3))) (aOff (slO (pl (hdV y0.3))) i 2) [(.li .i64 0), (.li .u64 0)]) (.req ((([(0, ([(.si .i64 pm), (.si .i64 ps), (.si .i64 pa)], 59))] : List (Nat × Blk)) = [(0, ([(.si .i64 pm), (.si .i64 ps), (.si .i64 pa)], 59))]) ∧ (([] : List (Nat × MBlk)) = [])) (.leaf (.memo (.tup [(.agg [(.si .i64 (gI y0.4 (slB (pl (hdV y0.3))) (aOff (slO (pl (hdV y0.3))) i 2))), (.si .u64 (gI y0.4 (slB (pl (hdV y0.3))) (.succ (aOff (slO (pl (hdV y0.3))) i 2))))]), (.c (.lb true))]) y0.4))) (.no 70)) (.no 104)))))) (.no 37))) (.no 38))) (.no 70)) (.no 76)) (.no 75))) (.no 78))))))
def gatPre (G : GG) (m : Mem) (t pm ps pa : Int) : Prop := gpopPre G m t pm ps pa ∧ (hsO (G.R (pm, ps, pa))).length < 1099511627776
def gatPost (m : Mem) (G : GG) (p : Pl) (i : Int) (y : Vars) : Prop :=
  (∃ (j : Nat) (k : Hn), i = j ∧ (hsO (G.R p))[j]? = some k ∧ y.i = [k.1, k.2] ∧ y.b = [true] ∧ ∀ a, m a ≠ none → y.m a = m a) ∨
  ((i < 0 ∨ ((hsO (G.R p)).length : Int) ≤ i) ∧ y.i = [0, 0] ∧ y.b = [false] ∧ y.m = m)
def gatP (m : Mem) (t pm ps pa i : Int) : Prop := ∃ G, gatPre G m t pm ps pa
def gatQ (m : Mem) (t pm ps pa i : Int) (y : Vars) : Prop := ∀ G, gatPre G m t pm ps pa → gatPost m G (pm, ps, pa) i y
def s_gat : Sum := memSum 37 fun m a => match a with | [a0, a1, a2] => (match ptrOf a0, plaOf a1, intOf a2 with | some t, some (pm, ps, pa), some i => some ⟨gatP m t pm ps pa i, gatQ m t pm ps pa i, fun y => .tup [.agg [.si .i64 (hdI y.i), .si .u64 (hdI (tlI y.i))], .c (.sb (hdB y.b))]⟩ | _, _, _ => none) | _ => none
theorem gat_walk {m : Mem} {t a b c i : Int} (G : GG) (hG : gatPre G m t a b c) : (T_gat m t a b c i).sat (isMemo fun v x => gatPost m G (a, b, c) i (yOf v x) ∧ (yOf v x).m = x ∧ ∀ ρ, v.den ρ = V.den ρ (.tup [.agg [.si .i64 (hdI (yOf v x).i), .si .u64 (hdI (tlI (yOf v x).i))], .c (.sb (hdB (yOf v x).b))])) := by
  obtain ⟨⟨rfl, h, hp⟩, hsz⟩ := hG
  have hg := h.toGM
  obtain ⟨m1, m2⟩ := made_spec hg
  obtain ⟨l1, l2⟩ := treed_spec hg hp
  obtain ⟨n1, n2⟩ := glen_spec h hp
  unfold T_gat
  simp only [l2, n2, hg.c0, hg.lkR hp]
  by_cases i0 : i < 0
  · rw [brT (by simpa [iLt] using i0)]
    exact ⟨.inr ⟨.inl i0, rfl, rfl, rfl⟩, rfl, fun ρ => rfl⟩
  rw [brF (by simpa [iLt] using i0), sat_req]
  refine ⟨n1, ?_⟩
  by_cases i1 : ((hsO (G.R (a, b, c))).length : Int) ≤ i
  · rw [brT (by simpa [iGe] using i1)]
    exact ⟨.inr ⟨.inr i1, rfl, rfl, rfl⟩, rfl, fun ρ => rfl⟩
  rw [brF (by simpa [iGe] using i1), sat_req]
  refine ⟨l1, ?_⟩
  obtain ⟨j, rfl⟩ : ∃ j : Nat, i = j := ⟨i.toNat, by omega⟩
  have hj : j < (hsO (G.R (a, b, c))).length := by omega
  obtain ⟨k, hk⟩ : ∃ k, (hsO (G.R (a, b, c)))[j]? = some k := ⟨_, List.getElem?_eq_getElem hj⟩
  cases hX : G.R (a, b, c) with
  | none => rw [hX] at hj; simp [hsO] at hj
  | some X =>
    have hin := (h.st _ X hX).1
    obtain ⟨r1, r2, r3, r4, r5⟩ := rv_ok (some X)
    have hk' : X.hs[j]? = some k := by rw [hX] at hk; exact hk
    rw [hX] at hsz
    rw [brT (cmp_zero _ _), tP_b]
    cases ht : X.tree with
    | true =>
      have hl : tP (some X) = (X.t : Int) + 1 := by simp [tP, ht]
      obtain ⟨q1, q2⟩ := Str.tat hin ht hk'
      rw [brT (by simp [treeB, ht, bNot]), hl, sat_req]
      refine ⟨q1, ?_⟩
      rw [sat_any]
      rintro ⟨wi, wb, wv, wm⟩ hw
      obtain ⟨s1, s2, s3⟩ := q2 _ hw
      simp only at s1 s2 s3
      subst s1 s2 s3
      exact ⟨.inl ⟨j, k, rfl, hk, rfl, rfl, fun _ _ => rfl⟩, rfl, fun ρ => rfl⟩
    | false =>
      have hl : lP (some X) = (X.t : Int) + 1 := by simp [lP, ht]
      have hif : ifIs 112 (pl (rv (some X))) = true := by simp only [rv, Str.ifv, ht, mkIf_eq]; rfl
      have hrq := hg.rq hp
      rw [hX] at hrq
      rw [brF (by simp [treeB, ht, bNot]), brT (nz_p _), brT (nz_p _), brT hg.okL.1, sat_req]
      refine ⟨hrq, ?_⟩
      obtain ⟨q1, q2⟩ := Str.lall hin ht hsz
      rw [brT r2, brT hif, r3, hl, sat_req]
      refine ⟨q1, ?_⟩
      rw [sat_any]
      rintro ⟨wi, wb, wv, wm⟩ hw
      obtain ⟨s1, s2, s3⟩ := RowB.of (q2 _ hw)
      simp only at s1 s2 s3
      obtain ⟨e1, e2, e3⟩ := s1.sl
      obtain ⟨g1, g2, g3, g4⟩ := s1.get hk'
      simp only [e1]
      rw [sat_req]
      refine ⟨⟨trivial, trivial⟩, ?_⟩
      rw [brT g1, brT g2, sat_req, g3, g4]
      exact ⟨⟨trivial, trivial⟩, .inl ⟨j, k, rfl, hk, rfl, rfl, s2⟩, rfl, fun ρ => rfl⟩
theorem t_gat (m : Mem) (t : Int) (pm ps pa : Int) (i : Int) : runm Try.prog [s_glen, s_treed, s_at, s_all, s_lall] (drawh Try.prog [s_glen, s_treed, s_at, s_all, s_lall] (fun _ _ => none) (fun _ _ _ => none)) 300 37 [.u (.c (.np t 0)), .u (.agg [.si .i64 pm, .si .i64 ps, .si .i64 pa]), .u (.c (.si .i64 i))] m [98, 92, 95, 142, 140, 137, 111, 107, 108, 109] = T_gat m t pm ps pa i := by kernel_rfl
theorem s_gat_ok : SumOK Try.prog s_gat := by
  refine memSum_ok ⟨_, Try.func37, by kernel_rfl⟩ fun m args ms h hp hw ρ w hm => ?_
  split at h
  · split at h
    · rename_i a0 a1 a2 _ _ _ t pm ps pa i h0 h1 h2
      cases h
      have hS : ∀ q ∈ [s_glen, s_treed, s_at, s_all, s_lall], SumOK Try.prog q := (okc s_glen_ok (okc s_treed_ok (okc s_at_ok (okc s_all_ok (okc s_lall_ok okn)))))
      exact mm_ghostY nameOK hS (drawh_sound nameOK hS (by kernel_rfl) _ _) 300 _ m _ (t_gat m t pm ps pa i) yOf hp (fun G hG => gat_walk G hG) ρ w hm (by simp only [List.map_cons, List.map_nil, ptrOf_den h0, plaOf_den h1, intOf_den h2])
    · cases h
  · cases h

/-! Drain -/
theorem GG.to.trans {G1 G2 G3 : GG} {m1 m2 m3 : Mem} (h : G1.to G2 m1 m2) (k : G2.to G3 m2 m3) : G1.to G3 m1 m3 := by
  refine ⟨k.is', k.g.trans h.g, fun a ha => ?_, fun a ha hd => ?_⟩
  · rcases k.dom a ha with h2 | h2
    · exact h.dom a h2
    · cases e : m1 a with
      | none => exact .inr rfl
      | some o =>
        refine Classical.byContradiction fun hn => ?_
        have hd : ¬ G1.dom a := fun hd => hn (.inl hd)
        have := h.keep a (by rw [e]; simp) hd
        rw [h2, e] at this; cases this
  · have h1 := h.keep a ha hd
    refine (k.keep a (by rw [h1]; exact ha) fun h2 => ?_).trans h1
    rcases h.dom a h2 with h3 | h3
    · exact hd h3
    · exact ha h3
/-- .. where the memory had grown -/
theorem GG.to.less {G G' : GG} {m0 m1 m' : Mem} (h : G.to G' m1 m') (hm : ∀ a, m0 a ≠ none → m1 a = m0 a) : G.to G' m0 m' := by
  refine ⟨h.is', h.g, fun a ha => (h.dom a ha).imp id fun hn => ?_, fun a ha hd => ?_⟩
  · cases e : m0 a with
    | none => rfl
    | some o => have := hm a (by rw [e]; simp); rw [hn, e] at this; cases this
  · exact (h.keep a (by rw [hm a ha]; exact ha) hd).trans (hm a ha)
def T_dloop (m0 : Mem) (t pm ps pa : Int) (v : Value) : Tr := (.lp (.mk [0] [] [] m0) (fun y1 j1 => (.br (iLt (hdI y1.1) (slN (pl v))) (.br (inSl (pl v) (hdI y1.1)) (.br (okL y1.4 (slB (pl v)) (aOff (slO (pl v)) (hdI y1.1) 2) [(.li .i64 0), (.li .u64 0)]) (.br (nzp t) (.br (nzp t) (.br (okL y1.4 t 2 [(.raw (.map (.none)))]) (.req ((Go.Maps.Keyed Try.prog 126) ∧ ((okM Try.prog 126 y1.4 (pl (mcell y1.4 t 2))) ∧ ((okKey Try.prog 126 (.agg (.mk [(.int .i64 pm), (.int .i64 ps), (.int .i64 pa), (.int .i64 (gI y1.4 (slB (pl v)) (aOff (slO (pl v)) (hdI y1.1) 2))), (.int .u64 (gI y1.4 (slB (pl v)) (.succ (aOff (slO (pl v)) (hdI y1.1) 2))))]))) ∧ (((okU (.c (.li .i64 0)) (lkZ y1.4 (pl (mcell y1.4 t 2)) (.agg (.mk [(.int .i64 pm), (.int .i64 ps), (.int .i64 pa), (.int .i64 (gI y1.4 (slB (pl v)) (aOff (slO (pl v)) (hdI y1.1) 2))), (.int .u64 (gI y1.4 (slB (pl v)) (.succ (aOff (slO (pl v)) (hdI y1.1) 2))))])) (.int .i64 0))) : Bool) = true)))) (.req (gremoveP y1.4 t pm ps pa (gI y1.4 (slB (pl v)) (aOff (slO (pl v)) (hdI y1.1) 2)) (gI y1.4 (slB (pl v)) (.succ (aOff (slO (pl v)) (hdI y1.1) 2))) (vI (lkZ y1.4 (pl (mcell y1.4 t 2)) (.agg (.mk [(.int .i64 pm), (.int .i64 ps), (.int .i64 pa), (.int .i64 (gI y1.4 (slB (pl v)) (aOff (slO (pl v)) (hdI y1.1) 2))), (.int .u64 (gI y1.4 (slB (pl v)) (.succ (aOff (slO (pl v)) (hdI y1.1) 2))))])) (.int .i64 0)))) (.any (gremoveQ y1.4 t pm ps pa (gI y1.4 (slB (pl v)) (aOff (slO (pl v)) (hdI y1.1) 2)) (gI y1.4 (slB (pl v)) (.succ (aOff (slO (pl v)) (hdI y1.1) 2))) (vI (lkZ y1.4 (pl (mcell y1.4 t 2)) (.agg (.mk [(.int .i64 pm), (.int .i64 ps), (.int .i64 pa), (.int .i64 (gI y1.4 (slB (pl v)) (aOff (slO (pl v)) (hdI y1.1) 2))), (.int .u64 (gI y1.4 (slB (pl v)) (.succ (aOff (slO (pl v)) (hdI y1.1) 2))))])) (.int .i64 0)))) (fun y2 => (.req ((([(0, (.u (.c (.np t 0)))), (3, (.u (.c (.ptr 0 0)))), (4, (.u (.c (.raw (.slice (.none) 0 0))))), (5, (.u (.c (.sv v)))), (19, (.u (.c (.sv v)))), (20, (.u (.c (.si .i64 (slN (pl v))))))] : List (Nat × V)) = [(0, (.u (.c (.np t 0)))), (3, (.u (.c (.ptr 0 0)))), (4, (.u (.c (.raw (.slice (.none) 0 0))))), (5, (.u (.c (.sv v)))), (19, (.u (.c (.sv v)))), (20, (.u (.c (.si .i64 (slN (pl v))))))]) ∧ (([(0, ([(.si .i64 pm), (.si .i64 ps), (.si .i64 pa)], 59))] : List (Nat × Blk)) = [(0, ([(.si .i64 pm), (.si .i64 ps), (.si .i64 pa)], 59))])) (.leaf (.again (.mk [(iAdd .i64 (hdI y1.1) 1)] [] [] y2.4)))))))) (.no 70)) (.no 76)) (.no 75)) (.no 70)) (.no 104)) (.leaf (.up (.memo (.u (.c (.sv v))) y1.4))))))
def T_gdrain (m : Mem) (t : Int) (pm ps pa : Int) : Tr := (.req (glenOK m t pm ps pa) (.br (iEq (glenV m t pm ps pa) 0) (.leaf (.memo (.u (.c (.raw (.slice (.none) 0 0)))) m)) (.br (nzp t) (.br (nzp t) (.br (okL m t 0 [(.raw (.map (.none)))]) (.req ((Go.Maps.Keyed Try.prog 59) ∧ ((okM Try.prog 59 m (pl (mcell m t 0))) ∧ ((okKey Try.prog 59 (.agg (.mk [(.int .i64 pm), (.int .i64 ps), (.int .i64 pa)]))) ∧ (((okU (.c (.raw .nilIface)) (lkZ m (pl (mcell m t 0)) (.agg (.mk [(.int .i64 pm), (.int .i64 ps), (.int .i64 pa)])) .nilIface)) : Bool) = true)))) (.br (isIfV (pl (lkZ m (pl (mcell m t 0)) (.agg (.mk [(.int .i64 pm), (.int .i64 ps), (.int .i64 pa)])) .nilIface))) (.br (ifIs 112 (pl (lkZ m (pl (mcell m t 0)) (.agg (.mk [(.int .i64 pm), (.int .i64 ps), (.int .i64 pa)])) .nilIface))) (.req (lallP m (ifP 112 (pl (lkZ m (pl (mcell m t 0)) (.agg (.mk [(.int .i64 pm), (.int .i64 ps), (.int .i64 pa)])) .nilIface)))) (.any (lallQ m (ifP 112 (pl (lkZ m (pl (mcell m t 0)) (.agg (.mk [(.int .i64 pm), (.int .i64 ps), (.int .i64 pa)])) .nilIface)))) (fun y0 => (.req ((([(0, ([(.si .i64 pm), (.si .i64 ps), (.si .i64 pa)], 59))] : List (Nat × Blk)) = [(0, ([(.si .i64 pm), (.si .i64 ps), (.si .i64 pa)], 59))]) ∧ (([] : List (Nat × MBlk)) = [])) (.br (isSlV (pl (hdV y0.3))) (T_dloop y0.4 t pm ps pa (hdV y0.3)) (.no 123)))))) (.br (ifIs 24 (pl (lkZ m (pl (mcell m t 0)) (.agg (.mk [(.int .i64 pm), (.int .i64 ps), (.int .i64 pa)])) .nilIface))) (.req (allP m (ifP 24 (pl (lkZ m (pl (mcell m t 0)) (.agg (.mk [(.int .i64 pm), (.int .i64 ps), (.int .i64 pa)])) .nilIface)))) (.any (allQ m (ifP 24 (pl (lkZ m (pl (mcell m t 0)) (.agg (.mk [(.int .i64 pm), (.int .i64 ps), (.int .i64 pa)])) .nilIface)))) (fun y0 => (.req ((([(0, ([(.si .i64 pm), (.si .i64 ps), (.si .i64 pa)], 59))] : List (Nat × Blk)) = [(0, ([(.si .i64 pm), (.si .i64 ps), (.si .i64 pa)], 59))]) ∧ (([] : List (Nat × MBlk)) = [])) (.br (isSlV (pl (hdV y0.3))) (T_dloop y0.4 t pm ps pa (hdV y0.3)) (.no 123)))))) (.no 37))) (.no 38))) (.no 70)) (.no 76)) (.no 75))))
def gdrainPost (m : Mem) (G : GG) (p : Pl) (y : Vars) : Prop := ∃ G' : GG, G.to G' m y.m ∧ (∀ q, G'.R q = if q = p then none else G.R q) ∧ (∀ q h, G'.N q h = if q = p then none else G.N q h) ∧ (∀ h n, G'.I h n = if G.I h n = some p then none else G.I h n) ∧
  RowB y.m (hdV y.v) (hsO (G.R p)) ∧ ∀ a : Nat, slB (hdV y.v) = (a : Int) + 1 → m a = none ∧ ¬ G'.dom a
def gdrainP (m : Mem) (t pm ps pa : Int) : Prop := ∃ G, gatPre G m t pm ps pa
def gdrainQ (m : Mem) (t pm ps pa : Int) (y : Vars) : Prop := ∀ G, gatPre G m t pm ps pa → gdrainPost m G (pm, ps, pa) y
def s_gdrain : Sum := memSum 38 fun m a => match a with | [a0, a1] => (match ptrOf a0, plaOf a1 with | some t, some (pm, ps, pa) => some ⟨gdrainP m t pm ps pa, gdrainQ m t pm ps pa, fun y => .u (.c (.sv (hdV y.v)))⟩ | _, _ => none) | _ => none
def yVal (v : V) (m : Mem) : Vars :=
  match v with
  | .u (.c (.sv x)) => ⟨[], [], [pl x], m⟩
  | .u (.c (.raw x)) => ⟨[], [], [pl x], m⟩
  | _ => ⟨[], [], [], m⟩
theorem dloop_walk {m m1 : Mem} {a b c : Int} {v : Value} (G : GG) (h : G.is m1) (hp : okP' (a, b, c)) (hv : RowB m1 v (hsO (G.R (a, b, c)))) (hf : ∀ x : Nat, slB v = (x : Int) + 1 → m x = none ∧ ¬ G.dom x) (hm : ∀ x, m x ≠ none → m1 x = m x) (hsz : (hsO (G.R (a, b, c))).length < 1099511627776) :
    (T_dloop m1 ((G.g : Int) + 1) a b c v).sat (isMemo fun w x => gdrainPost m G (a, b, c) (yVal w x) ∧ (yVal w x).m = x ∧ ∀ ρ, w.den ρ = V.den ρ (.u (.c (.sv (hdV (yVal w x).v))))) := by
  obtain ⟨e1, e2, e3⟩ := hv.sl
  have hnd : (hsO (G.R (a, b, c))).Nodup := by
    cases hX : G.R (a, b, c) with
    | none => exact List.nodup_nil
    | some X => exact (h.st _ X hX).1.nodup
  unfold T_dloop
  simp only [e1, e3]
  let J : Nat → Vars → Prop := fun N y => ∃ (i : Nat) (Gi : GG), i + N = (hsO (G.R (a, b, c))).length ∧ y.i = [(i : Int)] ∧ G.to Gi m1 y.m ∧ hsO (Gi.R (a, b, c)) = (hsO (G.R (a, b, c))).drop i ∧ (∀ q, q ≠ (a, b, c) → Gi.R q = G.R q) ∧
    (∀ q k, Gi.N q k = if q = (a, b, c) ∧ k ∈ (hsO (G.R (a, b, c))).take i then none else G.N q k) ∧ (∀ k n, Gi.I k n = if G.I k n = some (a, b, c) ∧ k ∈ (hsO (G.R (a, b, c))).take i then none else G.I k n)
  refine lp_idx J (n0 := (hsO (G.R (a, b, c))).length) ⟨0, G, by omega, rfl, GG.to.refl h, by simp, fun _ _ => rfl, fun q k => by simp, fun k n => by simp⟩ ?_
  rintro N ⟨yi, yb, yv, ym⟩ _ ⟨i, Gi, hi, rfl, hto, hR, hRo, hN, hI⟩
  simp only at hto hi
  simp only [hdI]
  have hvi : RowB ym v (hsO (G.R (a, b, c))) := hv.more fun x hx hxn => hto.keep x hxn (hf x hx).2
  have his := hto.is'
  by_cases hlt : i < (hsO (G.R (a, b, c))).length
  rotate_left
  · rw [brF (by simp [iLt]; omega)]
    have hi' : i = (hsO (G.R (a, b, c))).length := by omega
    rw [hi', List.drop_length] at hR
    rw [hi'] at hN hI
    simp only [List.take_length] at hN hI
    have hRn : Gi.R (a, b, c) = none := by
      cases hX : Gi.R (a, b, c) with
      | none => rfl
      | some X => rw [hX] at hR; exact absurd hR (his.st _ X hX).2.1
    have hall : ∀ k, (G.N (a, b, c) k).isSome = true → k ∈ hsO (G.R (a, b, c)) := fun k hk => by
      obtain ⟨X, hX, hx⟩ := (h.nh _ k).1 hk
      rw [hX]; exact hx
    refine ⟨⟨Gi, hto.less hm, fun q => ?_, fun q k => ?_, fun k n => ?_, ?_, fun x hx => ?_⟩, rfl, fun ρ => ?_⟩
    · by_cases e : q = (a, b, c)
      · rw [if_pos e, e]; exact hRn
      · rw [if_neg e]; exact hRo q e
    · rw [hN]
      by_cases e : q = (a, b, c)
      · subst e
        rw [if_pos rfl]
        by_cases e2 : k ∈ hsO (G.R (a, b, c))
        · rw [if_pos ⟨rfl, e2⟩]
        · rw [if_neg (fun h => e2 h.2)]
          cases hx : G.N (a, b, c) k with
          | none => rfl
          | some n => exact absurd (hall k (by rw [hx]; rfl)) e2
      · rw [if_neg e, if_neg (fun h => e h.1)]
    · rw [hI]
      by_cases e : G.I k n = some (a, b, c)
      · rw [if_pos e]
        have := (h.nu k n (a, b, c)).1 e
        rw [if_pos ⟨e, hall k (by rw [this]; rfl)⟩]
      · rw [if_neg e, if_neg (fun h => e h.1)]
    · show RowB ym (pl v) _
      rw [e1]; exact hvi
    · have hx : slB v = (x : Int) + 1 := by rw [← e1]; exact hx
      obtain ⟨f1, f2⟩ := hf x hx
      refine ⟨f1, fun hd => ?_⟩
      rcases hto.dom x hd with hd | hn
      · exact f2 hd
      · exact hv.there hx hn
    · show pl v = pl (pl v)
      rw [e1, e1]
  obtain ⟨k, hk⟩ : ∃ k, (hsO (G.R (a, b, c)))[i]? = some k := ⟨_, List.getElem?_eq_getElem hlt⟩
  obtain ⟨k1, k2⟩ := k
  obtain ⟨g1, g2, g3, g4⟩ := hvi.get hk
  have hdrop : (hsO (G.R (a, b, c))).drop i = (k1, k2) :: (hsO (G.R (a, b, c))).drop (i + 1) := by
    rw [List.drop_eq_getElem_cons hlt]
    rw [List.getElem?_eq_getElem hlt] at hk
    rw [Option.some.inj hk]
  rw [hdrop] at hR
  obtain ⟨X, hX, hXh⟩ : ∃ X, Gi.R (a, b, c) = some X ∧ X.hs = (k1, k2) :: (hsO (G.R (a, b, c))).drop (i + 1) := by
    cases hX : Gi.R (a, b, c) with
    | none => rw [hX] at hR; cases hR
    | some X => rw [hX] at hR; exact ⟨X, rfl, hR⟩
  have hkm : (k1, k2) ∈ X.hs := by rw [hXh]; simp
  have hkok : okH (k1, k2) := (his.st _ X hX).1.rng hkm
  obtain ⟨n, hNk⟩ := Option.isSome_iff_exists.1 ((his.nh (a, b, c) (k1, k2)).2 ⟨X, hX, hkm⟩)
  have hn : inI n := his.nr _ _ _ hNk
  have hg := his.toGM
  obtain ⟨n1, n2⟩ := hg.lkN hp hkok
  rw [hNk] at n1
  have hvI : vI (nV (some n)) = n := rfl
  have eg : (Gi.g : Int) + 1 = (G.g : Int) + 1 := by rw [hto.g]
  have hnq := hg.nq hp hkok
  rw [hNk] at hnq
  have okL2 := hg.okL.2.2
  have c2 := hg.c2
  rw [eg] at okL2 c2
  simp only [g3, g4, c2, n1, hvI]
  rw [brT (by simp [iLt]; omega), brT g1, brT g2, brT (nz_p _), brT (nz_p _), brT okL2, sat_req]
  refine ⟨hnq, ?_⟩
  have hpre : gpushPre Gi ym ((G.g : Int) + 1) a b c k1 k2 n := ⟨eg.symm, his, hp, hkok, hn⟩
  rw [sat_req]
  refine ⟨⟨Gi, hpre⟩, ?_⟩
  rw [sat_any]
  rintro ⟨wi, wb, wv, wm⟩ hw
  have hIk := (his.nu (k1, k2) n (a, b, c)).2 hNk
  rcases hw Gi hpre with ⟨s1, _⟩ | ⟨_, _, X1, X', s1, s2, s3, s4⟩
  · exact absurd hIk s1
  simp only at s4
  rw [hX] at s1; cases s1
  rw [sat_req]
  refine ⟨⟨trivial, trivial⟩, ?_⟩
  have hX'h : X'.hs = (hsO (G.R (a, b, c))).drop (i + 1) := by rw [s3, hXh, List.erase_cons_head]
  have hin : iAdd .i64 (i : Int) 1 = ((i + 1 : Nat) : Int) := by rw [iadd_i (by omega)]; omega
  rw [hin]
  have htake : ∀ j, j ∈ (hsO (G.R (a, b, c))).take (i + 1) ↔ j = (k1, k2) ∨ j ∈ (hsO (G.R (a, b, c))).take i := fun j => by
    rw [List.take_add_one, hk]; simp [or_comm]
  refine ⟨N - 1, by omega, i + 1, Gi.go (a, b, c) (k1, k2) n X', by omega, rfl, hto.trans s4, ?_, fun q hq => ?_, fun q j => ?_, fun j n' => ?_⟩
  · show hsO (upd1 Gi.R (a, b, c) (goneR X') (a, b, c)) = _
    rw [show upd1 Gi.R (a, b, c) (goneR X') (a, b, c) = goneR X' from if_pos rfl, ← hX'h]
    unfold goneR
    cases he : X'.hs with
    | nil => rfl
    | cons x r => exact he
  · show upd1 Gi.R (a, b, c) (goneR X') q = _
    rw [show upd1 Gi.R (a, b, c) (goneR X') q = Gi.R q from if_neg hq]
    exact hRo q hq
  · show updN Gi.N (a, b, c) (k1, k2) none q j = _
    simp only [updN, htake]
    by_cases e : q = (a, b, c)
    · subst e
      by_cases e2 : j = (k1, k2)
      · subst e2; rw [if_pos ⟨rfl, rfl⟩, if_pos ⟨rfl, .inl rfl⟩]
      · rw [if_neg (fun h => e2 h.2), hN]
        by_cases e3 : j ∈ (hsO (G.R (a, b, c))).take i
        · rw [if_pos ⟨rfl, e3⟩, if_pos ⟨rfl, .inr e3⟩]
        · rw [if_neg (fun h => e3 h.2), if_neg (fun h => by rcases h.2 with h | h; exact e2 h; exact e3 h)]
    · rw [if_neg (fun h => e h.1), if_neg (fun h => e h.1), hN, if_neg (fun h => e h.1)]
  · show updI Gi.I (k1, k2) n none j n' = _
    simp only [updI, htake]
    have hknot : (k1, k2) ∉ (hsO (G.R (a, b, c))).take i := by
      intro hm
      have := hnd
      rw [← List.take_append_drop i (hsO (G.R (a, b, c))), hdrop, List.nodup_append] at this
      exact this.2.2 _ hm _ (by simp) rfl
    have hGI : G.I (k1, k2) n = some (a, b, c) := by
      have := hI (k1, k2) n
      rw [if_neg (fun h => hknot h.2)] at this
      rw [← this]; exact hIk
    by_cases e : j = (k1, k2)
    · subst e
      by_cases e2 : n' = n
      · subst e2; rw [if_pos ⟨rfl, rfl⟩, if_pos ⟨hGI, .inl rfl⟩]
      · rw [if_neg (fun h => e2 h.2), hI, if_neg (fun h => hknot h.2)]
        by_cases e3 : G.I (k1, k2) n' = some (a, b, c)
        · exfalso
          have x1 := (h.nu _ _ _).1 e3
          have x2 := (h.nu _ _ _).1 hGI
          rw [x1] at x2; cases x2; exact e2 rfl
        · rw [if_neg (fun h => e3 h.1)]
    · rw [if_neg (fun h => e h.1), hI]
      by_cases e3 : G.I j n' = some (a, b, c) ∧ j ∈ (hsO (G.R (a, b, c))).take i
      · rw [if_pos e3, if_pos ⟨e3.1, .inr e3.2⟩]
      · rw [if_neg e3, if_neg (fun h => by rcases h.2 with h2 | h2; exact e h2; exact e3 ⟨h.1, h2⟩)]
theorem gdrain_walk {m : Mem} {t a b c : Int} (G : GG) (hG : gatPre G m t a b c) : (T_gdrain m t a b c).sat (isMemo fun w x => gdrainPost m G (a, b, c) (yVal w x) ∧ (yVal w x).m = x ∧ ∀ ρ, w.den ρ = V.den ρ (.u (.c (.sv (hdV (yVal w x).v))))) := by
  obtain ⟨⟨rfl, h, hp⟩, hsz⟩ := hG
  have hg := h.toGM
  obtain ⟨n1, n2⟩ := glen_spec h hp
  unfold T_gdrain
  simp only [n2, hg.c0, hg.lkR hp]
  rw [sat_req]
  refine ⟨n1, ?_⟩
  obtain ⟨r1, r2, r3, r4, r5⟩ := rv_ok (G.R (a, b, c))
  cases hX : G.R (a, b, c) with
  | none =>
    rw [brT (by rfl)]
    refine ⟨⟨G, GG.to.refl h, fun q => ?_, fun q k => ?_, fun k n => ?_, ?_, fun x hx => ?_⟩, rfl, fun ρ => rfl⟩
    · by_cases e : q = (a, b, c)
      · rw [if_pos e, e]; exact hX
      · rw [if_neg e]
    · by_cases e : q = (a, b, c)
      · rw [if_pos e, e]
        cases hN : G.N (a, b, c) k with
        | none => rfl
        | some n => obtain ⟨X, h1, _⟩ := (h.nh _ k).1 (by rw [hN]; rfl); rw [hX] at h1; cases h1
      · rw [if_neg e]
    · by_cases e : G.I k n = some (a, b, c)
      · have := (h.nu k n _).1 e
        obtain ⟨X, h1, _⟩ := (h.nh _ k).1 (by rw [this]; rfl); rw [hX] at h1; cases h1
      · rw [if_neg e]
    · exact .inl ⟨rfl, by rw [hX]; rfl⟩
    · have : slB (.slice none 0 0) = (x : Int) + 1 := hx
      simp only [slB] at this; omega
  | some X =>
    have hne := (h.st _ X hX).2.1
    have hin := (h.st _ X hX).1
    have hl : iEq ((hsO (some X)).length : Int) 0 = false := by
      show iEq (X.hs.length : Int) 0 = false
      cases he : X.hs with
      | nil => exact absurd he hne
      | cons x r => simp [iEq]; omega
    have hrq := hg.rq hp
    rw [hX] at hrq r2 r3 r4 hsz
    rw [brF hl, brT (nz_p _), brT (nz_p _), brT hg.okL.1, sat_req]
    refine ⟨hrq, ?_⟩
    have fin : ∀ y : Vars, rowOf m X.hs (hdV y.v) y.m → (Tr.br (isSlV (pl (hdV y.v))) (T_dloop y.m ((G.g : Int) + 1) a b c (hdV y.v)) (.no 123)).sat (isMemo fun w x => gdrainPost m G (a, b, c) (yVal w x) ∧ (yVal w x).m = x ∧ ∀ ρ, w.den ρ = V.den ρ (.u (.c (.sv (hdV (yVal w x).v))))) := by
      intro y hy
      obtain ⟨s1, s2, s3⟩ := RowB.of hy
      obtain ⟨e1, e2, e3⟩ := s1.sl
      rw [brT (by rw [e1]; exact e2)]
      refine dloop_walk G (h.congr fun x hx => s2 x (h.there hx)) hp (by rw [hX]; exact s1) (fun x hx => ⟨s3 x hx, fun hd => h.there hd (s3 x hx)⟩) s2 (by rw [hX]; exact hsz)
    rw [brT r2, r3, r4]
    cases ht : X.tree with
    | false =>
      have hif : ifIs 112 (pl (rv (some X))) = true := by simp only [rv, Str.ifv, ht, mkIf_eq]; rfl
      have hl : lP (some X) = (X.t : Int) + 1 := by simp [lP, ht]
      obtain ⟨q1, q2⟩ := Str.lall hin ht hsz
      rw [brT hif, hl, sat_req]
      refine ⟨q1, ?_⟩
      rw [sat_any]
      exact fun y hy => ⟨⟨trivial, trivial⟩, fin y (q2 y hy)⟩
    | true =>
      have hif : ifIs 112 (pl (rv (some X))) = false := by simp only [rv, Str.ifv, ht, mkIf_eq]; rfl
      have hif2 : ifIs 24 (pl (rv (some X))) = true := by simp only [rv, Str.ifv, ht, mkIf_eq]; rfl
      have hl : tP (some X) = (X.t : Int) + 1 := by simp [tP, ht]
      obtain ⟨q1, q2⟩ := Str.tall hin ht hsz
      rw [brF hif, brT hif2, hl, sat_req]
      refine ⟨q1, ?_⟩
      rw [sat_any]
      exact fun y hy => ⟨⟨trivial, trivial⟩, fin y (q2 y hy)⟩
theorem t_gdrain (m : Mem) (t : Int) (pm ps pa : Int) : runm Try.prog [s_glen, s_all, s_lall, s_gremove] (drawh Try.prog [s_glen, s_all, s_lall, s_gremove] (fun _ _ => some ⟨[21], [], [0, 3, 4, 5, 19, 20], [0]⟩) (fun _ _ _ => none)) 300 38 [.u (.c (.np t 0)), .u (.agg [.si .i64 pm, .si .i64 ps, .si .i64 pa])] m [98, 92, 95, 142, 140, 137, 111, 107, 108, 109] = T_gdrain m t pm ps pa := by kernel_rfl
theorem s_gdrain_ok : SumOK Try.prog s_gdrain := by
  refine memSum_ok ⟨_, Try.func38, by kernel_rfl⟩ fun m args ms h hp hw ρ w hm => ?_
  split at h
  · split at h
    · rename_i a0 a1 _ _ t pm ps pa h0 h1
      cases h
      have hS : ∀ q ∈ [s_glen, s_all, s_lall, s_gremove], SumOK Try.prog q := (okc s_glen_ok (okc s_all_ok (okc s_lall_ok (okc s_gremove_ok okn))))
      exact mm_ghostY nameOK hS (drawh_sound nameOK hS (by kernel_rfl) _ _) 300 _ m _ (t_gdrain m t pm ps pa) yVal hp (fun G hG => gdrain_walk G hG) ρ w hm (by simp only [List.map_cons, List.map_nil, ptrOf_den h0, plaOf_den h1])
    · cases h
  · cases h
end Go.Proofs.Ytnlohongffpkpaa.T16
end

section
/- Layer 16: TreePlays' walk. A text of the session's own. -/
namespace Go.Proofs.Ytnlohongffpkpaa.T16
open Go Go.RowKit Go.Proofs.Ytnlohongffpkpaa.Sx Go.Proofs
set_option linter.unusedVariables false
set_option linter.unusedSimpArgs false

/-! where paths meet -/
def joinR (Q : Vars → Prop) (R : Leaf → Prop) : Leaf → Prop
  | .again y => hdI y.i = 1 ∧ Q ⟨tlI y.i, y.b, y.v, y.m⟩
  | .up l => R l
  | _ => False
def upR (R : Leaf → Prop) : Leaf → Prop
  | .up l => R l
  | _ => False
theorem sat_jn {R : Leaf → Prop} {m : Mem} {A : Tr} {f : Vars → (Nat → Value) → Tr} (Q : Vars → Prop) (hA : A.sat (joinR Q R))
    (hf : ∀ v j, hdI v.i = 1 → Q ⟨tlI v.i, v.b, v.v, v.m⟩ → (f v j).sat (upR R)) : (Tr.lp ⟨[0], [], [], m⟩ fun v j => .br (iZero? (hdI v.i)) A (f v j)).sat R := by
  refine ⟨fun v => hdI v.i = 0 ∨ (hdI v.i = 1 ∧ Q ⟨tlI v.i, v.b, v.v, v.m⟩), fun v => if hdI v.i = 0 then 1 else 0, .inl rfl, fun v j hv => ⟨fun hz => ?_, fun hz => ?_⟩⟩
  · have hz : hdI v.i = 0 := by simpa [iZero?] using hz
    refine sat_mono (fun l hl => ?_) hA
    cases l with
    | again y =>
      refine ⟨.inr hl, ?_⟩
      have h1 : hdI y.i = 1 := hl.1
      simp only [h1, hz]; decide
    | up l => exact hl
    | _ => exact hl.elim
  · have hz : ¬ hdI v.i = 0 := by simpa [iZero?] using hz
    rcases hv with hv | hv
    · exact absurd hv hz
    · refine sat_mono (fun l hl => ?_) (hf v j hv.1 hv.2)
      cases l with
      | up l => exact hl
      | _ => exact hl.elim

/-! a slice of steps -/
structure Stp where
  rm : Bool
  at' : Int
  s : Int
  g : Int
structure ArgS (l : Value) (xs : List Stp) (m : Mem) : Prop where
  sl : isSlV (pl l) = true
  n : slN (pl l) = xs.length
  at' : ∀ i : Nat, ∀ x, xs[i]? = some x → inSl (pl l) i = true ∧ okL m (slB (pl l)) (aOff (slO (pl l)) i 4) [.lb false, .li .i64 0, .li .i64 0, .li .u64 0] = true ∧ gB m (slB (pl l)) (aOff (slO (pl l)) i 4) = x.rm ∧ gI m (slB (pl l)) (.succ (aOff (slO (pl l)) i 4)) = x.at' ∧
    gI m (slB (pl l)) (.succ (.succ (aOff (slO (pl l)) i 4))) = x.s ∧ gI m (slB (pl l)) (.succ (.succ (.succ (aOff (slO (pl l)) i 4)))) = x.g
  rng : ∀ x ∈ xs, inI x.s ∧ inU x.g
theorem ArgS.more {l : Value} {xs : List Stp} {m m' : Mem} (h : ArgS l xs m) (hm : ∀ a, m a ≠ none → m' a = m a) : ArgS l xs m' := by
  refine ⟨h.sl, h.n, fun i x hx => ?_, h.rng⟩
  obtain ⟨a1, a2, a3, a4, a5, a6⟩ := h.at' i x hx
  obtain ⟨b1, b2⟩ := okL_more hm a2
  unfold gI at a4 a5 a6
  unfold gB at a3
  refine ⟨a1, b1, ?_, ?_, ?_, ?_⟩
  · unfold gB; rw [b2]; exact a3
  · unfold gI; rw [b2]; exact a4
  · unfold gI; rw [b2]; exact a5
  · unfold gI; rw [b2]; exact a6

/-! a tree and a list, in one memory -/
theorem lst_mem {S : TS} {b : Mem} {r : Int} {v : Value} {hs ks : List (Int × Int)} {y : Vars} (hF : Fre S b) (hL : Lst b r v hs) (h : lstPost (S.mem b) r ks y) :
    ∃ b' u, y.m = S.mem b' ∧ Fre S b' ∧ Lst b' r u ks ∧ ∀ a : Nat, b a ≠ none → (a : Int) + 1 ≠ r → b' a = b a := by
  obtain ⟨u, h1, h2, h3⟩ := h
  obtain ⟨⟨p0, rfl, hp0⟩, hsl⟩ := hL
  have hb0 : b p0 ≠ none := by rw [hp0]; simp
  have ht : p0 ≠ S.t := by rintro rfl; exact hb0 hF.t
  have hq : p0 ≠ S.q := by rintro rfl; exact hb0 hF.q
  have hH : S.H ((p0 : Int) + 1) = none := by
    cases e : S.H ((p0 : Int) + 1) with
    | none => rfl
    | some d => exact absurd (hF.H p0 (by rw [e]; simp)) hb0
  let b' : Mem := fun a => if a = S.t ∨ a = S.q ∨ S.H ((a : Int) + 1) ≠ none then none else y.m a
  have e0 : ∀ a, ¬ (a = S.t ∨ a = S.q ∨ S.H ((a : Int) + 1) ≠ none) → b' a = y.m a := fun a ha => by simp only [b', if_neg ha]
  have em : y.m = S.mem b' := by
    funext a
    by_cases ha : a = S.t ∨ a = S.q ∨ S.H ((a : Int) + 1) ≠ none
    · have hs : S.mem b a ≠ none ∧ S.mem b a = S.mem b' a := by
        unfold TS.mem
        by_cases e1 : a = S.t
        · simp [e1]
        · by_cases e2 : a = S.q
          · subst e2; simp [e1]
          · have e3 : S.H ((a : Int) + 1) ≠ none := by rcases ha with h | h | h; exact absurd h e1; exact absurd h e2; exact h
            cases e : S.H ((a : Int) + 1) with
            | none => exact absurd e e3
            | some d => simp [e1, e2]
      have hne : (a : Int) + 1 ≠ (p0 : Int) + 1 := by
        intro e
        have : a = p0 := by omega
        subst this
        rcases ha with h | h | h
        · exact ht h
        · exact hq h
        · exact h hH
      rw [h2 a hs.1 hne, hs.2]
    · rw [← e0 a ha]
      have h' := ha
      simp only [not_or, Decidable.not_not] at h'
      obtain ⟨x1, x2, x3⟩ := h'
      simp [TS.mem, x1, x2, x3]
  have hpn : ¬ (p0 = S.t ∨ p0 = S.q ∨ S.H ((p0 : Int) + 1) ≠ none) := by simp [ht, hq, hH]
  refine ⟨b', u, em, ⟨by simp [b'], by simp [b'], fun a ha => by simp [b', ha]⟩, ⟨⟨p0, rfl, ?_⟩, ?_⟩, fun a ha hne => ?_⟩
  · obtain ⟨a, ha, h4⟩ := h1.hd
    have : a = p0 := by omega
    subst this
    rw [e0 _ hpn]; exact h4
  · refine h1.sl.more fun a ha _ => ?_
    have := h3 a ha
    obtain ⟨x1, x2, x3⟩ := free_at this
    exact e0 a (by simp [x1, x2, x3])
  · have hs : S.mem b a = b a := hF.more a ha
    have x1 : a ≠ S.t := by rintro rfl; exact ha hF.t
    have x2 : a ≠ S.q := by rintro rfl; exact ha hF.q
    have x3 : S.H ((a : Int) + 1) = none := by
      cases e : S.H ((a : Int) + 1) with
      | none => rfl
      | some d => exact absurd (hF.H a (by rw [e]; simp)) ha
    rw [e0 a (by simp [x1, x2, x3]), h2 a (by rw [hs]; exact ha) hne, hs]
/-- what holds ahead of each step -/
def PlI (m0 : Mem) (p r : Int) (k : Nat) (m : Mem) : Prop :=
  ∃ (S : TS) (b : Mem) (t : T) (n : Nat) (v : Value), m = S.mem b ∧ S.p = p ∧ Tre S t n ∧ Fre S b ∧ (∀ a, m0 a ≠ none → b a = m0 a) ∧ Lst b r v (hans t) ∧ t.size ≤ k ∧ ∀ a : Nat, r = (a : Int) + 1 → m0 a = none
theorem PlI.of {m0 : Mem} {p r : Int} {k : Nat} {S : TS} {b : Mem} {t : T} {n : Nat} {v : Value} {hs : List (Int × Int)} {y : Vars} (e1 : S.p = p) (hT : Tre S t n) (hF : Fre S b) (hk : ∀ a, m0 a ≠ none → b a = m0 a) (hL : Lst b r v hs) (hs' : t.size ≤ k) (hr : ∀ a : Nat, r = (a : Int) + 1 → m0 a = none)
    (h : lstPost (S.mem b) r (hans t) y) : PlI m0 p r k y.m := by
  obtain ⟨b', u, h1, h2, h3, h4⟩ := lst_mem hF hL h
  refine ⟨S, b', t, n, u, h1, e1, hT, h2, fun a ha => ?_, h3, hs', hr⟩
  rw [h4 a (by rw [hk a ha]; exact ha) (fun e => ha (hr a e.symm)), hk a ha]
end Go.Proofs.Ytnlohongffpkpaa.T16
end

section
/- Layer 17: GraphDrains' walk. A text of the session's own. -/
namespace Go.Proofs.Ytnlohongffpkpaa.T16
open Go Go.RowKit Go.Proofs.Ytnlohongffpkpaa.Sx Go.Proofs
set_option linter.unusedVariables false
set_option linter.unusedSimpArgs false

def s_gworks : Sum := { f := 28, s := fun args => match args with | [] => some ([], .u (.c (.lb true))) | _ => none }
theorem s_gworks_ok : SumOK Try.prog s_gworks := by
  refine ⟨⟨(fun _ h => by cases h), (fun _ h => by cases h), (fun _ h => by cases h)⟩, .inr ⟨rfl, .inr ⟨rfl, .inr ⟨rfl, ⟨_, Try.func28, by kernel_rfl⟩, fun args bs r ρ w hs hb => ?_⟩⟩⟩⟩
  simp only [s_gworks] at hs
  split at hs
  · cases hs
    exact pure_to nameOK okn (dOK okn) 600 [] (T := .leaf (.val (.u (.c (.lb true))))) (by kernel_rfl) ρ rfl (by simp only [Tr.all]) w
  · cases hs
def s_gone1 : Sum := { f := 30, s := fun args => match args with | [.u (.c (.si .u8 n))] => some ([], .u (.agg [.si .i64 (iConv .i64 n), .li .u64 1])) | _ => none }
theorem s_gone1_ok : SumOK Try.prog s_gone1 := by
  refine ⟨⟨(fun _ h => by cases h), (fun _ h => by cases h), (fun _ h => by cases h)⟩, .inr ⟨rfl, .inr ⟨rfl, .inr ⟨rfl, ⟨_, Try.func30, by kernel_rfl⟩, fun args bs r ρ w hs hb => ?_⟩⟩⟩⟩
  simp only [s_gone1] at hs
  split at hs
  · rename_i n
    cases hs
    exact pure_to nameOK okn (dOK okn) 300 [.u (.c (.si .u8 n))] (T := .leaf (.val (.u (.agg [.si .i64 (iConv .i64 n), .li .u64 1])))) (by kernel_rfl) ρ rfl (by simp only [Tr.all]) w
  · cases hs
/-! which nodes may come -/
theorem GG.is.no {G : GG} {m : Mem} (h : G.is m) {p : Pl} {k : Hn} (hk : k ∉ hsO (G.R p)) : G.N p k = none := by
  cases e : G.N p k with
  | none => rfl
  | some n =>
    obtain ⟨X, hX, hx⟩ := (h.nh p k).1 (by rw [e]; rfl)
    rw [hX] at hk; exact absurd hx hk
/-- what a part of the walk knows of the graph -/
structure DrS (G : GG) (p q : Pl) (tr : Bool) (W H : List Hn) : Prop where
  pW : hsO (G.R p) = W
  pk : ∀ X, G.R p = some X → X.tree = tr
  qH : hsO (G.R q) = H
  qk : ∀ X, G.R q = some X → X.tree = false
  oth : ∀ r, r ≠ p → r ≠ q → G.R r = none
  np : ∀ k n, G.N p k = some n → n = 8
  nq : ∀ k n, G.N q k = some n → n = 16
section
variable {G : GG} {m : Mem} {p q : Pl} {tr : Bool} {W H : List Hn}
/-- all of p is gone -/
theorem DrS.gone (s : DrS G p q tr W H) (hpq : p ≠ q) {G' : GG} (hR : ∀ r, G'.R r = if r = p then none else G.R r) (hN : ∀ r k, G'.N r k = if r = p then none else G.N r k) (tr' : Bool) : DrS G' p q tr' [] H := by
  refine ⟨by rw [hR]; simp [hsO], fun X hX => ?_, by rw [hR, if_neg (Ne.symm hpq)]; exact s.qH, fun X hX => ?_, fun r h1 h2 => by rw [hR, if_neg h1]; exact s.oth r h1 h2, fun j n hj => ?_, fun j n hj => ?_⟩
  · rw [hR, if_pos rfl] at hX; cases hX
  · rw [hR, if_neg (Ne.symm hpq)] at hX; exact s.qk X hX
  · rw [hN, if_pos rfl] at hj; cases hj
  · rw [hN, if_neg (Ne.symm hpq)] at hj; exact s.nq j n hj
end
/-- a slice's literal of one handle -/
theorem SlH.one {m : Mem} {s g : Int} {a : Nat} : SlH (alM m ((a : Int) + 1) (.mk [.int .i64 s, .int .u64 g]) 29) (slOf ((a : Int) + 1) 1) [(s, g)] := by
  rw [alM_alO]
  have : slOf ((a : Int) + 1) 1 = .slice (some ⟨a, 0, none⟩) ([(s, g)] : List Hn).length 1 := by
    unfold slOf; rw [show ((a : Int) + 1).toNat = a + 1 by omega]; rfl
  rw [this]
  exact SlH.of (by simp) (alO_self _ _ _) (by simp) (by simp [isPlain]) (by simp [hCells])
theorem DrS.hW {G : GG} {p q : Pl} {tr : Bool} {W H : List Hn} (s : DrS G p q tr W H) : hsO (G.R p) = W := s.pW
/-- what lies beside the graph stays, and beside it -/
theorem GG.to.beside {G G' : GG} {m m' : Mem} (h : G.to G' m m') {v : Value} {hs : List Hn} (hv : SlH m v hs) (ho : ∀ a : Nat, slB v = (a : Int) + 1 → ¬ G.dom a) : SlH m' v hs ∧ ∀ a : Nat, slB v = (a : Int) + 1 → ¬ G'.dom a := by
  refine ⟨hv.more fun a ha hn => h.keep a hn (ho a ha), fun a ha hd => ?_⟩
  rcases h.dom a hd with h1 | h1
  · exact ho a ha h1
  · rcases hv.inv with ⟨rfl, _⟩ | ⟨b, o, c, cs, ty, rfl, _, h2, _⟩
    · simp only [slB] at ha; omega
    · simp only [slB] at ha
      have : b = a := by omega
      subst this
      rw [h2] at h1; cases h1
end Go.Proofs.Ytnlohongffpkpaa.T16
end

section
/- Layer 16: TreeLow's contract. A text of the session's own. -/
namespace Go.Proofs.Ytnlohongffpkpaa.T16
open Go Go.RowKit Go.Proofs.Ytnlohongffpkpaa.Sx Go.Proofs Go.WideShapes Go.ChangeShapes
set_option linter.unusedVariables false
set_option linter.unusedSimpArgs false

def both (m1 m2 : Mem) : Mem := fun a => match m1 a with | some o => some o | none => m2 a
end Go.Proofs.Ytnlohongffpkpaa.T16
end

section
/- Layer 17: GraphDrains' walk: the second loop; all. A text of the session's own. -/
namespace Go.Proofs.Ytnlohongffpkpaa.T16
open Go Go.RowKit Go.Proofs.Ytnlohongffpkpaa.Sx Go.Proofs Go.WideShapes Go.ChangeShapes
set_option linter.unusedVariables false
set_option linter.unusedSimpArgs false

theorem SlH.there {m : Mem} {v : Value} {hs : List Hn} (h : SlH m v hs) {a : Nat} (ha : slB v = (a : Int) + 1) : m a ≠ none := by
  rcases h.inv with ⟨rfl, _⟩ | ⟨b, o, c, cs, ty, rfl, _, h2, _⟩
  · simp only [slB] at ha; omega
  · simp only [slB] at ha
    have : b = a := by omega
    subst this
    rw [h2]; simp
end Go.Proofs.Ytnlohongffpkpaa.T16
end

section
/- Layer 17: GraphApart's walk. A text of the session's own. -/
namespace Go.Proofs.Ytnlohongffpkpaa.T16
open Go Go.RowKit Go.Proofs.Ytnlohongffpkpaa.Sx Go.Proofs
set_option linter.unusedVariables false
set_option linter.unusedSimpArgs false

/-! what becomes of a place, by what it has -/
def mayF (kd : Int) (hs : List Hn) (k : Hn) (want : Int) : Int := if k ∈ hs then 7 else if kd ≠ 0 ∧ kd ≠ want then 3 else 0
theorem kindO_isSome (r : Option Str) : r.isSome = true ↔ kindO r ≠ 0 := by
  cases r with
  | none => simp [kindO]
  | some X => simp only [kindO, Option.isSome_some]; cases X.tree <;> simp
theorem listB_iff (r : Option Str) : listB r = true ↔ kindO r = 1 := by
  cases r with
  | none => simp [listB, kindO]
  | some X => simp only [kindO, listB]; cases X.tree <;> simp
theorem treeB_iff (r : Option Str) : treeB r = true ↔ kindO r = 2 := by
  cases r with
  | none => simp [treeB, kindO]
  | some X => simp only [kindO, treeB]; cases X.tree <;> simp
/-- which nodes a graph has in a law -/
def inAt (G : GG) (p : Pl) (k : Hn) : Prop := (G.I k 8 = some p ↔ k ∈ hsO (G.R p)) ∧ ((G.I k 8).isSome = true ↔ k ∈ hsO (G.R p))
section
variable {G : GG} {m : Mem} {p : Pl} {k : Hn}
theorem GG.is.nhs (h : G.is m) : (G.N p k).isSome = true ↔ k ∈ hsO (G.R p) := by
  rw [h.nh]
  cases hX : G.R p with
  | none => simp [hsO]
  | some X => simp [hsO]
theorem mayE_F (h : G.is m) (hI : inAt G p k) (f : Bool) (want : Int) (hf : f = true ↔ kindO (G.R p) = want) : mayE G p k 8 f = mayF (kindO (G.R p)) (hsO (G.R p)) k want := by
  unfold mayE mayF
  have h1 := hI.2
  have h2 := h.nhs (p := p) (k := k)
  by_cases hk : k ∈ hsO (G.R p)
  · rw [if_pos hk, h1.2 hk]
  · rw [if_neg hk]
    have e1 : (G.I k 8).isSome = false := by
      cases e : (G.I k 8).isSome with
      | false => rfl
      | true => exact absurd (h1.1 e) hk
    have e2 : (G.N p k).isSome = false := by
      cases e : (G.N p k).isSome with
      | false => rfl
      | true => exact absurd (h2.1 e) hk
    rw [e1, e2]
    simp only [Bool.or_false]
    have e3 := kindO_isSome (G.R p)
    by_cases hc : kindO (G.R p) ≠ 0 ∧ kindO (G.R p) ≠ want
    · rw [if_pos hc, e3.2 hc.1]
      have : f = false := by
        cases f with
        | false => rfl
        | true => exact absurd (hf.1 rfl) hc.2
      rw [this]; rfl
    · rw [if_neg hc]
      cases hR : (G.R p).isSome with
      | false => rfl
      | true =>
        have : kindO (G.R p) = want := Classical.byContradiction fun hn => hc ⟨e3.1 hR, hn⟩
        rw [hf.2 this]; rfl
end
/-- a graph behind a call at a place -/
structure Out (G G' : GG) (m m' : Mem) (p : Pl) (k : Hn) : Prop where
  to : G.to G' m m'
  oth : ∀ q, q ≠ p → G'.R q = G.R q
  sub : ∀ r j n, G'.N r j = some n → G.N r j = some n ∨ (r = p ∧ j = k ∧ n = 8)
  len : (hsO (G'.R p)).length ≤ (hsO (G.R p)).length + 1
def pushF (kd : Int) (hs : List Hn) (k : Hn) (o : Bool) : Int × Int × List Hn := if mayF kd hs k 1 = 0 then (0, 1, putE o k hs) else (mayF kd hs k 1, kd, hs)
def insF (kd : Int) (hs : List Hn) (k : Hn) (i : Int) : Int × Int × List Hn := if mayF kd hs k 2 = 0 then (if i < 0 ∨ (hs.length : Int) < i then (2, kd, hs) else (0, 2, hs.take i.toNat ++ k :: hs.drop i.toNat)) else (mayF kd hs k 2, kd, hs)
def leftF (kd : Int) (hs : List Hn) : Int × List Hn := match hs with | [] => (0, []) | _ :: _ => (kd, hs)
def popF (kd : Int) (hs : List Hn) (o : Bool) : (List Int × List Bool) × Int × List Hn := if kd = 1 then (match endH hs o with | some k => (([k.1, k.2], [true]), leftF kd (hs.erase k)) | none => (([0, 0], [false]), kd, hs)) else (([0, 0], [false]), kd, hs)
def remF (kd : Int) (hs : List Hn) (k : Hn) : Bool × Int × List Hn := if k ∈ hs then (true, leftF kd (hs.erase k)) else (false, kd, hs)
theorem goneR_F {X' : Str} {kd : Int} (h : kindO (some X') = kd) : (kindO (goneR X'), hsO (goneR X')) = leftF kd X'.hs := by
  unfold goneR leftF
  cases he : X'.hs with
  | nil => rfl
  | cons x r => simp only [h, hsO, he]
section
variable {G : GG} {m : Mem} {p : Pl} {k : Hn}
theorem Out.same (h : G.is m) {m' : Mem} (hm : ∀ a, m a ≠ none → m' a = m a) : Out G G m m' p k :=
  ⟨⟨h.congr fun a ha => hm a (h.there ha), rfl, fun _ ha => .inl ha, fun a ha _ => hm a ha⟩, fun _ _ => rfl, fun _ _ _ hn => .inl hn, by omega⟩
theorem Out.come {m' : Mem} {X' : Str} (ht : G.to (G.come p k 8 X') m m') (hl : X'.hs.length ≤ (hsO (G.R p)).length + 1) : Out G (G.come p k 8 X') m m' p k := by
  refine ⟨ht, fun q hq => if_neg hq, fun r j n hn => ?_, ?_⟩
  · have hn : updN G.N p k (some 8) r j = some n := hn
    simp only [updN] at hn
    split at hn
    · rename_i h; cases hn; exact .inr ⟨h.1, h.2, rfl⟩
    · exact .inl hn
  · show (hsO (upd1 G.R p (some X') p)).length ≤ _
    rw [show upd1 G.R p (some X') p = some X' from if_pos rfl]; exact hl
theorem Out.go {m' : Mem} {X' : Str} {j : Hn} {n : Int} (ht : G.to (G.go p j n X') m m') (hl : X'.hs.length ≤ (hsO (G.R p)).length) : Out G (G.go p j n X') m m' p k := by
  refine ⟨ht, fun q hq => if_neg hq, fun r i n' hn => ?_, ?_⟩
  · have hn : updN G.N p j none r i = some n' := hn
    simp only [updN] at hn
    split at hn
    · cases hn
    · exact .inl hn
  · show (hsO (upd1 G.R p (goneR X') p)).length ≤ _
    rw [show upd1 G.R p (goneR X') p = goneR X' from if_pos rfl]
    unfold goneR
    cases he : X'.hs with
    | nil => simp [hsO]
    | cons x r => simp only [hsO, he] at hl ⊢; omega
theorem push_abs (h : G.is m) (hI : inAt G p k) {o : Bool} {y : Vars} (hy : gpushPost m G p k 8 o y) : ∃ G', Out G G' m y.m p k ∧ y.i = [(pushF (kindO (G.R p)) (hsO (G.R p)) k o).1] ∧ (kindO (G'.R p), hsO (G'.R p)) = (pushF (kindO (G.R p)) (hsO (G.R p)) k o).2 := by
  have hm := mayE_F h hI (listB (G.R p)) 1 (listB_iff _)
  rcases hy with ⟨a1, a2, a3⟩ | ⟨a1, a2, X', a3, a4, a5⟩
  · rw [hm] at a1 a2
    refine ⟨G, Out.same h fun a _ => by rw [a3], ?_, ?_⟩
    · rw [a2, pushF, if_neg a1]
    · rw [pushF, if_neg a1]
  · rw [hm] at a1
    refine ⟨_, Out.come a5 (by rw [a4]; cases o <;> simp [putE]), ?_, ?_⟩
    · rw [a2, pushF, if_pos a1]
    · rw [pushF, if_pos a1]
      show (kindO (upd1 G.R p (some X') p), hsO (upd1 G.R p (some X') p)) = _
      rw [show upd1 G.R p (some X') p = some X' from if_pos rfl]
      simp only [kindO, hsO, a3, a4]
theorem ins_abs (h : G.is m) (hI : inAt G p k) {i : Int} {y : Vars} (hy : ginsertPost m G p i k 8 y) : ∃ G', Out G G' m y.m p k ∧ y.i = [(insF (kindO (G.R p)) (hsO (G.R p)) k i).1] ∧ (kindO (G'.R p), hsO (G'.R p)) = (insF (kindO (G.R p)) (hsO (G.R p)) k i).2 := by
  have hm := mayE_F h hI (treeB (G.R p)) 2 (treeB_iff _)
  rcases hy with ⟨a1, a2, a3⟩ | ⟨a1, a2, a3, a4⟩ | ⟨a1, a2, a3, a4, X', a5, a6, a7⟩
  · rw [hm] at a1 a2
    refine ⟨G, Out.same h fun a _ => by rw [a3], ?_, ?_⟩
    · rw [a2, insF, if_neg a1]
    · rw [insF, if_neg a1]
  · rw [hm] at a1
    refine ⟨G, Out.same h a4, ?_, ?_⟩
    · rw [a3, insF, if_pos a1, if_pos a2]
    · rw [insF, if_pos a1, if_pos a2]
  · rw [hm] at a1
    have hn : ¬ (i < 0 ∨ ((hsO (G.R p)).length : Int) < i) := by omega
    refine ⟨_, Out.come a7 (by rw [a6, List.length_append, List.length_cons, List.length_take, List.length_drop]; omega), ?_, ?_⟩
    · rw [a4, insF, if_pos a1, if_neg hn]
    · rw [insF, if_pos a1, if_neg hn]
      show (kindO (upd1 G.R p (some X') p), hsO (upd1 G.R p (some X') p)) = _
      rw [show upd1 G.R p (some X') p = some X' from if_pos rfl]
      simp only [kindO, hsO, a5, a6]
theorem pop_abs (h : G.is m) {o : Bool} {y : Vars} (hy : gpopPost m G p o y) : ∃ G', Out G G' m y.m p k ∧ (y.i, y.b) = (popF (kindO (G.R p)) (hsO (G.R p)) o).1 ∧ (kindO (G'.R p), hsO (G'.R p)) = (popF (kindO (G.R p)) (hsO (G.R p)) o).2 := by
  rcases hy with ⟨a1, a2, a3, a4⟩ | ⟨j, n, X', a1, a2, a3, a4, a5, a6, a7, a8⟩
  · have hk : ¬ kindO (G.R p) = 1 := fun e => by rw [(listB_iff _).2 e] at a1; cases a1
    refine ⟨G, Out.same h fun a _ => by rw [a4], ?_, ?_⟩
    · rw [a2, a3, popF, if_neg hk]
    · rw [popF, if_neg hk]
  · have hk := (listB_iff _).1 a1
    refine ⟨_, Out.go a8 (by rw [a7]; exact List.length_erase_le), ?_, ?_⟩
    · rw [a3, a4, popF, if_pos hk, a2]
    · rw [popF, if_pos hk, a2]
      show (kindO (upd1 G.R p (goneR X') p), hsO (upd1 G.R p (goneR X') p)) = _
      show _ = leftF (kindO (G.R p)) ((hsO (G.R p)).erase j)
      rw [show upd1 G.R p (goneR X') p = goneR X' from if_pos rfl, hk, ← a7]
      exact goneR_F (by simp [kindO, a6])
theorem rem_abs (h : G.is m) (hI : inAt G p k) {y : Vars} (hy : gremovePost m G p k 8 y) : ∃ G', Out G G' m y.m p k ∧ y.b = [(remF (kindO (G.R p)) (hsO (G.R p)) k).1] ∧ (kindO (G'.R p), hsO (G'.R p)) = (remF (kindO (G.R p)) (hsO (G.R p)) k).2 := by
  rcases hy with ⟨a1, a2, a3⟩ | ⟨a1, a2, X, X', a3, a4, a5, a6⟩
  · have hk : k ∉ hsO (G.R p) := fun hk => a1 (hI.1.2 hk)
    refine ⟨G, Out.same h fun a _ => by rw [a3], ?_, ?_⟩
    · rw [a2, remF, if_neg hk]
    · rw [remF, if_neg hk]
  · have hk : k ∈ hsO (G.R p) := hI.1.1 a1
    have hX : hsO (G.R p) = X.hs := by rw [a3]; rfl
    refine ⟨_, Out.go a6 (by rw [a5, hX]; exact List.length_erase_le), ?_, ?_⟩
    · rw [a2, remF, if_pos hk]
    · rw [remF, if_pos hk]
      show (kindO (upd1 G.R p (goneR X') p), hsO (upd1 G.R p (goneR X') p)) = _
      rw [show upd1 G.R p (goneR X') p = goneR X' from if_pos rfl, hX, ← a5]
      exact goneR_F (by rw [a3]; simp [kindO, a4])
end

/-! two graphs beside each other -/
abbrev P1 : Pl := (1, 0, 0)
abbrev P2 : Pl := (2, 0, 0)
structure ApB (m0 : Mem) (Gg Ga : GG) (m : Mem) : Prop where
  ig : Gg.is m
  ia : Ga.is m
  dj : ∀ a, Gg.dom a → ¬ Ga.dom a
  fg : ∀ a, Gg.dom a → m0 a = none
  fa : ∀ a, Ga.dom a → m0 a = none
  kp : ∀ a, m0 a ≠ none → m a = m0 a
  ng : ∀ r k n, Gg.N r k = some n → n = 8 ∧ ((r = P1 ∧ k.2 = 1) ∨ (r = P2 ∧ k.2 = 2))
  na : ∀ r k n, Ga.N r k = some n → n = 8 ∧ r = P1 ∧ k.2 = 1
section
variable {m0 m m' : Mem} {Gg Ga G' : GG}
theorem ApB.g (b : ApB m0 Gg Ga m) {p : Pl} {k : Hn} (o : Out Gg G' m m' p k) (hp : (p = P1 ∧ k.2 = 1) ∨ (p = P2 ∧ k.2 = 2)) : ApB m0 G' Ga m' := by
  have old : ∀ a, m0 a ≠ none → ¬ Gg.dom a := fun a ha hd => ha (b.fg a hd)
  refine ⟨o.to.is', b.ia.congr fun a ha => o.to.keep a (b.ia.there ha) fun hd => b.dj a hd ha, fun a ha hd => ?_, fun a ha => ?_, b.fa, fun a ha => ?_, fun r j n hn => ?_, b.na⟩
  · rcases o.to.dom a ha with h | h
    · exact b.dj a h hd
    · exact b.ia.there hd h
  · rcases o.to.dom a ha with h | h
    · exact b.fg a h
    · cases e : m0 a with
      | none => rfl
      | some x => have := b.kp a (by rw [e]; simp); rw [h, e] at this; cases this
  · exact (o.to.keep a (by rw [b.kp a ha]; exact ha) (old a ha)).trans (b.kp a ha)
  · rcases o.sub r j n hn with h | ⟨rfl, rfl, rfl⟩
    · exact b.ng r j n h
    · exact ⟨rfl, hp⟩
theorem ApB.a (b : ApB m0 Gg Ga m) {k : Hn} (o : Out Ga G' m m' P1 k) (hk : k.2 = 1) : ApB m0 Gg G' m' := by
  have old : ∀ a, m0 a ≠ none → ¬ Ga.dom a := fun a ha hd => ha (b.fa a hd)
  refine ⟨b.ig.congr fun a ha => o.to.keep a (b.ig.there ha) fun hd => b.dj a ha hd, o.to.is', fun a ha hd => ?_, b.fg, fun a ha => ?_, fun a ha => ?_, b.ng, fun r j n hn => ?_⟩
  · rcases o.to.dom a hd with h | h
    · exact b.dj a ha h
    · exact b.ig.there ha h
  · rcases o.to.dom a ha with h | h
    · exact b.fa a h
    · cases e : m0 a with
      | none => rfl
      | some x => have := b.kp a (by rw [e]; simp); rw [h, e] at this; cases this
  · exact (o.to.keep a (by rw [b.kp a ha]; exact ha) (old a ha)).trans (b.kp a ha)
  · rcases o.sub r j n hn with h | ⟨rfl, rfl, rfl⟩
    · exact b.na r j n h
    · exact ⟨rfl, rfl, hk⟩
theorem ApB.more (b : ApB m0 Gg Ga m) (hm : ∀ a, m a ≠ none → m' a = m a) : ApB m0 Gg Ga m' :=
  ⟨b.ig.congr fun a ha => hm a (b.ig.there ha), b.ia.congr fun a ha => hm a (b.ia.there ha), b.dj, b.fg, b.fa, fun a ha => (hm a (by rw [b.kp a ha]; exact ha)).trans (b.kp a ha), b.ng, b.na⟩
theorem ApB.inG (b : ApB m0 Gg Ga m) {p : Pl} {k : Hn} (hp : (p = P1 ∧ k.2 = 1) ∨ (p = P2 ∧ k.2 = 2)) : inAt Gg p k := by
  have key : ∀ r, Gg.I k 8 = some r → r = p := fun r hr => by
    have := (b.ng r k 8 ((b.ig.nu k 8 r).1 hr)).2
    rcases hp with ⟨rfl, h1⟩ | ⟨rfl, h1⟩ <;> rcases this with ⟨rfl, h2⟩ | ⟨rfl, h2⟩
    · rfl
    · rw [h1] at h2; cases h2
    · rw [h1] at h2; cases h2
    · rfl
  have hit : k ∈ hsO (Gg.R p) → Gg.I k 8 = some p := fun hk => by
    obtain ⟨n, hn⟩ := Option.isSome_iff_exists.1 (b.ig.nhs.2 hk)
    obtain ⟨rfl, _⟩ := b.ng p k n hn
    exact (b.ig.nu k 8 p).2 hn
  have back : Gg.I k 8 = some p → k ∈ hsO (Gg.R p) := fun h => b.ig.nhs.1 (by rw [(b.ig.nu k 8 p).1 h]; rfl)
  refine ⟨⟨back, hit⟩, fun h => ?_, fun h => by rw [hit h]; rfl⟩
  obtain ⟨r, hr⟩ := Option.isSome_iff_exists.1 h
  rw [key r hr] at hr
  exact back hr
theorem ApB.inA (b : ApB m0 Gg Ga m) {k : Hn} : inAt Ga P1 k := by
  have key : ∀ r, Ga.I k 8 = some r → r = P1 := fun r hr => (b.na r k 8 ((b.ia.nu k 8 r).1 hr)).2.1
  have hit : k ∈ hsO (Ga.R P1) → Ga.I k 8 = some P1 := fun hk => by
    obtain ⟨n, hn⟩ := Option.isSome_iff_exists.1 (b.ia.nhs.2 hk)
    obtain ⟨rfl, _⟩ := b.na P1 k n hn
    exact (b.ia.nu k 8 P1).2 hn
  have back : Ga.I k 8 = some P1 → k ∈ hsO (Ga.R P1) := fun h => b.ia.nhs.1 (by rw [(b.ia.nu k 8 P1).1 h]; rfl)
  refine ⟨⟨back, hit⟩, fun h => ?_, fun h => by rw [hit h]; rfl⟩
  obtain ⟨r, hr⟩ := Option.isSome_iff_exists.1 h
  rw [key r hr] at hr
  exact back hr
end
/-- .. as one at P1 -/
structure ApS (m0 : Mem) (tg ta : Int) (c : Nat) (m : Mem) (Gg Ga : GG) : Prop where
  b : ApB m0 Gg Ga m
  g : tg = (Gg.g : Int) + 1
  a : ta = (Ga.g : Int) + 1
  eq : (kindO (Gg.R P1), hsO (Gg.R P1)) = (kindO (Ga.R P1), hsO (Ga.R P1))
  l1 : (hsO (Gg.R P1)).length ≤ c
  l2 : (hsO (Gg.R P2)).length ≤ c
def T_apC (m4 : Mem) (tg ta i : Int) (l : Value) : Tr := (.req (glenOK m4 tg 1 0 0) (.req ((([(0, ([(.li .i64 1), (.li .i64 0), (.li .i64 0)], 59)), (1, ([(.li .i64 2), (.li .i64 0), (.li .i64 0)], 59))] : List (Nat × Blk)) = [(0, ([(.li .i64 1), (.li .i64 0), (.li .i64 0)], 59)), (1, ([(.li .i64 2), (.li .i64 0), (.li .i64 0)], 59))]) ∧ (([] : List (Nat × MBlk)) = [])) (.req (glenOK m4 ta 1 0 0) (.req ((([(0, ([(.li .i64 1), (.li .i64 0), (.li .i64 0)], 59)), (1, ([(.li .i64 2), (.li .i64 0), (.li .i64 0)], 59))] : List (Nat × Blk)) = [(0, ([(.li .i64 1), (.li .i64 0), (.li .i64 0)], 59)), (1, ([(.li .i64 2), (.li .i64 0), (.li .i64 0)], 59))]) ∧ (([] : List (Nat × MBlk)) = [])) (.br (iNe (glenV m4 tg 1 0 0) (glenV m4 ta 1 0 0)) (.req ((([(0, ([(.li .i64 1), (.li .i64 0), (.li .i64 0)], 59)), (1, ([(.li .i64 2), (.li .i64 0), (.li .i64 0)], 59))] : List (Nat × Blk)) = [(0, ([(.li .i64 1), (.li .i64 0), (.li .i64 0)], 59)), (1, ([(.li .i64 2), (.li .i64 0), (.li .i64 0)], 59))]) ∧ (([] : List (Nat × MBlk)) = [])) (.req ((([(0, ([(.li .i64 1), (.li .i64 0), (.li .i64 0)], 59)), (1, ([(.li .i64 2), (.li .i64 0), (.li .i64 0)], 59))] : List (Nat × Blk)) = [(0, ([(.li .i64 1), (.li .i64 0), (.li .i64 0)], 59)), (1, ([(.li .i64 2), (.li .i64 0), (.li .i64 0)], 59))]) ∧ (([] : List (Nat × MBlk)) = [])) (.leaf (.up (.up (.up (.memo (.u (.c (.lb false))) m4))))))) (.req (gkindOK m4 tg 1 0 0) (.req ((([(0, ([(.li .i64 1), (.li .i64 0), (.li .i64 0)], 59)), (1, ([(.li .i64 2), (.li .i64 0), (.li .i64 0)], 59))] : List (Nat × Blk)) = [(0, ([(.li .i64 1), (.li .i64 0), (.li .i64 0)], 59)), (1, ([(.li .i64 2), (.li .i64 0), (.li .i64 0)], 59))]) ∧ (([] : List (Nat × MBlk)) = [])) (.req (gkindOK m4 ta 1 0 0) (.req ((([(0, ([(.li .i64 1), (.li .i64 0), (.li .i64 0)], 59)), (1, ([(.li .i64 2), (.li .i64 0), (.li .i64 0)], 59))] : List (Nat × Blk)) = [(0, ([(.li .i64 1), (.li .i64 0), (.li .i64 0)], 59)), (1, ([(.li .i64 2), (.li .i64 0), (.li .i64 0)], 59))]) ∧ (([] : List (Nat × MBlk)) = [])) (.br (iNe (gkindV m4 tg 1 0 0) (gkindV m4 ta 1 0 0)) (.leaf (.up (.up (.up (.memo (.u (.c (.lb false))) m4))))) (.lp (.mk [0] [] [] m4) (fun y5 j5 => (.req (glenOK y5.4 ta 1 0 0) (.br (iLt (hdI y5.1) (glenV y5.4 ta 1 0 0)) (.req (gatP y5.4 tg 1 0 0 (hdI y5.1)) (.any (gatQ y5.4 tg 1 0 0 (hdI y5.1)) (fun y6 => (.req (gatP y6.4 ta 1 0 0 (hdI y5.1)) (.any (gatQ y6.4 ta 1 0 0 (hdI y5.1)) (fun y7 => (.br (bNot (bAnd (iEq (hdI y6.1) (hdI y7.1)) (iEq (hdI (tlI y6.1)) (hdI (tlI y7.1))))) (.leaf (.up (.up (.up (.up (.memo (.u (.c (.lb false))) y7.4)))))) (.req ((([(0, (.u (.c (.sv l)))), (3, (.u (.c (.ptr 0 0)))), (4, (.u (.c (.ptr 1 0)))), (5, (.u (.c (.np tg 0)))), (6, (.u (.c (.np ta 0)))), (7, (.u (.c (.si .i64 i))))] : List (Nat × V)) = [(0, (.u (.c (.sv l)))), (3, (.u (.c (.ptr 0 0)))), (4, (.u (.c (.ptr 1 0)))), (5, (.u (.c (.np tg 0)))), (6, (.u (.c (.np ta 0)))), (7, (.u (.c (.si .i64 i))))]) ∧ (([(0, ([(.li .i64 1), (.li .i64 0), (.li .i64 0)], 59)), (1, ([(.li .i64 2), (.li .i64 0), (.li .i64 0)], 59))] : List (Nat × Blk)) = [(0, ([(.li .i64 1), (.li .i64 0), (.li .i64 0)], 59)), (1, ([(.li .i64 2), (.li .i64 0), (.li .i64 0)], 59))])) (.leaf (.again (.mk [(iAdd .i64 (hdI y5.1) 1)] [] [] y7.4))))))))))) (.req ((([(0, (.u (.c (.sv l)))), (3, (.u (.c (.ptr 0 0)))), (4, (.u (.c (.ptr 1 0)))), (5, (.u (.c (.np tg 0)))), (6, (.u (.c (.np ta 0))))] : List (Nat × V)) = [(0, (.u (.c (.sv l)))), (3, (.u (.c (.ptr 0 0)))), (4, (.u (.c (.ptr 1 0)))), (5, (.u (.c (.np tg 0)))), (6, (.u (.c (.np ta 0))))]) ∧ (([(0, ([(.li .i64 1), (.li .i64 0), (.li .i64 0)], 59)), (1, ([(.li .i64 2), (.li .i64 0), (.li .i64 0)], 59))] : List (Nat × Blk)) = [(0, ([(.li .i64 1), (.li .i64 0), (.li .i64 0)], 59)), (1, ([(.li .i64 2), (.li .i64 0), (.li .i64 0)], 59))])) (.leaf (.up (.up (.up (.again (.mk [(iAdd .i64 i 1)] [] [] y5.4)))))))))))))))))))))
def T_apO (m3 : Mem) (tg ta i : Int) (l : Value) (dd at' k1 k2 pm ps pa : Int) (mn fr : Bool) : Tr := (.br (iEq dd 0) (.req (gpushP m3 tg pm ps pa k1 k2 8 fr) (.any (gpushQ m3 tg pm ps pa k1 k2 8 fr) (fun y5 => (.br mn (.req (gpushP y5.4 ta pm ps pa k1 k2 8 fr) (.any (gpushQ y5.4 ta pm ps pa k1 k2 8 fr) (fun y6 => (.br (iNe (hdI y6.1) (hdI y5.1)) (.leaf (.up (.up (.up (.memo (.u (.c (.lb false))) y6.4))))) (.req ((([(0, (.u (.c (.sv l)))), (3, (.u (.c (.ptr 0 0)))), (4, (.u (.c (.ptr 1 0)))), (5, (.u (.c (.np tg 0)))), (6, (.u (.c (.np ta 0)))), (7, (.u (.c (.si .i64 i))))] : List (Nat × V)) = [(0, (.u (.c (.sv l)))), (3, (.u (.c (.ptr 0 0)))), (4, (.u (.c (.ptr 1 0)))), (5, (.u (.c (.np tg 0)))), (6, (.u (.c (.np ta 0)))), (7, (.u (.c (.si .i64 i))))]) ∧ (([(0, ([(.li .i64 1), (.li .i64 0), (.li .i64 0)], 59)), (1, ([(.li .i64 2), (.li .i64 0), (.li .i64 0)], 59))] : List (Nat × Blk)) = [(0, ([(.li .i64 1), (.li .i64 0), (.li .i64 0)], 59)), (1, ([(.li .i64 2), (.li .i64 0), (.li .i64 0)], 59))])) (.leaf (.again (.mk [1] [] [] y6.4)))))))) (.req ((([(0, (.u (.c (.sv l)))), (3, (.u (.c (.ptr 0 0)))), (4, (.u (.c (.ptr 1 0)))), (5, (.u (.c (.np tg 0)))), (6, (.u (.c (.np ta 0)))), (7, (.u (.c (.si .i64 i))))] : List (Nat × V)) = [(0, (.u (.c (.sv l)))), (3, (.u (.c (.ptr 0 0)))), (4, (.u (.c (.ptr 1 0)))), (5, (.u (.c (.np tg 0)))), (6, (.u (.c (.np ta 0)))), (7, (.u (.c (.si .i64 i))))]) ∧ (([(0, ([(.li .i64 1), (.li .i64 0), (.li .i64 0)], 59)), (1, ([(.li .i64 2), (.li .i64 0), (.li .i64 0)], 59))] : List (Nat × Blk)) = [(0, ([(.li .i64 1), (.li .i64 0), (.li .i64 0)], 59)), (1, ([(.li .i64 2), (.li .i64 0), (.li .i64 0)], 59))])) (.leaf (.again (.mk [1] [] [] y5.4)))))))) (.br (iEq dd 2) (.req (ginsertP m3 tg pm ps pa at' k1 k2 8) (.any (ginsertQ m3 tg pm ps pa at' k1 k2 8) (fun y5 => (.br mn (.req (ginsertP y5.4 ta pm ps pa at' k1 k2 8) (.any (ginsertQ y5.4 ta pm ps pa at' k1 k2 8) (fun y6 => (.br (iNe (hdI y6.1) (hdI y5.1)) (.leaf (.up (.up (.up (.memo (.u (.c (.lb false))) y6.4))))) (.req ((([(0, (.u (.c (.sv l)))), (3, (.u (.c (.ptr 0 0)))), (4, (.u (.c (.ptr 1 0)))), (5, (.u (.c (.np tg 0)))), (6, (.u (.c (.np ta 0)))), (7, (.u (.c (.si .i64 i))))] : List (Nat × V)) = [(0, (.u (.c (.sv l)))), (3, (.u (.c (.ptr 0 0)))), (4, (.u (.c (.ptr 1 0)))), (5, (.u (.c (.np tg 0)))), (6, (.u (.c (.np ta 0)))), (7, (.u (.c (.si .i64 i))))]) ∧ (([(0, ([(.li .i64 1), (.li .i64 0), (.li .i64 0)], 59)), (1, ([(.li .i64 2), (.li .i64 0), (.li .i64 0)], 59))] : List (Nat × Blk)) = [(0, ([(.li .i64 1), (.li .i64 0), (.li .i64 0)], 59)), (1, ([(.li .i64 2), (.li .i64 0), (.li .i64 0)], 59))])) (.leaf (.again (.mk [1] [] [] y6.4)))))))) (.req ((([(0, (.u (.c (.sv l)))), (3, (.u (.c (.ptr 0 0)))), (4, (.u (.c (.ptr 1 0)))), (5, (.u (.c (.np tg 0)))), (6, (.u (.c (.np ta 0)))), (7, (.u (.c (.si .i64 i))))] : List (Nat × V)) = [(0, (.u (.c (.sv l)))), (3, (.u (.c (.ptr 0 0)))), (4, (.u (.c (.ptr 1 0)))), (5, (.u (.c (.np tg 0)))), (6, (.u (.c (.np ta 0)))), (7, (.u (.c (.si .i64 i))))]) ∧ (([(0, ([(.li .i64 1), (.li .i64 0), (.li .i64 0)], 59)), (1, ([(.li .i64 2), (.li .i64 0), (.li .i64 0)], 59))] : List (Nat × Blk)) = [(0, ([(.li .i64 1), (.li .i64 0), (.li .i64 0)], 59)), (1, ([(.li .i64 2), (.li .i64 0), (.li .i64 0)], 59))])) (.leaf (.again (.mk [1] [] [] y5.4)))))))) (.br (iEq dd 1) (.req (gpopP m3 tg pm ps pa fr) (.any (gpopQ m3 tg pm ps pa fr) (fun y5 => (.br mn (.req (gpopP y5.4 ta pm ps pa fr) (.any (gpopQ y5.4 ta pm ps pa fr) (fun y6 => (.br (bNot (bAnd (iEq (hdI y5.1) (hdI y6.1)) (iEq (hdI (tlI y5.1)) (hdI (tlI y6.1))))) (.leaf (.up (.up (.up (.memo (.u (.c (.lb false))) y6.4))))) (.br (bNot (bEq (hdB y5.2) (hdB y6.2))) (.leaf (.up (.up (.up (.memo (.u (.c (.lb false))) y6.4))))) (.req ((([(0, (.u (.c (.sv l)))), (3, (.u (.c (.ptr 0 0)))), (4, (.u (.c (.ptr 1 0)))), (5, (.u (.c (.np tg 0)))), (6, (.u (.c (.np ta 0)))), (7, (.u (.c (.si .i64 i))))] : List (Nat × V)) = [(0, (.u (.c (.sv l)))), (3, (.u (.c (.ptr 0 0)))), (4, (.u (.c (.ptr 1 0)))), (5, (.u (.c (.np tg 0)))), (6, (.u (.c (.np ta 0)))), (7, (.u (.c (.si .i64 i))))]) ∧ (([(0, ([(.li .i64 1), (.li .i64 0), (.li .i64 0)], 59)), (1, ([(.li .i64 2), (.li .i64 0), (.li .i64 0)], 59))] : List (Nat × Blk)) = [(0, ([(.li .i64 1), (.li .i64 0), (.li .i64 0)], 59)), (1, ([(.li .i64 2), (.li .i64 0), (.li .i64 0)], 59))])) (.leaf (.again (.mk [1] [] [] y6.4))))))))) (.req ((([(0, (.u (.c (.sv l)))), (3, (.u (.c (.ptr 0 0)))), (4, (.u (.c (.ptr 1 0)))), (5, (.u (.c (.np tg 0)))), (6, (.u (.c (.np ta 0)))), (7, (.u (.c (.si .i64 i))))] : List (Nat × V)) = [(0, (.u (.c (.sv l)))), (3, (.u (.c (.ptr 0 0)))), (4, (.u (.c (.ptr 1 0)))), (5, (.u (.c (.np tg 0)))), (6, (.u (.c (.np ta 0)))), (7, (.u (.c (.si .i64 i))))]) ∧ (([(0, ([(.li .i64 1), (.li .i64 0), (.li .i64 0)], 59)), (1, ([(.li .i64 2), (.li .i64 0), (.li .i64 0)], 59))] : List (Nat × Blk)) = [(0, ([(.li .i64 1), (.li .i64 0), (.li .i64 0)], 59)), (1, ([(.li .i64 2), (.li .i64 0), (.li .i64 0)], 59))])) (.leaf (.again (.mk [1] [] [] y5.4)))))))) (.br (iEq dd 3) (.req (gremoveP m3 tg pm ps pa k1 k2 8) (.any (gremoveQ m3 tg pm ps pa k1 k2 8) (fun y5 => (.br mn (.req (gremoveP y5.4 ta pm ps pa k1 k2 8) (.any (gremoveQ y5.4 ta pm ps pa k1 k2 8) (fun y6 => (.br (bNot (bEq (hdB y6.2) (hdB y5.2))) (.leaf (.up (.up (.up (.memo (.u (.c (.lb false))) y6.4))))) (.req ((([(0, (.u (.c (.sv l)))), (3, (.u (.c (.ptr 0 0)))), (4, (.u (.c (.ptr 1 0)))), (5, (.u (.c (.np tg 0)))), (6, (.u (.c (.np ta 0)))), (7, (.u (.c (.si .i64 i))))] : List (Nat × V)) = [(0, (.u (.c (.sv l)))), (3, (.u (.c (.ptr 0 0)))), (4, (.u (.c (.ptr 1 0)))), (5, (.u (.c (.np tg 0)))), (6, (.u (.c (.np ta 0)))), (7, (.u (.c (.si .i64 i))))]) ∧ (([(0, ([(.li .i64 1), (.li .i64 0), (.li .i64 0)], 59)), (1, ([(.li .i64 2), (.li .i64 0), (.li .i64 0)], 59))] : List (Nat × Blk)) = [(0, ([(.li .i64 1), (.li .i64 0), (.li .i64 0)], 59)), (1, ([(.li .i64 2), (.li .i64 0), (.li .i64 0)], 59))])) (.leaf (.again (.mk [1] [] [] y6.4)))))))) (.req ((([(0, (.u (.c (.sv l)))), (3, (.u (.c (.ptr 0 0)))), (4, (.u (.c (.ptr 1 0)))), (5, (.u (.c (.np tg 0)))), (6, (.u (.c (.np ta 0)))), (7, (.u (.c (.si .i64 i))))] : List (Nat × V)) = [(0, (.u (.c (.sv l)))), (3, (.u (.c (.ptr 0 0)))), (4, (.u (.c (.ptr 1 0)))), (5, (.u (.c (.np tg 0)))), (6, (.u (.c (.np ta 0)))), (7, (.u (.c (.si .i64 i))))]) ∧ (([(0, ([(.li .i64 1), (.li .i64 0), (.li .i64 0)], 59)), (1, ([(.li .i64 2), (.li .i64 0), (.li .i64 0)], 59))] : List (Nat × Blk)) = [(0, ([(.li .i64 1), (.li .i64 0), (.li .i64 0)], 59)), (1, ([(.li .i64 2), (.li .i64 0), (.li .i64 0)], 59))])) (.leaf (.again (.mk [1] [] [] y5.4)))))))) (.req ((([(0, (.u (.c (.sv l)))), (3, (.u (.c (.ptr 0 0)))), (4, (.u (.c (.ptr 1 0)))), (5, (.u (.c (.np tg 0)))), (6, (.u (.c (.np ta 0)))), (7, (.u (.c (.si .i64 i))))] : List (Nat × V)) = [(0, (.u (.c (.sv l)))), (3, (.u (.c (.ptr 0 0)))), (4, (.u (.c (.ptr 1 0)))), (5, (.u (.c (.np tg 0)))), (6, (.u (.c (.np ta 0)))), (7, (.u (.c (.si .i64 i))))]) ∧ (([(0, ([(.li .i64 1), (.li .i64 0), (.li .i64 0)], 59)), (1, ([(.li .i64 2), (.li .i64 0), (.li .i64 0)], 59))] : List (Nat × Blk)) = [(0, ([(.li .i64 1), (.li .i64 0), (.li .i64 0)], 59)), (1, ([(.li .i64 2), (.li .i64 0), (.li .i64 0)], 59))])) (.leaf (.again (.mk [1] [] [] m3))))))))
def T_apart (m : Mem) (l : Value) : Tr := (.br (isSlV (pl l)) (.br (iGt (slN (pl l)) 200) (.leaf (.memo (.u (.c (.lb true))) m)) (.req (gnewP m) (.any (gnewQ m) (fun y0 => (.req (gnewP y0.4) (.any (gnewQ y0.4) (fun y1 => (.lp (.mk [0] [] [] y1.4) (fun y2 j2 => (.br (isSlV (pl l)) (.br (iLt (hdI y2.1) (slN (pl l))) (.br (inSl (pl l) (hdI y2.1)) (.br (okL y2.4 (slB (pl l)) (aOff (slO (pl l)) (hdI y2.1) 9) [(.li .i64 0), (.li .i64 0), (.li .i64 0), (.li .i64 0), (.li .i64 0), (.li .i64 0), (.li .i64 0), (.li .u64 0), (.lb false)]) (.lp (.mk [0] [] [] y2.4) (fun y3 j3 => (.br (iZero? (hdI y3.1)) (.br (bNot (iEq (iRem (gI y2.4 (slB (pl l)) (.succ (.succ (.succ (aOff (slO (pl l)) (hdI y2.1) 9))))) 2) 0)) (.req ((([(0, (.u (.c (.sv l)))), (3, (.u (.c (.ptr 0 0)))), (4, (.u (.c (.ptr 1 0)))), (5, (.u (.c (.np (hdI y0.1) 0)))), (6, (.u (.c (.np (hdI y1.1) 0)))), (7, (.u (.c (.si .i64 (hdI y2.1))))), (8, (.u (.c (.ptr 2 0)))), (9, (.u (.c (.sb (iEq (iRem (gI y2.4 (slB (pl l)) (.succ (.succ (.succ (aOff (slO (pl l)) (hdI y2.1) 9))))) 2) 0))))), (10, (.u (.c (.ptr 3 0)))), (11, (.u (.c (.ptr 4 0))))] : List (Nat × V)) = [(0, (.u (.c (.sv l)))), (3, (.u (.c (.ptr 0 0)))), (4, (.u (.c (.ptr 1 0)))), (5, (.u (.c (.np (hdI y0.1) 0)))), (6, (.u (.c (.np (hdI y1.1) 0)))), (7, (.u (.c (.si .i64 (hdI y2.1))))), (8, (.u (.c (.ptr 2 0)))), (9, (.u (.c (.sb (iEq (iRem (gI y2.4 (slB (pl l)) (.succ (.succ (.succ (aOff (slO (pl l)) (hdI y2.1) 9))))) 2) 0))))), (10, (.u (.c (.ptr 3 0)))), (11, (.u (.c (.ptr 4 0))))]) ∧ (([(0, ([(.li .i64 1), (.li .i64 0), (.li .i64 0)], 59)), (1, ([(.li .i64 2), (.li .i64 0), (.li .i64 0)], 59)), (2, ([(.si .i64 (gI y2.4 (slB (pl l)) (aOff (slO (pl l)) (hdI y2.1) 9))), (.si .i64 (gI y2.4 (slB (pl l)) (.succ (aOff (slO (pl l)) (hdI y2.1) 9)))), (.si .i64 (gI y2.4 (slB (pl l)) (.succ (.succ (aOff (slO (pl l)) (hdI y2.1) 9))))), (.si .i64 (gI y2.4 (slB (pl l)) (.succ (.succ (.succ (aOff (slO (pl l)) (hdI y2.1) 9)))))), (.si .i64 (gI y2.4 (slB (pl l)) (.succ (.succ (.succ (.succ (aOff (slO (pl l)) (hdI y2.1) 9))))))), (.si .i64 (gI y2.4 (slB (pl l)) (.succ (.succ (.succ (.succ (.succ (aOff (slO (pl l)) (hdI y2.1) 9)))))))), (.si .i64 (gI y2.4 (slB (pl l)) (.succ (.succ (.succ (.succ (.succ (.succ (aOff (slO (pl l)) (hdI y2.1) 9))))))))), (.si .u64 (gI y2.4 (slB (pl l)) (.succ (.succ (.succ (.succ (.succ (.succ (.succ (aOff (slO (pl l)) (hdI y2.1) 9)))))))))), (.sb (gB y2.4 (slB (pl l)) (.succ (.succ (.succ (.succ (.succ (.succ (.succ (.succ (aOff (slO (pl l)) (hdI y2.1) 9)))))))))))], 63))] : List (Nat × Blk)) = [(0, ([(.li .i64 1), (.li .i64 0), (.li .i64 0)], 59)), (1, ([(.li .i64 2), (.li .i64 0), (.li .i64 0)], 59)), (2, ([(.si .i64 (gI y2.4 (slB (pl l)) (aOff (slO (pl l)) (hdI y2.1) 9))), (.si .i64 (gI y2.4 (slB (pl l)) (.succ (aOff (slO (pl l)) (hdI y2.1) 9)))), (.si .i64 (gI y2.4 (slB (pl l)) (.succ (.succ (aOff (slO (pl l)) (hdI y2.1) 9))))), (.si .i64 (gI y2.4 (slB (pl l)) (.succ (.succ (.succ (aOff (slO (pl l)) (hdI y2.1) 9)))))), (.si .i64 (gI y2.4 (slB (pl l)) (.succ (.succ (.succ (.succ (aOff (slO (pl l)) (hdI y2.1) 9))))))), (.si .i64 (gI y2.4 (slB (pl l)) (.succ (.succ (.succ (.succ (.succ (aOff (slO (pl l)) (hdI y2.1) 9)))))))), (.si .i64 (gI y2.4 (slB (pl l)) (.succ (.succ (.succ (.succ (.succ (.succ (aOff (slO (pl l)) (hdI y2.1) 9))))))))), (.si .u64 (gI y2.4 (slB (pl l)) (.succ (.succ (.succ (.succ (.succ (.succ (.succ (aOff (slO (pl l)) (hdI y2.1) 9)))))))))), (.sb (gB y2.4 (slB (pl l)) (.succ (.succ (.succ (.succ (.succ (.succ (.succ (.succ (aOff (slO (pl l)) (hdI y2.1) 9)))))))))))], 63))])) (.leaf (.again (.mk [1, (iConv .i64 (iConv .u8 (iBit .and .i64 (gI y2.4 (slB (pl l)) (.succ (.succ (.succ (.succ (.succ (.succ (aOff (slO (pl l)) (hdI y2.1) 9)))))))) 31))), 2, 2, 0, 0] [] [] y2.4)))) (.req ((([(0, (.u (.c (.sv l)))), (3, (.u (.c (.ptr 0 0)))), (4, (.u (.c (.ptr 1 0)))), (5, (.u (.c (.np (hdI y0.1) 0)))), (6, (.u (.c (.np (hdI y1.1) 0)))), (7, (.u (.c (.si .i64 (hdI y2.1))))), (8, (.u (.c (.ptr 2 0)))), (9, (.u (.c (.sb (iEq (iRem (gI y2.4 (slB (pl l)) (.succ (.succ (.succ (aOff (slO (pl l)) (hdI y2.1) 9))))) 2) 0))))), (10, (.u (.c (.ptr 3 0)))), (11, (.u (.c (.ptr 4 0))))] : List (Nat × V)) = [(0, (.u (.c (.sv l)))), (3, (.u (.c (.ptr 0 0)))), (4, (.u (.c (.ptr 1 0)))), (5, (.u (.c (.np (hdI y0.1) 0)))), (6, (.u (.c (.np (hdI y1.1) 0)))), (7, (.u (.c (.si .i64 (hdI y2.1))))), (8, (.u (.c (.ptr 2 0)))), (9, (.u (.c (.sb (iEq (iRem (gI y2.4 (slB (pl l)) (.succ (.succ (.succ (aOff (slO (pl l)) (hdI y2.1) 9))))) 2) 0))))), (10, (.u (.c (.ptr 3 0)))), (11, (.u (.c (.ptr 4 0))))]) ∧ (([(0, ([(.li .i64 1), (.li .i64 0), (.li .i64 0)], 59)), (1, ([(.li .i64 2), (.li .i64 0), (.li .i64 0)], 59)), (2, ([(.si .i64 (gI y2.4 (slB (pl l)) (aOff (slO (pl l)) (hdI y2.1) 9))), (.si .i64 (gI y2.4 (slB (pl l)) (.succ (aOff (slO (pl l)) (hdI y2.1) 9)))), (.si .i64 (gI y2.4 (slB (pl l)) (.succ (.succ (aOff (slO (pl l)) (hdI y2.1) 9))))), (.si .i64 (gI y2.4 (slB (pl l)) (.succ (.succ (.succ (aOff (slO (pl l)) (hdI y2.1) 9)))))), (.si .i64 (gI y2.4 (slB (pl l)) (.succ (.succ (.succ (.succ (aOff (slO (pl l)) (hdI y2.1) 9))))))), (.si .i64 (gI y2.4 (slB (pl l)) (.succ (.succ (.succ (.succ (.succ (aOff (slO (pl l)) (hdI y2.1) 9)))))))), (.si .i64 (gI y2.4 (slB (pl l)) (.succ (.succ (.succ (.succ (.succ (.succ (aOff (slO (pl l)) (hdI y2.1) 9))))))))), (.si .u64 (gI y2.4 (slB (pl l)) (.succ (.succ (.succ (.succ (.succ (.succ (.succ (aOff (slO (pl l)) (hdI y2.1) 9)))))))))), (.sb (gB y2.4 (slB (pl l)) (.succ (.succ (.succ (.succ (.succ (.succ (.succ (.succ (aOff (slO (pl l)) (hdI y2.1) 9)))))))))))], 63))] : List (Nat × Blk)) = [(0, ([(.li .i64 1), (.li .i64 0), (.li .i64 0)], 59)), (1, ([(.li .i64 2), (.li .i64 0), (.li .i64 0)], 59)), (2, ([(.si .i64 (gI y2.4 (slB (pl l)) (aOff (slO (pl l)) (hdI y2.1) 9))), (.si .i64 (gI y2.4 (slB (pl l)) (.succ (aOff (slO (pl l)) (hdI y2.1) 9)))), (.si .i64 (gI y2.4 (slB (pl l)) (.succ (.succ (aOff (slO (pl l)) (hdI y2.1) 9))))), (.si .i64 (gI y2.4 (slB (pl l)) (.succ (.succ (.succ (aOff (slO (pl l)) (hdI y2.1) 9)))))), (.si .i64 (gI y2.4 (slB (pl l)) (.succ (.succ (.succ (.succ (aOff (slO (pl l)) (hdI y2.1) 9))))))), (.si .i64 (gI y2.4 (slB (pl l)) (.succ (.succ (.succ (.succ (.succ (aOff (slO (pl l)) (hdI y2.1) 9)))))))), (.si .i64 (gI y2.4 (slB (pl l)) (.succ (.succ (.succ (.succ (.succ (.succ (aOff (slO (pl l)) (hdI y2.1) 9))))))))), (.si .u64 (gI y2.4 (slB (pl l)) (.succ (.succ (.succ (.succ (.succ (.succ (.succ (aOff (slO (pl l)) (hdI y2.1) 9)))))))))), (.sb (gB y2.4 (slB (pl l)) (.succ (.succ (.succ (.succ (.succ (.succ (.succ (.succ (aOff (slO (pl l)) (hdI y2.1) 9)))))))))))], 63))])) (.leaf (.again (.mk [1, (iConv .i64 (iConv .u8 (iBit .and .i64 (gI y2.4 (slB (pl l)) (.succ (.succ (.succ (.succ (.succ (.succ (aOff (slO (pl l)) (hdI y2.1) 9)))))))) 31))), 1, 1, 0, 0] [] [] y2.4))))) (.lp (.mk [0] [] [] y3.4) (fun y4 j4 => (.br (iZero? (hdI y4.1)) (T_apO y3.4 (hdI y0.1) (hdI y1.1) (hdI y2.1) l (gI y2.4 (slB (pl l)) (aOff (slO (pl l)) (hdI y2.1) 9)) (gI y2.4 (slB (pl l)) (.succ (aOff (slO (pl l)) (hdI y2.1) 9))) (hdI (tlI y3.1)) (hdI (tlI (tlI y3.1))) (hdI (tlI (tlI (tlI y3.1)))) (hdI (tlI (tlI (tlI (tlI y3.1))))) (hdI (tlI (tlI (tlI (tlI (tlI y3.1)))))) (iEq (iRem (gI y2.4 (slB (pl l)) (.succ (.succ (.succ (aOff (slO (pl l)) (hdI y2.1) 9))))) 2) 0) (gB y2.4 (slB (pl l)) (.succ (.succ (.succ (.succ (.succ (.succ (.succ (.succ (aOff (slO (pl l)) (hdI y2.1) 9))))))))))) (T_apC y4.4 (hdI y0.1) (hdI y1.1) (hdI y2.1) l))))))) (.no 70)) (.no 104)) (.leaf (.up (.memo (.u (.c (.lb true))) y2.4)))) (.no 123))))))))))) (.no 123))
theorem apO_walk {m0 m3 : Mem} {tg ta i : Int} {l : Value} {dd at' k1 k2 pm ps pa : Int} {mn fr : Bool} {c : Nat} {Gg Ga : GG} (s : ApS m0 tg ta c m3 Gg Ga) (hc : c < 1000) (hk : okH (k1, k2)) (hP : (mn = true ∧ (pm, ps, pa) = P1 ∧ k2 = 1) ∨ (mn = false ∧ (pm, ps, pa) = P2 ∧ k2 = 2)) {R : Leaf → Prop}
    (hR : ∀ m, (∃ Gg' Ga', ApS m0 tg ta (c + 1) m Gg' Ga') → R (.again ⟨[1], [], [], m⟩)) : (T_apO m3 tg ta i l dd at' k1 k2 pm ps pa mn fr).sat R := by
  obtain ⟨b, rfl, rfl, heq, l1, l2⟩ := s
  have e1 : kindO (Gg.R P1) = kindO (Ga.R P1) := congrArg (·.1) heq
  have e2 : hsO (Gg.R P1) = hsO (Ga.R P1) := congrArg (·.2) heq
  have h8 : inI 8 := by unfold inI; omega
  have hp1 : okP' P1 := by refine ⟨?_, ?_, ?_⟩ <;> simp only [inI] <;> omega
  have hp : okP' (pm, ps, pa) := by
    rcases hP with ⟨_, e, _⟩ | ⟨_, e, _⟩ <;> rw [e]
    · exact hp1
    · refine ⟨?_, ?_, ?_⟩ <;> simp only [inI] <;> omega
  have hside : ((pm, ps, pa) = P1 ∧ (k1, k2).2 = 1) ∨ ((pm, ps, pa) = P2 ∧ (k1, k2).2 = 2) := hP.imp (fun h => ⟨h.2.1, h.2.2⟩) (fun h => ⟨h.2.1, h.2.2⟩)
  have hlen : (hsO (Gg.R (pm, ps, pa))).length ≤ c := by
    rcases hP with ⟨_, e, _⟩ | ⟨_, e, _⟩ <;> rw [e] <;> assumption
  have gpre : gpushPre Gg m3 ((Gg.g : Int) + 1) pm ps pa k1 k2 8 := ⟨rfl, b.ig, hp, hk, h8⟩
  -- g alone
  have one : ∀ {G' : GG} {m' : Mem}, Out Gg G' m3 m' (pm, ps, pa) (k1, k2) → mn = false → R (.again ⟨[1], [], [], m'⟩) := by
    intro G' m' o hmn
    have hpe : (pm, ps, pa) = P2 := by
      rcases hP with ⟨h, _⟩ | ⟨_, h, _⟩
      · rw [h] at hmn; cases hmn
      · exact h
    have hl := o.len
    rw [hpe] at hl
    have h1 := o.oth P1 (by rw [hpe]; decide)
    exact hR m' ⟨G', Ga, b.g o hside, by rw [o.to.g], rfl, by rw [h1]; exact heq, by rw [h1]; omega, by omega⟩
  -- both
  have two : ∀ {G1 G2 : GG} {m1 m2 : Mem}, Out Gg G1 m3 m1 (pm, ps, pa) (k1, k2) → mn = true → Out Ga G2 m1 m2 P1 (k1, k2) → (kindO (G1.R P1), hsO (G1.R P1)) = (kindO (G2.R P1), hsO (G2.R P1)) → R (.again ⟨[1], [], [], m2⟩) := by
    intro G1 G2 m1 m2 o1 hmn o2 he
    obtain ⟨hpe, hk2⟩ : (pm, ps, pa) = P1 ∧ k2 = 1 := by
      rcases hP with ⟨_, h⟩ | ⟨h, _⟩
      · exact h
      · rw [h] at hmn; cases hmn
    have hl := o1.len
    rw [hpe] at hl
    have h2 := o1.oth P2 (by rw [hpe]; decide)
    exact hR m2 ⟨G1, G2, (b.g o1 hside).a o2 hk2, by rw [o1.to.g], by rw [o2.to.g], he, by omega, by rw [h2]; omega⟩
  have mid : ∀ {G1 : GG} {m1 : Mem}, Out Gg G1 m3 m1 (pm, ps, pa) (k1, k2) → mn = true → ApB m0 G1 Ga m1 ∧ pm = 1 ∧ ps = 0 ∧ pa = 0 ∧ k2 = 1 := by
    intro G1 m1 o1 hmn
    obtain ⟨hpe, hk2⟩ : (pm, ps, pa) = P1 ∧ k2 = 1 := by
      rcases hP with ⟨_, h⟩ | ⟨h, _⟩
      · exact h
      · rw [h] at hmn; cases hmn
    simp only [Prod.mk.injEq] at hpe
    exact ⟨b.g o1 hside, hpe.1, hpe.2.1, hpe.2.2, hk2⟩
  unfold T_apO
  refine ⟨fun _ => ?_, fun _ => ⟨fun _ => ?_, fun _ => ⟨fun _ => ?_, fun _ => ⟨fun _ => ?_, fun _ => ?_⟩⟩⟩⟩
  -- Push
  · rw [sat_req]
    refine ⟨⟨Gg, gpre⟩, ?_⟩
    rw [sat_any]
    rintro ⟨yi, yb, yv, ym⟩ hy
    obtain ⟨G1, o1, r1, r2⟩ := push_abs b.ig (b.inG hside) (hy Gg gpre)
    simp only at o1 r1
    subst r1
    cases hmn : mn with
    | false => rw [sat_brF, sat_req]; exact ⟨by simp, one o1 hmn⟩
    | true =>
      obtain ⟨b1, rfl, rfl, rfl, rfl⟩ := mid o1 hmn
      have apre : gpushPre Ga ym ((Ga.g : Int) + 1) 1 0 0 k1 1 8 := ⟨rfl, b1.ia, hp1, hk, h8⟩
      rw [sat_brT, sat_req]
      refine ⟨⟨Ga, apre⟩, ?_⟩
      rw [sat_any]
      rintro ⟨zi, zb, zv, zm⟩ hz
      obtain ⟨G2, o2, q1, q2⟩ := push_abs b1.ia b1.inA (hz Ga apre)
      simp only at o2 q1
      subst q1
      have e1' : kindO (Gg.R (1, 0, 0)) = kindO (Ga.R (1, 0, 0)) := e1
      have e2' : hsO (Gg.R (1, 0, 0)) = hsO (Ga.R (1, 0, 0)) := e2
      simp only [hdI, e1', e2']
      rw [brF (by simp [iNe]), sat_req]
      refine ⟨by simp, two o1 hmn o2 ?_⟩
      rw [r2, q2, e1', e2']
  -- Insert
  · have ipre : ginsertPre Gg m3 ((Gg.g : Int) + 1) pm ps pa k1 k2 8 := ⟨gpre, by omega⟩
    rw [sat_req]
    refine ⟨⟨Gg, ipre⟩, ?_⟩
    rw [sat_any]
    rintro ⟨yi, yb, yv, ym⟩ hy
    obtain ⟨G1, o1, r1, r2⟩ := ins_abs b.ig (b.inG hside) (hy Gg ipre)
    simp only at o1 r1
    subst r1
    cases hmn : mn with
    | false => rw [sat_brF, sat_req]; exact ⟨by simp, one o1 hmn⟩
    | true =>
      obtain ⟨b1, rfl, rfl, rfl, rfl⟩ := mid o1 hmn
      have e1' : kindO (Gg.R (1, 0, 0)) = kindO (Ga.R (1, 0, 0)) := e1
      have e2' : hsO (Gg.R (1, 0, 0)) = hsO (Ga.R (1, 0, 0)) := e2
      have apre : ginsertPre Ga ym ((Ga.g : Int) + 1) 1 0 0 k1 1 8 := ⟨⟨rfl, b1.ia, hp1, hk, h8⟩, by rw [← e2']; omega⟩
      rw [sat_brT, sat_req]
      refine ⟨⟨Ga, apre⟩, ?_⟩
      rw [sat_any]
      rintro ⟨zi, zb, zv, zm⟩ hz
      obtain ⟨G2, o2, q1, q2⟩ := ins_abs b1.ia b1.inA (hz Ga apre)
      simp only at o2 q1
      subst q1
      simp only [hdI, e1', e2']
      rw [brF (by simp [iNe]), sat_req]
      refine ⟨by simp, two o1 hmn o2 ?_⟩
      rw [r2, q2, e1', e2']
  -- Pop
  · have ppre : gpopPre Gg m3 ((Gg.g : Int) + 1) pm ps pa := ⟨rfl, b.ig, hp⟩
    rw [sat_req]
    refine ⟨⟨Gg, ppre⟩, ?_⟩
    rw [sat_any]
    rintro ⟨yi, yb, yv, ym⟩ hy
    obtain ⟨G1, o1, r1, r2⟩ := pop_abs (k := (k1, k2)) b.ig (hy Gg ppre)
    simp only at o1 r1
    cases hmn : mn with
    | false => rw [sat_brF, sat_req]; exact ⟨by simp, one o1 hmn⟩
    | true =>
      obtain ⟨b1, rfl, rfl, rfl, rfl⟩ := mid o1 hmn
      have apre : gpopPre Ga ym ((Ga.g : Int) + 1) 1 0 0 := ⟨rfl, b1.ia, hp1⟩
      rw [sat_brT, sat_req]
      refine ⟨⟨Ga, apre⟩, ?_⟩
      rw [sat_any]
      rintro ⟨zi, zb, zv, zm⟩ hz
      obtain ⟨G2, o2, q1, q2⟩ := pop_abs (k := (k1, 1)) b1.ia (hz Ga apre)
      simp only at o2 q1
      have e1' : kindO (Gg.R (1, 0, 0)) = kindO (Ga.R (1, 0, 0)) := e1
      have e2' : hsO (Gg.R (1, 0, 0)) = hsO (Ga.R (1, 0, 0)) := e2
      have hsame : (yi, yb) = (zi, zb) := by rw [r1, q1, e1', e2']
      simp only [Prod.mk.injEq] at hsame
      obtain ⟨rfl, rfl⟩ := hsame
      have hb : bNot (bEq (hdB yb) (hdB yb)) = false := by cases hdB yb <;> rfl
      simp only [hb]
      rw [brF (by simp [bNot, bAnd, iEq]), sat_brF, sat_req]
      refine ⟨by simp, two o1 hmn o2 ?_⟩
      rw [r2, q2, e1', e2']
  -- Remove
  · rw [sat_req]
    refine ⟨⟨Gg, gpre⟩, ?_⟩
    rw [sat_any]
    rintro ⟨yi, yb, yv, ym⟩ hy
    obtain ⟨G1, o1, r1, r2⟩ := rem_abs b.ig (b.inG hside) (hy Gg gpre)
    simp only at o1 r1
    subst r1
    cases hmn : mn with
    | false => rw [sat_brF, sat_req]; exact ⟨by simp, one o1 hmn⟩
    | true =>
      obtain ⟨b1, rfl, rfl, rfl, rfl⟩ := mid o1 hmn
      have apre : gpushPre Ga ym ((Ga.g : Int) + 1) 1 0 0 k1 1 8 := ⟨rfl, b1.ia, hp1, hk, h8⟩
      rw [sat_brT, sat_req]
      refine ⟨⟨Ga, apre⟩, ?_⟩
      rw [sat_any]
      rintro ⟨zi, zb, zv, zm⟩ hz
      obtain ⟨G2, o2, q1, q2⟩ := rem_abs b1.ia b1.inA (hz Ga apre)
      simp only at o2 q1
      subst q1
      have e1' : kindO (Gg.R (1, 0, 0)) = kindO (Ga.R (1, 0, 0)) := e1
      have e2' : hsO (Gg.R (1, 0, 0)) = hsO (Ga.R (1, 0, 0)) := e2
      have hb : ∀ x : Bool, bNot (bEq x x) = false := by intro x; cases x <;> rfl
      simp only [hdB, e1', e2', hb]
      rw [sat_brF, sat_req]
      refine ⟨by simp, two o1 hmn o2 ?_⟩
      rw [r2, q2, e1', e2']
  -- nothing
  · rw [sat_req]
    refine ⟨by simp, hR m3 ⟨Gg, Ga, b, rfl, rfl, heq, by omega, by omega⟩⟩
theorem apC_walk {m0 m4 : Mem} {tg ta i : Int} {l : Value} {c : Nat} {Gg Ga : GG} (s : ApS m0 tg ta c m4 Gg Ga) (hc : c < 1000) {R : Leaf → Prop}
    (hR : ∀ m, (∃ Gg' Ga', ApS m0 tg ta c m Gg' Ga') → R (.up (.up (.again ⟨[iAdd .i64 i 1], [], [], m⟩)))) : (T_apC m4 tg ta i l).sat R := by
  obtain ⟨b, rfl, rfl, heq, l1, l2⟩ := s
  have e1 : kindO (Gg.R (1, 0, 0)) = kindO (Ga.R (1, 0, 0)) := congrArg (·.1) heq
  have e2 : hsO (Gg.R (1, 0, 0)) = hsO (Ga.R (1, 0, 0)) := congrArg (·.2) heq
  have hp1 : okP' (1, 0, 0) := by refine ⟨?_, ?_, ?_⟩ <;> simp only [inI] <;> omega
  have l1 : (hsO (Gg.R (1, 0, 0))).length ≤ c := l1
  obtain ⟨g1, g2⟩ := glen_spec b.ig hp1
  obtain ⟨a1, a2⟩ := glen_spec b.ia hp1
  obtain ⟨g3, g4⟩ := gkind_spec b.ig hp1
  obtain ⟨a3, a4⟩ := gkind_spec b.ia hp1
  unfold T_apC
  rw [sat_req]
  refine ⟨g1, ?_⟩
  rw [sat_req]
  refine ⟨by simp, ?_⟩
  rw [sat_req]
  refine ⟨a1, ?_⟩
  rw [sat_req]
  refine ⟨by simp, ?_⟩
  rw [brF (by rw [g2, a2, e2]; simp [iNe]), sat_req]
  refine ⟨g3, ?_⟩
  rw [sat_req]
  refine ⟨by simp, ?_⟩
  rw [sat_req]
  refine ⟨a3, ?_⟩
  rw [sat_req]
  refine ⟨by simp, ?_⟩
  rw [brF (by rw [g4, a4, e1]; simp [iNe])]
  let J : Nat → Vars → Prop := fun N y => ∃ k : Nat, k + N = (hsO (Ga.R (1, 0, 0))).length ∧ y.i = [(k : Int)] ∧ ApB m0 Gg Ga y.m
  refine lp_idx J (n0 := (hsO (Ga.R (1, 0, 0))).length) ⟨0, by omega, rfl, b⟩ ?_
  rintro N ⟨yi, yb, yv, ym⟩ _ ⟨k, hk, rfl, b1⟩
  simp only at hk b1
  simp only [hdI]
  obtain ⟨n1, n2⟩ := glen_spec b1.ia hp1
  rw [sat_req, n2]
  refine ⟨n1, ?_⟩
  by_cases hlt : k < (hsO (Ga.R (1, 0, 0))).length
  rotate_left
  · rw [brF (by simp [iLt]; omega), sat_req]
    refine ⟨by simp, ?_⟩
    exact hR ym ⟨Gg, Ga, b1, rfl, rfl, heq, l1, l2⟩
  obtain ⟨x, hx⟩ : ∃ x, (hsO (Ga.R (1, 0, 0)))[k]? = some x := ⟨_, List.getElem?_eq_getElem hlt⟩
  have gp : gatPre Gg ym ((Gg.g : Int) + 1) 1 0 0 := ⟨⟨rfl, b1.ig, hp1⟩, by omega⟩
  rw [brT (by simp [iLt]; omega), sat_req]
  refine ⟨⟨Gg, gp⟩, ?_⟩
  rw [sat_any]
  rintro ⟨zi, zb, zv, zm⟩ hz
  rcases hz Gg gp with ⟨j, h, z1, z2, z3, z4, z5⟩ | ⟨z1, _⟩
  rotate_left
  · exfalso; rw [e2] at z1; omega
  have : j = k := by omega
  subst this
  rw [e2, hx] at z2
  cases z2
  simp only at z3 z4 z5
  subst z3
  have b2 := b1.more z5
  have ap : gatPre Ga zm ((Ga.g : Int) + 1) 1 0 0 := ⟨⟨rfl, b2.ia, hp1⟩, by rw [← e2]; omega⟩
  rw [sat_req]
  refine ⟨⟨Ga, ap⟩, ?_⟩
  rw [sat_any]
  rintro ⟨ui, ub, uv, um⟩ hu
  rcases hu Ga ap with ⟨j', h', u1, u2, u3, u4, u5⟩ | ⟨u1, _⟩
  rotate_left
  · exfalso; omega
  have : j' = j := by omega
  subst this
  rw [hx] at u2
  cases u2
  simp only at u3 u4 u5
  subst u3
  have b3 := b2.more u5
  simp only [hdI, tlI]
  rw [brF (by simp [bNot, bAnd, iEq]), sat_req]
  refine ⟨by simp, ?_⟩
  have hl2 : (hsO (Ga.R (1, 0, 0))).length ≤ c := by rw [← e2]; exact l1
  have hin : iAdd .i64 (j' : Int) 1 = ((j' + 1 : Nat) : Int) := by rw [iadd_i (by omega)]; omega
  rw [hin]
  exact ⟨N - 1, by omega, j' + 1, by omega, rfl, b3⟩
end Go.Proofs.Ytnlohongffpkpaa.T16
end

section
/- Layer 16: TreePlays' contract. A text of the session's own. -/
namespace Go.Proofs.Ytnlohongffpkpaa.T16
open Go Go.RowKit Go.Proofs.Ytnlohongffpkpaa.Sx Go.Proofs Go.WideShapes Go.ChangeShapes
set_option linter.unusedVariables false
set_option linter.unusedSimpArgs false

theorem wf_inI {n : Int} (h : (Lit.int .i64 n).wf = true) : inI n := by
  have e1 : IntKind.min .i64 = -9223372036854775808 := rfl
  have e2 : IntKind.max .i64 = 9223372036854775807 := rfl
  simp only [Lit.wf, e1, e2, Bool.and_eq_true, decide_eq_true_eq] at h
  unfold inI; omega
theorem wf_inU {n : Int} (h : (Lit.int .u64 n).wf = true) : inU n := by
  have e1 : IntKind.min .u64 = 0 := rfl
  have e2 : IntKind.max .u64 = 18446744073709551615 := rfl
  simp only [Lit.wf, e1, e2, Bool.and_eq_true, decide_eq_true_eq] at h
  unfold inU; omega
section
variable {H : Type} {enc : TypeId × Value → H} {P : Program} {W : World} {base : Nat} {sp : Nat → Bool} {held : Bool}
theorem han_cells {t n : Nat} {cs : List Value} {x : DataW H × List MemPlace} (ht : hTy P t = true) (h : DataW.trod enc P W base sp held n t cs = some x) : ∃ s g, cs = [.int .i64 s, .int .u64 g] ∧ inI s ∧ inU g := by
  unfold hTy at ht
  split at ht
  · rename_i fs hu
    split at ht
    · rename_i f g hfs
      simp only [Bool.and_eq_true] at ht
      obtain ⟨⟨⟨⟨⟨⟨⟨⟨a1, a2⟩, a3⟩, a4⟩, a5⟩, a6⟩, a7⟩, a8⟩, a9⟩ := ht
      replace a3 := Nat.eq_of_beq_eq_true a3
      replace a4 := Nat.eq_of_beq_eq_true a4
      replace a5 := Nat.eq_of_beq_eq_true a5
      replace a6 := Nat.eq_of_beq_eq_true a6
      replace a7 := Nat.eq_of_beq_eq_true a7
      have hf : fs = #[f, g] := by rw [← Array.toArray_toList (xs := fs), hfs]
      subst hf
      have u1 : P.underlying f.type = some (.int .i64) := by revert a8; split <;> simp_all
      have u2 : P.underlying g.type = some (.int .u64) := by revert a9; split <;> simp_all
      obtain ⟨xs, k, _, _, hl, hxl, hall⟩ := DataW.trod_struct hu h
      rw [a7] at hl
      match cs, hl with
      | [v0, v1], _ =>
        match xs, hxl with
        | [y0, y1], _ =>
          have g0 := hall 0 f rfl
          have g1 := hall 1 g rfl
          simp [a3, a4, a5, a6] at g0 g1
          obtain ⟨s, e0, _, w0⟩ := DataW.trod_int u1 g0
          obtain ⟨q, e1, _, w1⟩ := DataW.trod_int u2 g1
          simp only [List.cons.injEq, and_true] at e0 e1
          subst e0 e1
          exact ⟨s, q, rfl, wf_inI w0, wf_inU w1⟩
    · cases ht
  · cases ht
instance : Inhabited Stp := ⟨⟨false, 0, 0, 0⟩⟩
end
end Go.Proofs.Ytnlohongffpkpaa.T16
end

section
/- Layer 17: GraphApart's contract: a slice of steps; all. A text of the session's own. -/
namespace Go.Proofs.Ytnlohongffpkpaa.T16
open Go Go.RowKit Go.Proofs.Ytnlohongffpkpaa.Sx Go.Proofs Go.WideShapes Go.ChangeShapes
set_option linter.unusedVariables false
set_option linter.unusedSimpArgs false

/-- a step of a graph's script -/
structure S9 where
  d : Int
  a : Int
  n : Int
  p : Pl
  h : Hn
  f : Bool
def S9.cells (x : S9) : List Value := [.int .i64 x.d, .int .i64 x.a, .int .i64 x.n, .int .i64 x.p.1, .int .i64 x.p.2.1, .int .i64 x.p.2.2, .int .i64 x.h.1, .int .u64 x.h.2, .bool x.f]
def S9.ok (x : S9) : Prop := inI x.a ∧ inI x.n ∧ okP' x.p ∧ okH x.h
structure Arg9 (l : Value) (xs : List S9) (m : Mem) : Prop where
  sl : isSlV (pl l) = true
  n : slN (pl l) = xs.length
  at' : ∀ i : Nat, ∀ x, xs[i]? = some x → inSl (pl l) i = true ∧ okL m (slB (pl l)) (aOff (slO (pl l)) i 9) [.li .i64 0, .li .i64 0, .li .i64 0, .li .i64 0, .li .i64 0, .li .i64 0, .li .i64 0, .li .u64 0, .lb false] = true ∧
    gI m (slB (pl l)) (aOff (slO (pl l)) i 9) = x.d ∧ gI m (slB (pl l)) (.succ (aOff (slO (pl l)) i 9)) = x.a ∧ gI m (slB (pl l)) (.succ (.succ (aOff (slO (pl l)) i 9))) = x.n ∧
    gI m (slB (pl l)) (.succ (.succ (.succ (aOff (slO (pl l)) i 9)))) = x.p.1 ∧ gI m (slB (pl l)) (.succ (.succ (.succ (.succ (aOff (slO (pl l)) i 9))))) = x.p.2.1 ∧ gI m (slB (pl l)) (.succ (.succ (.succ (.succ (.succ (aOff (slO (pl l)) i 9)))))) = x.p.2.2 ∧
    gI m (slB (pl l)) (.succ (.succ (.succ (.succ (.succ (.succ (aOff (slO (pl l)) i 9))))))) = x.h.1 ∧ gI m (slB (pl l)) (.succ (.succ (.succ (.succ (.succ (.succ (.succ (aOff (slO (pl l)) i 9)))))))) = x.h.2 ∧
    gB m (slB (pl l)) (.succ (.succ (.succ (.succ (.succ (.succ (.succ (.succ (aOff (slO (pl l)) i 9))))))))) = x.f
  rng : ∀ x ∈ xs, x.ok
theorem Arg9.more {l : Value} {xs : List S9} {m m' : Mem} (h : Arg9 l xs m) (hm : ∀ a, m a ≠ none → m' a = m a) : Arg9 l xs m' := by
  refine ⟨h.sl, h.n, fun i x hx => ?_, h.rng⟩
  obtain ⟨a1, a2, c0, c1, c2, c3, c4, c5, c6, c7, c8⟩ := h.at' i x hx
  obtain ⟨b1, b2⟩ := okL_more hm a2
  unfold gI at c0 c1 c2 c3 c4 c5 c6 c7 ⊢
  unfold gB at c8 ⊢
  simp only [b2]
  exact ⟨a1, b1, c0, c1, c2, c3, c4, c5, c6, c7, c8⟩
theorem conv_any (s : Int) : u8 (iConv .u8 s) := by
  unfold u8 iConv IntKind.wrap
  have e : (2 ^ (IntKind.bits .u8) : Int) = 256 := rfl
  simp only [e, IntKind.signed, Bool.false_and]
  simp only [Bool.false_eq_true, if_false]
  omega
theorem conv_inI (s : Int) : inI (iConv .i64 (iConv .u8 s)) := by
  have h := conv_any s
  rw [conv_u8 h]
  unfold u8 at h
  unfold inI; omega
theorem apart_walk {m0 : Mem} {l : Value} {xs : List S9} (hA : Arg9 l xs m0) : (T_apart m0 l).sat (isMemo fun v x => v = tru ∧ ∀ a, m0 a ≠ none → x a = m0 a) := by
  unfold T_apart
  rw [brT hA.sl, hA.n]
  by_cases hl : (200 : Int) < xs.length
  · rw [brT (by simp only [iGt, decide_eq_true_eq]; omega)]
    exact ⟨rfl, fun _ _ => rfl⟩
  rw [brF (by simp only [iGt, decide_eq_false_iff_not]; omega), sat_req]
  refine ⟨⟨(), trivial⟩, ?_⟩
  rw [sat_any]
  rintro ⟨yi, yb, yv, ym⟩ hy
  obtain ⟨Gg, g1, g2, g3, g4, g5, g6, g7⟩ := hy () trivial
  simp only at g1 g2 g7
  subst g1
  rw [sat_req]
  refine ⟨⟨(), trivial⟩, ?_⟩
  rw [sat_any]
  rintro ⟨zi, zb, zv, zm⟩ hz
  obtain ⟨Ga, a1, a2, a3, a4, a5, a6, a7⟩ := hz () trivial
  simp only at a1 a2 a6 a7
  subst a1
  simp only [hdI]
  have b0 : ApB m0 Gg Ga zm := by
    refine ⟨g2.congr fun a ha => a7 a (g2.there ha), a2, fun a ha hd => ?_, g6, fun a ha => ?_, fun a ha => ?_, (fun r k n hn => by rw [g4] at hn; cases hn), (fun r k n hn => by rw [a4] at hn; cases hn)⟩
    · exact g2.there ha (a6 a hd)
    · cases e : m0 a with
      | none => rfl
      | some o => have h1 := g7 a (by rw [e]; simp); have h2 := a6 a ha; rw [h2, e] at h1; cases h1
    · have h1 := g7 a ha
      exact (a7 a (by rw [h1]; exact ha)).trans h1
  let J : Nat → Vars → Prop := fun N y => ∃ (i : Nat) (G1 G2 : GG), i + N = xs.length ∧ y.i = [(i : Int)] ∧ ApS m0 ((Gg.g : Int) + 1) ((Ga.g : Int) + 1) i y.m G1 G2
  refine lp_idx J (n0 := xs.length) ⟨0, Gg, Ga, by omega, rfl, b0, rfl, rfl, by rw [g3, a3], by rw [g3]; simp [hsO], by rw [g3]; simp [hsO]⟩ ?_
  rintro N ⟨ui, ub, uv, um⟩ _ ⟨i, G1, G2, hi, rfl, s⟩
  simp only at hi s
  simp only [hdI]
  rw [brT hA.sl]
  by_cases hlt : i < xs.length
  rotate_left
  · rw [brF (by simp [iLt]; omega)]
    exact ⟨rfl, s.b.kp⟩
  obtain ⟨x, hx⟩ : ∃ x, xs[i]? = some x := ⟨_, List.getElem?_eq_getElem hlt⟩
  have hA' := hA.more s.b.kp
  obtain ⟨c0, c1, d0, d1, d2, d3, d4, d5, d6, d7, d8⟩ := hA'.at' i x hx
  simp only [d0, d1, d3, d6, d8]
  rw [brT (by simp [iLt]; omega), brT c0, brT c1]
  have hin : iAdd .i64 (i : Int) 1 = ((i + 1 : Nat) : Int) := by rw [iadd_i (by omega)]; omega
  have hkk := conv_inI (iBit .and .i64 x.h.1 31)
  generalize iConv .i64 (iConv .u8 (iBit .and .i64 x.h.1 31)) = kk at hkk
  generalize iEq (iRem x.p.1 2) 0 = mn
  refine sat_jn (fun v => v.m = um ∧ ((mn = true ∧ v.i = [kk, 1, 1, 0, 0]) ∨ (mn = false ∧ v.i = [kk, 2, 2, 0, 0]))) ?_ ?_
  · cases mn with
    | true => rw [brF (by rfl), sat_req]; exact ⟨by simp, rfl, rfl, .inl ⟨rfl, rfl⟩⟩
    | false => rw [brT (by rfl), sat_req]; exact ⟨by simp, rfl, rfl, .inr ⟨rfl, rfl⟩⟩
  rintro v j _ ⟨q1, q2⟩
  simp only at q1 q2
  rw [q1]
  have fin : ∀ m : Mem, (∃ H1 H2, ApS m0 ((Gg.g : Int) + 1) ((Ga.g : Int) + 1) (i + 1) m H1 H2) → inLoopJ J N (isMemo fun v x => v = tru ∧ ∀ a, m0 a ≠ none → x a = m0 a) (.again ⟨[iAdd .i64 (i : Int) 1], [], [], m⟩) := by
    rintro m ⟨H1, H2, h⟩
    rw [hin]
    exact ⟨N - 1, by omega, i + 1, H1, H2, by omega, rfl, h⟩
  have go : ∀ k2 pm : Int, okH (kk, k2) → ((mn = true ∧ (pm, (0 : Int), (0 : Int)) = P1 ∧ k2 = 1) ∨ (mn = false ∧ (pm, (0 : Int), (0 : Int)) = P2 ∧ k2 = 2)) →
      (Tr.lp ⟨[0], [], [], um⟩ fun y4 j4 => .br (iZero? (hdI y4.i)) (T_apO um ((Gg.g : Int) + 1) ((Ga.g : Int) + 1) i l x.d x.a kk k2 pm 0 0 mn x.f) (T_apC y4.m ((Gg.g : Int) + 1) ((Ga.g : Int) + 1) i l)).sat (upR (inLoopJ J N (isMemo fun v x => v = tru ∧ ∀ a, m0 a ≠ none → x a = m0 a))) := by
    intro k2 pm hk hP
    refine sat_jn (fun w => ∃ H1 H2, ApS m0 ((Gg.g : Int) + 1) ((Ga.g : Int) + 1) (i + 1) w.m H1 H2) ?_ ?_
    · exact apO_walk s (by omega) hk hP fun m hm => ⟨rfl, hm⟩
    · rintro w j2 _ ⟨H1, H2, h⟩
      exact apC_walk h (by omega) fun m hm => fin m hm
  rcases q2 with ⟨hmn, q2⟩ | ⟨hmn, q2⟩
  · rw [q2]
    exact go 1 1 ⟨hkk, by unfold inU; omega⟩ (.inl ⟨hmn, rfl, rfl⟩)
  · rw [q2]
    exact go 2 2 ⟨hkk, by unfold inU; omega⟩ (.inr ⟨hmn, rfl, rfl⟩)
/-! the slice, opened -/
/-- three whole numbers -/
def plTy (P : Program) (t : Nat) : Bool := match P.underlying t with
  | some (.struct fs) => (match fs.toList with
    | [f, g, h] => Nat.beq f.offset 0 && Nat.beq g.offset 1 && Nat.beq h.offset 2 && Nat.beq (P.cellsOf f.type) 1 && Nat.beq (P.cellsOf g.type) 1 && Nat.beq (P.cellsOf h.type) 1 && Nat.beq (P.cellsOf t) 3 && (match P.underlying f.type with | some (.int .i64) => true | _ => false) && (match P.underlying g.type with | some (.int .i64) => true | _ => false) && (match P.underlying h.type with | some (.int .i64) => true | _ => false)
    | _ => false)
  | _ => false
def s9Ty (P : Program) (t : Nat) : Bool := match P.underlying t with
  | some (.struct fs) => (match fs.toList with
    | [f0, f1, f2, f3, f4, f5] => Nat.beq f0.offset 0 && Nat.beq f1.offset 1 && Nat.beq f2.offset 2 && Nat.beq f3.offset 3 && Nat.beq f4.offset 6 && Nat.beq f5.offset 8 && Nat.beq (P.cellsOf f0.type) 1 && Nat.beq (P.cellsOf f1.type) 1 && Nat.beq (P.cellsOf f2.type) 1 && Nat.beq (P.cellsOf f3.type) 3 && Nat.beq (P.cellsOf f4.type) 2 && Nat.beq (P.cellsOf f5.type) 1 && Nat.beq (P.cellsOf t) 9 &&
      (match P.underlying f0.type with | some (.int .i64) => true | _ => false) && (match P.underlying f1.type with | some (.int .i64) => true | _ => false) && (match P.underlying f2.type with | some (.int .i64) => true | _ => false) && plTy P f3.type && hTy P f4.type && (match P.underlying f5.type with | some .bool => true | _ => false)
    | _ => false)
  | _ => false
section
variable {H : Type} {enc : TypeId × Value → H} {P : Program} {W : World} {base : Nat} {sp : Nat → Bool} {held : Bool}
theorem pl_cells {t n : Nat} {cs : List Value} {x : DataW H × List MemPlace} (ht : plTy P t = true) (h : DataW.trod enc P W base sp held n t cs = some x) : ∃ p : Pl, cs = [.int .i64 p.1, .int .i64 p.2.1, .int .i64 p.2.2] ∧ okP' p := by
  unfold plTy at ht
  split at ht
  · rename_i fs hu
    split at ht
    · rename_i f0 f1 f2 hfs
      simp only [Bool.and_eq_true] at ht
      obtain ⟨⟨⟨⟨⟨⟨⟨⟨⟨a1, a2⟩, a3⟩, a4⟩, a5⟩, a6⟩, a7⟩, a8⟩, a9⟩, a10⟩ := ht
      replace a1 := Nat.eq_of_beq_eq_true a1
      replace a2 := Nat.eq_of_beq_eq_true a2
      replace a3 := Nat.eq_of_beq_eq_true a3
      replace a4 := Nat.eq_of_beq_eq_true a4
      replace a5 := Nat.eq_of_beq_eq_true a5
      replace a6 := Nat.eq_of_beq_eq_true a6
      replace a7 := Nat.eq_of_beq_eq_true a7
      have hf : fs = #[f0, f1, f2] := by rw [← Array.toArray_toList (xs := fs), hfs]
      subst hf
      have u0 : P.underlying f0.type = some (.int .i64) := by revert a8; split <;> simp_all
      have u1 : P.underlying f1.type = some (.int .i64) := by revert a9; split <;> simp_all
      have u2 : P.underlying f2.type = some (.int .i64) := by revert a10; split <;> simp_all
      obtain ⟨xs, k, _, _, hl, hxl, hall⟩ := DataW.trod_struct hu h
      rw [a7] at hl
      match cs, hl with
      | [v0, v1, v2], _ =>
        match xs, hxl with
        | [y0, y1, y2], _ =>
          have g0 := hall 0 f0 rfl
          have g1 := hall 1 f1 rfl
          have g2 := hall 2 f2 rfl
          simp [a1, a2, a3, a4, a5, a6] at g0 g1 g2
          obtain ⟨b0, e0, _, w0⟩ := DataW.trod_int u0 g0
          obtain ⟨b1, e1, _, w1⟩ := DataW.trod_int u1 g1
          obtain ⟨b2, e2, _, w2⟩ := DataW.trod_int u2 g2
          simp only [List.cons.injEq, and_true] at e0 e1 e2
          subst e0 e1 e2
          exact ⟨(b0, b1, b2), rfl, wf_inI w0, wf_inI w1, wf_inI w2⟩
    · cases ht
  · cases ht
theorem s9_cells {t n : Nat} {cs : List Value} {x : DataW H × List MemPlace} (ht : s9Ty P t = true) (h : DataW.trod enc P W base sp held n t cs = some x) : ∃ s : S9, cs = s.cells ∧ s.ok := by
  unfold s9Ty at ht
  split at ht
  · rename_i fs hu
    split at ht
    · rename_i f0 f1 f2 f3 f4 f5 hfs
      simp only [Bool.and_eq_true] at ht
      obtain ⟨⟨⟨⟨⟨⟨⟨⟨⟨⟨⟨⟨⟨⟨⟨⟨⟨⟨o0, o1⟩, o2⟩, o3⟩, o4⟩, o5⟩, c0⟩, c1⟩, c2⟩, c3⟩, c4⟩, c5⟩, ct⟩, t0⟩, t1⟩, t2⟩, t3⟩, t4⟩, t5⟩ := ht
      replace o0 := Nat.eq_of_beq_eq_true o0
      replace o1 := Nat.eq_of_beq_eq_true o1
      replace o2 := Nat.eq_of_beq_eq_true o2
      replace o3 := Nat.eq_of_beq_eq_true o3
      replace o4 := Nat.eq_of_beq_eq_true o4
      replace o5 := Nat.eq_of_beq_eq_true o5
      replace c0 := Nat.eq_of_beq_eq_true c0
      replace c1 := Nat.eq_of_beq_eq_true c1
      replace c2 := Nat.eq_of_beq_eq_true c2
      replace c3 := Nat.eq_of_beq_eq_true c3
      replace c4 := Nat.eq_of_beq_eq_true c4
      replace c5 := Nat.eq_of_beq_eq_true c5
      replace ct := Nat.eq_of_beq_eq_true ct
      have hf : fs = #[f0, f1, f2, f3, f4, f5] := by rw [← Array.toArray_toList (xs := fs), hfs]
      subst hf
      have u0 : P.underlying f0.type = some (.int .i64) := by revert t0; split <;> simp_all
      have u1 : P.underlying f1.type = some (.int .i64) := by revert t1; split <;> simp_all
      have u2 : P.underlying f2.type = some (.int .i64) := by revert t2; split <;> simp_all
      have u5 : P.underlying f5.type = some .bool := by revert t5; split <;> simp_all
      obtain ⟨xs, k, _, _, hl, hxl, hall⟩ := DataW.trod_struct hu h
      rw [ct] at hl
      match cs, hl with
      | [v0, v1, v2, v3, v4, v5, v6, v7, v8], _ =>
        match xs, hxl with
        | [y0, y1, y2, y3, y4, y5], _ =>
          have g0 := hall 0 f0 rfl
          have g1 := hall 1 f1 rfl
          have g2 := hall 2 f2 rfl
          have g3 := hall 3 f3 rfl
          have g4 := hall 4 f4 rfl
          have g5 := hall 5 f5 rfl
          simp [o0, o1, o2, o3, o4, o5, c0, c1, c2, c3, c4, c5] at g0 g1 g2 g3 g4 g5
          obtain ⟨b0, e0, _, w0⟩ := DataW.trod_int u0 g0
          obtain ⟨b1, e1, _, w1⟩ := DataW.trod_int u1 g1
          obtain ⟨b2, e2, _, w2⟩ := DataW.trod_int u2 g2
          obtain ⟨p, e3, w3⟩ := pl_cells t3 g3
          obtain ⟨s, g, e4, i1, i2⟩ := han_cells t4 g4
          obtain ⟨r, e5, _⟩ := DataW.trod_bool u5 g5
          simp only [List.cons.injEq, and_true] at e0 e1 e2 e3 e4 e5
          obtain ⟨e3a, e3b, e3c⟩ := e3
          obtain ⟨e4a, e4b⟩ := e4
          subst e0 e1 e2 e3a e3b e3c e4a e4b e5
          exact ⟨⟨b0, b1, b2, p, (s, g), r⟩, rfl, wf_inI w1, wf_inI w2, w3, i1, i2⟩
    · cases ht
  · cases ht
instance : Inhabited S9 := ⟨⟨0, 0, 0, (0, 0, 0), (0, 0), false⟩⟩
theorem arg_s9 {b0 : Nat} {r : Reach} {t e : TypeId} {v : Value} {d : DataW H} {ps : List MemPlace} (hst : s9Ty P e = true) (ht : P.underlying t = some (.slice e)) {q : Prop} (hq : q) (hc : P.cellsOf e = 9)
    (hval : Value.okWide P W r b0 t v) (h : DataW.Trod enc P W base sp held t v d ps) : ∃ xs m, (∀ a o, m a = some o → W.heap[a]? = some o) ∧ Arg9 v xs m ∧ pl v = v := by
  obtain ⟨a, len, cap, rfl⟩ := okWide_slice ht hval
  obtain ⟨fuel, hf⟩ := h
  rcases Go.Deep.open_slice ht hf with ⟨hcs, hx⟩ | ⟨a', len', cap', m', n, D, Pl, hcs, _, hl, _, hm, _, hel⟩
  · simp [Value.cells] at hcs
    obtain ⟨rfl, rfl, rfl⟩ := hcs
    exact ⟨[], fun _ => none, (fun _ _ h => by cases h), ⟨rfl, rfl, fun i x h => (by simp at h), by simp⟩, rfl⟩
  · simp [Value.cells] at hcs
    obtain ⟨rfl, rfl, rfl⟩ := hcs
    have hlm : len ≤ m' := by rw [hm]; split <;> omega
    obtain ⟨X, hX⟩ := Go.Deep.choose_lt (n := len) (p := fun i (x : S9) => W.cells? base (a'.add (i * 9)) 9 = some x.cells ∧ x.ok) (fun i hi => by
      obtain ⟨cs', h1, h2⟩ := hel i (by omega)
      rw [hc] at h1
      obtain ⟨s, rfl, i1⟩ := s9_cells hst h2
      exact ⟨s, h1, i1⟩)
    refine ⟨(List.range len).map X, fun c => if c = a'.block then W.heap[c]? else none, fun c o h => ?_, ⟨rfl, ?_, fun i x hx => ?_, fun x hx => ?_⟩, rfl⟩
    · simp only at h
      split at h
      · exact h
      · cases h
    · simp [slN, pl]
    · have hi : i < len := by
        have := (List.getElem?_eq_some_iff.1 hx).1
        simpa using this
      have hxe : x = X i := by
        rw [List.getElem?_map, List.getElem?_range hi] at hx
        simpa using hx.symm
      subst hxe
      obtain ⟨h1, _⟩ := hX i hi
      obtain ⟨_, _, hci⟩ := World.cells?_some h1
      obtain ⟨b, o, spt⟩ := a'
      have hsp : spt = none := by
        obtain ⟨h1', _⟩ := hX 0 (by omega)
        obtain ⟨_, _, hci'⟩ := World.cells?_some h1'
        have h0 := hci' 0 (by omega)
        rw [show ((⟨b, o, spt⟩ : Addr).add (0 * 9)).add 0 = (⟨b, o, spt⟩ : Addr) by simp [Addr.add]] at h0
        exact World.cell?_spot (h0.trans (by rfl : _ = some (Value.int .i64 (X 0).d)))
      subst hsp
      have key : ∀ k, k < 9 → W.cell? ⟨b, o + i * 9 + k, none⟩ = (X i).cells[k]? := fun k hk => by
        have := hci k hk
        rw [add_at, add_at] at this
        exact this
      obtain ⟨cs, ty, fz, hb, hcell⟩ : ∃ cs ty fz, W.heap[b]? = some (.cells cs ty fz) ∧ ∀ k, W.cell? ⟨b, k, none⟩ = cs[k]? := by
        have h0 := key 0 (by omega)
        unfold World.cell? at h0
        split at h0
        · rename_i cs ty fz hcs
          simp only at hcs
          exact ⟨cs, ty, fz, hcs, fun k => by simp [World.cell?, hcs]⟩
        · cases h0
      have hg : mget (fun c => if c = b then W.heap[c]? else none) ((b : Int) + 1) = some cs := mget_of (ty := ty) (q := fz) (by simp [hb])
      have c0 := (hcell _).symm.trans (key 0 (by omega))
      have c1 := (hcell _).symm.trans (key 1 (by omega))
      have c2 := (hcell _).symm.trans (key 2 (by omega))
      have c3 := (hcell _).symm.trans (key 3 (by omega))
      have c4 := (hcell _).symm.trans (key 4 (by omega))
      have c5 := (hcell _).symm.trans (key 5 (by omega))
      have c6 := (hcell _).symm.trans (key 6 (by omega))
      have c7 := (hcell _).symm.trans (key 7 (by omega))
      have c8 := (hcell _).symm.trans (key 8 (by omega))
      simp only [S9.cells, List.getElem?_cons_zero, List.getElem?_cons_succ, Nat.add_zero] at c0 c1 c2 c3 c4 c5 c6 c7 c8
      have e0 : aOff o (i : Int) 9 = o + i * 9 := by simp [aOff]
      simp only [pl, slB, slO, e0, Nat.succ_eq_add_one, Nat.add_assoc] at c0 c1 c2 c3 c4 c5 c6 c7 c8 ⊢
      refine ⟨?_, ?_, ?_, ?_, ?_, ?_, ?_, ?_, ?_, ?_, ?_⟩
      · have : Nat.ble len cap = true := Nat.ble_eq_true_of_le hl
        simp [inSl, isSl, slN, this, hi]
      · unfold okL; rw [hg]; simp [okR, c0, c1, c2, c3, c4, c5, c6, c7, c8, okC, isK, isB, Nat.add_assoc]
      · unfold gI mcell; rw [hg]; simp [c0, vI]
      · unfold gI mcell; rw [hg]; simp [c1, vI]
      · unfold gI mcell; rw [hg]; simp [c2, vI]
      · unfold gI mcell; rw [hg]; simp [c3, vI]
      · unfold gI mcell; rw [hg]; simp [c4, vI]
      · unfold gI mcell; rw [hg]; simp [c5, vI]
      · unfold gI mcell; rw [hg]; simp [c6, vI]
      · unfold gI mcell; rw [hg]; simp [c7, vI]
      · unfold gB mcell; rw [hg]; simp [c8, vB]
    · obtain ⟨i, hi, rfl⟩ := List.mem_map.1 hx
      exact (hX i (List.mem_range.1 hi)).2
end
theorem t_apart (m : Mem) (l : Value) : runm Try.prog [s_gnew, s_gpush, s_ginsert, s_gpop, s_gremove, s_glen, s_gkind, s_gin, s_gat, s_gdrain, s_gone1, s_gworks] (drawh Try.prog [s_gnew, s_gpush, s_ginsert, s_gpop, s_gremove, s_glen, s_gkind, s_gin, s_gat, s_gdrain, s_gone1, s_gworks] (fun _ k => match Nat.beq k 6 with | true => some ⟨[7], [], [0, 3, 4, 5, 6], [0, 1]⟩ | false => match Nat.beq k 37 with | true => some ⟨[19], [], [0, 3, 4, 5, 6, 7], [0, 1]⟩ | false => none) (fun _ k _ => match Nat.beq k 15 with | true => some ⟨0, [.b 3 29, .b 4 59], [[.si .i64 0, .si .u64 0], [.si .i64 0, .si .i64 0, .si .i64 0]], [0, 3, 4, 5, 6, 7, 8, 9, 10, 11], [0, 1, 2]⟩ | false => match Nat.beq k 34 with | true => some ⟨0, [], [], [0, 3, 4, 5, 6, 7], [0, 1]⟩ | false => none)) 300 8 [.u (.c (.sv l))] m [98, 92, 95, 142, 140, 137, 111, 107, 108, 109, 142, 140, 137, 98, 92, 95, 35] = T_apart m l := by kernel_rfl
theorem apart_calls {W : World} {v : Value} {xs : List S9} {m : Mem} (hm : ∀ a o, m a = some o → W.heap[a]? = some o) (hA : Arg9 v xs m) (hv : pl v = v) : Calls Try.prog 8 #[v] W fun e W' => e = .returned (.bool true) ∧ Below W.heap.size W W' := by
  have hS : ∀ q ∈ [s_gnew, s_gpush, s_ginsert, s_gpop, s_gremove, s_glen, s_gkind, s_gin, s_gat, s_gdrain, s_gone1, s_gworks], SumOK Try.prog q := okc s_gnew_ok (okc s_gpush_ok (okc s_ginsert_ok (okc s_gpop_ok (okc s_gremove_ok (okc s_glen_ok (okc s_gkind_ok (okc s_gin_ok (okc s_gat_ok (okc s_gdrain_ok (okc s_gone1_ok (okc s_gworks_ok okn)))))))))))
  have := memo_sound nameOK hS (drawh_sound nameOK hS (by kernel_rfl) _ _) 300 _ m _ (t_apart m v) (apart_walk hA) (fun _ => 0) W hm
  have hvs : (List.map (V.den fun _ => 0) [V.u (U.c (C.sv v))]).toArray = #[v] := by
    show #[pl v] = #[v]
    rw [hv]
  rw [hvs] at this
  refine this.mono ?_
  rintro e w' ⟨v', x, ⟨rfl, hk⟩, rfl, g⟩
  exact ⟨rfl, below_of hm g hk⟩
end Go.Proofs.Ytnlohongffpkpaa.T16
end
