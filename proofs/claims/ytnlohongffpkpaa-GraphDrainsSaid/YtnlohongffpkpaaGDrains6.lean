import Derived.Test.YtnlohongffpkpaaGDrains5
section
/- Layer 17: a graph's calls: New, Push, Insert, Pop, Peek, Remove. A text of the session's own. -/
namespace Go.Proofs.Ytnlohongffpkpaa.T16
open Go Go.RowKit Go.Proofs.Ytnlohongffpkpaa.Sx Go.Proofs
set_option linter.unusedVariables false
set_option linter.unusedSimpArgs false

def listB (r : Option Str) : Bool := match r with | none => false | some X => !X.tree
def treeB (r : Option Str) : Bool := match r with | none => false | some X => X.tree
theorem lP_b (r : Option Str) : peq (lP r) 0 = !listB r := by
  cases r with
  | none => rfl
  | some X => simp only [lP, listB]; cases X.tree <;> simp only [pz_p] <;> rfl
theorem tP_b (r : Option Str) : peq (tP r) 0 = !treeB r := by
  cases r with
  | none => rfl
  | some X => simp only [tP, treeB]; cases X.tree <;> simp only [pz_p] <;> rfl
theorem mayE_zero {G : GG} {p : Pl} {k : Hn} {n : Int} {f : Bool} (h : mayE G p k n f = 0) : G.I k n = none ∧ G.N p k = none ∧ ((G.R p).isSome = true → f = true) := by
  unfold mayE at h
  cases hI : G.I k n with
  | some q => rw [hI] at h; cases h
  | none =>
    rw [hI] at h
    simp only [Option.isSome_none] at h
    cases hN : G.N p k with
    | some q => rw [hN] at h; simp at h
    | none =>
      refine ⟨rfl, rfl, fun hR => ?_⟩
      rw [hN, hR] at h
      cases f with
      | true => rfl
      | false => simp at h
/-- the graph behind a node's coming -/
def GG.come (G : GG) (p : Pl) (k : Hn) (n : Int) (X' : Str) : GG := ⟨G.g, G.mr, G.mi, G.mb, upd1 G.R p (some X'), updN G.N p k (some n), updI G.I k n (some p)⟩
/-- .. a node's going -/
def GG.go (G : GG) (p : Pl) (k : Hn) (n : Int) (X' : Str) : GG := ⟨G.g, G.mr, G.mi, G.mb, upd1 G.R p (goneR X'), updN G.N p k none, updI G.I k n none⟩
theorem lifv {X' : Str} (h : X'.tree = false) {p : Int} (hp : p = (X'.t : Int) + 1) : pl (mkIf 112 p) = X'.ifv := by
  subst hp; simp only [Str.ifv, h, mkIf_eq]; rfl
theorem tifv {X' : Str} (h : X'.tree = true) {p : Int} (hp : p = (X'.t : Int) + 1) : pl (mkIf 24 p) = X'.ifv := by
  subst hp; simp only [Str.ifv, h, mkIf_eq]; rfl
/-- one of its structures, new -/
theorem GG.is.mid_new {G : GG} {m0 m1 m2 : Mem} {p : Pl} {X0 X' : Str} (h : G.is m0) (hR : G.R p = none) (h1 : ∀ a, X0.D a → m0 a = none) (h2 : ∀ a, m0 a ≠ none → m1 a = m0 a) (ht : X0.to X' m1 m2) : G.mid m0 m2 p X' := by
  refine ⟨h, ht.in', fun a ha _ => ?_, fun a ha => .inr ?_⟩
  · exact (ht.keep a (by rw [h2 a ha]; exact ha) fun hd => ha (h1 a hd)).trans (h2 a ha)
  · rcases ht.dom a ha with hd | hn
    · exact h1 a hd
    · cases e : m0 a with
      | none => rfl
      | some o => have := h2 a (by rw [e]; simp); rw [hn, e] at this; cases this

/-! New -/
def T_gnew (m : Mem)  : Tr := (.any (newMQ m) (fun y0 => (.any (newMQ y0.4) (fun y1 => (.any (newMQ y1.4) (fun y2 => (.any (newQ y2.4 (.mk [(pl (hdV y0.3)), (pl (hdV y1.3)), (pl (hdV y2.3))]) 111) (fun y3 => (.leaf (.memo (.u (.c (.np (pI y3.1) 0))) y3.4))))))))))
def gnewP (m : Mem) : Prop := ∃ G : Unit, True
def gnewPost (m : Mem) (y : Vars) : Prop := ∃ G : GG, y.i = [(G.g : Int) + 1] ∧ G.is y.m ∧ (∀ p, G.R p = none) ∧ (∀ p h, G.N p h = none) ∧ (∀ h n, G.I h n = none) ∧ (∀ a, G.dom a → m a = none) ∧ ∀ a, m a ≠ none → y.m a = m a
def gnewQ (m : Mem) (y : Vars) : Prop := ∀ G : Unit, True → gnewPost m y
def s_gnew : Sum := memSum 29 fun m a => match a with | [] => some ⟨gnewP m, gnewQ m, fun y => .u (.c (.np (hdI y.i) 0))⟩ | _ => none
theorem isMap_new {kt : TypeId} {m : Mem} {q : Nat} (h : m q = some (.map #[] 0)) : isMap kt m q ∧ ∀ k, mlook m (.map (some q)) k = none := by
  refine ⟨⟨#[], 0, h, fun e he => by simp at he, List.Pairwise.nil⟩, fun k => ?_⟩
  simp [mlook, mpE, h, efind]
theorem gnew_walk {m : Mem} (G : Unit) (hG : True) : (T_gnew m).sat (isMemo fun v x => gnewPost m (yOf v x) ∧ (yOf v x).m = x ∧ ∀ ρ, v.den ρ = V.den ρ (.u (.c (.np (hdI (yOf v x).i) 0)))) := by
  unfold T_gnew
  rw [sat_any]
  rintro ⟨ai, ab, av, am⟩ ⟨mr, a1, a2, a3⟩
  simp only at a2 a3
  subst a2 a3
  rw [sat_any]
  rintro ⟨bi, bb, bv, bm⟩ ⟨mi, b1, b2, b3⟩
  simp only at b1 b2 b3
  subst b2 b3
  rw [sat_any]
  rintro ⟨ci, cb, cv, cm⟩ ⟨mb, c1, c2, c3⟩
  simp only at c1 c2 c3
  subst c2 c3
  rw [sat_any]
  rintro ⟨di, db, dv, dm⟩ ⟨g, d1, d2, d3⟩
  simp only at d1 d2 d3
  subst d1
  have e1 : alM (alO (alO (alO m mr (.map #[] 0)) mi (.map #[] 0)) mb (.map #[] 0)) ((g : Int) + 1) (.mk [(pl (hdV [Value.map (some mr)])), (pl (hdV [Value.map (some mi)])), (pl (hdV [Value.map (some mb)]))]) 111 = alO (alO (alO (alO m mr (.map #[] 0)) mi (.map #[] 0)) mb (.map #[] 0)) g (gO mr mi mb) := alM_alO _ g _ 111
  rw [e1] at d3
  subst d3
  have n1 : mi ≠ mr := by rintro rfl; rw [alO_self] at b1; cases b1
  have n2 : mb ≠ mi := by rintro rfl; rw [alO_self] at c1; cases c1
  have n3 : mb ≠ mr := by rintro rfl; rw [alO_ne _ (Ne.symm n1), alO_self] at c1; cases c1
  have n4 : g ≠ mb := by rintro rfl; rw [alO_self] at d2; cases d2
  have n5 : g ≠ mi := by rintro rfl; rw [alO_ne _ (Ne.symm n2), alO_self] at d2; cases d2
  have n6 : g ≠ mr := by rintro rfl; rw [alO_ne _ (Ne.symm n3), alO_ne _ (Ne.symm n1), alO_self] at d2; cases d2
  have f2 : m mi = none := by rw [alO_ne _ n1] at b1; exact b1
  have f3 : m mb = none := by rw [alO_ne _ n2, alO_ne _ n3] at c1; exact c1
  have f4 : m g = none := by rw [alO_ne _ n4, alO_ne _ n5, alO_ne _ n6] at d2; exact d2
  generalize hM : alO (alO (alO (alO m mr (.map #[] 0)) mi (.map #[] 0)) mb (.map #[] 0)) g (gO mr mi mb) = M
  have hg : M g = some (gO mr mi mb) := by rw [← hM, alO_self]
  have hb : M mb = some (.map #[] 0) := by rw [← hM, alO_ne _ (Ne.symm n4), alO_self]
  have hi : M mi = some (.map #[] 0) := by rw [← hM, alO_ne _ (Ne.symm n5), alO_ne _ (Ne.symm n2), alO_self]
  have hr : M mr = some (.map #[] 0) := by rw [← hM, alO_ne _ (Ne.symm n6), alO_ne _ (Ne.symm n3), alO_ne _ (Ne.symm n1), alO_self]
  have ho : ∀ a, m a ≠ none → M a = m a := fun a ha => by
    rw [← hM, alO_ne _ (by rintro rfl; exact ha f4), alO_ne _ (by rintro rfl; exact ha f3), alO_ne _ (by rintro rfl; exact ha f2), alO_ne _ (by rintro rfl; exact ha a1)]
  refine ⟨⟨⟨g, mr, mi, mb, fun _ => none, fun _ _ => none, fun _ _ => none⟩, rfl, ⟨⟨hg, (isMap_new hr).1, (isMap_new hi).1, (isMap_new hb).1, fun p _ => (isMap_new (kt := 59) hr).2 _, fun h n _ _ => (isMap_new (kt := 59) hi).2 _, fun p h _ _ => (isMap_new (kt := 59) hb).2 _, Ne.symm n1, Ne.symm n3, Ne.symm n2⟩, (fun p X h => by cases h), (fun p q X Y h => by cases h), (fun p X h => by cases h), (fun p h => by simp), (fun p h n hn => by cases hn), (fun h n p => by simp)⟩, fun _ => rfl, fun _ _ => rfl, fun _ _ => rfl, fun a ha => ?_, ho⟩, rfl, fun ρ => rfl⟩
  rcases ha with (rfl | rfl | rfl | rfl) | ⟨p, X, hX, _⟩
  · exact f4
  · exact a1
  · exact f2
  · exact f3
  · cases hX
theorem t_gnew (m : Mem)  : runm Try.prog [] (drawx Try.prog []) 300 29 [] m [98, 92, 95, 142, 140, 137, 111, 107, 108, 109] = T_gnew m  := by kernel_rfl
theorem s_gnew_ok : SumOK Try.prog s_gnew := by
  refine memSum_ok ⟨_, Try.func29, by kernel_rfl⟩ fun m args ms h hp hw ρ w hm => ?_
  split at h
  · cases h
    exact mm_ghostY nameOK okn (dOK okn) 300 _ m _ (t_gnew m) yOf hp (pre := fun _ : Unit => True) (post := fun _ y => gnewPost m y) (ret := fun y => .u (.c (.np (hdI y.i) 0))) (fun G hG => gnew_walk G hG) ρ w hm (by simp only [List.map_nil])
  · cases h

/-! Push -/
def T_gpush (m : Mem) (t : Int) (pm ps pa : Int) (hs hg : Int) (n : Int) (o : Bool) : Tr := (.req (madeOK m t) (.req ((([(1, ([(.si .i64 hs), (.si .u64 hg)], 29)), (0, ([(.si .i64 pm), (.si .i64 ps), (.si .i64 pa)], 59))] : List (Nat × Blk)) = [(1, ([(.si .i64 hs), (.si .u64 hg)], 29)), (0, ([(.si .i64 pm), (.si .i64 ps), (.si .i64 pa)], 59))]) ∧ (([] : List (Nat × MBlk)) = [])) (.br (madeV m t) (.req (listedOK m t pm ps pa) (.req ((([(1, ([(.si .i64 hs), (.si .u64 hg)], 29)), (0, ([(.si .i64 pm), (.si .i64 ps), (.si .i64 pa)], 59))] : List (Nat × Blk)) = [(1, ([(.si .i64 hs), (.si .u64 hg)], 29)), (0, ([(.si .i64 pm), (.si .i64 ps), (.si .i64 pa)], 59))]) ∧ (([] : List (Nat × MBlk)) = [])) (.br (cmpOK m (listedV m t pm ps pa) 0) (.req (mayOK m t pm ps pa hs hg n (bNot (peq (listedV m t pm ps pa) 0))) (.req ((([(1, ([(.si .i64 hs), (.si .u64 hg)], 29)), (0, ([(.si .i64 pm), (.si .i64 ps), (.si .i64 pa)], 59))] : List (Nat × Blk)) = [(1, ([(.si .i64 hs), (.si .u64 hg)], 29)), (0, ([(.si .i64 pm), (.si .i64 ps), (.si .i64 pa)], 59))]) ∧ (([] : List (Nat × MBlk)) = [])) (.br (iNe (mayV m t pm ps pa hs hg n (bNot (peq (listedV m t pm ps pa) 0))) 0) (.leaf (.memo (.u (.c (.si .i64 (mayV m t pm ps pa hs hg n (bNot (peq (listedV m t pm ps pa) 0)))))) m)) (.req (listedOK m t pm ps pa) (.br (cmpOK m (listedV m t pm ps pa) 0) (.br (peq (listedV m t pm ps pa) 0) (.req (lnewP m) (.any (lnewQ m) (fun y0 => (.req (lpushP y0.4 (hdI y0.1) hs hg o) (.any (lpushQ y0.4 (hdI y0.1) hs hg o) (fun y1 => (.req (comesOK y1.4 t pm ps pa hs hg n (pl (mkIf 112 (hdI y0.1)))) (.letm (comesM y1.4 t pm ps pa hs hg n (pl (mkIf 112 (hdI y0.1)))) (fun m1 => (.leaf (.memo (.u (.c (.si .i64 (hdI y1.1)))) m1))))))))))) (.req (lpushP m (listedV m t pm ps pa) hs hg o) (.any (lpushQ m (listedV m t pm ps pa) hs hg o) (fun y0 => (.req (comesOK y0.4 t pm ps pa hs hg n (pl (mkIf 112 (listedV m t pm ps pa)))) (.letm (comesM y0.4 t pm ps pa hs hg n (pl (mkIf 112 (listedV m t pm ps pa)))) (fun m1 => (.leaf (.memo (.u (.c (.si .i64 (hdI y0.1)))) m1))))))))) (.no 78)))))) (.no 78)))) (.req ((([(1, ([(.si .i64 hs), (.si .u64 hg)], 29)), (0, ([(.si .i64 pm), (.si .i64 ps), (.si .i64 pa)], 59))] : List (Nat × Blk)) = [(1, ([(.si .i64 hs), (.si .u64 hg)], 29)), (0, ([(.si .i64 pm), (.si .i64 ps), (.si .i64 pa)], 59))]) ∧ (([] : List (Nat × MBlk)) = [])) (.req (mayOK m t pm ps pa hs hg n false) (.req ((([(1, ([(.si .i64 hs), (.si .u64 hg)], 29)), (0, ([(.si .i64 pm), (.si .i64 ps), (.si .i64 pa)], 59))] : List (Nat × Blk)) = [(1, ([(.si .i64 hs), (.si .u64 hg)], 29)), (0, ([(.si .i64 pm), (.si .i64 ps), (.si .i64 pa)], 59))]) ∧ (([] : List (Nat × MBlk)) = [])) (.br (iNe (mayV m t pm ps pa hs hg n false) 0) (.leaf (.memo (.u (.c (.si .i64 (mayV m t pm ps pa hs hg n false)))) m)) (.req (listedOK m t pm ps pa) (.br (cmpOK m (listedV m t pm ps pa) 0) (.br (peq (listedV m t pm ps pa) 0) (.req (lnewP m) (.any (lnewQ m) (fun y0 => (.req (lpushP y0.4 (hdI y0.1) hs hg o) (.any (lpushQ y0.4 (hdI y0.1) hs hg o) (fun y1 => (.req (comesOK y1.4 t pm ps pa hs hg n (pl (mkIf 112 (hdI y0.1)))) (.letm (comesM y1.4 t pm ps pa hs hg n (pl (mkIf 112 (hdI y0.1)))) (fun m1 => (.leaf (.memo (.u (.c (.si .i64 (hdI y1.1)))) m1))))))))))) (.req (lpushP m (listedV m t pm ps pa) hs hg o) (.any (lpushQ m (listedV m t pm ps pa) hs hg o) (fun y0 => (.req (comesOK y0.4 t pm ps pa hs hg n (pl (mkIf 112 (listedV m t pm ps pa)))) (.letm (comesM y0.4 t pm ps pa hs hg n (pl (mkIf 112 (listedV m t pm ps pa)))) (fun m1 => (.leaf (.memo (.u (.c (.si .i64 (hdI y0.1)))) m1))))))))) (.no 78))))))))))
def gpushPre (G : GG) (m : Mem) (t pm ps pa hs hg n : Int) : Prop := t = (G.g : Int) + 1 ∧ G.is m ∧ okP' (pm, ps, pa) ∧ okH (hs, hg) ∧ inI n
def gpushPost (m : Mem) (G : GG) (p : Pl) (k : Hn) (n : Int) (o : Bool) (y : Vars) : Prop :=
  (mayE G p k n (listB (G.R p)) ≠ 0 ∧ y.i = [mayE G p k n (listB (G.R p))] ∧ y.m = m) ∨
  (mayE G p k n (listB (G.R p)) = 0 ∧ y.i = [0] ∧ ∃ X', X'.tree = false ∧ X'.hs = putE o k (hsO (G.R p)) ∧ G.to (G.come p k n X') m y.m)
def gpushP (m : Mem) (t pm ps pa hs hg n : Int) (o : Bool) : Prop := ∃ G, gpushPre G m t pm ps pa hs hg n
def gpushQ (m : Mem) (t pm ps pa hs hg n : Int) (o : Bool) (y : Vars) : Prop := ∀ G, gpushPre G m t pm ps pa hs hg n → gpushPost m G (pm, ps, pa) (hs, hg) n o y
def s_gpush : Sum := memSum 31 fun m a => match a with | [a0, a1, a2, a3, a4] => (match ptrOf a0, plaOf a1, hanOf a2, intOf a3, booOf a4 with | some t, some (pm, ps, pa), some (hs, hg), some n, some o => some ⟨gpushP m t pm ps pa hs hg n o, gpushQ m t pm ps pa hs hg n o, fun y => .u (.c (.si .i64 (hdI y.i)))⟩ | _, _, _, _, _ => none) | _ => none
theorem mem_putE {α : Type} {o : Bool} {k j : α} {l : List α} : j ∈ putE o k l ↔ j = k ∨ j ∈ l := by
  cases o <;> simp [putE, or_comm]
theorem putE_ne {α : Type} (o : Bool) (k : α) (l : List α) : putE o k l ≠ [] := by cases o <;> simp [putE]
theorem gpush_walk {m : Mem} {t a b c k l n : Int} {o : Bool} (G : GG) (hG : gpushPre G m t a b c k l n) : (T_gpush m t a b c k l n o).sat (isMemo fun v x => gpushPost m G (a, b, c) (k, l) n o (yOf v x) ∧ (yOf v x).m = x ∧ ∀ ρ, v.den ρ = V.den ρ (.u (.c (.si .i64 (hdI (yOf v x).i))))) := by
  obtain ⟨rfl, h, hp, hk, hn⟩ := hG
  have hg := h.toGM
  obtain ⟨m1, m2⟩ := made_spec hg
  obtain ⟨l1, l2⟩ := listed_spec hg hp
  obtain ⟨y1, y2⟩ := may_spec hg hp hk hn (listB (G.R (a, b, c)))
  have hb : bNot (peq (lP (G.R (a, b, c))) 0) = listB (G.R (a, b, c)) := by rw [lP_b]; simp [bNot]
  unfold T_gpush
  simp only [l2, hb, y2]
  rw [sat_req]
  refine ⟨m1, ?_⟩
  rw [sat_req]
  refine ⟨⟨trivial, trivial⟩, ?_⟩
  rw [brT m2, sat_req]
  refine ⟨l1, ?_⟩
  rw [sat_req]
  refine ⟨⟨trivial, trivial⟩, ?_⟩
  rw [brT (cmp_zero _ _), sat_req]
  refine ⟨y1, ?_⟩
  rw [sat_req]
  refine ⟨⟨trivial, trivial⟩, ?_⟩
  by_cases he : mayE G (a, b, c) (k, l) n (listB (G.R (a, b, c))) = 0
  rotate_left
  · rw [brT (by simpa [iNe] using he)]
    exact ⟨.inl ⟨he, rfl, rfl⟩, rfl, fun ρ => rfl⟩
  rw [brF (by simp [iNe, he]), sat_req]
  refine ⟨l1, ?_⟩
  rw [brT (cmp_zero _ _), lP_b]
  obtain ⟨z1, z2, z3⟩ := mayE_zero he
  cases hX : G.R (a, b, c) with
  | none =>
    rw [brT (by rfl), sat_req]
    refine ⟨trivial, ?_⟩
    rw [sat_any]
    rintro ⟨ui, ub, uv, um⟩ hu
    obtain ⟨X0, u1, u2, u3, u4, u5, u6⟩ := Str.lnew hu
    simp only at u1 u2 u6
    subst u1
    obtain ⟨q1, q2⟩ := Str.push u2 u3 hk o
    simp only [hdI]
    rw [sat_req]
    refine ⟨q1, ?_⟩
    rw [sat_any]
    rintro ⟨wi, wb, wv, wm⟩ hw
    rcases q2 _ hw with ⟨s1, _⟩ | ⟨s1, s2, X', s3, s4⟩
    · rw [u4] at s1; cases s1
    simp only at s2 s3
    subst s2
    have hmid := h.mid_new hX u5 u6 s3
    have hX't : X'.tree = false := s3.tree.trans u3
    rw [lifv hX't (by rw [s3.t])]
    rw [u4] at s4
    obtain ⟨c1, c2⟩ := hmid.comes hp hk hn z1 z2 (by rw [s4]; exact putE_ne _ _ _) (fun j => by rw [s4, mem_putE, hX]; simp)
    rw [sat_req]
    refine ⟨c1, ?_⟩
    exact ⟨.inr ⟨he, rfl, X', hX't, by rw [hX]; exact s4, c2⟩, rfl, fun ρ => rfl⟩
  | some X =>
    have hf := z3 (by rw [hX]; rfl)
    rw [hX] at hf
    have ht : X.tree = false := by simpa [listB] using hf
    have hin := (h.st _ X hX).1
    have hl : lP (some X) = (X.t : Int) + 1 := by simp [lP, ht]
    obtain ⟨q1, q2⟩ := Str.push hin ht hk o
    rw [brF (by rw [hf]; rfl), sat_req, hl]
    refine ⟨q1, ?_⟩
    rw [sat_any]
    rintro ⟨wi, wb, wv, wm⟩ hw
    rcases q2 _ hw with ⟨s1, _⟩ | ⟨s1, s2, X', s3, s4⟩
    · exfalso
      have := (h.nh (a, b, c) (k, l)).2 ⟨X, hX, s1⟩
      rw [z2] at this; cases this
    simp only at s2 s3
    subst s2
    have hmid := h.mid_to hX s3
    have hX't : X'.tree = false := s3.tree.trans ht
    rw [lifv hX't (by rw [s3.t])]
    obtain ⟨c1, c2⟩ := hmid.comes hp hk hn z1 z2 (by rw [s4]; exact putE_ne _ _ _) (fun j => by rw [s4, mem_putE, hX]; simp)
    rw [sat_req]
    refine ⟨c1, ?_⟩
    exact ⟨.inr ⟨he, rfl, X', hX't, by rw [hX]; exact s4, c2⟩, rfl, fun ρ => rfl⟩
theorem t_gpush (m : Mem) (t : Int) (pm ps pa : Int) (hs hg : Int) (n : Int) (o : Bool) : runm Try.prog [s_made, s_listed, s_may, s_lnew, s_lpush, s_comes] (drawh Try.prog [s_made, s_listed, s_may, s_lnew, s_lpush, s_comes] (fun _ _ => none) (fun _ _ _ => none)) 300 31 [.u (.c (.np t 0)), .u (.agg [.si .i64 pm, .si .i64 ps, .si .i64 pa]), .u (.agg [.si .i64 hs, .si .u64 hg]), .u (.c (.si .i64 n)), .u (.c (.sb o))] m [98, 92, 95, 142, 140, 137, 111, 107, 108, 109] = T_gpush m t pm ps pa hs hg n o := by kernel_rfl
theorem s_gpush_ok : SumOK Try.prog s_gpush := by
  refine memSum_ok ⟨_, Try.func31, by kernel_rfl⟩ fun m args ms h hp hw ρ w hm => ?_
  split at h
  · split at h
    · rename_i a0 a1 a2 a3 a4 _ _ _ _ _ t pm ps pa hs hg n o h0 h1 h2 h3 h4
      cases h
      have hS : ∀ q ∈ [s_made, s_listed, s_may, s_lnew, s_lpush, s_comes], SumOK Try.prog q := (okc s_made_ok (okc s_listed_ok (okc s_may_ok (okc s_lnew_ok (okc s_lpush_ok (okc s_comes_ok okn))))))
      exact mm_ghostY nameOK hS (drawh_sound nameOK hS (by kernel_rfl) _ _) 300 _ m _ (t_gpush m t pm ps pa hs hg n o) yOf hp (fun G hG => gpush_walk G hG) ρ w hm (by simp only [List.map_cons, List.map_nil, ptrOf_den h0, plaOf_den h1, hanOf_den h2, intOf_den h3, booOf_den h4])
    · cases h
  · cases h

/-! Insert -/
def T_ginsert (m : Mem) (t : Int) (pm ps pa : Int) (i : Int) (hs hg : Int) (n : Int) : Tr := (.req (madeOK m t) (.req ((([(1, ([(.si .i64 hs), (.si .u64 hg)], 29)), (0, ([(.si .i64 pm), (.si .i64 ps), (.si .i64 pa)], 59))] : List (Nat × Blk)) = [(1, ([(.si .i64 hs), (.si .u64 hg)], 29)), (0, ([(.si .i64 pm), (.si .i64 ps), (.si .i64 pa)], 59))]) ∧ (([] : List (Nat × MBlk)) = [])) (.br (madeV m t) (.req (treedOK m t pm ps pa) (.req ((([(1, ([(.si .i64 hs), (.si .u64 hg)], 29)), (0, ([(.si .i64 pm), (.si .i64 ps), (.si .i64 pa)], 59))] : List (Nat × Blk)) = [(1, ([(.si .i64 hs), (.si .u64 hg)], 29)), (0, ([(.si .i64 pm), (.si .i64 ps), (.si .i64 pa)], 59))]) ∧ (([] : List (Nat × MBlk)) = [])) (.br (cmpOK m (treedV m t pm ps pa) 0) (.req (mayOK m t pm ps pa hs hg n (bNot (peq (treedV m t pm ps pa) 0))) (.req ((([(1, ([(.si .i64 hs), (.si .u64 hg)], 29)), (0, ([(.si .i64 pm), (.si .i64 ps), (.si .i64 pa)], 59))] : List (Nat × Blk)) = [(1, ([(.si .i64 hs), (.si .u64 hg)], 29)), (0, ([(.si .i64 pm), (.si .i64 ps), (.si .i64 pa)], 59))]) ∧ (([] : List (Nat × MBlk)) = [])) (.br (iNe (mayV m t pm ps pa hs hg n (bNot (peq (treedV m t pm ps pa) 0))) 0) (.leaf (.memo (.u (.c (.si .i64 (mayV m t pm ps pa hs hg n (bNot (peq (treedV m t pm ps pa) 0)))))) m)) (.req (treedOK m t pm ps pa) (.br (cmpOK m (treedV m t pm ps pa) 0) (.br (peq (treedV m t pm ps pa) 0) (.req (freshP m) (.any (freshQ m) (fun y0 => (.req (insertP y0.4 (hdI y0.1) i hs hg) (.any (insertQ y0.4 (hdI y0.1) i hs hg) (fun y1 => (.br (iEq (hdI y1.1) 0) (.req (comesOK y1.4 t pm ps pa hs hg n (pl (mkIf 24 (hdI y0.1)))) (.letm (comesM y1.4 t pm ps pa hs hg n (pl (mkIf 24 (hdI y0.1)))) (fun m1 => (.leaf (.memo (.u (.c (.si .i64 (hdI y1.1)))) m1))))) (.leaf (.memo (.u (.c (.si .i64 (hdI y1.1)))) y1.4))))))))) (.req (insertP m (treedV m t pm ps pa) i hs hg) (.any (insertQ m (treedV m t pm ps pa) i hs hg) (fun y0 => (.br (iEq (hdI y0.1) 0) (.req (comesOK y0.4 t pm ps pa hs hg n (pl (mkIf 24 (treedV m t pm ps pa)))) (.letm (comesM y0.4 t pm ps pa hs hg n (pl (mkIf 24 (treedV m t pm ps pa)))) (fun m1 => (.leaf (.memo (.u (.c (.si .i64 (hdI y0.1)))) m1))))) (.leaf (.memo (.u (.c (.si .i64 (hdI y0.1)))) y0.4))))))) (.no 78)))))) (.no 78)))) (.req ((([(1, ([(.si .i64 hs), (.si .u64 hg)], 29)), (0, ([(.si .i64 pm), (.si .i64 ps), (.si .i64 pa)], 59))] : List (Nat × Blk)) = [(1, ([(.si .i64 hs), (.si .u64 hg)], 29)), (0, ([(.si .i64 pm), (.si .i64 ps), (.si .i64 pa)], 59))]) ∧ (([] : List (Nat × MBlk)) = [])) (.req (mayOK m t pm ps pa hs hg n false) (.req ((([(1, ([(.si .i64 hs), (.si .u64 hg)], 29)), (0, ([(.si .i64 pm), (.si .i64 ps), (.si .i64 pa)], 59))] : List (Nat × Blk)) = [(1, ([(.si .i64 hs), (.si .u64 hg)], 29)), (0, ([(.si .i64 pm), (.si .i64 ps), (.si .i64 pa)], 59))]) ∧ (([] : List (Nat × MBlk)) = [])) (.br (iNe (mayV m t pm ps pa hs hg n false) 0) (.leaf (.memo (.u (.c (.si .i64 (mayV m t pm ps pa hs hg n false)))) m)) (.req (treedOK m t pm ps pa) (.br (cmpOK m (treedV m t pm ps pa) 0) (.br (peq (treedV m t pm ps pa) 0) (.req (freshP m) (.any (freshQ m) (fun y0 => (.req (insertP y0.4 (hdI y0.1) i hs hg) (.any (insertQ y0.4 (hdI y0.1) i hs hg) (fun y1 => (.br (iEq (hdI y1.1) 0) (.req (comesOK y1.4 t pm ps pa hs hg n (pl (mkIf 24 (hdI y0.1)))) (.letm (comesM y1.4 t pm ps pa hs hg n (pl (mkIf 24 (hdI y0.1)))) (fun m1 => (.leaf (.memo (.u (.c (.si .i64 (hdI y1.1)))) m1))))) (.leaf (.memo (.u (.c (.si .i64 (hdI y1.1)))) y1.4))))))))) (.req (insertP m (treedV m t pm ps pa) i hs hg) (.any (insertQ m (treedV m t pm ps pa) i hs hg) (fun y0 => (.br (iEq (hdI y0.1) 0) (.req (comesOK y0.4 t pm ps pa hs hg n (pl (mkIf 24 (treedV m t pm ps pa)))) (.letm (comesM y0.4 t pm ps pa hs hg n (pl (mkIf 24 (treedV m t pm ps pa)))) (fun m1 => (.leaf (.memo (.u (.c (.si .i64 (hdI y0.1)))) m1))))) (.leaf (.memo (.u (.c (.si .i64 (hdI y0.1)))) y0.4))))))) (.no 78))))))))))
def ginsertPre (G : GG) (m : Mem) (t pm ps pa hs hg n : Int) : Prop := gpushPre G m t pm ps pa hs hg n ∧ (hsO (G.R (pm, ps, pa))).length + 1 < 1152921504606846976
def ginsertPost (m : Mem) (G : GG) (p : Pl) (i : Int) (k : Hn) (n : Int) (y : Vars) : Prop :=
  (mayE G p k n (treeB (G.R p)) ≠ 0 ∧ y.i = [mayE G p k n (treeB (G.R p))] ∧ y.m = m) ∨
  (mayE G p k n (treeB (G.R p)) = 0 ∧ (i < 0 ∨ ((hsO (G.R p)).length : Int) < i) ∧ y.i = [2] ∧ ∀ a, m a ≠ none → y.m a = m a) ∨
  (mayE G p k n (treeB (G.R p)) = 0 ∧ 0 ≤ i ∧ i ≤ (hsO (G.R p)).length ∧ y.i = [0] ∧ ∃ X', X'.tree = true ∧ X'.hs = (hsO (G.R p)).take i.toNat ++ k :: (hsO (G.R p)).drop i.toNat ∧ G.to (G.come p k n X') m y.m)
def ginsertP (m : Mem) (t pm ps pa i hs hg n : Int) : Prop := ∃ G, ginsertPre G m t pm ps pa hs hg n
def ginsertQ (m : Mem) (t pm ps pa i hs hg n : Int) (y : Vars) : Prop := ∀ G, ginsertPre G m t pm ps pa hs hg n → ginsertPost m G (pm, ps, pa) i (hs, hg) n y
def s_ginsert : Sum := memSum 32 fun m a => match a with | [a0, a1, a2, a3, a4] => (match ptrOf a0, plaOf a1, intOf a2, hanOf a3, intOf a4 with | some t, some (pm, ps, pa), some i, some (hs, hg), some n => some ⟨ginsertP m t pm ps pa i hs hg n, ginsertQ m t pm ps pa i hs hg n, fun y => .u (.c (.si .i64 (hdI y.i)))⟩ | _, _, _, _, _ => none) | _ => none
theorem mem_cutin {k j : Hn} {l : List Hn} (i : Nat) : j ∈ l.take i ++ k :: l.drop i ↔ j = k ∨ j ∈ l := by
  conv => rhs; rw [← List.take_append_drop i l]
  simp only [List.mem_append, List.mem_cons]
  constructor
  · rintro (h | h | h)
    · exact .inr (.inl h)
    · exact .inl h
    · exact .inr (.inr h)
  · rintro (h | h | h)
    · exact .inr (.inl h)
    · exact .inl h
    · exact .inr (.inr h)
theorem ginsert_walk {m : Mem} {t a b c i k l n : Int} (G : GG) (hG : ginsertPre G m t a b c k l n) : (T_ginsert m t a b c i k l n).sat (isMemo fun v x => ginsertPost m G (a, b, c) i (k, l) n (yOf v x) ∧ (yOf v x).m = x ∧ ∀ ρ, v.den ρ = V.den ρ (.u (.c (.si .i64 (hdI (yOf v x).i))))) := by
  obtain ⟨⟨rfl, h, hp, hk, hn⟩, hsz⟩ := hG
  have hg := h.toGM
  obtain ⟨m1, m2⟩ := made_spec hg
  obtain ⟨l1, l2⟩ := treed_spec hg hp
  obtain ⟨y1, y2⟩ := may_spec hg hp hk hn (treeB (G.R (a, b, c)))
  have hb : bNot (peq (tP (G.R (a, b, c))) 0) = treeB (G.R (a, b, c)) := by rw [tP_b]; simp [bNot]
  unfold T_ginsert
  simp only [l2, hb, y2]
  rw [sat_req]
  refine ⟨m1, ?_⟩
  rw [sat_req]
  refine ⟨⟨trivial, trivial⟩, ?_⟩
  rw [brT m2, sat_req]
  refine ⟨l1, ?_⟩
  rw [sat_req]
  refine ⟨⟨trivial, trivial⟩, ?_⟩
  rw [brT (cmp_zero _ _), sat_req]
  refine ⟨y1, ?_⟩
  rw [sat_req]
  refine ⟨⟨trivial, trivial⟩, ?_⟩
  by_cases he : mayE G (a, b, c) (k, l) n (treeB (G.R (a, b, c))) = 0
  rotate_left
  · rw [brT (by simpa [iNe] using he)]
    exact ⟨.inl ⟨he, rfl, rfl⟩, rfl, fun ρ => rfl⟩
  rw [brF (by simp [iNe, he]), sat_req]
  refine ⟨l1, ?_⟩
  rw [brT (cmp_zero _ _), tP_b]
  obtain ⟨z1, z2, z3⟩ := mayE_zero he
  cases hX : G.R (a, b, c) with
  | none =>
    rw [brT (by rfl), sat_req]
    refine ⟨trivial, ?_⟩
    rw [sat_any]
    rintro ⟨ui, ub, uv, um⟩ hu
    obtain ⟨X0, u1, u2, u3, u4, u5, u6⟩ := Str.tnew hu
    simp only at u1 u2 u6
    subst u1
    obtain ⟨q1, q2⟩ := Str.ins u2 u3 (by rw [u4]; decide) hk i
    simp only [hdI]
    rw [sat_req]
    refine ⟨q1, ?_⟩
    rw [sat_any]
    rintro ⟨wi, wb, wv, wm⟩ hw
    rcases q2 _ hw with ⟨s1, s2, s3⟩ | ⟨_, _, s1, _⟩ | ⟨i1, i2, s1, s2, X', s3, s4⟩
    · simp only at s2 s3
      subst s2 s3
      rw [brF (by rfl)]
      refine ⟨.inr (.inl ⟨he, ?_, rfl, u6⟩), rfl, fun ρ => rfl⟩
      rw [u4] at s1; rw [hX]; exact s1
    · rw [u4] at s1; cases s1
    simp only at s2 s3
    subst s2
    have hmid := h.mid_new hX u5 u6 s3
    have hX't : X'.tree = true := s3.tree.trans u3
    rw [brT (by rfl), tifv hX't (by rw [s3.t])]
    rw [u4] at s4 i2
    obtain ⟨c1, c2⟩ := hmid.comes hp hk hn z1 z2 (by rw [s4]; simp) (fun j => by rw [s4, mem_cutin, hX]; simp)
    rw [sat_req]
    refine ⟨c1, ?_⟩
    exact ⟨.inr (.inr ⟨he, i1, by rw [hX]; exact i2, rfl, X', hX't, by rw [hX]; exact s4, c2⟩), rfl, fun ρ => rfl⟩
  | some X =>
    have hf := z3 (by rw [hX]; rfl)
    rw [hX] at hf hsz
    have ht : X.tree = true := by simpa [treeB] using hf
    have hin := (h.st _ X hX).1
    have hl : tP (some X) = (X.t : Int) + 1 := by simp [tP, ht]
    obtain ⟨q1, q2⟩ := Str.ins hin ht hsz hk i
    rw [brF (by rw [hf]; rfl), sat_req, hl]
    refine ⟨q1, ?_⟩
    rw [sat_any]
    rintro ⟨wi, wb, wv, wm⟩ hw
    rcases q2 _ hw with ⟨s1, s2, s3⟩ | ⟨_, _, s1, _⟩ | ⟨i1, i2, s1, s2, X', s3, s4⟩
    · simp only at s2 s3
      subst s2 s3
      simp only [hdI]
      rw [brF (by rfl)]
      exact ⟨.inr (.inl ⟨he, by rw [hX]; exact s1, rfl, fun _ _ => rfl⟩), rfl, fun ρ => rfl⟩
    · exfalso
      have := (h.nh (a, b, c) (k, l)).2 ⟨X, hX, s1⟩
      rw [z2] at this; cases this
    simp only at s2 s3
    subst s2
    have hmid := h.mid_to hX s3
    have hX't : X'.tree = true := s3.tree.trans ht
    simp only [hdI]
    rw [brT (by rfl), tifv hX't (by rw [s3.t])]
    obtain ⟨c1, c2⟩ := hmid.comes hp hk hn z1 z2 (by rw [s4]; simp) (fun j => by rw [s4, mem_cutin, hX]; simp)
    rw [sat_req]
    refine ⟨c1, ?_⟩
    exact ⟨.inr (.inr ⟨he, i1, by rw [hX]; exact i2, rfl, X', hX't, by rw [hX]; exact s4, c2⟩), rfl, fun ρ => rfl⟩
theorem t_ginsert (m : Mem) (t : Int) (pm ps pa : Int) (i : Int) (hs hg : Int) (n : Int) : runm Try.prog [s_made, s_treed, s_may, s_fresh, s_insert, s_comes] (drawh Try.prog [s_made, s_treed, s_may, s_fresh, s_insert, s_comes] (fun _ _ => none) (fun _ _ _ => none)) 300 32 [.u (.c (.np t 0)), .u (.agg [.si .i64 pm, .si .i64 ps, .si .i64 pa]), .u (.c (.si .i64 i)), .u (.agg [.si .i64 hs, .si .u64 hg]), .u (.c (.si .i64 n))] m [98, 92, 95, 142, 140, 137, 111, 107, 108, 109] = T_ginsert m t pm ps pa i hs hg n := by kernel_rfl
theorem s_ginsert_ok : SumOK Try.prog s_ginsert := by
  refine memSum_ok ⟨_, Try.func32, by kernel_rfl⟩ fun m args ms h hp hw ρ w hm => ?_
  split at h
  · split at h
    · rename_i a0 a1 a2 a3 a4 _ _ _ _ _ t pm ps pa i hs hg n h0 h1 h2 h3 h4
      cases h
      have hS : ∀ q ∈ [s_made, s_treed, s_may, s_fresh, s_insert, s_comes], SumOK Try.prog q := (okc s_made_ok (okc s_treed_ok (okc s_may_ok (okc s_fresh_ok (okc s_insert_ok (okc s_comes_ok okn))))))
      exact mm_ghostY nameOK hS (drawh_sound nameOK hS (by kernel_rfl) _ _) 300 _ m _ (t_ginsert m t pm ps pa i hs hg n) yOf hp (fun G hG => ginsert_walk G hG) ρ w hm (by simp only [List.map_cons, List.map_nil, ptrOf_den h0, plaOf_den h1, intOf_den h2, hanOf_den h3, intOf_den h4])
    · cases h
  · cases h

/-! Pop, Peek -/
def T_gpop (m : Mem) (t : Int) (pm ps pa : Int) (o : Bool) : Tr := (.req (madeOK m t) (.br (bNot (madeV m t)) (.leaf (.memo (.tup [(.agg [(.li .i64 0), (.li .u64 0)]), (.c (.lb false))]) m)) (.req (listedOK m t pm ps pa) (.req (lpopP m (listedV m t pm ps pa) o) (.any (lpopQ m (listedV m t pm ps pa) o) (fun y0 => (.br (hdB y0.2) (.req (goesOK y0.4 t pm ps pa (hdI y0.1) (hdI (tlI y0.1))) (.letm (goesM y0.4 t pm ps pa (hdI y0.1) (hdI (tlI y0.1))) (fun m1 => (.leaf (.memo (.tup [(.agg [(.si .i64 (hdI y0.1)), (.si .u64 (hdI (tlI y0.1)))]), (.c (.sb (hdB y0.2)))]) m1))))) (.leaf (.memo (.tup [(.agg [(.si .i64 (hdI y0.1)), (.si .u64 (hdI (tlI y0.1)))]), (.c (.sb (hdB y0.2)))]) y0.4)))))))))
def gpopPre (G : GG) (m : Mem) (t pm ps pa : Int) : Prop := t = (G.g : Int) + 1 ∧ G.is m ∧ okP' (pm, ps, pa)
def gpopPost (m : Mem) (G : GG) (p : Pl) (o : Bool) (y : Vars) : Prop :=
  (listB (G.R p) = false ∧ y.i = [0, 0] ∧ y.b = [false] ∧ y.m = m) ∨
  (∃ k n X', listB (G.R p) = true ∧ endH (hsO (G.R p)) o = some k ∧ y.i = [k.1, k.2] ∧ y.b = [true] ∧ G.N p k = some n ∧ X'.tree = false ∧ X'.hs = (hsO (G.R p)).erase k ∧ G.to (G.go p k n X') m y.m)
def gpopP (m : Mem) (t pm ps pa : Int) (o : Bool) : Prop := ∃ G, gpopPre G m t pm ps pa
def gpopQ (m : Mem) (t pm ps pa : Int) (o : Bool) (y : Vars) : Prop := ∀ G, gpopPre G m t pm ps pa → gpopPost m G (pm, ps, pa) o y
def s_gpop : Sum := memSum 33 fun m a => match a with | [a0, a1, a2] => (match ptrOf a0, plaOf a1, booOf a2 with | some t, some (pm, ps, pa), some o => some ⟨gpopP m t pm ps pa o, gpopQ m t pm ps pa o, fun y => .tup [.agg [.si .i64 (hdI y.i), .si .u64 (hdI (tlI y.i))], .c (.sb (hdB y.b))]⟩ | _, _, _ => none) | _ => none
theorem endH_mem {l : List Hn} {o : Bool} {k : Hn} (h : endH l o = some k) : k ∈ l := by
  cases o with
  | true => exact List.mem_of_mem_head? h
  | false => exact List.mem_of_mem_getLast? h
theorem gpop_walk {m : Mem} {t a b c : Int} {o : Bool} (G : GG) (hG : gpopPre G m t a b c) : (T_gpop m t a b c o).sat (isMemo fun v x => gpopPost m G (a, b, c) o (yOf v x) ∧ (yOf v x).m = x ∧ ∀ ρ, v.den ρ = V.den ρ (.tup [.agg [.si .i64 (hdI (yOf v x).i), .si .u64 (hdI (tlI (yOf v x).i))], .c (.sb (hdB (yOf v x).b))])) := by
  obtain ⟨rfl, h, hp⟩ := hG
  have hg := h.toGM
  obtain ⟨m1, m2⟩ := made_spec hg
  obtain ⟨l1, l2⟩ := listed_spec hg hp
  unfold T_gpop
  simp only [l2]
  rw [sat_req]
  refine ⟨m1, ?_⟩
  rw [m2, brF (by rfl), sat_req]
  refine ⟨l1, ?_⟩
  have no : listB (G.R (a, b, c)) = false → lP (G.R (a, b, c)) = 0 := fun hl => by
    cases hX : G.R (a, b, c) with
    | none => rfl
    | some X => rw [hX] at hl; simp only [listB, Bool.not_eq_false'] at hl; simp [lP, hl]
  cases hlb : listB (G.R (a, b, c)) with
  | false =>
    rw [no hlb, sat_req]
    refine ⟨⟨none, rfl⟩, ?_⟩
    rw [sat_any]
    rintro ⟨wi, wb, wv, wm⟩ hw
    obtain ⟨w1, w2, w3⟩ := hw none rfl
    simp only at w1 w2 w3
    subst w1 w2 w3
    simp only [hdB]
    rw [sat_brF]
    exact ⟨.inl ⟨hlb, rfl, rfl, rfl⟩, rfl, fun ρ => rfl⟩
  | true =>
    obtain ⟨X, hX, ht⟩ : ∃ X, G.R (a, b, c) = some X ∧ X.tree = false := by
      cases hX : G.R (a, b, c) with
      | none => rw [hX] at hlb; cases hlb
      | some X => rw [hX] at hlb; exact ⟨X, rfl, by simpa [listB] using hlb⟩
    obtain ⟨hin, hne, _⟩ := h.st _ X hX
    have hl : lP (some X) = (X.t : Int) + 1 := by simp [lP, ht]
    obtain ⟨q1, q2⟩ := Str.pop hin ht o
    rw [hX, hl, sat_req]
    refine ⟨q1, ?_⟩
    rw [sat_any]
    rintro ⟨wi, wb, wv, wm⟩ hw
    rcases q2 _ hw with ⟨s1, _⟩ | ⟨k, s1, s2, s3, X', s4, s5⟩
    · exact absurd s1 hne
    simp only at s2 s3 s4
    subst s2 s3
    simp only [hdB, hdI, tlI]
    have hkm : k ∈ X.hs := endH_mem s1
    obtain ⟨n, hN⟩ := Option.isSome_iff_exists.1 ((h.nh (a, b, c) k).2 ⟨X, hX, hkm⟩)
    obtain ⟨c1, c2⟩ := (h.mid_to hX s4).goes hX s4.tree s4.t (hin.rng hkm) hN s5
    rw [sat_brT, sat_req]
    refine ⟨c1, ?_⟩
    exact ⟨.inr ⟨k, n, X', hlb, by rw [hX]; exact s1, rfl, rfl, hN, s4.tree.trans ht, by rw [hX]; exact s5, c2⟩, rfl, fun ρ => rfl⟩
theorem t_gpop (m : Mem) (t : Int) (pm ps pa : Int) (o : Bool) : runm Try.prog [s_made, s_listed, s_lpop, s_goes] (drawx Try.prog [s_made, s_listed, s_lpop, s_goes]) 300 33 [.u (.c (.np t 0)), .u (.agg [.si .i64 pm, .si .i64 ps, .si .i64 pa]), .u (.c (.sb o))] m [98, 92, 95, 142, 140, 137, 111, 107, 108, 109] = T_gpop m t pm ps pa o := by kernel_rfl
theorem s_gpop_ok : SumOK Try.prog s_gpop := by
  refine memSum_ok ⟨_, Try.func33, by kernel_rfl⟩ fun m args ms h hp hw ρ w hm => ?_
  split at h
  · split at h
    · rename_i a0 a1 a2 _ _ _ t pm ps pa o h0 h1 h2
      cases h
      have hS : ∀ q ∈ [s_made, s_listed, s_lpop, s_goes], SumOK Try.prog q := (okc s_made_ok (okc s_listed_ok (okc s_lpop_ok (okc s_goes_ok okn))))
      exact mm_ghostY nameOK hS (dOK hS) 300 _ m _ (t_gpop m t pm ps pa o) yOf hp (fun G hG => gpop_walk G hG) ρ w hm (by simp only [List.map_cons, List.map_nil, ptrOf_den h0, plaOf_den h1, booOf_den h2])
    · cases h
  · cases h
/-! Remove -/
def T_gremove (m : Mem) (t : Int) (pm ps pa : Int) (hs hg : Int) (n : Int) : Tr := (.req (madeOK m t) (.br (bNot (madeV m t)) (.leaf (.memo (.u (.c (.lb false))) m)) (.br (nzp t) (.br (nzp t) (.br (okL m t 1 [(.raw (.map (.none)))]) (.req ((Go.Maps.Keyed Try.prog 121) ∧ ((okM Try.prog 121 m (pl (mcell m t 1))) ∧ ((okKey Try.prog 121 (.agg (.mk [(.int .i64 hs), (.int .u64 hg), (.int .i64 n)]))) ∧ (((okU (.agg [(.li .i64 0), (.li .i64 0), (.li .i64 0)]) (lkZ m (pl (mcell m t 1)) (.agg (.mk [(.int .i64 hs), (.int .u64 hg), (.int .i64 n)])) (.agg (.mk [(.int .i64 0), (.int .i64 0), (.int .i64 0)])))) : Bool) = true)))) (.br (bNot (mhas m (pl (mcell m t 1)) (.agg (.mk [(.int .i64 hs), (.int .u64 hg), (.int .i64 n)])))) (.leaf (.memo (.u (.c (.lb false))) m)) (.br (bNot (bAnd (iEq (vI (cellAt (lkZ m (pl (mcell m t 1)) (.agg (.mk [(.int .i64 hs), (.int .u64 hg), (.int .i64 n)])) (.agg (.mk [(.int .i64 0), (.int .i64 0), (.int .i64 0)]))) 0)) pm) (bAnd (iEq (vI (cellAt (lkZ m (pl (mcell m t 1)) (.agg (.mk [(.int .i64 hs), (.int .u64 hg), (.int .i64 n)])) (.agg (.mk [(.int .i64 0), (.int .i64 0), (.int .i64 0)]))) 1)) ps) (iEq (vI (cellAt (lkZ m (pl (mcell m t 1)) (.agg (.mk [(.int .i64 hs), (.int .u64 hg), (.int .i64 n)])) (.agg (.mk [(.int .i64 0), (.int .i64 0), (.int .i64 0)]))) 2)) pa)))) (.leaf (.memo (.u (.c (.lb false))) m)) (.br (nzp t) (.br (nzp t) (.br (okL m t 0 [(.raw (.map (.none)))]) (.req ((Go.Maps.Keyed Try.prog 59) ∧ ((okM Try.prog 59 m (pl (mcell m t 0))) ∧ ((okKey Try.prog 59 (.agg (.mk [(.int .i64 pm), (.int .i64 ps), (.int .i64 pa)]))) ∧ (((okU (.c (.raw .nilIface)) (lkZ m (pl (mcell m t 0)) (.agg (.mk [(.int .i64 pm), (.int .i64 ps), (.int .i64 pa)])) .nilIface)) : Bool) = true)))) (.br (isIfV (pl (lkZ m (pl (mcell m t 0)) (.agg (.mk [(.int .i64 pm), (.int .i64 ps), (.int .i64 pa)])) .nilIface))) (.br (ifIs 112 (pl (lkZ m (pl (mcell m t 0)) (.agg (.mk [(.int .i64 pm), (.int .i64 ps), (.int .i64 pa)])) .nilIface))) (.req (lremoveP m (ifP 112 (pl (lkZ m (pl (mcell m t 0)) (.agg (.mk [(.int .i64 pm), (.int .i64 ps), (.int .i64 pa)])) .nilIface))) hs hg) (.any (lremoveQ m (ifP 112 (pl (lkZ m (pl (mcell m t 0)) (.agg (.mk [(.int .i64 pm), (.int .i64 ps), (.int .i64 pa)])) .nilIface))) hs hg) (fun y0 => (.req (goesOK y0.4 t pm ps pa hs hg) (.letm (goesM y0.4 t pm ps pa hs hg) (fun m1 => (.leaf (.memo (.u (.c (.lb true))) m1)))))))) (.br (isIfV (pl (lkZ m (pl (mcell m t 0)) (.agg (.mk [(.int .i64 pm), (.int .i64 ps), (.int .i64 pa)])) .nilIface))) (.br (ifIs 24 (pl (lkZ m (pl (mcell m t 0)) (.agg (.mk [(.int .i64 pm), (.int .i64 ps), (.int .i64 pa)])) .nilIface))) (.req (removeP m (ifP 24 (pl (lkZ m (pl (mcell m t 0)) (.agg (.mk [(.int .i64 pm), (.int .i64 ps), (.int .i64 pa)])) .nilIface))) hs hg) (.any (removeQ m (ifP 24 (pl (lkZ m (pl (mcell m t 0)) (.agg (.mk [(.int .i64 pm), (.int .i64 ps), (.int .i64 pa)])) .nilIface))) hs hg) (fun y0 => (.req (goesOK y0.4 t pm ps pa hs hg) (.letm (goesM y0.4 t pm ps pa hs hg) (fun m1 => (.leaf (.memo (.u (.c (.lb true))) m1)))))))) (.req (goesOK m t pm ps pa hs hg) (.letm (goesM m t pm ps pa hs hg) (fun m1 => (.leaf (.memo (.u (.c (.lb true))) m1)))))) (.no 130))) (.no 130))) (.no 70)) (.no 76)) (.no 75))))) (.no 70)) (.no 76)) (.no 75))))
def gremovePost (m : Mem) (G : GG) (p : Pl) (k : Hn) (n : Int) (y : Vars) : Prop :=
  (G.I k n ≠ some p ∧ y.b = [false] ∧ y.m = m) ∨
  (G.I k n = some p ∧ y.b = [true] ∧ ∃ X X', G.R p = some X ∧ X'.tree = X.tree ∧ X'.hs = X.hs.erase k ∧ G.to (G.go p k n X') m y.m)
def gremoveP (m : Mem) (t pm ps pa hs hg n : Int) : Prop := ∃ G, gpushPre G m t pm ps pa hs hg n
def gremoveQ (m : Mem) (t pm ps pa hs hg n : Int) (y : Vars) : Prop := ∀ G, gpushPre G m t pm ps pa hs hg n → gremovePost m G (pm, ps, pa) (hs, hg) n y
def s_gremove : Sum := memSum 34 fun m a => match a with | [a0, a1, a2, a3] => (match ptrOf a0, plaOf a1, hanOf a2, intOf a3 with | some t, some (pm, ps, pa), some (hs, hg), some n => some ⟨gremoveP m t pm ps pa hs hg n, gremoveQ m t pm ps pa hs hg n, fun y => .u (.c (.sb (hdB y.b)))⟩ | _, _, _, _ => none) | _ => none
theorem iV_cells (p : Pl) : vI (cellAt (iV (some p)) 0) = p.1 ∧ vI (cellAt (iV (some p)) 1) = p.2.1 ∧ vI (cellAt (iV (some p)) 2) = p.2.2 := ⟨rfl, rfl, rfl⟩
theorem gremove_walk {m : Mem} {t a b c k l n : Int} (G : GG) (hG : gpushPre G m t a b c k l n) : (T_gremove m t a b c k l n).sat (isMemo fun v x => gremovePost m G (a, b, c) (k, l) n (yBoo v x) ∧ (yBoo v x).m = x ∧ ∀ ρ, v.den ρ = V.den ρ (.u (.c (.sb (hdB (yBoo v x).b))))) := by
  obtain ⟨rfl, h, hp, hk, hn⟩ := hG
  have hg := h.toGM
  obtain ⟨m1, m2⟩ := made_spec hg
  obtain ⟨i1, i2⟩ := hg.lkI hk hn
  unfold T_gremove
  simp only [hg.c0, hg.c1, i1, i2, hg.lkR hp]
  rw [sat_req]
  refine ⟨m1, ?_⟩
  rw [m2, brF (by rfl), brT (nz_p _), brT (nz_p _), brT hg.okL.2.1, sat_req]
  refine ⟨hg.iq hk hn, ?_⟩
  cases hI : G.I (k, l) n with
  | none =>
    rw [brT (by rfl)]
    exact ⟨.inl ⟨by rw [hI]; simp, rfl, rfl⟩, rfl, fun ρ => rfl⟩
  | some q =>
    obtain ⟨v1, v2, v3⟩ := iV_cells q
    rw [brF (by rfl), v1, v2, v3]
    by_cases hq : q = (a, b, c)
    rotate_left
    · have hne : bNot (bAnd (iEq q.1 a) (bAnd (iEq q.2.1 b) (iEq q.2.2 c))) = true := by
        obtain ⟨x, y, z⟩ := q
        simp only [bNot, bAnd, iEq, Bool.not_eq_true', Bool.and_eq_false_iff, beq_eq_false_iff_ne]
        by_cases e1 : x = a
        · by_cases e2 : y = b
          · by_cases e3 : z = c
            · subst e1 e2 e3; exact absurd rfl hq
            · exact .inr (.inr e3)
          · exact .inr (.inl e2)
        · exact .inl e1
      rw [brT hne]
      exact ⟨.inl ⟨by rw [hI]; simpa using hq, rfl, rfl⟩, rfl, fun ρ => rfl⟩
    subst hq
    rw [brF (by simp [bNot, bAnd, iEq]), brT (nz_p _), brT (nz_p _), brT hg.okL.1, sat_req]
    refine ⟨hg.rq hp, ?_⟩
    have hN := (h.nu (k, l) n (a, b, c)).1 hI
    obtain ⟨X, hX, hkm⟩ := (h.nh (a, b, c) (k, l)).1 (by rw [hN]; rfl)
    obtain ⟨hin, hne, _⟩ := h.st _ X hX
    obtain ⟨r1, r2, r3, r4, r5⟩ := rv_ok (G.R (a, b, c))
    rw [brT r2, r3, r4]
    rw [hX] at r2 ⊢
    cases ht : X.tree with
    | false =>
      have hif : ifIs 112 (pl (rv (some X))) = true := by simp only [rv, Str.ifv, ht, mkIf_eq]; rfl
      have hl : lP (some X) = (X.t : Int) + 1 := by simp [lP, ht]
      obtain ⟨q1, q2⟩ := Str.lrem hin ht hk
      rw [brT hif, hl, sat_req]
      refine ⟨q1, ?_⟩
      rw [sat_any]
      rintro ⟨wi, wb, wv, wm⟩ hw
      rcases q2 _ hw with ⟨s1, _⟩ | ⟨_, X', s4, s5⟩
      · exact absurd hkm s1
      simp only at s4
      obtain ⟨c1, c2⟩ := (h.mid_to hX s4).goes hX s4.tree s4.t hk hN s5
      rw [sat_req]
      refine ⟨c1, ?_⟩
      exact ⟨.inr ⟨hI, rfl, X, X', hX, s4.tree, s5, c2⟩, rfl, fun ρ => rfl⟩
    | true =>
      have hif : ifIs 112 (pl (rv (some X))) = false := by simp only [rv, Str.ifv, ht, mkIf_eq]; rfl
      have hif2 : ifIs 24 (pl (rv (some X))) = true := by simp only [rv, Str.ifv, ht, mkIf_eq]; rfl
      have hl : tP (some X) = (X.t : Int) + 1 := by simp [tP, ht]
      obtain ⟨q1, q2⟩ := Str.trem hin ht hk
      rw [brF hif, brT r2, brT hif2, hl, sat_req]
      refine ⟨q1, ?_⟩
      rw [sat_any]
      rintro ⟨wi, wb, wv, wm⟩ hw
      rcases q2 _ hw with ⟨s1, _⟩ | ⟨_, X', s4, s5⟩
      · exact absurd hkm s1
      simp only at s4
      obtain ⟨c1, c2⟩ := (h.mid_to hX s4).goes hX s4.tree s4.t hk hN s5
      rw [sat_req]
      refine ⟨c1, ?_⟩
      exact ⟨.inr ⟨hI, rfl, X, X', hX, s4.tree, s5, c2⟩, rfl, fun ρ => rfl⟩
theorem t_gremove (m : Mem) (t : Int) (pm ps pa : Int) (hs hg : Int) (n : Int) : runm Try.prog [s_made, s_goes, s_lremove, s_remove] (drawx Try.prog [s_made, s_goes, s_lremove, s_remove]) 300 34 [.u (.c (.np t 0)), .u (.agg [.si .i64 pm, .si .i64 ps, .si .i64 pa]), .u (.agg [.si .i64 hs, .si .u64 hg]), .u (.c (.si .i64 n))] m [98, 92, 95, 142, 140, 137, 111, 107, 108, 109] = T_gremove m t pm ps pa hs hg n := by kernel_rfl
theorem s_gremove_ok : SumOK Try.prog s_gremove := by
  refine memSum_ok ⟨_, Try.func34, by kernel_rfl⟩ fun m args ms h hp hw ρ w hm => ?_
  split at h
  · split at h
    · rename_i a0 a1 a2 a3 _ _ _ _ t pm ps pa hs hg n h0 h1 h2 h3
      cases h
      have hS : ∀ q ∈ [s_made, s_goes, s_lremove, s_remove], SumOK Try.prog q := (okc s_made_ok (okc s_goes_ok (okc s_lremove_ok (okc s_remove_ok okn))))
      exact mm_ghostY nameOK hS (dOK hS) 300 _ m _ (t_gremove m t pm ps pa hs hg n) yBoo hp (fun G hG => gremove_walk G hG) ρ w hm (by simp only [List.map_cons, List.map_nil, ptrOf_den h0, plaOf_den h1, hanOf_den h2, intOf_den h3])
    · cases h
  · cases h
end Go.Proofs.Ytnlohongffpkpaa.T16
end

section
/- Layer 17: At, Drain. A text of the session's own. -/
namespace Go.Proofs.Ytnlohongffpkpaa.T16
open Go Go.RowKit Go.Proofs.Ytnlohongffpkpaa.Sx Go.Proofs
set_option linter.unusedVariables false
set_option linter.unusedSimpArgs false

/-- a slice of handles that All has made -/
def RowB (m : Mem) (v : Value) (hs : List Hn) : Prop :=
  (v = .slice none 0 0 ∧ hs = []) ∨ ∃ g cap cur, v = .slice (some ⟨g, 0, none⟩) hs.length cap ∧ m g = some (.cells cur 29 (0, 0)) ∧ hs.length ≤ cap ∧ cur.toList.take (hs.length * 2) = hCells hs
section
variable {m m' : Mem} {v : Value} {hs : List Hn}
theorem RowB.of (h : rowOf m hs v m') : RowB m' v hs ∧ (∀ a, m a ≠ none → m' a = m a) ∧ ∀ a : Nat, slB v = (a : Int) + 1 → m a = none := by
  rcases h with ⟨rfl, rfl, rfl⟩ | ⟨g, cap, cur, rfl, hg, rfl, h1, h2, h3⟩
  · refine ⟨.inl ⟨rfl, rfl⟩, fun _ _ => rfl, fun a ha => ?_⟩
    simp only [slB] at ha; omega
  · refine ⟨.inr ⟨g, cap, cur, rfl, alO_self _ _ _, h1, h3⟩, fun a ha => alO_ne _ (by rintro rfl; exact ha hg), fun a ha => ?_⟩
    simp only [slB] at ha
    have : g = a := by omega
    rw [← this]; exact hg
theorem RowB.sl (h : RowB m v hs) : pl v = v ∧ isSlV v = true ∧ slN v = hs.length := by
  rcases h with ⟨rfl, rfl⟩ | ⟨g, cap, cur, rfl, _⟩ <;> exact ⟨rfl, rfl, rfl⟩
theorem RowB.more (h : RowB m v hs) (hm : ∀ a : Nat, slB v = (a : Int) + 1 → m a ≠ none → m' a = m a) : RowB m' v hs := by
  rcases h with ⟨rfl, rfl⟩ | ⟨g, cap, cur, rfl, h1, h2, h3⟩
  · exact .inl ⟨rfl, rfl⟩
  · exact .inr ⟨g, cap, cur, rfl, (hm g rfl (by rw [h1]; simp)).trans h1, h2, h3⟩
theorem RowB.there (h : RowB m v hs) {a : Nat} (ha : slB v = (a : Int) + 1) : m a ≠ none := by
  rcases h with ⟨rfl, rfl⟩ | ⟨g, cap, cur, rfl, h1, h2, h3⟩
  · simp only [slB] at ha; omega
  · simp only [slB] at ha
    have : g = a := by omega
    rw [← this, h1]; simp
theorem RowB.get (h : RowB m v hs) {i : Nat} {x : Hn} (hx : hs[i]? = some x) :
    inSl v (i : Int) = true ∧ okL m (slB v) (aOff (slO v) i 2) [.li .i64 0, .li .u64 0] = true ∧ gI m (slB v) (aOff (slO v) i 2) = x.1 ∧ gI m (slB v) (.succ (aOff (slO v) i 2)) = x.2 := by
  have hlt : i < hs.length := (List.getElem?_eq_some_iff.1 hx).1
  rcases h with ⟨rfl, rfl⟩ | ⟨g, cap, cur, rfl, h1, h2, h3⟩
  · simp at hlt
  obtain ⟨c1, c2⟩ := hCells_get hs i x hx
  have k1 : cur[2 * i]? = some (.int .i64 x.1) := by
    have : cur.toList[2 * i]? = some (.int .i64 x.1) := by rw [← c1, ← h3, List.getElem?_take_of_lt (by omega)]
    simpa using this
  have k2 : cur[2 * i + 1]? = some (.int .u64 x.2) := by
    have : cur.toList[2 * i + 1]? = some (.int .u64 x.2) := by rw [← c2, ← h3, List.getElem?_take_of_lt (by omega)]
    simpa using this
  have ea : aOff 0 (i : Int) 2 = 2 * i := by simp [aOff]; omega
  have eb : (2 * i).succ = 2 * i + 1 := rfl
  simp only [slB, slO, ea, eb]
  refine ⟨?_, ?_, ?_, ?_⟩
  · have : Nat.ble hs.length cap = true := Nat.ble_eq_true_of_le h2
    simp [inSl, isSl, slN, this, hlt]
  · unfold okL; rw [mget_of h1]
    simp only [okR, k1, k2, okC, isK, decide_true, Bool.and_self]
  · unfold gI mcell; rw [mget_of h1]; simp [k1, vI]
  · unfold gI mcell; rw [mget_of h1]; simp [k2, vI]
end

/-! At -/
def T_gat (m : Mem) (t : Int) (pm ps pa : Int) (i : Int) : Tr := (.br (iLt i 0) (.leaf (.memo (.tup [(.agg [(.li .i64 0), (.li .u64 0)]), (.c (.lb false))]) m)) (.req (glenOK m t pm ps pa) (.br (iGe i (glenV m t pm ps pa)) (.leaf (.memo (.tup [(.agg [(.li .i64 0), (.li .u64 0)]), (.c (.lb false))]) m)) (.req (treedOK m t pm ps pa) (.br (cmpOK m (treedV m t pm ps pa) 0) (.br (bNot (peq (treedV m t pm ps pa) 0)) (.req (atP m (treedV m t pm ps pa) i) (.any (atQ m (treedV m t pm ps pa) i) (fun y0 => (.leaf (.memo (.tup [(.agg [(.si .i64 (hdI y0.1)), (.si .u64 (hdI (tlI y0.1)))]), (.c (.sb (hdB y0.2)))]) y0.4))))) (.br (nzp t) (.br (nzp t) (.br (okL m t 0 [(.raw (.map (.none)))]) (.req ((Go.Maps.Keyed Try.prog 59) ∧ ((okM Try.prog 59 m (pl (mcell m t 0))) ∧ ((okKey Try.prog 59 (.agg (.mk [(.int .i64 pm), (.int .i64 ps), (.int .i64 pa)]))) ∧ (((okU (.c (.raw .nilIface)) (lkZ m (pl (mcell m t 0)) (.agg (.mk [(.int .i64 pm), (.int .i64 ps), (.int .i64 pa)])) .nilIface)) : Bool) = true)))) (.br (isIfV (pl (lkZ m (pl (mcell m t 0)) (.agg (.mk [(.int .i64 pm), (.int .i64 ps), (.int .i64 pa)])) .nilIface))) (.br (ifIs 112 (pl (lkZ m (pl (mcell m t 0)) (.agg (.mk [(.int .i64 pm), (.int .i64 ps), (.int .i64 pa)])) .nilIface))) (.req (lallP m (ifP 112 (pl (lkZ m (pl (mcell m t 0)) (.agg (.mk [(.int .i64 pm), (.int .i64 ps), (.int .i64 pa)])) .nilIface)))) (.any (lallQ m (ifP 112 (pl (lkZ m (pl (mcell m t 0)) (.agg (.mk [(.int .i64 pm), (.int .i64 ps), (.int .i64 pa)])) .nilIface)))) (fun y0 => (.req ((([(0, ([(.si .i64 pm), (.si .i64 ps), (.si .i64 pa)], 59))] : List (Nat × Blk)) = [(0, ([(.si .i64 pm), (.si .i64 ps), (.si .i64 pa)], 59))]) ∧ (([] : List (Nat × MBlk)) = [])) (.br (inSl (pl (hdV y0.3)) i) (.br (okL y0.4 (slB (pl (hdV y0.3))) (aOff (slO (pl (hdV y0.3))) i 2) [(.li .i64 0), (.li .u64 0)]) (.req ((([(0, ([(.si .i64 pm), (.si .i64 ps), (.si .i64 pa)], 59))] : List (Nat × Blk)) = [(0, ([(.si .i64 pm), (.si .i64 ps), (.si .i64 pa)], 59))]) ∧ (([] : List (Nat × MBlk)) = [])) (.leaf (.memo (.tup [(.agg [(.si .i64 (gI y0.4 (slB (pl (hdV y0.3))) (aOff (slO (pl (hdV y0.3))) i 2))), (.si .u64 (gI y0.4 (slB (pl (hdV y0.3))) (.succ (aOff (slO (pl (hdV y0.3))) i 2))))]), (.c (.lb true))]) y0.4))) (.no 70)) (.no 104)))))) (.br (ifIs 24 (pl (lkZ m (pl (mcell m t 0)) (.agg (.mk [(.int .i64 pm), (.int .i64 ps), (.int .i64 pa)])) .nilIface))) (.req (allP m (ifP 24 (pl (lkZ m (pl (mcell m t 0)) (.agg (.mk [(.int .i64 pm), (.int .i64 ps), (.int .i64 pa)])) .nilIface)))) (.any (allQ m (ifP 24 (pl (lkZ m (pl (mcell m t 0)) (.agg (.mk [(.int .i64 pm), (.int .i64 ps), (.int .i64 pa)])) .nilIface)))) (fun y0 => (.req ((([(0, ([(.si .i64 pm), (.si .i64 ps), (.si .i64 pa)], 59))] : List (Nat × Blk)) = [(0, ([(.si .i64 pm), (.si .i64 ps), (.si .i64 pa)], 59))]) ∧ (([] : List (Nat × MBlk)) = [])) (.br (inSl (pl (hdV y0.3)) i) (.br (okL y0.4 (slB (pl (hdV y0.3))) (aOff (slO (pl (hdV y0.3))) i 2) [(.li .i64 0), (.li .u64 0)]) (.req ((([(0, ([(.si .i64 pm), (.si .i64 ps), (.si .i64 pa)], 59))] : List (Nat × Blk)) = [(0, ([(.si .i64 pm), (.si .i64 ps), (.si .i64 pa)], 59))]) ∧ (([] : List (Nat × MBlk)) = [])) (.leaf (.memo (.tup [(.agg [(.si .i64 (gI y0.4 (slB (pl (hdV y0.3))) (aOff (slO (pl (hdV y0.3))) i 2))), (.si .u64 (gI y0.4 (slB (pl (hdV y0.3))) (.succ (aOff (slO (pl (hdV y0.3))) i 2))))]), (.c (.lb true))]) y0.4))) (.no 70)) (.no 104)))))) (.no 37))) (.no 38))) (.no 70)) (.no 76)) (.no 75))) (.no 78))))))
def gatPre (G : GG) (m : Mem) (t pm ps pa : Int) : Prop := gpopPre G m t pm ps pa ∧ (hsO (G.R (pm, ps, pa))).length < 1099511627776
def gatPost (m : Mem) (G : GG) (p : Pl) (i : Int) (y : Vars) : Prop :=
  (∃ (j : Nat) (k : Hn), i = j ∧ (hsO (G.R p))[j]? = some k ∧ y.i = [k.1, k.2] ∧ y.b = [true] ∧ ∀ a, m a ≠ none → y.m a = m a) ∨
  ((i < 0 ∨ ((hsO (G.R p)).length : Int) ≤ i) ∧ y.i = [0, 0] ∧ y.b = [false] ∧ y.m = m)
def gatP (m : Mem) (t pm ps pa i : Int) : Prop := ∃ G, gatPre G m t pm ps pa
def gatQ (m : Mem) (t pm ps pa i : Int) (y : Vars) : Prop := ∀ G, gatPre G m t pm ps pa → gatPost m G (pm, ps, pa) i y
def s_gat : Sum := memSum 37 fun m a => match a with | [a0, a1, a2] => (match ptrOf a0, plaOf a1, intOf a2 with | some t, some (pm, ps, pa), some i => some ⟨gatP m t pm ps pa i, gatQ m t pm ps pa i, fun y => .tup [.agg [.si .i64 (hdI y.i), .si .u64 (hdI (tlI y.i))], .c (.sb (hdB y.b))]⟩ | _, _, _ => none) | _ => none
theorem gat_walk {m : Mem} {t a b c i : Int} (G : GG) (hG : gatPre G m t a b c) : (T_gat m t a b c i).sat (isMemo fun v x => gatPost m G (a, b, c) i (yOf v x) ∧ (yOf v x).m = x ∧ ∀ ρ, v.den ρ = V.den ρ (.tup [.agg [.si .i64 (hdI (yOf v x).i), .si .u64 (hdI (tlI (yOf v x).i))], .c (.sb (hdB (yOf v x).b))])) := by
  obtain ⟨⟨rfl, h, hp⟩, hsz⟩ := hG
  have hg := h.toGM
  obtain ⟨m1, m2⟩ := made_spec hg
  obtain ⟨l1, l2⟩ := treed_spec hg hp
  obtain ⟨n1, n2⟩ := glen_spec h hp
  unfold T_gat
  simp only [l2, n2, hg.c0, hg.lkR hp]
  by_cases i0 : i < 0
  · rw [brT (by simpa [iLt] using i0)]
    exact ⟨.inr ⟨.inl i0, rfl, rfl, rfl⟩, rfl, fun ρ => rfl⟩
  rw [brF (by simpa [iLt] using i0), sat_req]
  refine ⟨n1, ?_⟩
  by_cases i1 : ((hsO (G.R (a, b, c))).length : Int) ≤ i
  · rw [brT (by simpa [iGe] using i1)]
    exact ⟨.inr ⟨.inr i1, rfl, rfl, rfl⟩, rfl, fun ρ => rfl⟩
  rw [brF (by simpa [iGe] using i1), sat_req]
  refine ⟨l1, ?_⟩
  obtain ⟨j, rfl⟩ : ∃ j : Nat, i = j := ⟨i.toNat, by omega⟩
  have hj : j < (hsO (G.R (a, b, c))).length := by omega
  obtain ⟨k, hk⟩ : ∃ k, (hsO (G.R (a, b, c)))[j]? = some k := ⟨_, List.getElem?_eq_getElem hj⟩
  cases hX : G.R (a, b, c) with
  | none => rw [hX] at hj; simp [hsO] at hj
  | some X =>
    have hin := (h.st _ X hX).1
    obtain ⟨r1, r2, r3, r4, r5⟩ := rv_ok (some X)
    have hk' : X.hs[j]? = some k := by rw [hX] at hk; exact hk
    rw [hX] at hsz
    rw [brT (cmp_zero _ _), tP_b]
    cases ht : X.tree with
    | true =>
      have hl : tP (some X) = (X.t : Int) + 1 := by simp [tP, ht]
      obtain ⟨q1, q2⟩ := Str.tat hin ht hk'
      rw [brT (by simp [treeB, ht, bNot]), hl, sat_req]
      refine ⟨q1, ?_⟩
      rw [sat_any]
      rintro ⟨wi, wb, wv, wm⟩ hw
      obtain ⟨s1, s2, s3⟩ := q2 _ hw
      simp only at s1 s2 s3
      subst s1 s2 s3
      exact ⟨.inl ⟨j, k, rfl, hk, rfl, rfl, fun _ _ => rfl⟩, rfl, fun ρ => rfl⟩
    | false =>
      have hl : lP (some X) = (X.t : Int) + 1 := by simp [lP, ht]
      have hif : ifIs 112 (pl (rv (some X))) = true := by simp only [rv, Str.ifv, ht, mkIf_eq]; rfl
      have hrq := hg.rq hp
      rw [hX] at hrq
      rw [brF (by simp [treeB, ht, bNot]), brT (nz_p _), brT (nz_p _), brT hg.okL.1, sat_req]
      refine ⟨hrq, ?_⟩
      obtain ⟨q1, q2⟩ := Str.lall hin ht hsz
      rw [brT r2, brT hif, r3, hl, sat_req]
      refine ⟨q1, ?_⟩
      rw [sat_any]
      rintro ⟨wi, wb, wv, wm⟩ hw
      obtain ⟨s1, s2, s3⟩ := RowB.of (q2 _ hw)
      simp only at s1 s2 s3
      obtain ⟨e1, e2, e3⟩ := s1.sl
      obtain ⟨g1, g2, g3, g4⟩ := s1.get hk'
      simp only [e1]
      rw [sat_req]
      refine ⟨⟨trivial, trivial⟩, ?_⟩
      rw [brT g1, brT g2, sat_req, g3, g4]
      exact ⟨⟨trivial, trivial⟩, .inl ⟨j, k, rfl, hk, rfl, rfl, s2⟩, rfl, fun ρ => rfl⟩
theorem t_gat (m : Mem) (t : Int) (pm ps pa : Int) (i : Int) : runm Try.prog [s_glen, s_treed, s_at, s_all, s_lall] (drawh Try.prog [s_glen, s_treed, s_at, s_all, s_lall] (fun _ _ => none) (fun _ _ _ => none)) 300 37 [.u (.c (.np t 0)), .u (.agg [.si .i64 pm, .si .i64 ps, .si .i64 pa]), .u (.c (.si .i64 i))] m [98, 92, 95, 142, 140, 137, 111, 107, 108, 109] = T_gat m t pm ps pa i := by kernel_rfl
theorem s_gat_ok : SumOK Try.prog s_gat := by
  refine memSum_ok ⟨_, Try.func37, by kernel_rfl⟩ fun m args ms h hp hw ρ w hm => ?_
  split at h
  · split at h
    · rename_i a0 a1 a2 _ _ _ t pm ps pa i h0 h1 h2
      cases h
      have hS : ∀ q ∈ [s_glen, s_treed, s_at, s_all, s_lall], SumOK Try.prog q := (okc s_glen_ok (okc s_treed_ok (okc s_at_ok (okc s_all_ok (okc s_lall_ok okn)))))
      exact mm_ghostY nameOK hS (drawh_sound nameOK hS (by kernel_rfl) _ _) 300 _ m _ (t_gat m t pm ps pa i) yOf hp (fun G hG => gat_walk G hG) ρ w hm (by simp only [List.map_cons, List.map_nil, ptrOf_den h0, plaOf_den h1, intOf_den h2])
    · cases h
  · cases h

/-! Drain -/
theorem GG.to.trans {G1 G2 G3 : GG} {m1 m2 m3 : Mem} (h : G1.to G2 m1 m2) (k : G2.to G3 m2 m3) : G1.to G3 m1 m3 := by
  refine ⟨k.is', k.g.trans h.g, fun a ha => ?_, fun a ha hd => ?_⟩
  · rcases k.dom a ha with h2 | h2
    · exact h.dom a h2
    · cases e : m1 a with
      | none => exact .inr rfl
      | some o =>
        refine Classical.byContradiction fun hn => ?_
        have hd : ¬ G1.dom a := fun hd => hn (.inl hd)
        have := h.keep a (by rw [e]; simp) hd
        rw [h2, e] at this; cases this
  · have h1 := h.keep a ha hd
    refine (k.keep a (by rw [h1]; exact ha) fun h2 => ?_).trans h1
    rcases h.dom a h2 with h3 | h3
    · exact hd h3
    · exact ha h3
/-- .. where the memory had grown -/
theorem GG.to.less {G G' : GG} {m0 m1 m' : Mem} (h : G.to G' m1 m') (hm : ∀ a, m0 a ≠ none → m1 a = m0 a) : G.to G' m0 m' := by
  refine ⟨h.is', h.g, fun a ha => (h.dom a ha).imp id fun hn => ?_, fun a ha hd => ?_⟩
  · cases e : m0 a with
    | none => rfl
    | some o => have := hm a (by rw [e]; simp); rw [hn, e] at this; cases this
  · exact (h.keep a (by rw [hm a ha]; exact ha) hd).trans (hm a ha)
def T_dloop (m0 : Mem) (t pm ps pa : Int) (v : Value) : Tr := (.lp (.mk [0] [] [] m0) (fun y1 j1 => (.br (iLt (hdI y1.1) (slN (pl v))) (.br (inSl (pl v) (hdI y1.1)) (.br (okL y1.4 (slB (pl v)) (aOff (slO (pl v)) (hdI y1.1) 2) [(.li .i64 0), (.li .u64 0)]) (.br (nzp t) (.br (nzp t) (.br (okL y1.4 t 2 [(.raw (.map (.none)))]) (.req ((Go.Maps.Keyed Try.prog 126) ∧ ((okM Try.prog 126 y1.4 (pl (mcell y1.4 t 2))) ∧ ((okKey Try.prog 126 (.agg (.mk [(.int .i64 pm), (.int .i64 ps), (.int .i64 pa), (.int .i64 (gI y1.4 (slB (pl v)) (aOff (slO (pl v)) (hdI y1.1) 2))), (.int .u64 (gI y1.4 (slB (pl v)) (.succ (aOff (slO (pl v)) (hdI y1.1) 2))))]))) ∧ (((okU (.c (.li .i64 0)) (lkZ y1.4 (pl (mcell y1.4 t 2)) (.agg (.mk [(.int .i64 pm), (.int .i64 ps), (.int .i64 pa), (.int .i64 (gI y1.4 (slB (pl v)) (aOff (slO (pl v)) (hdI y1.1) 2))), (.int .u64 (gI y1.4 (slB (pl v)) (.succ (aOff (slO (pl v)) (hdI y1.1) 2))))])) (.int .i64 0))) : Bool) = true)))) (.req (gremoveP y1.4 t pm ps pa (gI y1.4 (slB (pl v)) (aOff (slO (pl v)) (hdI y1.1) 2)) (gI y1.4 (slB (pl v)) (.succ (aOff (slO (pl v)) (hdI y1.1) 2))) (vI (lkZ y1.4 (pl (mcell y1.4 t 2)) (.agg (.mk [(.int .i64 pm), (.int .i64 ps), (.int .i64 pa), (.int .i64 (gI y1.4 (slB (pl v)) (aOff (slO (pl v)) (hdI y1.1) 2))), (.int .u64 (gI y1.4 (slB (pl v)) (.succ (aOff (slO (pl v)) (hdI y1.1) 2))))])) (.int .i64 0)))) (.any (gremoveQ y1.4 t pm ps pa (gI y1.4 (slB (pl v)) (aOff (slO (pl v)) (hdI y1.1) 2)) (gI y1.4 (slB (pl v)) (.succ (aOff (slO (pl v)) (hdI y1.1) 2))) (vI (lkZ y1.4 (pl (mcell y1.4 t 2)) (.agg (.mk [(.int .i64 pm), (.int .i64 ps), (.int .i64 pa), (.int .i64 (gI y1.4 (slB (pl v)) (aOff (slO (pl v)) (hdI y1.1) 2))), (.int .u64 (gI y1.4 (slB (pl v)) (.succ (aOff (slO (pl v)) (hdI y1.1) 2))))])) (.int .i64 0)))) (fun y2 => (.req ((([(0, (.u (.c (.np t 0)))), (3, (.u (.c (.ptr 0 0)))), (4, (.u (.c (.raw (.slice (.none) 0 0))))), (5, (.u (.c (.sv v)))), (19, (.u (.c (.sv v)))), (20, (.u (.c (.si .i64 (slN (pl v))))))] : List (Nat × V)) = [(0, (.u (.c (.np t 0)))), (3, (.u (.c (.ptr 0 0)))), (4, (.u (.c (.raw (.slice (.none) 0 0))))), (5, (.u (.c (.sv v)))), (19, (.u (.c (.sv v)))), (20, (.u (.c (.si .i64 (slN (pl v))))))]) ∧ (([(0, ([(.si .i64 pm), (.si .i64 ps), (.si .i64 pa)], 59))] : List (Nat × Blk)) = [(0, ([(.si .i64 pm), (.si .i64 ps), (.si .i64 pa)], 59))])) (.leaf (.again (.mk [(iAdd .i64 (hdI y1.1) 1)] [] [] y2.4)))))))) (.no 70)) (.no 76)) (.no 75)) (.no 70)) (.no 104)) (.leaf (.up (.memo (.u (.c (.sv v))) y1.4))))))
def T_gdrain (m : Mem) (t : Int) (pm ps pa : Int) : Tr := (.req (glenOK m t pm ps pa) (.br (iEq (glenV m t pm ps pa) 0) (.leaf (.memo (.u (.c (.raw (.slice (.none) 0 0)))) m)) (.br (nzp t) (.br (nzp t) (.br (okL m t 0 [(.raw (.map (.none)))]) (.req ((Go.Maps.Keyed Try.prog 59) ∧ ((okM Try.prog 59 m (pl (mcell m t 0))) ∧ ((okKey Try.prog 59 (.agg (.mk [(.int .i64 pm), (.int .i64 ps), (.int .i64 pa)]))) ∧ (((okU (.c (.raw .nilIface)) (lkZ m (pl (mcell m t 0)) (.agg (.mk [(.int .i64 pm), (.int .i64 ps), (.int .i64 pa)])) .nilIface)) : Bool) = true)))) (.br (isIfV (pl (lkZ m (pl (mcell m t 0)) (.agg (.mk [(.int .i64 pm), (.int .i64 ps), (.int .i64 pa)])) .nilIface))) (.br (ifIs 112 (pl (lkZ m (pl (mcell m t 0)) (.agg (.mk [(.int .i64 pm), (.int .i64 ps), (.int .i64 pa)])) .nilIface))) (.req (lallP m (ifP 112 (pl (lkZ m (pl (mcell m t 0)) (.agg (.mk [(.int .i64 pm), (.int .i64 ps), (.int .i64 pa)])) .nilIface)))) (.any (lallQ m (ifP 112 (pl (lkZ m (pl (mcell m t 0)) (.agg (.mk [(.int .i64 pm), (.int .i64 ps), (.int .i64 pa)])) .nilIface)))) (fun y0 => (.req ((([(0, ([(.si .i64 pm), (.si .i64 ps), (.si .i64 pa)], 59))] : List (Nat × Blk)) = [(0, ([(.si .i64 pm), (.si .i64 ps), (.si .i64 pa)], 59))]) ∧ (([] : List (Nat × MBlk)) = [])) (.br (isSlV (pl (hdV y0.3))) (T_dloop y0.4 t pm ps pa (hdV y0.3)) (.no 123)))))) (.br (ifIs 24 (pl (lkZ m (pl (mcell m t 0)) (.agg (.mk [(.int .i64 pm), (.int .i64 ps), (.int .i64 pa)])) .nilIface))) (.req (allP m (ifP 24 (pl (lkZ m (pl (mcell m t 0)) (.agg (.mk [(.int .i64 pm), (.int .i64 ps), (.int .i64 pa)])) .nilIface)))) (.any (allQ m (ifP 24 (pl (lkZ m (pl (mcell m t 0)) (.agg (.mk [(.int .i64 pm), (.int .i64 ps), (.int .i64 pa)])) .nilIface)))) (fun y0 => (.req ((([(0, ([(.si .i64 pm), (.si .i64 ps), (.si .i64 pa)], 59))] : List (Nat × Blk)) = [(0, ([(.si .i64 pm), (.si .i64 ps), (.si .i64 pa)], 59))]) ∧ (([] : List (Nat × MBlk)) = [])) (.br (isSlV (pl (hdV y0.3))) (T_dloop y0.4 t pm ps pa (hdV y0.3)) (.no 123)))))) (.no 37))) (.no 38))) (.no 70)) (.no 76)) (.no 75))))
def gdrainPost (m : Mem) (G : GG) (p : Pl) (y : Vars) : Prop := ∃ G' : GG, G.to G' m y.m ∧ (∀ q, G'.R q = if q = p then none else G.R q) ∧ (∀ q h, G'.N q h = if q = p then none else G.N q h) ∧ (∀ h n, G'.I h n = if G.I h n = some p then none else G.I h n) ∧
  RowB y.m (hdV y.v) (hsO (G.R p)) ∧ ∀ a : Nat, slB (hdV y.v) = (a : Int) + 1 → m a = none ∧ ¬ G'.dom a
def gdrainP (m : Mem) (t pm ps pa : Int) : Prop := ∃ G, gatPre G m t pm ps pa
def gdrainQ (m : Mem) (t pm ps pa : Int) (y : Vars) : Prop := ∀ G, gatPre G m t pm ps pa → gdrainPost m G (pm, ps, pa) y
def s_gdrain : Sum := memSum 38 fun m a => match a with | [a0, a1] => (match ptrOf a0, plaOf a1 with | some t, some (pm, ps, pa) => some ⟨gdrainP m t pm ps pa, gdrainQ m t pm ps pa, fun y => .u (.c (.sv (hdV y.v)))⟩ | _, _ => none) | _ => none
def yVal (v : V) (m : Mem) : Vars :=
  match v with
  | .u (.c (.sv x)) => ⟨[], [], [pl x], m⟩
  | .u (.c (.raw x)) => ⟨[], [], [pl x], m⟩
  | _ => ⟨[], [], [], m⟩
theorem dloop_walk {m m1 : Mem} {a b c : Int} {v : Value} (G : GG) (h : G.is m1) (hp : okP' (a, b, c)) (hv : RowB m1 v (hsO (G.R (a, b, c)))) (hf : ∀ x : Nat, slB v = (x : Int) + 1 → m x = none ∧ ¬ G.dom x) (hm : ∀ x, m x ≠ none → m1 x = m x) (hsz : (hsO (G.R (a, b, c))).length < 1099511627776) :
    (T_dloop m1 ((G.g : Int) + 1) a b c v).sat (isMemo fun w x => gdrainPost m G (a, b, c) (yVal w x) ∧ (yVal w x).m = x ∧ ∀ ρ, w.den ρ = V.den ρ (.u (.c (.sv (hdV (yVal w x).v))))) := by
  obtain ⟨e1, e2, e3⟩ := hv.sl
  have hnd : (hsO (G.R (a, b, c))).Nodup := by
    cases hX : G.R (a, b, c) with
    | none => exact List.nodup_nil
    | some X => exact (h.st _ X hX).1.nodup
  unfold T_dloop
  simp only [e1, e3]
  let J : Nat → Vars → Prop := fun N y => ∃ (i : Nat) (Gi : GG), i + N = (hsO (G.R (a, b, c))).length ∧ y.i = [(i : Int)] ∧ G.to Gi m1 y.m ∧ hsO (Gi.R (a, b, c)) = (hsO (G.R (a, b, c))).drop i ∧ (∀ q, q ≠ (a, b, c) → Gi.R q = G.R q) ∧
    (∀ q k, Gi.N q k = if q = (a, b, c) ∧ k ∈ (hsO (G.R (a, b, c))).take i then none else G.N q k) ∧ (∀ k n, Gi.I k n = if G.I k n = some (a, b, c) ∧ k ∈ (hsO (G.R (a, b, c))).take i then none else G.I k n)
  refine lp_idx J (n0 := (hsO (G.R (a, b, c))).length) ⟨0, G, by omega, rfl, GG.to.refl h, by simp, fun _ _ => rfl, fun q k => by simp, fun k n => by simp⟩ ?_
  rintro N ⟨yi, yb, yv, ym⟩ _ ⟨i, Gi, hi, rfl, hto, hR, hRo, hN, hI⟩
  simp only at hto hi
  simp only [hdI]
  have hvi : RowB ym v (hsO (G.R (a, b, c))) := hv.more fun x hx hxn => hto.keep x hxn (hf x hx).2
  have his := hto.is'
  by_cases hlt : i < (hsO (G.R (a, b, c))).length
  rotate_left
  · rw [brF (by simp [iLt]; omega)]
    have hi' : i = (hsO (G.R (a, b, c))).length := by omega
    rw [hi', List.drop_length] at hR
    rw [hi'] at hN hI
    simp only [List.take_length] at hN hI
    have hRn : Gi.R (a, b, c) = none := by
      cases hX : Gi.R (a, b, c) with
      | none => rfl
      | some X => rw [hX] at hR; exact absurd hR (his.st _ X hX).2.1
    have hall : ∀ k, (G.N (a, b, c) k).isSome = true → k ∈ hsO (G.R (a, b, c)) := fun k hk => by
      obtain ⟨X, hX, hx⟩ := (h.nh _ k).1 hk
      rw [hX]; exact hx
    refine ⟨⟨Gi, hto.less hm, fun q => ?_, fun q k => ?_, fun k n => ?_, ?_, fun x hx => ?_⟩, rfl, fun ρ => ?_⟩
    · by_cases e : q = (a, b, c)
      · rw [if_pos e, e]; exact hRn
      · rw [if_neg e]; exact hRo q e
    · rw [hN]
      by_cases e : q = (a, b, c)
      · subst e
        rw [if_pos rfl]
        by_cases e2 : k ∈ hsO (G.R (a, b, c))
        · rw [if_pos ⟨rfl, e2⟩]
        · rw [if_neg (fun h => e2 h.2)]
          cases hx : G.N (a, b, c) k with
          | none => rfl
          | some n => exact absurd (hall k (by rw [hx]; rfl)) e2
      · rw [if_neg e, if_neg (fun h => e h.1)]
    · rw [hI]
      by_cases e : G.I k n = some (a, b, c)
      · rw [if_pos e]
        have := (h.nu k n (a, b, c)).1 e
        rw [if_pos ⟨e, hall k (by rw [this]; rfl)⟩]
      · rw [if_neg e, if_neg (fun h => e h.1)]
    · show RowB ym (pl v) _
      rw [e1]; exact hvi
    · have hx : slB v = (x : Int) + 1 := by rw [← e1]; exact hx
      obtain ⟨f1, f2⟩ := hf x hx
      refine ⟨f1, fun hd => ?_⟩
      rcases hto.dom x hd with hd | hn
      · exact f2 hd
      · exact hv.there hx hn
    · show pl v = pl (pl v)
      rw [e1, e1]
  obtain ⟨k, hk⟩ : ∃ k, (hsO (G.R (a, b, c)))[i]? = some k := ⟨_, List.getElem?_eq_getElem hlt⟩
  obtain ⟨k1, k2⟩ := k
  obtain ⟨g1, g2, g3, g4⟩ := hvi.get hk
  have hdrop : (hsO (G.R (a, b, c))).drop i = (k1, k2) :: (hsO (G.R (a, b, c))).drop (i + 1) := by
    rw [List.drop_eq_getElem_cons hlt]
    rw [List.getElem?_eq_getElem hlt] at hk
    rw [Option.some.inj hk]
  rw [hdrop] at hR
  obtain ⟨X, hX, hXh⟩ : ∃ X, Gi.R (a, b, c) = some X ∧ X.hs = (k1, k2) :: (hsO (G.R (a, b, c))).drop (i + 1) := by
    cases hX : Gi.R (a, b, c) with
    | none => rw [hX] at hR; cases hR
    | some X => rw [hX] at hR; exact ⟨X, rfl, hR⟩
  have hkm : (k1, k2) ∈ X.hs := by rw [hXh]; simp
  have hkok : okH (k1, k2) := (his.st _ X hX).1.rng hkm
  obtain ⟨n, hNk⟩ := Option.isSome_iff_exists.1 ((his.nh (a, b, c) (k1, k2)).2 ⟨X, hX, hkm⟩)
  have hn : inI n := his.nr _ _ _ hNk
  have hg := his.toGM
  obtain ⟨n1, n2⟩ := hg.lkN hp hkok
  rw [hNk] at n1
  have hvI : vI (nV (some n)) = n := rfl
  have eg : (Gi.g : Int) + 1 = (G.g : Int) + 1 := by rw [hto.g]
  have hnq := hg.nq hp hkok
  rw [hNk] at hnq
  have okL2 := hg.okL.2.2
  have c2 := hg.c2
  rw [eg] at okL2 c2
  simp only [g3, g4, c2, n1, hvI]
  rw [brT (by simp [iLt]; omega), brT g1, brT g2, brT (nz_p _), brT (nz_p _), brT okL2, sat_req]
  refine ⟨hnq, ?_⟩
  have hpre : gpushPre Gi ym ((G.g : Int) + 1) a b c k1 k2 n := ⟨eg.symm, his, hp, hkok, hn⟩
  rw [sat_req]
  refine ⟨⟨Gi, hpre⟩, ?_⟩
  rw [sat_any]
  rintro ⟨wi, wb, wv, wm⟩ hw
  have hIk := (his.nu (k1, k2) n (a, b, c)).2 hNk
  rcases hw Gi hpre with ⟨s1, _⟩ | ⟨_, _, X1, X', s1, s2, s3, s4⟩
  · exact absurd hIk s1
  simp only at s4
  rw [hX] at s1; cases s1
  rw [sat_req]
  refine ⟨⟨trivial, trivial⟩, ?_⟩
  have hX'h : X'.hs = (hsO (G.R (a, b, c))).drop (i + 1) := by rw [s3, hXh, List.erase_cons_head]
  have hin : iAdd .i64 (i : Int) 1 = ((i + 1 : Nat) : Int) := by rw [iadd_i (by omega)]; omega
  rw [hin]
  have htake : ∀ j, j ∈ (hsO (G.R (a, b, c))).take (i + 1) ↔ j = (k1, k2) ∨ j ∈ (hsO (G.R (a, b, c))).take i := fun j => by
    rw [List.take_add_one, hk]; simp [or_comm]
  refine ⟨N - 1, by omega, i + 1, Gi.go (a, b, c) (k1, k2) n X', by omega, rfl, hto.trans s4, ?_, fun q hq => ?_, fun q j => ?_, fun j n' => ?_⟩
  · show hsO (upd1 Gi.R (a, b, c) (goneR X') (a, b, c)) = _
    rw [show upd1 Gi.R (a, b, c) (goneR X') (a, b, c) = goneR X' from if_pos rfl, ← hX'h]
    unfold goneR
    cases he : X'.hs with
    | nil => rfl
    | cons x r => exact he
  · show upd1 Gi.R (a, b, c) (goneR X') q = _
    rw [show upd1 Gi.R (a, b, c) (goneR X') q = Gi.R q from if_neg hq]
    exact hRo q hq
  · show updN Gi.N (a, b, c) (k1, k2) none q j = _
    simp only [updN, htake]
    by_cases e : q = (a, b, c)
    · subst e
      by_cases e2 : j = (k1, k2)
      · subst e2; rw [if_pos ⟨rfl, rfl⟩, if_pos ⟨rfl, .inl rfl⟩]
      · rw [if_neg (fun h => e2 h.2), hN]
        by_cases e3 : j ∈ (hsO (G.R (a, b, c))).take i
        · rw [if_pos ⟨rfl, e3⟩, if_pos ⟨rfl, .inr e3⟩]
        · rw [if_neg (fun h => e3 h.2), if_neg (fun h => by rcases h.2 with h | h; exact e2 h; exact e3 h)]
    · rw [if_neg (fun h => e h.1), if_neg (fun h => e h.1), hN, if_neg (fun h => e h.1)]
  · show updI Gi.I (k1, k2) n none j n' = _
    simp only [updI, htake]
    have hknot : (k1, k2) ∉ (hsO (G.R (a, b, c))).take i := by
      intro hm
      have := hnd
      rw [← List.take_append_drop i (hsO (G.R (a, b, c))), hdrop, List.nodup_append] at this
      exact this.2.2 _ hm _ (by simp) rfl
    have hGI : G.I (k1, k2) n = some (a, b, c) := by
      have := hI (k1, k2) n
      rw [if_neg (fun h => hknot h.2)] at this
      rw [← this]; exact hIk
    by_cases e : j = (k1, k2)
    · subst e
      by_cases e2 : n' = n
      · subst e2; rw [if_pos ⟨rfl, rfl⟩, if_pos ⟨hGI, .inl rfl⟩]
      · rw [if_neg (fun h => e2 h.2), hI, if_neg (fun h => hknot h.2)]
        by_cases e3 : G.I (k1, k2) n' = some (a, b, c)
        · exfalso
          have x1 := (h.nu _ _ _).1 e3
          have x2 := (h.nu _ _ _).1 hGI
          rw [x1] at x2; cases x2; exact e2 rfl
        · rw [if_neg (fun h => e3 h.1)]
    · rw [if_neg (fun h => e h.1), hI]
      by_cases e3 : G.I j n' = some (a, b, c) ∧ j ∈ (hsO (G.R (a, b, c))).take i
      · rw [if_pos e3, if_pos ⟨e3.1, .inr e3.2⟩]
      · rw [if_neg e3, if_neg (fun h => by rcases h.2 with h2 | h2; exact e h2; exact e3 ⟨h.1, h2⟩)]
theorem gdrain_walk {m : Mem} {t a b c : Int} (G : GG) (hG : gatPre G m t a b c) : (T_gdrain m t a b c).sat (isMemo fun w x => gdrainPost m G (a, b, c) (yVal w x) ∧ (yVal w x).m = x ∧ ∀ ρ, w.den ρ = V.den ρ (.u (.c (.sv (hdV (yVal w x).v))))) := by
  obtain ⟨⟨rfl, h, hp⟩, hsz⟩ := hG
  have hg := h.toGM
  obtain ⟨n1, n2⟩ := glen_spec h hp
  unfold T_gdrain
  simp only [n2, hg.c0, hg.lkR hp]
  rw [sat_req]
  refine ⟨n1, ?_⟩
  obtain ⟨r1, r2, r3, r4, r5⟩ := rv_ok (G.R (a, b, c))
  cases hX : G.R (a, b, c) with
  | none =>
    rw [brT (by rfl)]
    refine ⟨⟨G, GG.to.refl h, fun q => ?_, fun q k => ?_, fun k n => ?_, ?_, fun x hx => ?_⟩, rfl, fun ρ => rfl⟩
    · by_cases e : q = (a, b, c)
      · rw [if_pos e, e]; exact hX
      · rw [if_neg e]
    · by_cases e : q = (a, b, c)
      · rw [if_pos e, e]
        cases hN : G.N (a, b, c) k with
        | none => rfl
        | some n => obtain ⟨X, h1, _⟩ := (h.nh _ k).1 (by rw [hN]; rfl); rw [hX] at h1; cases h1
      · rw [if_neg e]
    · by_cases e : G.I k n = some (a, b, c)
      · have := (h.nu k n _).1 e
        obtain ⟨X, h1, _⟩ := (h.nh _ k).1 (by rw [this]; rfl); rw [hX] at h1; cases h1
      · rw [if_neg e]
    · exact .inl ⟨rfl, by rw [hX]; rfl⟩
    · have : slB (.slice none 0 0) = (x : Int) + 1 := hx
      simp only [slB] at this; omega
  | some X =>
    have hne := (h.st _ X hX).2.1
    have hin := (h.st _ X hX).1
    have hl : iEq ((hsO (some X)).length : Int) 0 = false := by
      show iEq (X.hs.length : Int) 0 = false
      cases he : X.hs with
      | nil => exact absurd he hne
      | cons x r => simp [iEq]; omega
    have hrq := hg.rq hp
    rw [hX] at hrq r2 r3 r4 hsz
    rw [brF hl, brT (nz_p _), brT (nz_p _), brT hg.okL.1, sat_req]
    refine ⟨hrq, ?_⟩
    have fin : ∀ y : Vars, rowOf m X.hs (hdV y.v) y.m → (Tr.br (isSlV (pl (hdV y.v))) (T_dloop y.m ((G.g : Int) + 1) a b c (hdV y.v)) (.no 123)).sat (isMemo fun w x => gdrainPost m G (a, b, c) (yVal w x) ∧ (yVal w x).m = x ∧ ∀ ρ, w.den ρ = V.den ρ (.u (.c (.sv (hdV (yVal w x).v))))) := by
      intro y hy
      obtain ⟨s1, s2, s3⟩ := RowB.of hy
      obtain ⟨e1, e2, e3⟩ := s1.sl
      rw [brT (by rw [e1]; exact e2)]
      refine dloop_walk G (h.congr fun x hx => s2 x (h.there hx)) hp (by rw [hX]; exact s1) (fun x hx => ⟨s3 x hx, fun hd => h.there hd (s3 x hx)⟩) s2 (by rw [hX]; exact hsz)
    rw [brT r2, r3, r4]
    cases ht : X.tree with
    | false =>
      have hif : ifIs 112 (pl (rv (some X))) = true := by simp only [rv, Str.ifv, ht, mkIf_eq]; rfl
      have hl : lP (some X) = (X.t : Int) + 1 := by simp [lP, ht]
      obtain ⟨q1, q2⟩ := Str.lall hin ht hsz
      rw [brT hif, hl, sat_req]
      refine ⟨q1, ?_⟩
      rw [sat_any]
      exact fun y hy => ⟨⟨trivial, trivial⟩, fin y (q2 y hy)⟩
    | true =>
      have hif : ifIs 112 (pl (rv (some X))) = false := by simp only [rv, Str.ifv, ht, mkIf_eq]; rfl
      have hif2 : ifIs 24 (pl (rv (some X))) = true := by simp only [rv, Str.ifv, ht, mkIf_eq]; rfl
      have hl : tP (some X) = (X.t : Int) + 1 := by simp [tP, ht]
      obtain ⟨q1, q2⟩ := Str.tall hin ht hsz
      rw [brF hif, brT hif2, hl, sat_req]
      refine ⟨q1, ?_⟩
      rw [sat_any]
      exact fun y hy => ⟨⟨trivial, trivial⟩, fin y (q2 y hy)⟩
theorem t_gdrain (m : Mem) (t : Int) (pm ps pa : Int) : runm Try.prog [s_glen, s_all, s_lall, s_gremove] (drawh Try.prog [s_glen, s_all, s_lall, s_gremove] (fun _ _ => some ⟨[21], [], [0, 3, 4, 5, 19, 20], [0]⟩) (fun _ _ _ => none)) 300 38 [.u (.c (.np t 0)), .u (.agg [.si .i64 pm, .si .i64 ps, .si .i64 pa])] m [98, 92, 95, 142, 140, 137, 111, 107, 108, 109] = T_gdrain m t pm ps pa := by kernel_rfl
theorem s_gdrain_ok : SumOK Try.prog s_gdrain := by
  refine memSum_ok ⟨_, Try.func38, by kernel_rfl⟩ fun m args ms h hp hw ρ w hm => ?_
  split at h
  · split at h
    · rename_i a0 a1 _ _ t pm ps pa h0 h1
      cases h
      have hS : ∀ q ∈ [s_glen, s_all, s_lall, s_gremove], SumOK Try.prog q := (okc s_glen_ok (okc s_all_ok (okc s_lall_ok (okc s_gremove_ok okn))))
      exact mm_ghostY nameOK hS (drawh_sound nameOK hS (by kernel_rfl) _ _) 300 _ m _ (t_gdrain m t pm ps pa) yVal hp (fun G hG => gdrain_walk G hG) ρ w hm (by simp only [List.map_cons, List.map_nil, ptrOf_den h0, plaOf_den h1])
    · cases h
  · cases h
end Go.Proofs.Ytnlohongffpkpaa.T16
end

section
/- Layer 16: TreePlays' walk. A text of the session's own. -/
namespace Go.Proofs.Ytnlohongffpkpaa.T16
open Go Go.RowKit Go.Proofs.Ytnlohongffpkpaa.Sx Go.Proofs
set_option linter.unusedVariables false
set_option linter.unusedSimpArgs false

/-! where paths meet -/
def joinR (Q : Vars → Prop) (R : Leaf → Prop) : Leaf → Prop
  | .again y => hdI y.i = 1 ∧ Q ⟨tlI y.i, y.b, y.v, y.m⟩
  | .up l => R l
  | _ => False
def upR (R : Leaf → Prop) : Leaf → Prop
  | .up l => R l
  | _ => False
theorem sat_jn {R : Leaf → Prop} {m : Mem} {A : Tr} {f : Vars → (Nat → Value) → Tr} (Q : Vars → Prop) (hA : A.sat (joinR Q R))
    (hf : ∀ v j, hdI v.i = 1 → Q ⟨tlI v.i, v.b, v.v, v.m⟩ → (f v j).sat (upR R)) : (Tr.lp ⟨[0], [], [], m⟩ fun v j => .br (iZero? (hdI v.i)) A (f v j)).sat R := by
  refine ⟨fun v => hdI v.i = 0 ∨ (hdI v.i = 1 ∧ Q ⟨tlI v.i, v.b, v.v, v.m⟩), fun v => if hdI v.i = 0 then 1 else 0, .inl rfl, fun v j hv => ⟨fun hz => ?_, fun hz => ?_⟩⟩
  · have hz : hdI v.i = 0 := by simpa [iZero?] using hz
    refine sat_mono (fun l hl => ?_) hA
    cases l with
    | again y =>
      refine ⟨.inr hl, ?_⟩
      have h1 : hdI y.i = 1 := hl.1
      simp only [h1, hz]; decide
    | up l => exact hl
    | _ => exact hl.elim
  · have hz : ¬ hdI v.i = 0 := by simpa [iZero?] using hz
    rcases hv with hv | hv
    · exact absurd hv hz
    · refine sat_mono (fun l hl => ?_) (hf v j hv.1 hv.2)
      cases l with
      | up l => exact hl
      | _ => exact hl.elim

/-! a slice of steps -/
structure Stp where
  rm : Bool
  at' : Int
  s : Int
  g : Int
structure ArgS (l : Value) (xs : List Stp) (m : Mem) : Prop where
  sl : isSlV (pl l) = true
  n : slN (pl l) = xs.length
  at' : ∀ i : Nat, ∀ x, xs[i]? = some x → inSl (pl l) i = true ∧ okL m (slB (pl l)) (aOff (slO (pl l)) i 4) [.lb false, .li .i64 0, .li .i64 0, .li .u64 0] = true ∧ gB m (slB (pl l)) (aOff (slO (pl l)) i 4) = x.rm ∧ gI m (slB (pl l)) (.succ (aOff (slO (pl l)) i 4)) = x.at' ∧
    gI m (slB (pl l)) (.succ (.succ (aOff (slO (pl l)) i 4))) = x.s ∧ gI m (slB (pl l)) (.succ (.succ (.succ (aOff (slO (pl l)) i 4)))) = x.g
  rng : ∀ x ∈ xs, inI x.s ∧ inU x.g
theorem ArgS.more {l : Value} {xs : List Stp} {m m' : Mem} (h : ArgS l xs m) (hm : ∀ a, m a ≠ none → m' a = m a) : ArgS l xs m' := by
  refine ⟨h.sl, h.n, fun i x hx => ?_, h.rng⟩
  obtain ⟨a1, a2, a3, a4, a5, a6⟩ := h.at' i x hx
  obtain ⟨b1, b2⟩ := okL_more hm a2
  unfold gI at a4 a5 a6
  unfold gB at a3
  refine ⟨a1, b1, ?_, ?_, ?_, ?_⟩
  · unfold gB; rw [b2]; exact a3
  · unfold gI; rw [b2]; exact a4
  · unfold gI; rw [b2]; exact a5
  · unfold gI; rw [b2]; exact a6

/-! a tree and a list, in one memory -/
theorem lst_mem {S : TS} {b : Mem} {r : Int} {v : Value} {hs ks : List (Int × Int)} {y : Vars} (hF : Fre S b) (hL : Lst b r v hs) (h : lstPost (S.mem b) r ks y) :
    ∃ b' u, y.m = S.mem b' ∧ Fre S b' ∧ Lst b' r u ks ∧ ∀ a : Nat, b a ≠ none → (a : Int) + 1 ≠ r → b' a = b a := by
  obtain ⟨u, h1, h2, h3⟩ := h
  obtain ⟨⟨p0, rfl, hp0⟩, hsl⟩ := hL
  have hb0 : b p0 ≠ none := by rw [hp0]; simp
  have ht : p0 ≠ S.t := by rintro rfl; exact hb0 hF.t
  have hq : p0 ≠ S.q := by rintro rfl; exact hb0 hF.q
  have hH : S.H ((p0 : Int) + 1) = none := by
    cases e : S.H ((p0 : Int) + 1) with
    | none => rfl
    | some d => exact absurd (hF.H p0 (by rw [e]; simp)) hb0
  let b' : Mem := fun a => if a = S.t ∨ a = S.q ∨ S.H ((a : Int) + 1) ≠ none then none else y.m a
  have e0 : ∀ a, ¬ (a = S.t ∨ a = S.q ∨ S.H ((a : Int) + 1) ≠ none) → b' a = y.m a := fun a ha => by simp only [b', if_neg ha]
  have em : y.m = S.mem b' := by
    funext a
    by_cases ha : a = S.t ∨ a = S.q ∨ S.H ((a : Int) + 1) ≠ none
    · have hs : S.mem b a ≠ none ∧ S.mem b a = S.mem b' a := by
        unfold TS.mem
        by_cases e1 : a = S.t
        · simp [e1]
        · by_cases e2 : a = S.q
          · subst e2; simp [e1]
          · have e3 : S.H ((a : Int) + 1) ≠ none := by rcases ha with h | h | h; exact absurd h e1; exact absurd h e2; exact h
            cases e : S.H ((a : Int) + 1) with
            | none => exact absurd e e3
            | some d => simp [e1, e2]
      have hne : (a : Int) + 1 ≠ (p0 : Int) + 1 := by
        intro e
        have : a = p0 := by omega
        subst this
        rcases ha with h | h | h
        · exact ht h
        · exact hq h
        · exact h hH
      rw [h2 a hs.1 hne, hs.2]
    · rw [← e0 a ha]
      have h' := ha
      simp only [not_or, Decidable.not_not] at h'
      obtain ⟨x1, x2, x3⟩ := h'
      simp [TS.mem, x1, x2, x3]
  have hpn : ¬ (p0 = S.t ∨ p0 = S.q ∨ S.H ((p0 : Int) + 1) ≠ none) := by simp [ht, hq, hH]
  refine ⟨b', u, em, ⟨by simp [b'], by simp [b'], fun a ha => by simp [b', ha]⟩, ⟨⟨p0, rfl, ?_⟩, ?_⟩, fun a ha hne => ?_⟩
  · obtain ⟨a, ha, h4⟩ := h1.hd
    have : a = p0 := by omega
    subst this
    rw [e0 _ hpn]; exact h4
  · refine h1.sl.more fun a ha _ => ?_
    have := h3 a ha
    obtain ⟨x1, x2, x3⟩ := free_at this
    exact e0 a (by simp [x1, x2, x3])
  · have hs : S.mem b a = b a := hF.more a ha
    have x1 : a ≠ S.t := by rintro rfl; exact ha hF.t
    have x2 : a ≠ S.q := by rintro rfl; exact ha hF.q
    have x3 : S.H ((a : Int) + 1) = none := by
      cases e : S.H ((a : Int) + 1) with
      | none => rfl
      | some d => exact absurd (hF.H a (by rw [e]; simp)) ha
    rw [e0 a (by simp [x1, x2, x3]), h2 a (by rw [hs]; exact ha) hne, hs]
/-- what holds ahead of each step -/
def PlI (m0 : Mem) (p r : Int) (k : Nat) (m : Mem) : Prop :=
  ∃ (S : TS) (b : Mem) (t : T) (n : Nat) (v : Value), m = S.mem b ∧ S.p = p ∧ Tre S t n ∧ Fre S b ∧ (∀ a, m0 a ≠ none → b a = m0 a) ∧ Lst b r v (hans t) ∧ t.size ≤ k ∧ ∀ a : Nat, r = (a : Int) + 1 → m0 a = none
theorem PlI.of {m0 : Mem} {p r : Int} {k : Nat} {S : TS} {b : Mem} {t : T} {n : Nat} {v : Value} {hs : List (Int × Int)} {y : Vars} (e1 : S.p = p) (hT : Tre S t n) (hF : Fre S b) (hk : ∀ a, m0 a ≠ none → b a = m0 a) (hL : Lst b r v hs) (hs' : t.size ≤ k) (hr : ∀ a : Nat, r = (a : Int) + 1 → m0 a = none)
    (h : lstPost (S.mem b) r (hans t) y) : PlI m0 p r k y.m := by
  obtain ⟨b', u, h1, h2, h3, h4⟩ := lst_mem hF hL h
  refine ⟨S, b', t, n, u, h1, e1, hT, h2, fun a ha => ?_, h3, hs', hr⟩
  rw [h4 a (by rw [hk a ha]; exact ha) (fun e => ha (hr a e.symm)), hk a ha]
end Go.Proofs.Ytnlohongffpkpaa.T16
end

section
/- Layer 17: GraphDrains' walk. A text of the session's own. -/
namespace Go.Proofs.Ytnlohongffpkpaa.T16
open Go Go.RowKit Go.Proofs.Ytnlohongffpkpaa.Sx Go.Proofs
set_option linter.unusedVariables false
set_option linter.unusedSimpArgs false

def s_gworks : Sum := { f := 28, s := fun args => match args with | [] => some ([], .u (.c (.lb true))) | _ => none }
theorem s_gworks_ok : SumOK Try.prog s_gworks := by
  refine ⟨⟨(fun _ h => by cases h), (fun _ h => by cases h), (fun _ h => by cases h)⟩, .inr ⟨rfl, .inr ⟨rfl, .inr ⟨rfl, ⟨_, Try.func28, by kernel_rfl⟩, fun args bs r ρ w hs hb => ?_⟩⟩⟩⟩
  simp only [s_gworks] at hs
  split at hs
  · cases hs
    exact pure_to nameOK okn (dOK okn) 600 [] (T := .leaf (.val (.u (.c (.lb true))))) (by kernel_rfl) ρ rfl (by simp only [Tr.all]) w
  · cases hs
def s_gone1 : Sum := { f := 30, s := fun args => match args with | [.u (.c (.si .u8 n))] => some ([], .u (.agg [.si .i64 (iConv .i64 n), .li .u64 1])) | _ => none }
theorem s_gone1_ok : SumOK Try.prog s_gone1 := by
  refine ⟨⟨(fun _ h => by cases h), (fun _ h => by cases h), (fun _ h => by cases h)⟩, .inr ⟨rfl, .inr ⟨rfl, .inr ⟨rfl, ⟨_, Try.func30, by kernel_rfl⟩, fun args bs r ρ w hs hb => ?_⟩⟩⟩⟩
  simp only [s_gone1] at hs
  split at hs
  · rename_i n
    cases hs
    exact pure_to nameOK okn (dOK okn) 300 [.u (.c (.si .u8 n))] (T := .leaf (.val (.u (.agg [.si .i64 (iConv .i64 n), .li .u64 1])))) (by kernel_rfl) ρ rfl (by simp only [Tr.all]) w
  · cases hs
theorem conv_n {i : Nat} (h : i < 128) : iConv .i64 (iConv .u8 (i : Int)) = i := by
  have e1 : iConv .u8 (i : Int) = i := by
    unfold iConv IntKind.wrap
    have : ((i : Int) % (2 ^ (IntKind.bits .u8) : Int)) = i := by
      show (i : Int) % 256 = i
      omega
    simp [this, IntKind.signed]
  rw [e1, conv_i]; omega

/-! which nodes may come -/
theorem mayE_ok {G : GG} {p : Pl} {k : Hn} {n : Int} {f : Bool} (hI : G.I k n = none) (hN : G.N p k = none) (hf : (G.R p).isSome = true → f = true) : mayE G p k n f = 0 := by
  unfold mayE
  rw [hI, hN]
  cases hR : (G.R p).isSome with
  | false => cases f <;> rfl
  | true => rw [hf hR]; rfl
theorem GG.is.no {G : GG} {m : Mem} (h : G.is m) {p : Pl} {k : Hn} (hk : k ∉ hsO (G.R p)) : G.N p k = none := by
  cases e : G.N p k with
  | none => rfl
  | some n =>
    obtain ⟨X, hX, hx⟩ := (h.nh p k).1 (by rw [e]; rfl)
    rw [hX] at hk; exact absurd hx hk
theorem GG.is.noI {G : GG} {m : Mem} (h : G.is m) {k : Hn} {n : Int} (hk : ∀ r, G.N r k ≠ some n) : G.I k n = none := by
  cases e : G.I k n with
  | none => rfl
  | some r => exact absurd ((h.nu k n r).1 e) (hk r)
/-- what a part of the walk knows of the graph -/
structure DrS (G : GG) (p q : Pl) (tr : Bool) (W H : List Hn) : Prop where
  pW : hsO (G.R p) = W
  pk : ∀ X, G.R p = some X → X.tree = tr
  qH : hsO (G.R q) = H
  qk : ∀ X, G.R q = some X → X.tree = false
  oth : ∀ r, r ≠ p → r ≠ q → G.R r = none
  np : ∀ k n, G.N p k = some n → n = 8
  nq : ∀ k n, G.N q k = some n → n = 16
section
variable {G : GG} {m : Mem} {p q : Pl} {tr : Bool} {W H : List Hn}
theorem DrS.noI8 (s : DrS G p q tr W H) (h : G.is m) {k : Hn} (hk : k ∉ W) : G.I k 8 = none := by
  refine h.noI fun r hr => ?_
  by_cases e : r = p
  · subst e
    have := h.no (p := r) (k := k) (by rw [s.pW]; exact hk)
    rw [this] at hr; cases hr
  · by_cases e2 : r = q
    · subst e2; have := s.nq k 8 hr; cases this
    · obtain ⟨X, hX, _⟩ := (h.nh r k).1 (by rw [hr]; rfl)
      rw [s.oth r e e2] at hX; cases hX
theorem DrS.noI16 (s : DrS G p q tr W H) (h : G.is m) {k : Hn} (hk : k ∉ H) : G.I k 16 = none := by
  refine h.noI fun r hr => ?_
  by_cases e : r = p
  · subst e; have := s.np k 16 hr; cases this
  · by_cases e2 : r = q
    · subst e2
      have := h.no (p := r) (k := k) (by rw [s.qH]; exact hk)
      rw [this] at hr; cases hr
    · obtain ⟨X, hX, _⟩ := (h.nh r k).1 (by rw [hr]; rfl)
      rw [s.oth r e e2] at hX; cases hX
theorem DrS.may8 (s : DrS G p q tr W H) (h : G.is m) {k : Hn} (hk : k ∉ W) {f : Bool} (hf : f = (match tr with | true => treeB (G.R p) | false => listB (G.R p))) : mayE G p k 8 f = 0 := by
  refine mayE_ok (s.noI8 h hk) (h.no (by rw [s.pW]; exact hk)) fun hR => ?_
  obtain ⟨X, hX⟩ := Option.isSome_iff_exists.1 hR
  have := s.pk X hX
  rw [hf, hX]
  cases tr <;> simp [treeB, listB, this]
theorem DrS.may16 (s : DrS G p q tr W H) (h : G.is m) {k : Hn} (hk : k ∉ H) : mayE G q k 16 (listB (G.R q)) = 0 := by
  refine mayE_ok (s.noI16 h hk) (h.no (by rw [s.qH]; exact hk)) fun hR => ?_
  obtain ⟨X, hX⟩ := Option.isSome_iff_exists.1 hR
  have := s.qk X hX
  rw [hX]; simp [listB, this]
theorem DrS.come_p (s : DrS G p q tr W H) (hpq : p ≠ q) {k : Hn} {X' : Str} (ht : X'.tree = tr) : DrS (G.come p k 8 X') p q tr X'.hs H := by
  have hR : (G.come p k 8 X').R = upd1 G.R p (some X') := rfl
  have hN : (G.come p k 8 X').N = updN G.N p k (some 8) := rfl
  refine ⟨by rw [hR]; simp [upd1, hsO], fun X hX => ?_, by rw [hR]; simp only [upd1, if_neg (Ne.symm hpq)]; exact s.qH, fun X hX => ?_, fun r h1 h2 => ?_, fun j n hj => ?_, fun j n hj => ?_⟩
  · rw [hR] at hX; simp only [upd1, if_true] at hX; cases hX; exact ht
  · rw [hR] at hX; simp only [upd1, if_neg (Ne.symm hpq)] at hX; exact s.qk X hX
  · rw [hR]; simp only [upd1, if_neg h1]; exact s.oth r h1 h2
  · rw [hN] at hj; simp only [updN] at hj
    split at hj
    · cases hj; rfl
    · exact s.np j n hj
  · rw [hN] at hj; simp only [updN] at hj
    rw [if_neg (fun h => hpq h.1.symm)] at hj
    exact s.nq j n hj
theorem DrS.come_q (s : DrS G p q tr W H) (hpq : p ≠ q) {k : Hn} {X' : Str} (ht : X'.tree = false) : DrS (G.come q k 16 X') p q tr W X'.hs := by
  have hR : (G.come q k 16 X').R = upd1 G.R q (some X') := rfl
  have hN : (G.come q k 16 X').N = updN G.N q k (some 16) := rfl
  refine ⟨by rw [hR]; simp only [upd1, if_neg hpq]; exact s.pW, fun X hX => ?_, by rw [hR]; simp [upd1, hsO], fun X hX => ?_, fun r h1 h2 => ?_, fun j n hj => ?_, fun j n hj => ?_⟩
  · rw [hR] at hX; simp only [upd1, if_neg hpq] at hX; exact s.pk X hX
  · rw [hR] at hX; simp only [upd1, if_true] at hX; cases hX; exact ht
  · rw [hR]; simp only [upd1, if_neg h2]; exact s.oth r h1 h2
  · rw [hN] at hj; simp only [updN] at hj
    rw [if_neg (fun h => hpq h.1)] at hj
    exact s.np j n hj
  · rw [hN] at hj; simp only [updN] at hj
    split at hj
    · cases hj; rfl
    · exact s.nq j n hj
/-- all of p is gone -/
theorem DrS.gone (s : DrS G p q tr W H) (hpq : p ≠ q) {G' : GG} (hR : ∀ r, G'.R r = if r = p then none else G.R r) (hN : ∀ r k, G'.N r k = if r = p then none else G.N r k) (tr' : Bool) : DrS G' p q tr' [] H := by
  refine ⟨by rw [hR]; simp [hsO], fun X hX => ?_, by rw [hR, if_neg (Ne.symm hpq)]; exact s.qH, fun X hX => ?_, fun r h1 h2 => by rw [hR, if_neg h1]; exact s.oth r h1 h2, fun j n hj => ?_, fun j n hj => ?_⟩
  · rw [hR, if_pos rfl] at hX; cases hX
  · rw [hR, if_neg (Ne.symm hpq)] at hX; exact s.qk X hX
  · rw [hN, if_pos rfl] at hj; cases hj
  · rw [hN, if_neg (Ne.symm hpq)] at hj; exact s.nq j n hj
end
/-- an append beside the graph -/
theorem SlH.appD {D : Nat → Prop} {m : Mem} {v : Value} {hs xs : List Hn} {y : Vars} {e : TypeId} (h : SlH m v hs) (hD : ∀ a, D a → m a ≠ none) (ho : ∀ a : Nat, slB v = (a : Int) + 1 → ¬ D a)
    (hq : appQ m v 2 [.int .i64 0, .int .u64 0] e xs.length (hCells xs) y) : SlH y.m (hdV y.v) (hs ++ xs) ∧ (∀ a, D a → y.m a = m a) ∧ ∀ a : Nat, slB (hdV y.v) = (a : Int) + 1 → ¬ D a := by
  classical
  have key := h.app (m0 := fun a => if D a then m a else none) (fun a ha => by
    by_cases hd : D a
    · rw [if_pos hd]
    · rw [if_neg hd] at ha; exact absurd rfl ha) (fun a ha => if_neg (ho a ha)) hq
  obtain ⟨k1, k2, k3⟩ := key
  refine ⟨k1, fun a ha => ?_, fun a ha hd => ?_⟩
  · have := k2 a (by rw [if_pos ha]; exact hD a ha)
    rw [if_pos ha] at this; exact this
  · have := k3 a ha
    rw [if_pos hd] at this
    exact hD a hd this
/-- a slice's literal of one handle -/
theorem SlH.one {m : Mem} {s g : Int} {a : Nat} : SlH (alM m ((a : Int) + 1) (.mk [.int .i64 s, .int .u64 g]) 29) (slOf ((a : Int) + 1) 1) [(s, g)] := by
  rw [alM_alO]
  have : slOf ((a : Int) + 1) 1 = .slice (some ⟨a, 0, none⟩) ([(s, g)] : List Hn).length 1 := by
    unfold slOf; rw [show ((a : Int) + 1).toNat = a + 1 by omega]; rfl
  rw [this]
  exact SlH.of (by simp) (alO_self _ _ _) (by simp) (by simp [isPlain]) (by simp [hCells])
theorem slB_one (a : Nat) : slB (slOf ((a : Int) + 1) 1) = (a : Int) + 1 := by
  unfold slOf; rw [show ((a : Int) + 1).toNat = a + 1 by omega]; rfl
/-- the handles, as they came; as they stand -/
def Hl (i : Nat) : List Hn := (List.range i).map fun j : Nat => ((j : Int), (1 : Int))
def Wl (fr : Bool) (i : Nat) : List Hn := match fr with | true => (Hl i).reverse | false => Hl i
theorem Hl_len (i : Nat) : (Hl i).length = i := by simp [Hl]
theorem Wl_len (fr : Bool) (i : Nat) : (Wl fr i).length = i := by cases fr <;> simp [Wl, Hl_len]
theorem Hl_succ (i : Nat) : Hl (i + 1) = Hl i ++ [((i : Int), 1)] := by simp [Hl, List.range_succ]
theorem Wl_succ (fr : Bool) (i : Nat) : Wl fr (i + 1) = (match fr with | true => ((i : Int), (1 : Int)) :: Wl true i | false => Wl false i ++ [((i : Int), 1)]) := by
  cases fr <;> simp [Wl, Hl_succ]
theorem Hl_no (i : Nat) : ((i : Int), (1 : Int)) ∉ Hl i := by
  simp only [Hl, List.mem_map, List.mem_range, Prod.mk.injEq, not_exists, not_and]
  intro j hj h; omega
theorem Wl_no (fr : Bool) (i : Nat) : ((i : Int), (1 : Int)) ∉ Wl fr i := by
  cases fr <;> simp only [Wl, List.mem_reverse] <;> exact Hl_no i
theorem Hl_get {i n : Nat} (h : i < n) : (Hl n)[i]? = some ((i : Int), 1) := by simp [Hl, h]
theorem Hl_nodup (i : Nat) : (Hl i).Nodup := nodup_of fun a b x ha hb => by
  have h1 : a < i := by have := (List.getElem?_eq_some_iff.1 ha).1; rwa [Hl_len] at this
  have h2 : b < i := by have := (List.getElem?_eq_some_iff.1 hb).1; rwa [Hl_len] at this
  rw [Hl_get h1] at ha; rw [Hl_get h2] at hb
  rw [← ha] at hb
  simp only [Option.some.injEq, Prod.mk.injEq, and_true] at hb
  omega
theorem Wl_nodup (fr : Bool) (i : Nat) : (Wl fr i).Nodup := by
  cases fr
  · exact Hl_nodup i
  · exact List.pairwise_reverse.2 ((Hl_nodup i).imp Ne.symm)
theorem Hl_ok {n : Nat} (hn : n < 1000) {k : Hn} (hk : k ∈ Hl n) : okH k := by
  simp only [Hl, List.mem_map, List.mem_range] at hk
  obtain ⟨j, hj, rfl⟩ := hk
  refine ⟨?_, ?_⟩ <;> simp only [inI, inU] <;> omega
theorem Wl_ok {fr : Bool} {n : Nat} (hn : n < 1000) {k : Hn} (hk : k ∈ Wl fr n) : okH k := by
  cases fr
  · exact Hl_ok hn hk
  · exact Hl_ok hn (List.mem_reverse.1 hk)
def T_dr2 (m3 : Mem) (t c n : Int) (tr fr : Bool) (pm ps pa qm qs qa : Int) (l w : Value) : Tr := (.lp (.mk [0] [] [] m3) (fun y4 j4 => (.br (iLt (hdI y4.1) n) (.req (gatP y4.4 t qm qs qa (hdI y4.1)) (.any (gatQ y4.4 t qm qs qa (hdI y4.1)) (fun y5 => (.br (inSl (pl l) (hdI y4.1)) (.req (memL (slB (pl l)) [(slB (pl l)), (slB (pl w))]) (.br (okL y5.4 (slB (pl l)) (aOff (slO (pl l)) (hdI y4.1) 2) [(.li .i64 0), (.li .u64 0)]) (.br (inSl (pl w) (hdI y4.1)) (.req (memL (slB (pl w)) [(slB (pl l)), (slB (pl w))]) (.br (okL y5.4 (slB (pl w)) (aOff (slO (pl w)) (hdI y4.1) 2) [(.li .i64 0), (.li .u64 0)]) (.br (bNot (bAnd (iEq (gI y5.4 (slB (pl l)) (aOff (slO (pl l)) (hdI y4.1) 2)) (gI y5.4 (slB (pl w)) (aOff (slO (pl w)) (hdI y4.1) 2))) (iEq (gI y5.4 (slB (pl l)) (.succ (aOff (slO (pl l)) (hdI y4.1) 2))) (gI y5.4 (slB (pl w)) (.succ (aOff (slO (pl w)) (hdI y4.1) 2)))))) (.req ((([(2, ([(.si .i64 (hdI y5.1)), (.si .u64 (hdI (tlI y5.1)))], 29)), (2, ([(.li .i64 0), (.li .u64 0)], 29)), (0, ([(.si .i64 pm), (.si .i64 ps), (.si .i64 pa)], 59)), (1, ([(.si .i64 qm), (.si .i64 qs), (.si .i64 qa)], 59))] : List (Nat × Blk)) = [(2, ([(.si .i64 (hdI y5.1)), (.si .u64 (hdI (tlI y5.1)))], 29)), (2, ([(.li .i64 0), (.li .u64 0)], 29)), (0, ([(.si .i64 pm), (.si .i64 ps), (.si .i64 pa)], 59)), (1, ([(.si .i64 qm), (.si .i64 qs), (.si .i64 qa)], 59))]) ∧ ((([] : List (Nat × MBlk)) = []) ∧ (agreeL [(slB (pl l)), (slB (pl w))] y5.4 y5.4))) (.req ((([(2, ([(.si .i64 (hdI y5.1)), (.si .u64 (hdI (tlI y5.1)))], 29)), (2, ([(.li .i64 0), (.li .u64 0)], 29)), (0, ([(.si .i64 pm), (.si .i64 ps), (.si .i64 pa)], 59)), (1, ([(.si .i64 qm), (.si .i64 qs), (.si .i64 qa)], 59))] : List (Nat × Blk)) = [(2, ([(.si .i64 (hdI y5.1)), (.si .u64 (hdI (tlI y5.1)))], 29)), (2, ([(.li .i64 0), (.li .u64 0)], 29)), (0, ([(.si .i64 pm), (.si .i64 ps), (.si .i64 pa)], 59)), (1, ([(.si .i64 qm), (.si .i64 qs), (.si .i64 qa)], 59))]) ∧ ((([] : List (Nat × MBlk)) = []) ∧ (agreeL [(slB (pl l)), (slB (pl w))] y5.4 y5.4))) (.leaf (.up (.up (.memo (.u (.c (.lb false))) y5.4)))))) (.br (bNot (hdB y5.2)) (.req ((([(2, ([(.si .i64 (hdI y5.1)), (.si .u64 (hdI (tlI y5.1)))], 29)), (2, ([(.li .i64 0), (.li .u64 0)], 29)), (0, ([(.si .i64 pm), (.si .i64 ps), (.si .i64 pa)], 59)), (1, ([(.si .i64 qm), (.si .i64 qs), (.si .i64 qa)], 59))] : List (Nat × Blk)) = [(2, ([(.si .i64 (hdI y5.1)), (.si .u64 (hdI (tlI y5.1)))], 29)), (2, ([(.li .i64 0), (.li .u64 0)], 29)), (0, ([(.si .i64 pm), (.si .i64 ps), (.si .i64 pa)], 59)), (1, ([(.si .i64 qm), (.si .i64 qs), (.si .i64 qa)], 59))]) ∧ ((([] : List (Nat × MBlk)) = []) ∧ (agreeL [(slB (pl l)), (slB (pl w))] y5.4 y5.4))) (.req ((([(2, ([(.si .i64 (hdI y5.1)), (.si .u64 (hdI (tlI y5.1)))], 29)), (2, ([(.li .i64 0), (.li .u64 0)], 29)), (0, ([(.si .i64 pm), (.si .i64 ps), (.si .i64 pa)], 59)), (1, ([(.si .i64 qm), (.si .i64 qs), (.si .i64 qa)], 59))] : List (Nat × Blk)) = [(2, ([(.si .i64 (hdI y5.1)), (.si .u64 (hdI (tlI y5.1)))], 29)), (2, ([(.li .i64 0), (.li .u64 0)], 29)), (0, ([(.si .i64 pm), (.si .i64 ps), (.si .i64 pa)], 59)), (1, ([(.si .i64 qm), (.si .i64 qs), (.si .i64 qa)], 59))]) ∧ ((([] : List (Nat × MBlk)) = []) ∧ (agreeL [(slB (pl l)), (slB (pl w))] y5.4 y5.4))) (.leaf (.up (.up (.memo (.u (.c (.lb false))) y5.4)))))) (.req ((([(2, ([(.si .i64 (hdI y5.1)), (.si .u64 (hdI (tlI y5.1)))], 29)), (2, ([(.li .i64 0), (.li .u64 0)], 29)), (0, ([(.si .i64 pm), (.si .i64 ps), (.si .i64 pa)], 59)), (1, ([(.si .i64 qm), (.si .i64 qs), (.si .i64 qa)], 59))] : List (Nat × Blk)) = [(2, ([(.si .i64 (hdI y5.1)), (.si .u64 (hdI (tlI y5.1)))], 29)), (2, ([(.li .i64 0), (.li .u64 0)], 29)), (0, ([(.si .i64 pm), (.si .i64 ps), (.si .i64 pa)], 59)), (1, ([(.si .i64 qm), (.si .i64 qs), (.si .i64 qa)], 59))]) ∧ ((([] : List (Nat × MBlk)) = []) ∧ (agreeL [(slB (pl l)), (slB (pl w))] y5.4 y5.4))) (.br (bNot (bAnd (iEq (hdI y5.1) (iConv .i64 (iConv .u8 (hdI y4.1)))) (iEq (hdI (tlI y5.1)) 1))) (.req ((([(2, ([(.si .i64 (hdI y5.1)), (.si .u64 (hdI (tlI y5.1)))], 29)), (2, ([(.li .i64 0), (.li .u64 0)], 29)), (0, ([(.si .i64 pm), (.si .i64 ps), (.si .i64 pa)], 59)), (1, ([(.si .i64 qm), (.si .i64 qs), (.si .i64 qa)], 59))] : List (Nat × Blk)) = [(2, ([(.si .i64 (hdI y5.1)), (.si .u64 (hdI (tlI y5.1)))], 29)), (2, ([(.li .i64 0), (.li .u64 0)], 29)), (0, ([(.si .i64 pm), (.si .i64 ps), (.si .i64 pa)], 59)), (1, ([(.si .i64 qm), (.si .i64 qs), (.si .i64 qa)], 59))]) ∧ ((([] : List (Nat × MBlk)) = []) ∧ (agreeL [(slB (pl l)), (slB (pl w))] y5.4 y5.4))) (.leaf (.up (.up (.memo (.u (.c (.lb false))) y5.4))))) (.br (inSl (pl l) (hdI y4.1)) (.br (okL y5.4 (slB (pl l)) (aOff (slO (pl l)) (hdI y4.1) 2) [(.li .i64 0), (.li .u64 0)]) (.req (gpushP y5.4 t pm ps pa (gI y5.4 (slB (pl l)) (aOff (slO (pl l)) (hdI y4.1) 2)) (gI y5.4 (slB (pl l)) (.succ (aOff (slO (pl l)) (hdI y4.1) 2))) 8 false) (.any (gpushQ y5.4 t pm ps pa (gI y5.4 (slB (pl l)) (aOff (slO (pl l)) (hdI y4.1) 2)) (gI y5.4 (slB (pl l)) (.succ (aOff (slO (pl l)) (hdI y4.1) 2))) 8 false) (fun y6 => (.req ((([(2, ([(.si .i64 (hdI y5.1)), (.si .u64 (hdI (tlI y5.1)))], 29)), (2, ([(.li .i64 0), (.li .u64 0)], 29)), (0, ([(.si .i64 pm), (.si .i64 ps), (.si .i64 pa)], 59)), (1, ([(.si .i64 qm), (.si .i64 qs), (.si .i64 qa)], 59))] : List (Nat × Blk)) = [(2, ([(.si .i64 (hdI y5.1)), (.si .u64 (hdI (tlI y5.1)))], 29)), (2, ([(.li .i64 0), (.li .u64 0)], 29)), (0, ([(.si .i64 pm), (.si .i64 ps), (.si .i64 pa)], 59)), (1, ([(.si .i64 qm), (.si .i64 qs), (.si .i64 qa)], 59))]) ∧ ((([] : List (Nat × MBlk)) = []) ∧ (agreeL [(slB (pl l)), (slB (pl w))] y6.4 y5.4))) (.br (iNe (hdI y6.1) 0) (.leaf (.up (.up (.memo (.u (.c (.lb false))) y6.4)))) (.req ((([(0, (.u (.c (.si .u8 c)))), (8, (.u (.c (.ptr 0 0)))), (9, (.u (.c (.ptr 1 0)))), (11, (.u (.c (.np t 0)))), (12, (.u (.c (.si .i64 n)))), (13, (.u (.c (.sv w)))), (17, (.u (.c (.sv l))))] : List (Nat × V)) = [(0, (.u (.c (.si .u8 c)))), (8, (.u (.c (.ptr 0 0)))), (9, (.u (.c (.ptr 1 0)))), (11, (.u (.c (.np t 0)))), (12, (.u (.c (.si .i64 n)))), (13, (.u (.c (.sv w)))), (17, (.u (.c (.sv l))))]) ∧ (([(0, ([(.si .i64 pm), (.si .i64 ps), (.si .i64 pa)], 59)), (1, ([(.si .i64 qm), (.si .i64 qs), (.si .i64 qa)], 59))] : List (Nat × Blk)) = [(0, ([(.si .i64 pm), (.si .i64 ps), (.si .i64 pa)], 59)), (1, ([(.si .i64 qm), (.si .i64 qs), (.si .i64 qa)], 59))])) (.leaf (.again (.mk [(iAdd .i64 (hdI y4.1) 1)] [] [] y6.4))))))))) (.no 70)) (.no 104)))))) (.no 70))) (.no 104)) (.no 70))) (.no 104))))) (.req (glenOK y4.4 t pm ps pa) (.br (iEq (glenV y4.4 t pm ps pa) n) (.leaf (.up (.up (.memo (.u (.c (.lb true))) y4.4)))) (.leaf (.up (.up (.memo (.u (.c (.lb false))) y4.4)))))))))
def T_drB (m1 : Mem) (t c n : Int) (tr fr : Bool) (pm ps pa qm qs qa : Int) (w : Value) : Tr := (.req (gdrainP m1 t pm ps pa) (.any (gdrainQ m1 t pm ps pa) (fun y2 => (.br (isSlV (pl (hdV y2.3))) (.br (iNe (slN (pl (hdV y2.3))) n) (.leaf (.up (.memo (.u (.c (.lb false))) y2.4))) (.req (glenOK y2.4 t pm ps pa) (.br (iNe (glenV y2.4 t pm ps pa) 0) (.leaf (.up (.memo (.u (.c (.lb false))) y2.4))) (.req (glenOK y2.4 t qm qs qa) (.br (iNe (glenV y2.4 t qm qs qa) n) (.leaf (.up (.memo (.u (.c (.lb false))) y2.4))) (.req (gkindOK y2.4 t pm ps pa) (.br (iNe (gkindV y2.4 t pm ps pa) 0) (.leaf (.up (.memo (.u (.c (.lb false))) y2.4))) (.req (gdrainP y2.4 t pm ps pa) (.any (gdrainQ y2.4 t pm ps pa) (fun y3 => (.br (isSlV (pl (hdV y3.3))) (.br (iNe (slN (pl (hdV y3.3))) 0) (.leaf (.up (.memo (.u (.c (.lb false))) y3.4))) (T_dr2 y3.4 t c n tr fr pm ps pa qm qs qa (hdV y2.3) w)) (.no 123)))))))))))) (.no 123)))))
def T_drA (m1 : Mem) (t i c n : Int) (tr fr : Bool) (pm ps pa qm qs qa : Int) (w : Value) : Tr := (.req (glenOK m1 t pm ps pa) (.lp (.mk [0] [] [] m1) (fun y2 j2 => (.br (iZero? (hdI y2.1)) (.br fr (.req ((([(0, (.u (.c (.si .u8 c)))), (1, (.u (.c (.sb tr)))), (2, (.u (.c (.sb fr)))), (8, (.u (.c (.ptr 0 0)))), (9, (.u (.c (.ptr 1 0)))), (11, (.u (.c (.np t 0)))), (12, (.u (.c (.si .i64 n)))), (13, (.u (.c (.sv w)))), (14, (.u (.c (.si .i64 i)))), (15, (.u (.c (.ptr 2 0))))] : List (Nat × V)) = [(0, (.u (.c (.si .u8 c)))), (1, (.u (.c (.sb tr)))), (2, (.u (.c (.sb fr)))), (8, (.u (.c (.ptr 0 0)))), (9, (.u (.c (.ptr 1 0)))), (11, (.u (.c (.np t 0)))), (12, (.u (.c (.si .i64 n)))), (13, (.u (.c (.sv w)))), (14, (.u (.c (.si .i64 i)))), (15, (.u (.c (.ptr 2 0))))]) ∧ (([(0, ([(.si .i64 pm), (.si .i64 ps), (.si .i64 pa)], 59)), (1, ([(.si .i64 qm), (.si .i64 qs), (.si .i64 qa)], 59)), (2, ([(.si .i64 (iConv .i64 (iConv .u8 i))), (.li .u64 1)], 29))] : List (Nat × Blk)) = [(0, ([(.si .i64 pm), (.si .i64 ps), (.si .i64 pa)], 59)), (1, ([(.si .i64 qm), (.si .i64 qs), (.si .i64 qa)], 59)), (2, ([(.si .i64 (iConv .i64 (iConv .u8 i))), (.li .u64 1)], 29))])) (.leaf (.again (.mk [1, 0] [] [] m1)))) (.req ((([(0, (.u (.c (.si .u8 c)))), (1, (.u (.c (.sb tr)))), (2, (.u (.c (.sb fr)))), (8, (.u (.c (.ptr 0 0)))), (9, (.u (.c (.ptr 1 0)))), (11, (.u (.c (.np t 0)))), (12, (.u (.c (.si .i64 n)))), (13, (.u (.c (.sv w)))), (14, (.u (.c (.si .i64 i)))), (15, (.u (.c (.ptr 2 0))))] : List (Nat × V)) = [(0, (.u (.c (.si .u8 c)))), (1, (.u (.c (.sb tr)))), (2, (.u (.c (.sb fr)))), (8, (.u (.c (.ptr 0 0)))), (9, (.u (.c (.ptr 1 0)))), (11, (.u (.c (.np t 0)))), (12, (.u (.c (.si .i64 n)))), (13, (.u (.c (.sv w)))), (14, (.u (.c (.si .i64 i)))), (15, (.u (.c (.ptr 2 0))))]) ∧ (([(0, ([(.si .i64 pm), (.si .i64 ps), (.si .i64 pa)], 59)), (1, ([(.si .i64 qm), (.si .i64 qs), (.si .i64 qa)], 59)), (2, ([(.si .i64 (iConv .i64 (iConv .u8 i))), (.li .u64 1)], 29))] : List (Nat × Blk)) = [(0, ([(.si .i64 pm), (.si .i64 ps), (.si .i64 pa)], 59)), (1, ([(.si .i64 qm), (.si .i64 qs), (.si .i64 qa)], 59)), (2, ([(.si .i64 (iConv .i64 (iConv .u8 i))), (.li .u64 1)], 29))])) (.leaf (.again (.mk [1, (glenV m1 t pm ps pa)] [] [] m1))))) (.lp (.mk [0] [] [] y2.4) (fun y3 j3 => (.br (iZero? (hdI y3.1)) (.br tr (.req (ginsertP y2.4 t pm ps pa (hdI (tlI y2.1)) (iConv .i64 (iConv .u8 i)) 1 8) (.any (ginsertQ y2.4 t pm ps pa (hdI (tlI y2.1)) (iConv .i64 (iConv .u8 i)) 1 8) (fun y4 => (.br (iNe (hdI y4.1) 0) (.req ((([(0, (.u (.c (.si .u8 c)))), (1, (.u (.c (.sb tr)))), (2, (.u (.c (.sb fr)))), (8, (.u (.c (.ptr 0 0)))), (9, (.u (.c (.ptr 1 0)))), (11, (.u (.c (.np t 0)))), (12, (.u (.c (.si .i64 n)))), (13, (.u (.c (.sv w)))), (14, (.u (.c (.si .i64 i)))), (15, (.u (.c (.ptr 2 0)))), (16, (.u (.c (.si .i64 (hdI (tlI y2.1))))))] : List (Nat × V)) = [(0, (.u (.c (.si .u8 c)))), (1, (.u (.c (.sb tr)))), (2, (.u (.c (.sb fr)))), (8, (.u (.c (.ptr 0 0)))), (9, (.u (.c (.ptr 1 0)))), (11, (.u (.c (.np t 0)))), (12, (.u (.c (.si .i64 n)))), (13, (.u (.c (.sv w)))), (14, (.u (.c (.si .i64 i)))), (15, (.u (.c (.ptr 2 0)))), (16, (.u (.c (.si .i64 (hdI (tlI y2.1))))))]) ∧ (([(0, ([(.si .i64 pm), (.si .i64 ps), (.si .i64 pa)], 59)), (1, ([(.si .i64 qm), (.si .i64 qs), (.si .i64 qa)], 59)), (2, ([(.si .i64 (iConv .i64 (iConv .u8 i))), (.li .u64 1)], 29))] : List (Nat × Blk)) = [(0, ([(.si .i64 pm), (.si .i64 ps), (.si .i64 pa)], 59)), (1, ([(.si .i64 qm), (.si .i64 qs), (.si .i64 qa)], 59)), (2, ([(.si .i64 (iConv .i64 (iConv .u8 i))), (.li .u64 1)], 29))])) (.leaf (.again (.mk [1] [true] [] y4.4)))) (.br (bNot tr) (.req (gpushP y4.4 t pm ps pa (iConv .i64 (iConv .u8 i)) 1 8 fr) (.any (gpushQ y4.4 t pm ps pa (iConv .i64 (iConv .u8 i)) 1 8 fr) (fun y5 => (.req ((([(0, (.u (.c (.si .u8 c)))), (1, (.u (.c (.sb tr)))), (2, (.u (.c (.sb fr)))), (8, (.u (.c (.ptr 0 0)))), (9, (.u (.c (.ptr 1 0)))), (11, (.u (.c (.np t 0)))), (12, (.u (.c (.si .i64 n)))), (13, (.u (.c (.sv w)))), (14, (.u (.c (.si .i64 i)))), (15, (.u (.c (.ptr 2 0)))), (16, (.u (.c (.si .i64 (hdI (tlI y2.1))))))] : List (Nat × V)) = [(0, (.u (.c (.si .u8 c)))), (1, (.u (.c (.sb tr)))), (2, (.u (.c (.sb fr)))), (8, (.u (.c (.ptr 0 0)))), (9, (.u (.c (.ptr 1 0)))), (11, (.u (.c (.np t 0)))), (12, (.u (.c (.si .i64 n)))), (13, (.u (.c (.sv w)))), (14, (.u (.c (.si .i64 i)))), (15, (.u (.c (.ptr 2 0)))), (16, (.u (.c (.si .i64 (hdI (tlI y2.1))))))]) ∧ (([(0, ([(.si .i64 pm), (.si .i64 ps), (.si .i64 pa)], 59)), (1, ([(.si .i64 qm), (.si .i64 qs), (.si .i64 qa)], 59)), (2, ([(.si .i64 (iConv .i64 (iConv .u8 i))), (.li .u64 1)], 29))] : List (Nat × Blk)) = [(0, ([(.si .i64 pm), (.si .i64 ps), (.si .i64 pa)], 59)), (1, ([(.si .i64 qm), (.si .i64 qs), (.si .i64 qa)], 59)), (2, ([(.si .i64 (iConv .i64 (iConv .u8 i))), (.li .u64 1)], 29))])) (.leaf (.again (.mk [1] [(iNe (hdI y5.1) 0)] [] y5.4))))))) (.req ((([(0, (.u (.c (.si .u8 c)))), (1, (.u (.c (.sb tr)))), (2, (.u (.c (.sb fr)))), (8, (.u (.c (.ptr 0 0)))), (9, (.u (.c (.ptr 1 0)))), (11, (.u (.c (.np t 0)))), (12, (.u (.c (.si .i64 n)))), (13, (.u (.c (.sv w)))), (14, (.u (.c (.si .i64 i)))), (15, (.u (.c (.ptr 2 0)))), (16, (.u (.c (.si .i64 (hdI (tlI y2.1))))))] : List (Nat × V)) = [(0, (.u (.c (.si .u8 c)))), (1, (.u (.c (.sb tr)))), (2, (.u (.c (.sb fr)))), (8, (.u (.c (.ptr 0 0)))), (9, (.u (.c (.ptr 1 0)))), (11, (.u (.c (.np t 0)))), (12, (.u (.c (.si .i64 n)))), (13, (.u (.c (.sv w)))), (14, (.u (.c (.si .i64 i)))), (15, (.u (.c (.ptr 2 0)))), (16, (.u (.c (.si .i64 (hdI (tlI y2.1))))))]) ∧ (([(0, ([(.si .i64 pm), (.si .i64 ps), (.si .i64 pa)], 59)), (1, ([(.si .i64 qm), (.si .i64 qs), (.si .i64 qa)], 59)), (2, ([(.si .i64 (iConv .i64 (iConv .u8 i))), (.li .u64 1)], 29))] : List (Nat × Blk)) = [(0, ([(.si .i64 pm), (.si .i64 ps), (.si .i64 pa)], 59)), (1, ([(.si .i64 qm), (.si .i64 qs), (.si .i64 qa)], 59)), (2, ([(.si .i64 (iConv .i64 (iConv .u8 i))), (.li .u64 1)], 29))])) (.leaf (.again (.mk [1] [false] [] y4.4))))))))) (.br (bNot tr) (.req (gpushP y2.4 t pm ps pa (iConv .i64 (iConv .u8 i)) 1 8 fr) (.any (gpushQ y2.4 t pm ps pa (iConv .i64 (iConv .u8 i)) 1 8 fr) (fun y4 => (.req ((([(0, (.u (.c (.si .u8 c)))), (1, (.u (.c (.sb tr)))), (2, (.u (.c (.sb fr)))), (8, (.u (.c (.ptr 0 0)))), (9, (.u (.c (.ptr 1 0)))), (11, (.u (.c (.np t 0)))), (12, (.u (.c (.si .i64 n)))), (13, (.u (.c (.sv w)))), (14, (.u (.c (.si .i64 i)))), (15, (.u (.c (.ptr 2 0)))), (16, (.u (.c (.si .i64 (hdI (tlI y2.1))))))] : List (Nat × V)) = [(0, (.u (.c (.si .u8 c)))), (1, (.u (.c (.sb tr)))), (2, (.u (.c (.sb fr)))), (8, (.u (.c (.ptr 0 0)))), (9, (.u (.c (.ptr 1 0)))), (11, (.u (.c (.np t 0)))), (12, (.u (.c (.si .i64 n)))), (13, (.u (.c (.sv w)))), (14, (.u (.c (.si .i64 i)))), (15, (.u (.c (.ptr 2 0)))), (16, (.u (.c (.si .i64 (hdI (tlI y2.1))))))]) ∧ (([(0, ([(.si .i64 pm), (.si .i64 ps), (.si .i64 pa)], 59)), (1, ([(.si .i64 qm), (.si .i64 qs), (.si .i64 qa)], 59)), (2, ([(.si .i64 (iConv .i64 (iConv .u8 i))), (.li .u64 1)], 29))] : List (Nat × Blk)) = [(0, ([(.si .i64 pm), (.si .i64 ps), (.si .i64 pa)], 59)), (1, ([(.si .i64 qm), (.si .i64 qs), (.si .i64 qa)], 59)), (2, ([(.si .i64 (iConv .i64 (iConv .u8 i))), (.li .u64 1)], 29))])) (.leaf (.again (.mk [1] [(iNe (hdI y4.1) 0)] [] y4.4))))))) (.req ((([(0, (.u (.c (.si .u8 c)))), (1, (.u (.c (.sb tr)))), (2, (.u (.c (.sb fr)))), (8, (.u (.c (.ptr 0 0)))), (9, (.u (.c (.ptr 1 0)))), (11, (.u (.c (.np t 0)))), (12, (.u (.c (.si .i64 n)))), (13, (.u (.c (.sv w)))), (14, (.u (.c (.si .i64 i)))), (15, (.u (.c (.ptr 2 0)))), (16, (.u (.c (.si .i64 (hdI (tlI y2.1))))))] : List (Nat × V)) = [(0, (.u (.c (.si .u8 c)))), (1, (.u (.c (.sb tr)))), (2, (.u (.c (.sb fr)))), (8, (.u (.c (.ptr 0 0)))), (9, (.u (.c (.ptr 1 0)))), (11, (.u (.c (.np t 0)))), (12, (.u (.c (.si .i64 n)))), (13, (.u (.c (.sv w)))), (14, (.u (.c (.si .i64 i)))), (15, (.u (.c (.ptr 2 0)))), (16, (.u (.c (.si .i64 (hdI (tlI y2.1))))))]) ∧ (([(0, ([(.si .i64 pm), (.si .i64 ps), (.si .i64 pa)], 59)), (1, ([(.si .i64 qm), (.si .i64 qs), (.si .i64 qa)], 59)), (2, ([(.si .i64 (iConv .i64 (iConv .u8 i))), (.li .u64 1)], 29))] : List (Nat × Blk)) = [(0, ([(.si .i64 pm), (.si .i64 ps), (.si .i64 pa)], 59)), (1, ([(.si .i64 qm), (.si .i64 qs), (.si .i64 qa)], 59)), (2, ([(.si .i64 (iConv .i64 (iConv .u8 i))), (.li .u64 1)], 29))])) (.leaf (.again (.mk [1] [false] [] y2.4)))))) (.br (hdB y3.2) (.leaf (.up (.up (.up (.memo (.u (.c (.lb false))) y3.4))))) (.req (gpushP y3.4 t qm qs qa (iConv .i64 (iConv .u8 i)) 1 16 false) (.any (gpushQ y3.4 t qm qs qa (iConv .i64 (iConv .u8 i)) 1 16 false) (fun y4 => (.br (iNe (hdI y4.1) 0) (.leaf (.up (.up (.up (.memo (.u (.c (.lb false))) y4.4))))) (.br fr (.any (newQ y4.4 (.mk [(.int .i64 (iConv .i64 (iConv .u8 i))), (.int .u64 1)]) 29) (fun y5 => (.br (okSl y5.4 (pl w) 2) (.br (appOK y5.4 (pl (slOf (pI y5.1) 1)) 2 16 (slN (pl w)) (rowL y5.4 (pl w) 2)) (.any (appQ y5.4 (pl (slOf (pI y5.1) 1)) 2 [(.int .i64 0), (.int .u64 0)] 29 (slN (pl w)) (rowL y5.4 (pl w) 2)) (fun y6 => (.req ((([(0, (.u (.c (.si .u8 c)))), (1, (.u (.c (.sb tr)))), (2, (.u (.c (.sb fr)))), (8, (.u (.c (.ptr 0 0)))), (9, (.u (.c (.ptr 1 0)))), (11, (.u (.c (.np t 0)))), (12, (.u (.c (.si .i64 n))))] : List (Nat × V)) = [(0, (.u (.c (.si .u8 c)))), (1, (.u (.c (.sb tr)))), (2, (.u (.c (.sb fr)))), (8, (.u (.c (.ptr 0 0)))), (9, (.u (.c (.ptr 1 0)))), (11, (.u (.c (.np t 0)))), (12, (.u (.c (.si .i64 n))))]) ∧ (([(0, ([(.si .i64 pm), (.si .i64 ps), (.si .i64 pa)], 59)), (1, ([(.si .i64 qm), (.si .i64 qs), (.si .i64 qa)], 59))] : List (Nat × Blk)) = [(0, ([(.si .i64 pm), (.si .i64 ps), (.si .i64 pa)], 59)), (1, ([(.si .i64 qm), (.si .i64 qs), (.si .i64 qa)], 59))])) (.leaf (.up (.up (.again (.mk [(iAdd .i64 i 1)] [] [(pl (hdV y6.3))] y6.4)))))))) (.no 120)) (.no 121)))) (.any (newQ y4.4 (.mk [(.int .i64 (iConv .i64 (iConv .u8 i))), (.int .u64 1)]) 29) (fun y5 => (.br (okSl y5.4 (pl (slOf (pI y5.1) 1)) 2) (.br (appOK y5.4 (pl w) 2 16 (slN (pl (slOf (pI y5.1) 1))) (rowL y5.4 (pl (slOf (pI y5.1) 1)) 2)) (.any (appQ y5.4 (pl w) 2 [(.int .i64 0), (.int .u64 0)] 29 (slN (pl (slOf (pI y5.1) 1))) (rowL y5.4 (pl (slOf (pI y5.1) 1)) 2)) (fun y6 => (.req ((([(0, (.u (.c (.si .u8 c)))), (1, (.u (.c (.sb tr)))), (2, (.u (.c (.sb fr)))), (8, (.u (.c (.ptr 0 0)))), (9, (.u (.c (.ptr 1 0)))), (11, (.u (.c (.np t 0)))), (12, (.u (.c (.si .i64 n))))] : List (Nat × V)) = [(0, (.u (.c (.si .u8 c)))), (1, (.u (.c (.sb tr)))), (2, (.u (.c (.sb fr)))), (8, (.u (.c (.ptr 0 0)))), (9, (.u (.c (.ptr 1 0)))), (11, (.u (.c (.np t 0)))), (12, (.u (.c (.si .i64 n))))]) ∧ (([(0, ([(.si .i64 pm), (.si .i64 ps), (.si .i64 pa)], 59)), (1, ([(.si .i64 qm), (.si .i64 qs), (.si .i64 qa)], 59))] : List (Nat × Blk)) = [(0, ([(.si .i64 pm), (.si .i64 ps), (.si .i64 pa)], 59)), (1, ([(.si .i64 qm), (.si .i64 qs), (.si .i64 qa)], 59))])) (.leaf (.up (.up (.again (.mk [(iAdd .i64 i 1)] [] [(pl (hdV y6.3))] y6.4)))))))) (.no 120)) (.no 121)))))))))))))))))
def T_drains (m : Mem) (c : Int) (tr : Bool) (fr : Bool) (pm ps pa : Int) (qm qs qa : Int) : Tr := (.br (bAnd (iEq pm qm) (bAnd (iEq ps qs) (iEq pa qa))) (.leaf (.memo (.u (.c (.lb true))) m)) (.req (gnewP m) (.any (gnewQ m) (fun y0 => (.lp (.mk [0] [] [(.slice (.none) 0 0)] y0.4) (fun y1 j1 => (.br (iLt (hdI y1.1) (iConv .i64 (iRem c 60))) (T_drA y1.4 (hdI y0.1) (hdI y1.1) c (iConv .i64 (iRem c 60)) tr fr pm ps pa qm qs qa (hdV y1.3)) (T_drB y1.4 (hdI y0.1) c (iConv .i64 (iRem c 60)) tr fr pm ps pa qm qs qa (hdV y1.3)))))))))
/-- ahead of each round of the first loop -/
def DrJ (t : Int) (p q : Pl) (tr fr : Bool) (i : Nat) (m : Mem) (w : Value) : Prop := ∃ G : GG, t = (G.g : Int) + 1 ∧ G.is m ∧ DrS G p q tr (Wl fr i) (Hl i) ∧ SlH m w (Wl fr i) ∧ ∀ a : Nat, slB w = (a : Int) + 1 → ¬ G.dom a
theorem DrS.hW {G : GG} {p q : Pl} {tr : Bool} {W H : List Hn} (s : DrS G p q tr W H) : hsO (G.R p) = W := s.pW
/-- what lies beside the graph stays, and beside it -/
theorem GG.to.beside {G G' : GG} {m m' : Mem} (h : G.to G' m m') {v : Value} {hs : List Hn} (hv : SlH m v hs) (ho : ∀ a : Nat, slB v = (a : Int) + 1 → ¬ G.dom a) : SlH m' v hs ∧ ∀ a : Nat, slB v = (a : Int) + 1 → ¬ G'.dom a := by
  refine ⟨hv.more fun a ha hn => h.keep a hn (ho a ha), fun a ha hd => ?_⟩
  rcases h.dom a hd with h1 | h1
  · exact ho a ha h1
  · rcases hv.inv with ⟨rfl, _⟩ | ⟨b, o, c, cs, ty, rfl, _, h2, _⟩
    · simp only [slB] at ha; omega
    · simp only [slB] at ha
      have : b = a := by omega
      subst this
      rw [h2] at h1; cases h1
theorem drA_walk {m1 : Mem} {t c n : Int} {i : Nat} {tr fr : Bool} {pm ps pa qm qs qa : Int} {w : Value} (hJ : DrJ t (pm, ps, pa) (qm, qs, qa) tr fr i m1 w) (hi : i < 60) (hpq : (pm, ps, pa) ≠ (qm, qs, qa)) (hp : okP' (pm, ps, pa)) (hq : okP' (qm, qs, qa)) {R : Leaf → Prop}
    (hR : ∀ y : Vars, y.i = [((i + 1 : Nat) : Int)] → y.b = [] → (∃ w', y.v = [w'] ∧ DrJ t (pm, ps, pa) (qm, qs, qa) tr fr (i + 1) y.m w') → R (.again y)) : (T_drA m1 t i c n tr fr pm ps pa qm qs qa w).sat R := by
  obtain ⟨G, rfl, h, s, hw, ho⟩ := hJ
  unfold T_drA
  obtain ⟨g1, g2⟩ := glen_spec h hp
  rw [s.pW, Wl_len] at g2
  rw [conv_n (show i < 128 by omega), g2, sat_req]
  refine ⟨g1, ?_⟩
  have hk : okH ((i : Int), (1 : Int)) := by refine ⟨?_, ?_⟩ <;> simp only [inI, inU] <;> omega
  have h8 : inI 8 := by unfold inI; omega
  have h16 : inI 16 := by unfold inI; omega
  have hin : iAdd .i64 (i : Int) 1 = ((i + 1 : Nat) : Int) := by rw [iadd_i (by omega)]; omega
  refine sat_jn (fun v => v = ⟨[match fr with | true => 0 | false => (i : Int)], [], [], m1⟩) ?_ ?_
  · cases fr
    · rw [sat_brF, sat_req]; exact ⟨⟨rfl, rfl⟩, rfl, rfl⟩
    · rw [sat_brT, sat_req]; exact ⟨⟨rfl, rfl⟩, rfl, rfl⟩
  rintro v j _ hQ
  simp only [Vars.mk.injEq] at hQ
  obtain ⟨q1, q2, q3, q4⟩ := hQ
  rw [q1, q4]
  simp only [hdI]
  -- at p
  refine sat_jn (fun v => v.b = [false] ∧ ∃ G' : GG, G'.g = G.g ∧ G'.is v.m ∧ DrS G' (pm, ps, pa) (qm, qs, qa) tr (Wl fr (i + 1)) (Hl i) ∧ SlH v.m w (Wl fr i) ∧ ∀ a : Nat, slB w = (a : Int) + 1 → ¬ G'.dom a) ?_ ?_
  · have hpre : gpushPre G m1 ((G.g : Int) + 1) pm ps pa i 1 8 := ⟨rfl, h, hp, hk, h8⟩
    cases tr with
    | true =>
      have hpre2 : ginsertPre G m1 ((G.g : Int) + 1) pm ps pa i 1 8 := ⟨hpre, by rw [s.pW, Wl_len]; omega⟩
      rw [sat_brT, sat_req]
      refine ⟨⟨G, hpre2⟩, ?_⟩
      rw [sat_any]
      rintro ⟨yi, yb, yv, ym⟩ hy
      have hm := s.may8 h (Wl_no fr i) rfl
      simp only at hm
      rcases hy G hpre2 with ⟨a1, _⟩ | ⟨_, a1, _⟩ | ⟨_, a1, a2, a3, X', a4, a5, a6⟩
      · exact absurd hm a1
      · exfalso
        rw [s.pW, Wl_len] at a1
        cases fr <;> simp only at a1 <;> omega
      simp only at a3 a6
      subst a3
      obtain ⟨b1, b2⟩ := a6.beside hw ho
      have hW' : X'.hs = Wl fr (i + 1) := by
        rw [a5, s.pW, Wl_succ]
        cases fr
        · simp only [Int.toNat_natCast]
          have e := Wl_len false i
          rw [List.take_of_length_le (by omega), List.drop_of_length_le (by omega)]
        · rfl
      have s' := s.come_p hpq (k := ((i : Int), 1)) a4
      rw [hW'] at s'
      simp only [hdI]
      rw [brF (by rfl), brF (by rfl), sat_req]
      exact ⟨by simp, rfl, rfl, _, a6.g, a6.is', s', b1, b2⟩
    | false =>
      rw [sat_brF, brT (by rfl), sat_req]
      refine ⟨⟨G, hpre⟩, ?_⟩
      rw [sat_any]
      rintro ⟨yi, yb, yv, ym⟩ hy
      have hm := s.may8 h (Wl_no fr i) rfl
      simp only at hm
      rcases hy G hpre with ⟨a1, _⟩ | ⟨_, a3, X', a4, a5, a6⟩
      · exact absurd hm a1
      simp only at a3 a6
      subst a3
      obtain ⟨b1, b2⟩ := a6.beside hw ho
      have hW' : X'.hs = Wl fr (i + 1) := by
        rw [a5, s.pW, Wl_succ]
        cases fr <;> rfl
      have s' := s.come_p hpq (k := ((i : Int), 1)) a4
      rw [hW'] at s'
      rw [sat_req]
      exact ⟨by simp, rfl, rfl, _, a6.g, a6.is', s', b1, b2⟩
  rintro ⟨vi, vb, vv, vm⟩ j2 _ ⟨hb, G', e1, h', s', hw', ho'⟩
  simp only at hb h' hw'
  subst hb
  simp only [hdB]
  rw [sat_brF]
  have hpre : gpushPre G' vm ((G.g : Int) + 1) qm qs qa i 1 16 := ⟨by rw [e1], h', hq, hk, h16⟩
  rw [sat_req]
  refine ⟨⟨G', hpre⟩, ?_⟩
  rw [sat_any]
  rintro ⟨yi, yb, yv, ym⟩ hy
  have hm := s'.may16 h' (Hl_no i)
  rcases hy G' hpre with ⟨a1, _⟩ | ⟨_, a3, X', a4, a5, a6⟩
  · exact absurd hm a1
  simp only at a3 a6
  subst a3
  obtain ⟨b1, b2⟩ := a6.beside hw' ho'
  have hH' : X'.hs = Hl (i + 1) := by rw [a5, s'.qH, Hl_succ]; rfl
  have s2 := s'.come_q hpq (k := ((i : Int), 1)) a4
  rw [hH'] at s2
  simp only [hdI]
  rw [brF (by rfl)]
  have is2 := a6.is'
  have fin : ∀ (y6 : Vars), SlH y6.m (hdV y6.v) (Wl fr (i + 1)) → (∀ a, (G'.come (qm, qs, qa) ((i : Int), 1) 16 X').dom a → y6.m a = ym a) → (∀ a : Nat, slB (hdV y6.v) = (a : Int) + 1 → ¬ (G'.come (qm, qs, qa) ((i : Int), 1) 16 X').dom a) →
      R (.again ⟨[iAdd .i64 (i : Int) 1], [], [pl (hdV y6.v)], y6.m⟩) := by
    intro y6 f1 f2 f3
    rw [hin]
    refine hR _ rfl rfl ⟨_, rfl, G'.come (qm, qs, qa) ((i : Int), 1) 16 X', ?_, is2.congr f2, s2, ?_, ?_⟩
    · show (G.g : Int) + 1 = (G'.g : Int) + 1
      rw [e1]
    · rw [f1.pl]; exact f1
    · rw [f1.pl]; exact f3
  have epl : pl w = w := b1.pl
  cases fr with
  | true =>
    rw [sat_brT, sat_any]
    rintro ⟨zi, zb, zv, zm⟩ ⟨a, z1, z2, z3⟩
    simp only at z1 z3
    subst z1 z3
    have hone := SlH.one (m := ym) (s := (i : Int)) (g := 1) (a := a)
    have hpI : pI [(a : Int) + 1] = (a : Int) + 1 := rfl
    simp only [hpI, epl, hone.pl]
    have keepD : ∀ b, (G'.come (qm, qs, qa) ((i : Int), 1) 16 X').dom b → alM ym ((a : Int) + 1) (.mk [.int .i64 (i : Int), .int .u64 1]) 29 b = ym b := fun b hb => by
      rw [alM_alO]; exact alO_ne _ (by rintro rfl; exact is2.there hb z2)
    have hw2 : SlH (alM ym ((a : Int) + 1) (.mk [.int .i64 (i : Int), .int .u64 1]) 29) w (Wl true i) := b1.more fun b hb hn => by
      rw [alM_alO]; exact alO_ne _ (by rintro rfl; exact hn z2)
    have hrow : rowL (alM ym ((a : Int) + 1) (.mk [.int .i64 (i : Int), .int .u64 1]) 29) w 2 = hCells (Wl true i) := hw2.row
    have hn : slN w = (Wl true i).length := hw2.n
    rw [brT hw2.ok, hn, hrow, brT (app_ok (xs := Wl true i) hone (by rw [Wl_len]; simp; omega)), sat_any]
    intro y6 hy6
    obtain ⟨f1, f2, f3⟩ := hone.appD (D := (G'.come (qm, qs, qa) ((i : Int), 1) 16 X').dom) (fun b hb => by rw [keepD b hb]; exact is2.there hb) (fun b hb hd => by
      rw [slB_one] at hb
      have : a = b := by omega
      subst this; exact is2.there hd z2) hy6
    rw [sat_req]
    refine ⟨by simp, ?_⟩
    refine fin y6 ?_ (fun b hb => (f2 b hb).trans (keepD b hb)) f3
    rw [Wl_succ]; exact f1
  | false =>
    rw [sat_brF, sat_any]
    rintro ⟨zi, zb, zv, zm⟩ ⟨a, z1, z2, z3⟩
    simp only at z1 z3
    subst z1 z3
    have hone := SlH.one (m := ym) (s := (i : Int)) (g := 1) (a := a)
    have hpI : pI [(a : Int) + 1] = (a : Int) + 1 := rfl
    simp only [hpI, epl, hone.pl]
    have keepD : ∀ b, (G'.come (qm, qs, qa) ((i : Int), 1) 16 X').dom b → alM ym ((a : Int) + 1) (.mk [.int .i64 (i : Int), .int .u64 1]) 29 b = ym b := fun b hb => by
      rw [alM_alO]; exact alO_ne _ (by rintro rfl; exact is2.there hb z2)
    have hw2 : SlH (alM ym ((a : Int) + 1) (.mk [.int .i64 (i : Int), .int .u64 1]) 29) w (Wl false i) := b1.more fun b hb hn => by
      rw [alM_alO]; exact alO_ne _ (by rintro rfl; exact hn z2)
    have hrow := hone.row
    have hn := hone.n
    rw [brT hone.ok, hn, hrow, brT (app_ok (xs := [((i : Int), (1 : Int))]) hw2 (by rw [Wl_len]; simp; omega)), sat_any]
    intro y6 hy6
    obtain ⟨f1, f2, f3⟩ := hw2.appD (xs := [((i : Int), (1 : Int))]) (D := (G'.come (qm, qs, qa) ((i : Int), 1) 16 X').dom) (fun b hb => by rw [keepD b hb]; exact is2.there hb) b2 hy6
    rw [sat_req]
    refine ⟨by simp, ?_⟩
    refine fin y6 ?_ (fun b hb => (f2 b hb).trans (keepD b hb)) f3
    rw [Wl_succ]; exact f1
end Go.Proofs.Ytnlohongffpkpaa.T16
end

section
/- Layer 16: TreeLow's contract. A text of the session's own. -/
namespace Go.Proofs.Ytnlohongffpkpaa.T16
open Go Go.RowKit Go.Proofs.Ytnlohongffpkpaa.Sx Go.Proofs Go.WideShapes Go.ChangeShapes
set_option linter.unusedVariables false
set_option linter.unusedSimpArgs false

def both (m1 m2 : Mem) : Mem := fun a => match m1 a with | some o => some o | none => m2 a
end Go.Proofs.Ytnlohongffpkpaa.T16
end

section
/- Layer 17: GraphDrains' walk: the second loop; all. A text of the session's own. -/
namespace Go.Proofs.Ytnlohongffpkpaa.T16
open Go Go.RowKit Go.Proofs.Ytnlohongffpkpaa.Sx Go.Proofs Go.WideShapes Go.ChangeShapes
set_option linter.unusedVariables false
set_option linter.unusedSimpArgs false

theorem GG.to.besideB {G G' : GG} {m m' : Mem} (h : G.to G' m m') {v : Value} {hs : List Hn} (hv : RowB m v hs) (ho : ∀ a : Nat, slB v = (a : Int) + 1 → ¬ G.dom a) : RowB m' v hs ∧ ∀ a : Nat, slB v = (a : Int) + 1 → ¬ G'.dom a := by
  refine ⟨hv.more fun a ha hn => h.keep a hn (ho a ha), fun a ha hd => ?_⟩
  rcases h.dom a hd with h1 | h1
  · exact ho a ha h1
  · exact hv.there ha h1
theorem SlH.there {m : Mem} {v : Value} {hs : List Hn} (h : SlH m v hs) {a : Nat} (ha : slB v = (a : Int) + 1) : m a ≠ none := by
  rcases h.inv with ⟨rfl, _⟩ | ⟨b, o, c, cs, ty, rfl, _, h2, _⟩
  · simp only [slB] at ha; omega
  · simp only [slB] at ha
    have : b = a := by omega
    subst this
    rw [h2]; simp
theorem dr2_walk {m3 : Mem} {t c : Int} {n : Nat} {tr fr : Bool} {pm ps pa qm qs qa : Int} {l w : Value} {G : GG} (ht : t = (G.g : Int) + 1) (h : G.is m3) (s : DrS G (pm, ps, pa) (qm, qs, qa) false [] (Hl n)) (hl : RowB m3 l (Wl fr n)) (hlo : ∀ a : Nat, slB l = (a : Int) + 1 → ¬ G.dom a)
    (hw : SlH m3 w (Wl fr n)) (hwo : ∀ a : Nat, slB w = (a : Int) + 1 → ¬ G.dom a) (hn : n < 60) (hpq : (pm, ps, pa) ≠ (qm, qs, qa)) (hp : okP' (pm, ps, pa)) (hq : okP' (qm, qs, qa)) {R : Leaf → Prop} (hR : ∀ m, R (.up (.memo tru m))) : (T_dr2 m3 t c n tr fr pm ps pa qm qs qa l w).sat R := by
  unfold T_dr2
  obtain ⟨e1, e2, e3⟩ := hl.sl
  have e4 := hw.pl
  simp only [e1, e4]
  have h8 : inI 8 := by unfold inI; omega
  let J : Nat → Vars → Prop := fun N y => ∃ (i : Nat) (Gi : GG), i + N = n ∧ y.i = [(i : Int)] ∧ t = (Gi.g : Int) + 1 ∧ Gi.is y.m ∧ DrS Gi (pm, ps, pa) (qm, qs, qa) false ((Wl fr n).take i) (Hl n) ∧
    RowB y.m l (Wl fr n) ∧ (∀ a : Nat, slB l = (a : Int) + 1 → ¬ Gi.dom a) ∧ SlH y.m w (Wl fr n) ∧ (∀ a : Nat, slB w = (a : Int) + 1 → ¬ Gi.dom a)
  refine lp_idx J (n0 := n) ⟨0, G, by omega, rfl, ht, h, s, hl, hlo, hw, hwo⟩ ?_
  rintro N ⟨yi, yb, yv, ym⟩ _ ⟨i, Gi, hi, rfl, hg, his, hs, hli, hlio, hwi, hwio⟩
  simp only at hi his hli hwi
  simp only [hdI]
  by_cases hlt : i < n
  rotate_left
  · have hin : i = n := by omega
    rw [brF (by simp [iLt]; omega), sat_req]
    obtain ⟨g1, g2⟩ := glen_spec his hp
    have hlen : ((Wl fr n).take i).length = n := by rw [List.length_take, Wl_len]; omega
    rw [hg, g2, hs.pW, hlen]
    refine ⟨g1, ?_⟩
    rw [brT (by simp [iEq])]
    exact hR ym
  have hin : iAdd .i64 (i : Int) 1 = ((i + 1 : Nat) : Int) := by rw [iadd_i (by omega)]; omega
  have hpre : gatPre Gi ym t qm qs qa := ⟨⟨hg, his, hq⟩, by rw [hs.qH, Hl_len]; omega⟩
  rw [brT (by simp [iLt]; omega), sat_req]
  refine ⟨⟨Gi, hpre⟩, ?_⟩
  rw [sat_any]
  rintro ⟨zi, zb, zv, zm⟩ hz
  rcases hz Gi hpre with ⟨j, k, z1, z2, z3, z4, z5⟩ | ⟨z1, _⟩
  rotate_left
  · exfalso; rw [hs.qH, Hl_len] at z1; omega
  simp only at z3 z4 z5
  have : j = i := by omega
  subst this
  rw [hs.qH, Hl_get hlt] at z2
  cases z2
  subst z3 z4
  have his5 := his.congr fun a ha => z5 a (his.there ha)
  have hl5 : RowB zm l (Wl fr n) := hli.more fun a ha hn => z5 a hn
  have hw5 : SlH zm w (Wl fr n) := hwi.more fun a ha hn => z5 a hn
  obtain ⟨x, hx⟩ : ∃ x, (Wl fr n)[j]? = some x := ⟨_, List.getElem?_eq_getElem (by rw [Wl_len]; exact hlt)⟩
  obtain ⟨x1, x2⟩ := x
  obtain ⟨a1, a2, a3, a4⟩ := hl5.get hx
  obtain ⟨b1, b2, b3, b4⟩ := hw5.get hx
  simp only [a3, a4, b3, b4, conv_n (show j < 128 by omega), hdI, tlI, hdB]
  rw [brT a1, sat_req]
  refine ⟨by simp [memL], ?_⟩
  rw [brT a2, brT b1, sat_req]
  refine ⟨by simp [memL], ?_⟩
  rw [brT b2, brF (by simp [bNot, bAnd, iEq]), brF (by rfl), sat_req]
  refine ⟨⟨by simp, by simp, fun _ _ => rfl⟩, ?_⟩
  rw [brF (by simp [bNot, bAnd, iEq]), brT a1, brT a2]
  have hxm : (x1, x2) ∈ Wl fr n := List.mem_of_getElem? hx
  have hxok := Wl_ok (by omega) hxm
  have hno : (x1, x2) ∉ (Wl fr n).take j := by
    intro hmem
    have hnd := Wl_nodup fr n
    obtain ⟨b, hb⟩ := List.getElem?_of_mem hmem
    have hbj : b < j := by have := (List.getElem?_eq_some_iff.1 hb).1; rw [List.length_take] at this; omega
    rw [List.getElem?_take_of_lt hbj] at hb
    have := (List.getElem?_inj (List.getElem?_eq_some_iff.1 hb).1 hnd).1 (hb.trans hx.symm)
    omega
  have hpre2 : gpushPre Gi zm t pm ps pa x1 x2 8 := ⟨hg, his5, hp, hxok, h8⟩
  rw [sat_req]
  refine ⟨⟨Gi, hpre2⟩, ?_⟩
  rw [sat_any]
  rintro ⟨ui, ub, uv, um⟩ hu
  have hm := hs.may8 his5 hno rfl
  simp only at hm
  rcases hu Gi hpre2 with ⟨c1, _⟩ | ⟨_, c3, X', c4, c5, c6⟩
  · exact absurd hm c1
  simp only at c3 c6
  subst c3
  obtain ⟨d1, d2⟩ := c6.besideB hl5 hlio
  obtain ⟨f1, f2⟩ := c6.beside hw5 hwio
  simp only [hdI]
  rw [sat_req]
  refine ⟨⟨by simp, by simp, fun a ha => ?_⟩, ?_⟩
  · simp only [List.mem_cons, List.not_mem_nil, or_false] at ha
    rcases ha with ha | ha
    · exact c6.keep a (hl5.there ha.symm) (hlio a ha.symm)
    · exact c6.keep a (hw5.there ha.symm) (hwio a ha.symm)
  rw [brF (by rfl), sat_req]
  refine ⟨by simp, ?_⟩
  have hW' : X'.hs = (Wl fr n).take (j + 1) := by
    rw [c5, hs.pW, List.take_add_one, hx]; rfl
  have s' := hs.come_p hpq (k := (x1, x2)) c4
  rw [hW'] at s'
  rw [hin]
  exact ⟨N - 1, by omega, j + 1, _, by omega, rfl, by rw [hg, show (Gi.come (pm, ps, pa) (x1, x2) 8 X').g = Gi.g from rfl], c6.is', s', d1, d2, f1, f2⟩
theorem drB_walk {m1 : Mem} {t c : Int} {n : Nat} {tr fr : Bool} {pm ps pa qm qs qa : Int} {w : Value} (hJ : DrJ t (pm, ps, pa) (qm, qs, qa) tr fr n m1 w) (hn : n < 60) (hpq : (pm, ps, pa) ≠ (qm, qs, qa)) (hp : okP' (pm, ps, pa)) (hq : okP' (qm, qs, qa)) {R : Leaf → Prop}
    (hR : ∀ m, R (.up (.memo tru m))) : (T_drB m1 t c n tr fr pm ps pa qm qs qa w).sat R := by
  obtain ⟨G, rfl, h, s, hw, ho⟩ := hJ
  unfold T_drB
  have hpre : gatPre G m1 ((G.g : Int) + 1) pm ps pa := ⟨⟨rfl, h, hp⟩, by rw [s.pW, Wl_len]; omega⟩
  rw [sat_req]
  refine ⟨⟨G, hpre⟩, ?_⟩
  rw [sat_any]
  rintro ⟨yi, yb, yv, ym⟩ hy
  obtain ⟨G1, t1, r1, n1, i1, b1, o1⟩ := hy G hpre
  simp only at t1 b1 o1
  rw [s.pW] at b1
  obtain ⟨e1, e2, e3⟩ := b1.sl
  have h1 := t1.is'
  have s1 := s.gone hpq r1 n1 false
  obtain ⟨hw1, ho1⟩ := t1.beside hw ho
  obtain ⟨p1, p2⟩ := glen_spec h1 hp
  obtain ⟨q1, q2⟩ := glen_spec h1 hq
  obtain ⟨k1, k2⟩ := gkind_spec h1 hp
  rw [show (G1.g : Int) + 1 = (G.g : Int) + 1 by rw [t1.g]] at p1 p2 q1 q2 k1 k2
  rw [s1.pW] at p2
  rw [s1.qH, Hl_len] at q2
  rw [r1, if_pos rfl] at k2
  simp only [e1, e3, Wl_len, p2, q2, k2]
  rw [brT e2, brF (by simp [iNe]), sat_req]
  refine ⟨p1, ?_⟩
  rw [brF (by rfl), sat_req]
  refine ⟨q1, ?_⟩
  rw [brF (by simp [iNe]), sat_req]
  refine ⟨k1, ?_⟩
  rw [brF (by rfl)]
  have hpre2 : gatPre G1 ym ((G.g : Int) + 1) pm ps pa := ⟨⟨by rw [t1.g], h1, hp⟩, by rw [s1.pW]; simp⟩
  rw [sat_req]
  refine ⟨⟨G1, hpre2⟩, ?_⟩
  rw [sat_any]
  rintro ⟨zi, zb, zv, zm⟩ hz
  obtain ⟨G2, t2, r2, n2, i2, b2, o2⟩ := hz G1 hpre2
  simp only at t2 b2 o2
  rw [s1.pW] at b2
  obtain ⟨f1, f2, f3⟩ := b2.sl
  have s2 := s1.gone hpq r2 n2 false
  obtain ⟨hw2, ho2⟩ := t2.beside hw1 ho1
  obtain ⟨hl2, hlo2⟩ := t2.besideB b1 (fun a ha => (o1 a ha).2)
  simp only [f1, f3]
  rw [brT f2, brF (by rfl)]
  exact dr2_walk (by rw [t2.g, t1.g]) t2.is' s2 hl2 hlo2 hw2 ho2 hn hpq hp hq hR
theorem rem60 {c : Int} (h : u8 c) : iConv .i64 (iRem c 60) = ((c.toNat % 60 : Nat) : Int) := by
  unfold u8 at h
  have e : iRem c 60 = ((c.toNat % 60 : Nat) : Int) := by
    unfold iRem
    obtain ⟨k, rfl⟩ := Int.eq_ofNat_of_zero_le h.1
    rw [Int.tmod_eq_emod_of_nonneg (by omega)]
    simp
  rw [e, conv_i]; omega
theorem drains_walk {m : Mem} {c : Int} {tr fr : Bool} {pm ps pa qm qs qa : Int} (hc : u8 c) (hp : okP' (pm, ps, pa)) (hq : okP' (qm, qs, qa)) : (T_drains m c tr fr pm ps pa qm qs qa).sat (isMemo fun v x => v = tru) := by
  unfold T_drains
  by_cases hpq : (pm, ps, pa) = (qm, qs, qa)
  · simp only [Prod.mk.injEq] at hpq
    obtain ⟨rfl, rfl, rfl⟩ := hpq
    rw [brT (by simp [bAnd, iEq])]
    exact rfl
  rw [brF (by
    simp only [bAnd, iEq, Bool.and_eq_false_iff, beq_eq_false_iff_ne]
    by_cases e1 : pm = qm
    · by_cases e2 : ps = qs
      · by_cases e3 : pa = qa
        · subst e1 e2 e3; exact absurd rfl hpq
        · exact .inr (.inr e3)
      · exact .inr (.inl e2)
    · exact .inl e1), sat_req]
  refine ⟨⟨(), trivial⟩, ?_⟩
  rw [sat_any]
  rintro ⟨yi, yb, yv, ym⟩ hy
  obtain ⟨G, g1, g2, g3, g4, g5, g6, g7⟩ := hy () trivial
  simp only at g1 g2
  subst g1
  rw [rem60 hc]
  have hlt : c.toNat % 60 < 60 := Nat.mod_lt _ (by omega)
  generalize c.toNat % 60 = n at hlt
  simp only [hdI]
  let J : Nat → Vars → Prop := fun N y => ∃ (i : Nat) (w : Value), i + N = n ∧ y.i = [(i : Int)] ∧ y.v = [w] ∧ DrJ ((G.g : Int) + 1) (pm, ps, pa) (qm, qs, qa) tr fr i y.m w
  have s0 : DrS G (pm, ps, pa) (qm, qs, qa) tr (Wl fr 0) (Hl 0) := by
    refine ⟨by rw [g3]; cases fr <;> rfl, (fun X hX => by rw [g3] at hX; cases hX), by rw [g3]; rfl, (fun X hX => by rw [g3] at hX; cases hX), fun r _ _ => g3 r, (fun k n hk => by rw [g4] at hk; cases hk), (fun k n hk => by rw [g4] at hk; cases hk)⟩
  have w0 : Wl fr 0 = [] := by cases fr <;> rfl
  refine lp_idx J (n0 := n) ⟨0, .slice none 0 0, by omega, rfl, rfl, G, rfl, g2, s0, by rw [w0]; exact SlH.nil0 _, fun a ha => by simp only [slB] at ha; omega⟩ ?_
  rintro N ⟨zi, zb, zv, zm⟩ _ ⟨i, w, hi, e1, e2, hJ⟩
  simp only at e1 e2 hi hJ
  subst e1 e2
  simp only [hdI, hdV]
  by_cases hin : i < n
  · rw [brT (by simp [iLt]; omega)]
    refine drA_walk hJ (by omega) hpq hp hq ?_
    rintro ⟨ui, ub, uv, um⟩ k1 k2 ⟨w', k3, k4⟩
    exact ⟨N - 1, by omega, i + 1, w', by omega, k1, k3, k4⟩
  · rw [brF (by simp [iLt]; omega)]
    have : i = n := by omega
    subst this
    exact drB_walk hJ hlt hpq hp hq fun m => rfl
theorem t_drains (m : Mem) (c : Int) (tr : Bool) (fr : Bool) (pm ps pa : Int) (qm qs qa : Int) : runm Try.prog [s_gnew, s_gpush, s_ginsert, s_gpop, s_gremove, s_glen, s_gkind, s_gin, s_gat, s_gdrain, s_gone1, s_gworks] (draww Try.prog [s_gnew, s_gpush, s_ginsert, s_gpop, s_gremove, s_glen, s_gkind, s_gin, s_gat, s_gdrain, s_gone1, s_gworks] (fun _ k => match Nat.beq k 7 with | true => some ⟨[13, 14], [], [0, 1, 2, 8, 9, 11, 12], [0, 1]⟩ | false => match Nat.beq k 24 with | true => some ⟨[18], [], [0, 8, 9, 11, 12, 13, 17], [0, 1]⟩ | false => none) (fun _ k _ => match Nat.beq k 13 with | true => some ⟨0, [.t 16 false], [[.si .i64 0]], [0, 1, 2, 8, 9, 11, 12, 13, 14, 15], [0, 1, 2]⟩ | false => match Nat.beq k 1014 with | true => some ⟨0, [.t 61 false], [[.sb false]], [0, 1, 2, 8, 9, 11, 12, 13, 14, 15, 16], [0, 1, 2]⟩ | false => none) (fun σ => (match Go.Proofs.Ytnlohongffpkpaa.Sx.look σ.tm 17 with | .u (.c (.sv v)) => [slB (pl v)] | _ => []) ++ (match Go.Proofs.Ytnlohongffpkpaa.Sx.look σ.tm 13 with | .u (.c (.sv v)) => [slB (pl v)] | _ => []))) 300 9 [.u (.c (.si .u8 c)), .u (.c (.sb tr)), .u (.c (.sb fr)), .u (.agg [.si .i64 pm, .si .i64 ps, .si .i64 pa]), .u (.agg [.si .i64 qm, .si .i64 qs, .si .i64 qa])] m [98, 92, 95, 142, 140, 137, 111, 107, 108, 109, 142, 140, 137, 98, 92, 95, 35] = T_drains m c tr fr pm ps pa qm qs qa := by kernel_rfl
theorem drains_calls {W : World} {c pm ps pa qm qs qa : Int} {tr fr : Bool} (hc : (Lit.int .u8 c).wf = true) (h1 : (Lit.int .i64 pm).wf = true) (h2 : (Lit.int .i64 ps).wf = true) (h3 : (Lit.int .i64 pa).wf = true) (h4 : (Lit.int .i64 qm).wf = true) (h5 : (Lit.int .i64 qs).wf = true) (h6 : (Lit.int .i64 qa).wf = true) :
    Calls Try.prog 9 #[.int .u8 c, .bool tr, .bool fr, .agg #[.int .i64 pm, .int .i64 ps, .int .i64 pa], .agg #[.int .i64 qm, .int .i64 qs, .int .i64 qa]] W fun e W' => e = .returned (.bool true) ∧ Below W.heap.size W W' := by
  have rng : ∀ {x : Int}, (Lit.int .i64 x).wf = true → inI x := fun h => by
    have e1 : IntKind.min .i64 = -9223372036854775808 := rfl
    have e2 : IntKind.max .i64 = 9223372036854775807 := rfl
    simp only [Lit.wf, e1, e2, Bool.and_eq_true, decide_eq_true_eq] at h
    unfold inI; omega
  have hS : ∀ q ∈ [s_gnew, s_gpush, s_ginsert, s_gpop, s_gremove, s_glen, s_gkind, s_gin, s_gat, s_gdrain, s_gone1, s_gworks], SumOK Try.prog q := okc s_gnew_ok (okc s_gpush_ok (okc s_ginsert_ok (okc s_gpop_ok (okc s_gremove_ok (okc s_glen_ok (okc s_gkind_ok (okc s_gin_ok (okc s_gat_ok (okc s_gdrain_ok (okc s_gone1_ok (okc s_gworks_ok okn)))))))))))
  have hm : ∀ a o, noM a = some o → W.heap[a]? = some o := fun _ _ h => by cases h
  have := memo_sound nameOK hS (draww_sound nameOK hS (by kernel_rfl) _ _ _) 300 _ noM _ (t_drains noM c tr fr pm ps pa qm qs qa) (drains_walk (wf_u8 hc) ⟨rng h1, rng h2, rng h3⟩ ⟨rng h4, rng h5, rng h6⟩) (fun _ => 0) W hm
  refine this.mono ?_
  rintro e w' ⟨v', x, rfl, rfl, g⟩
  exact ⟨rfl, below_of hm g fun a ha => absurd rfl ha⟩
end Go.Proofs.Ytnlohongffpkpaa.T16
end
