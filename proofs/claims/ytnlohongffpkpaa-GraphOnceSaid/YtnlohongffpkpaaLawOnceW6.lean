import Derived.Test.YtnlohongffpkpaaLawOnceW5
import Derived.Deep.Slices
import Derived.Maps.RangeRun
import Derived.Sort.MapsRangeIn
import Derived.Shelf.SlSortCmp.NoneTotal
import Derived.StillTailTactics
import Derived.LoopN
set_option linter.unusedVariables false
set_option linter.unusedSimpArgs false
section
/- Layer 17: a graph's calls: New, Push, Insert, Pop, Peek, Remove. A text of the session's own. -/
namespace Go.Proofs.Ytnlohongffpkpaa.T16
open Go Go.RowKit Go.Proofs.Ytnlohongffpkpaa.Sx Go.Proofs
set_option linter.unusedVariables false
set_option linter.unusedSimpArgs false

def listB (r : Option Str) : Bool := match r with | none => false | some X => !X.tree
def treeB (r : Option Str) : Bool := match r with | none => false | some X => X.tree
theorem lP_b (r : Option Str) : peq (lP r) 0 = !listB r := by
  cases r with
  | none => rfl
  | some X => simp only [lP, listB]; cases X.tree <;> simp only [pz_p] <;> rfl
theorem tP_b (r : Option Str) : peq (tP r) 0 = !treeB r := by
  cases r with
  | none => rfl
  | some X => simp only [tP, treeB]; cases X.tree <;> simp only [pz_p] <;> rfl
theorem mayE_zero {G : GG} {p : Pl} {k : Hn} {n : Int} {f : Bool} (h : mayE G p k n f = 0) : G.I k n = none ∧ G.N p k = none ∧ ((G.R p).isSome = true → f = true) := by
  unfold mayE at h
  cases hI : G.I k n with
  | some q => rw [hI] at h; cases h
  | none =>
    rw [hI] at h
    simp only [Option.isSome_none] at h
    cases hN : G.N p k with
    | some q => rw [hN] at h; simp at h
    | none =>
      refine ⟨rfl, rfl, fun hR => ?_⟩
      rw [hN, hR] at h
      cases f with
      | true => rfl
      | false => simp at h
/-- the graph behind a node's coming -/
def GG.come (G : GG) (p : Pl) (k : Hn) (n : Int) (X' : Str) : GG := ⟨G.g, G.mr, G.mi, G.mb, upd1 G.R p (some X'), updN G.N p k (some n), updI G.I k n (some p)⟩
/-- .. a node's going -/
def GG.go (G : GG) (p : Pl) (k : Hn) (n : Int) (X' : Str) : GG := ⟨G.g, G.mr, G.mi, G.mb, upd1 G.R p (goneR X'), updN G.N p k none, updI G.I k n none⟩
theorem lifv {X' : Str} (h : X'.tree = false) {p : Int} (hp : p = (X'.t : Int) + 1) : pl (mkIf 112 p) = X'.ifv := by
  subst hp; simp only [Str.ifv, h, mkIf_eq]; rfl
theorem tifv {X' : Str} (h : X'.tree = true) {p : Int} (hp : p = (X'.t : Int) + 1) : pl (mkIf 24 p) = X'.ifv := by
  subst hp; simp only [Str.ifv, h, mkIf_eq]; rfl
/-- one of its structures, new -/
theorem GG.is.mid_new {G : GG} {m0 m1 m2 : Mem} {p : Pl} {X0 X' : Str} (h : G.is m0) (hR : G.R p = none) (h1 : ∀ a, X0.D a → m0 a = none) (h2 : ∀ a, m0 a ≠ none → m1 a = m0 a) (ht : X0.to X' m1 m2) : G.mid m0 m2 p X' := by
  refine ⟨h, ht.in', fun a ha _ => ?_, fun a ha => .inr ?_⟩
  · exact (ht.keep a (by rw [h2 a ha]; exact ha) fun hd => ha (h1 a hd)).trans (h2 a ha)
  · rcases ht.dom a ha with hd | hn
    · exact h1 a hd
    · cases e : m0 a with
      | none => rfl
      | some o => have := h2 a (by rw [e]; simp); rw [hn, e] at this; cases this

/-! New -/
def T_gnew (m : Mem)  : Tr := (.any (newMQ m) (fun y0 => (.any (newMQ y0.4) (fun y1 => (.any (newMQ y1.4) (fun y2 => (.any (newQ y2.4 (.mk [(pl (hdV y0.3)), (pl (hdV y1.3)), (pl (hdV y2.3))]) 111) (fun y3 => (.leaf (.memo (.u (.c (.np (pI y3.1) 0))) y3.4))))))))))
def gnewP (m : Mem) : Prop := ∃ G : Unit, True
def gnewPost (m : Mem) (y : Vars) : Prop := ∃ G : GG, y.i = [(G.g : Int) + 1] ∧ G.is y.m ∧ (∀ p, G.R p = none) ∧ (∀ p h, G.N p h = none) ∧ (∀ h n, G.I h n = none) ∧ (∀ a, G.dom a → m a = none) ∧ ∀ a, m a ≠ none → y.m a = m a
def gnewQ (m : Mem) (y : Vars) : Prop := ∀ G : Unit, True → gnewPost m y
def s_gnew : Sum := memSum 29 fun m a => match a with | [] => some ⟨gnewP m, gnewQ m, fun y => .u (.c (.np (hdI y.i) 0))⟩ | _ => none
theorem isMap_new {kt : TypeId} {m : Mem} {q : Nat} (h : m q = some (.map #[] 0)) : isMap kt m q ∧ ∀ k, mlook m (.map (some q)) k = none := by
  refine ⟨⟨#[], 0, h, fun e he => by simp at he, List.Pairwise.nil, MapKept.stamped_empty 0⟩, fun k => ?_⟩
  simp [mlook, mpE, h, efind]
theorem gnew_walk {m : Mem} (G : Unit) (hG : True) : (T_gnew m).sat (isMemo fun v x => gnewPost m (yOf v x) ∧ (yOf v x).m = x ∧ ∀ ρ, v.den ρ = V.den ρ (.u (.c (.np (hdI (yOf v x).i) 0)))) := by
  unfold T_gnew
  rw [sat_any]
  rintro ⟨ai, ab, av, am⟩ ⟨mr, a1, a2, a3⟩
  simp only at a2 a3
  subst a2 a3
  rw [sat_any]
  rintro ⟨bi, bb, bv, bm⟩ ⟨mi, b1, b2, b3⟩
  simp only at b1 b2 b3
  subst b2 b3
  rw [sat_any]
  rintro ⟨ci, cb, cv, cm⟩ ⟨mb, c1, c2, c3⟩
  simp only at c1 c2 c3
  subst c2 c3
  rw [sat_any]
  rintro ⟨di, db, dv, dm⟩ ⟨g, d1, d2, d3⟩
  simp only at d1 d2 d3
  subst d1
  have e1 : alM (alO (alO (alO m mr (.map #[] 0)) mi (.map #[] 0)) mb (.map #[] 0)) ((g : Int) + 1) (.mk [(pl (hdV [Value.map (some mr)])), (pl (hdV [Value.map (some mi)])), (pl (hdV [Value.map (some mb)]))]) 111 = alO (alO (alO (alO m mr (.map #[] 0)) mi (.map #[] 0)) mb (.map #[] 0)) g (gO mr mi mb) := alM_alO _ g _ 111
  rw [e1] at d3
  subst d3
  have n1 : mi ≠ mr := by rintro rfl; rw [alO_self] at b1; cases b1
  have n2 : mb ≠ mi := by rintro rfl; rw [alO_self] at c1; cases c1
  have n3 : mb ≠ mr := by rintro rfl; rw [alO_ne _ (Ne.symm n1), alO_self] at c1; cases c1
  have n4 : g ≠ mb := by rintro rfl; rw [alO_self] at d2; cases d2
  have n5 : g ≠ mi := by rintro rfl; rw [alO_ne _ (Ne.symm n2), alO_self] at d2; cases d2
  have n6 : g ≠ mr := by rintro rfl; rw [alO_ne _ (Ne.symm n3), alO_ne _ (Ne.symm n1), alO_self] at d2; cases d2
  have f2 : m mi = none := by rw [alO_ne _ n1] at b1; exact b1
  have f3 : m mb = none := by rw [alO_ne _ n2, alO_ne _ n3] at c1; exact c1
  have f4 : m g = none := by rw [alO_ne _ n4, alO_ne _ n5, alO_ne _ n6] at d2; exact d2
  generalize hM : alO (alO (alO (alO m mr (.map #[] 0)) mi (.map #[] 0)) mb (.map #[] 0)) g (gO mr mi mb) = M
  have hg : M g = some (gO mr mi mb) := by rw [← hM, alO_self]
  have hb : M mb = some (.map #[] 0) := by rw [← hM, alO_ne _ (Ne.symm n4), alO_self]
  have hi : M mi = some (.map #[] 0) := by rw [← hM, alO_ne _ (Ne.symm n5), alO_ne _ (Ne.symm n2), alO_self]
  have hr : M mr = some (.map #[] 0) := by rw [← hM, alO_ne _ (Ne.symm n6), alO_ne _ (Ne.symm n3), alO_ne _ (Ne.symm n1), alO_self]
  have ho : ∀ a, m a ≠ none → M a = m a := fun a ha => by
    rw [← hM, alO_ne _ (by rintro rfl; exact ha f4), alO_ne _ (by rintro rfl; exact ha f3), alO_ne _ (by rintro rfl; exact ha f2), alO_ne _ (by rintro rfl; exact ha a1)]
  refine ⟨⟨⟨g, mr, mi, mb, fun _ => none, fun _ _ => none, fun _ _ => none⟩, rfl, ⟨⟨hg, (isMap_new hr).1, (isMap_new hi).1, (isMap_new hb).1, fun p _ => (isMap_new (kt := 59) hr).2 _, fun h n _ _ => (isMap_new (kt := 59) hi).2 _, fun p h _ _ => (isMap_new (kt := 59) hb).2 _, Ne.symm n1, Ne.symm n3, Ne.symm n2⟩, (fun p X h => by cases h), (fun p q X Y h => by cases h), (fun p X h => by cases h), (fun p h => by simp), (fun p h n hn => by cases hn), (fun h n p => by simp)⟩, fun _ => rfl, fun _ _ => rfl, fun _ _ => rfl, fun a ha => ?_, ho⟩, rfl, fun ρ => rfl⟩
  rcases ha with (rfl | rfl | rfl | rfl) | ⟨p, X, hX, _⟩
  · exact f4
  · exact a1
  · exact f2
  · exact f3
  · cases hX
theorem t_gnew (m : Mem)  : runm Try.prog [] (drawx Try.prog []) 300 29 [] m [98, 92, 95, 142, 140, 137, 111, 107, 108, 109] = T_gnew m  := by kernel_rfl
theorem s_gnew_ok : SumOK Try.prog s_gnew := by
  refine memSum_ok ⟨_, Try.func29, by kernel_rfl⟩ fun m args ms h hp hw ρ w hm => ?_
  split at h
  · cases h
    exact mm_ghostY nameOK okn (dOK okn) 300 _ m _ (t_gnew m) yOf hp (pre := fun _ : Unit => True) (post := fun _ y => gnewPost m y) (ret := fun y => .u (.c (.np (hdI y.i) 0))) (fun G hG => gnew_walk G hG) ρ w hm (by simp only [List.map_nil])
  · cases h

/-! Push -/
def T_gpush (m : Mem) (t : Int) (pm ps pa : Int) (hs hg : Int) (n : Int) (o : Bool) : Tr := (.req (madeOK m t) (.req ((([(1, ([(.si .i64 hs), (.si .u64 hg)], 29)), (0, ([(.si .i64 pm), (.si .i64 ps), (.si .i64 pa)], 59))] : List (Nat × Blk)) = [(1, ([(.si .i64 hs), (.si .u64 hg)], 29)), (0, ([(.si .i64 pm), (.si .i64 ps), (.si .i64 pa)], 59))]) ∧ (([] : List (Nat × MBlk)) = [])) (.br (madeV m t) (.req (listedOK m t pm ps pa) (.req ((([(1, ([(.si .i64 hs), (.si .u64 hg)], 29)), (0, ([(.si .i64 pm), (.si .i64 ps), (.si .i64 pa)], 59))] : List (Nat × Blk)) = [(1, ([(.si .i64 hs), (.si .u64 hg)], 29)), (0, ([(.si .i64 pm), (.si .i64 ps), (.si .i64 pa)], 59))]) ∧ (([] : List (Nat × MBlk)) = [])) (.br (cmpOK m (listedV m t pm ps pa) 0) (.req (mayOK m t pm ps pa hs hg n (bNot (peq (listedV m t pm ps pa) 0))) (.req ((([(1, ([(.si .i64 hs), (.si .u64 hg)], 29)), (0, ([(.si .i64 pm), (.si .i64 ps), (.si .i64 pa)], 59))] : List (Nat × Blk)) = [(1, ([(.si .i64 hs), (.si .u64 hg)], 29)), (0, ([(.si .i64 pm), (.si .i64 ps), (.si .i64 pa)], 59))]) ∧ (([] : List (Nat × MBlk)) = [])) (.br (iNe (mayV m t pm ps pa hs hg n (bNot (peq (listedV m t pm ps pa) 0))) 0) (.leaf (.memo (.u (.c (.si .i64 (mayV m t pm ps pa hs hg n (bNot (peq (listedV m t pm ps pa) 0)))))) m)) (.req (listedOK m t pm ps pa) (.br (cmpOK m (listedV m t pm ps pa) 0) (.br (peq (listedV m t pm ps pa) 0) (.req (lnewP m) (.any (lnewQ m) (fun y0 => (.req (lpushP y0.4 (hdI y0.1) hs hg o) (.any (lpushQ y0.4 (hdI y0.1) hs hg o) (fun y1 => (.req (comesOK y1.4 t pm ps pa hs hg n (pl (mkIf 112 (hdI y0.1)))) (.letm (comesM y1.4 t pm ps pa hs hg n (pl (mkIf 112 (hdI y0.1)))) (fun m1 => (.leaf (.memo (.u (.c (.si .i64 (hdI y1.1)))) m1))))))))))) (.req (lpushP m (listedV m t pm ps pa) hs hg o) (.any (lpushQ m (listedV m t pm ps pa) hs hg o) (fun y0 => (.req (comesOK y0.4 t pm ps pa hs hg n (pl (mkIf 112 (listedV m t pm ps pa)))) (.letm (comesM y0.4 t pm ps pa hs hg n (pl (mkIf 112 (listedV m t pm ps pa)))) (fun m1 => (.leaf (.memo (.u (.c (.si .i64 (hdI y0.1)))) m1))))))))) (.no 78)))))) (.no 78)))) (.req ((([(1, ([(.si .i64 hs), (.si .u64 hg)], 29)), (0, ([(.si .i64 pm), (.si .i64 ps), (.si .i64 pa)], 59))] : List (Nat × Blk)) = [(1, ([(.si .i64 hs), (.si .u64 hg)], 29)), (0, ([(.si .i64 pm), (.si .i64 ps), (.si .i64 pa)], 59))]) ∧ (([] : List (Nat × MBlk)) = [])) (.req (mayOK m t pm ps pa hs hg n false) (.req ((([(1, ([(.si .i64 hs), (.si .u64 hg)], 29)), (0, ([(.si .i64 pm), (.si .i64 ps), (.si .i64 pa)], 59))] : List (Nat × Blk)) = [(1, ([(.si .i64 hs), (.si .u64 hg)], 29)), (0, ([(.si .i64 pm), (.si .i64 ps), (.si .i64 pa)], 59))]) ∧ (([] : List (Nat × MBlk)) = [])) (.br (iNe (mayV m t pm ps pa hs hg n false) 0) (.leaf (.memo (.u (.c (.si .i64 (mayV m t pm ps pa hs hg n false)))) m)) (.req (listedOK m t pm ps pa) (.br (cmpOK m (listedV m t pm ps pa) 0) (.br (peq (listedV m t pm ps pa) 0) (.req (lnewP m) (.any (lnewQ m) (fun y0 => (.req (lpushP y0.4 (hdI y0.1) hs hg o) (.any (lpushQ y0.4 (hdI y0.1) hs hg o) (fun y1 => (.req (comesOK y1.4 t pm ps pa hs hg n (pl (mkIf 112 (hdI y0.1)))) (.letm (comesM y1.4 t pm ps pa hs hg n (pl (mkIf 112 (hdI y0.1)))) (fun m1 => (.leaf (.memo (.u (.c (.si .i64 (hdI y1.1)))) m1))))))))))) (.req (lpushP m (listedV m t pm ps pa) hs hg o) (.any (lpushQ m (listedV m t pm ps pa) hs hg o) (fun y0 => (.req (comesOK y0.4 t pm ps pa hs hg n (pl (mkIf 112 (listedV m t pm ps pa)))) (.letm (comesM y0.4 t pm ps pa hs hg n (pl (mkIf 112 (listedV m t pm ps pa)))) (fun m1 => (.leaf (.memo (.u (.c (.si .i64 (hdI y0.1)))) m1))))))))) (.no 78))))))))))
def gpushPre (G : GG) (m : Mem) (t pm ps pa hs hg n : Int) : Prop := t = (G.g : Int) + 1 ∧ G.is m ∧ okP' (pm, ps, pa) ∧ okH (hs, hg) ∧ inI n
def gpushPost (m : Mem) (G : GG) (p : Pl) (k : Hn) (n : Int) (o : Bool) (y : Vars) : Prop :=
  (mayE G p k n (listB (G.R p)) ≠ 0 ∧ y.i = [mayE G p k n (listB (G.R p))] ∧ y.m = m) ∨
  (mayE G p k n (listB (G.R p)) = 0 ∧ y.i = [0] ∧ ∃ X', X'.tree = false ∧ X'.hs = putE o k (hsO (G.R p)) ∧ G.to (G.come p k n X') m y.m)
def gpushP (m : Mem) (t pm ps pa hs hg n : Int) (o : Bool) : Prop := ∃ G, gpushPre G m t pm ps pa hs hg n
def gpushQ (m : Mem) (t pm ps pa hs hg n : Int) (o : Bool) (y : Vars) : Prop := ∀ G, gpushPre G m t pm ps pa hs hg n → gpushPost m G (pm, ps, pa) (hs, hg) n o y
def s_gpush : Sum := memSum 31 fun m a => match a with | [a0, a1, a2, a3, a4] => (match ptrOf a0, plaOf a1, hanOf a2, intOf a3, booOf a4 with | some t, some (pm, ps, pa), some (hs, hg), some n, some o => some ⟨gpushP m t pm ps pa hs hg n o, gpushQ m t pm ps pa hs hg n o, fun y => .u (.c (.si .i64 (hdI y.i)))⟩ | _, _, _, _, _ => none) | _ => none
theorem mem_putE {α : Type} {o : Bool} {k j : α} {l : List α} : j ∈ putE o k l ↔ j = k ∨ j ∈ l := by
  cases o <;> simp [putE, or_comm]
theorem putE_ne {α : Type} (o : Bool) (k : α) (l : List α) : putE o k l ≠ [] := by cases o <;> simp [putE]
theorem gpush_walk {m : Mem} {t a b c k l n : Int} {o : Bool} (G : GG) (hG : gpushPre G m t a b c k l n) : (T_gpush m t a b c k l n o).sat (isMemo fun v x => gpushPost m G (a, b, c) (k, l) n o (yOf v x) ∧ (yOf v x).m = x ∧ ∀ ρ, v.den ρ = V.den ρ (.u (.c (.si .i64 (hdI (yOf v x).i))))) := by
  obtain ⟨rfl, h, hp, hk, hn⟩ := hG
  have hg := h.toGM
  obtain ⟨m1, m2⟩ := made_spec hg
  obtain ⟨l1, l2⟩ := listed_spec hg hp
  obtain ⟨y1, y2⟩ := may_spec hg hp hk hn (listB (G.R (a, b, c)))
  have hb : bNot (peq (lP (G.R (a, b, c))) 0) = listB (G.R (a, b, c)) := by rw [lP_b]; simp [bNot]
  unfold T_gpush
  simp only [l2, hb, y2]
  rw [sat_req]
  refine ⟨m1, ?_⟩
  rw [sat_req]
  refine ⟨⟨trivial, trivial⟩, ?_⟩
  rw [brT m2, sat_req]
  refine ⟨l1, ?_⟩
  rw [sat_req]
  refine ⟨⟨trivial, trivial⟩, ?_⟩
  rw [brT (cmp_zero _ _), sat_req]
  refine ⟨y1, ?_⟩
  rw [sat_req]
  refine ⟨⟨trivial, trivial⟩, ?_⟩
  by_cases he : mayE G (a, b, c) (k, l) n (listB (G.R (a, b, c))) = 0
  rotate_left
  · rw [brT (by simpa [iNe] using he)]
    exact ⟨.inl ⟨he, rfl, rfl⟩, rfl, fun ρ => rfl⟩
  rw [brF (by simp [iNe, he]), sat_req]
  refine ⟨l1, ?_⟩
  rw [brT (cmp_zero _ _), lP_b]
  obtain ⟨z1, z2, z3⟩ := mayE_zero he
  cases hX : G.R (a, b, c) with
  | none =>
    rw [brT (by rfl), sat_req]
    refine ⟨trivial, ?_⟩
    rw [sat_any]
    rintro ⟨ui, ub, uv, um⟩ hu
    obtain ⟨X0, u1, u2, u3, u4, u5, u6⟩ := Str.lnew hu
    simp only at u1 u2 u6
    subst u1
    obtain ⟨q1, q2⟩ := Str.push u2 u3 hk o
    simp only [hdI]
    rw [sat_req]
    refine ⟨q1, ?_⟩
    rw [sat_any]
    rintro ⟨wi, wb, wv, wm⟩ hw
    rcases q2 _ hw with ⟨s1, _⟩ | ⟨s1, s2, X', s3, s4⟩
    · rw [u4] at s1; cases s1
    simp only at s2 s3
    subst s2
    have hmid := h.mid_new hX u5 u6 s3
    have hX't : X'.tree = false := s3.tree.trans u3
    rw [lifv hX't (by rw [s3.t])]
    rw [u4] at s4
    obtain ⟨c1, c2⟩ := hmid.comes hp hk hn z1 z2 (by rw [s4]; exact putE_ne _ _ _) (fun j => by rw [s4, mem_putE, hX]; simp)
    rw [sat_req]
    refine ⟨c1, ?_⟩
    exact ⟨.inr ⟨he, rfl, X', hX't, by rw [hX]; exact s4, c2⟩, rfl, fun ρ => rfl⟩
  | some X =>
    have hf := z3 (by rw [hX]; rfl)
    rw [hX] at hf
    have ht : X.tree = false := by simpa [listB] using hf
    have hin := (h.st _ X hX).1
    have hl : lP (some X) = (X.t : Int) + 1 := by simp [lP, ht]
    obtain ⟨q1, q2⟩ := Str.push hin ht hk o
    rw [brF (by rw [hf]; rfl), sat_req, hl]
    refine ⟨q1, ?_⟩
    rw [sat_any]
    rintro ⟨wi, wb, wv, wm⟩ hw
    rcases q2 _ hw with ⟨s1, _⟩ | ⟨s1, s2, X', s3, s4⟩
    · exfalso
      have := (h.nh (a, b, c) (k, l)).2 ⟨X, hX, s1⟩
      rw [z2] at this; cases this
    simp only at s2 s3
    subst s2
    have hmid := h.mid_to hX s3
    have hX't : X'.tree = false := s3.tree.trans ht
    rw [lifv hX't (by rw [s3.t])]
    obtain ⟨c1, c2⟩ := hmid.comes hp hk hn z1 z2 (by rw [s4]; exact putE_ne _ _ _) (fun j => by rw [s4, mem_putE, hX]; simp)
    rw [sat_req]
    refine ⟨c1, ?_⟩
    exact ⟨.inr ⟨he, rfl, X', hX't, by rw [hX]; exact s4, c2⟩, rfl, fun ρ => rfl⟩
theorem t_gpush (m : Mem) (t : Int) (pm ps pa : Int) (hs hg : Int) (n : Int) (o : Bool) : runm Try.prog [s_made, s_listed, s_may, s_lnew, s_lpush, s_comes] (drawh Try.prog [s_made, s_listed, s_may, s_lnew, s_lpush, s_comes] (fun _ _ => none) (fun _ _ _ => none)) 300 31 [.u (.c (.np t 0)), .u (.agg [.si .i64 pm, .si .i64 ps, .si .i64 pa]), .u (.agg [.si .i64 hs, .si .u64 hg]), .u (.c (.si .i64 n)), .u (.c (.sb o))] m [98, 92, 95, 142, 140, 137, 111, 107, 108, 109] = T_gpush m t pm ps pa hs hg n o := by kernel_rfl
theorem s_gpush_ok : SumOK Try.prog s_gpush := by
  refine memSum_ok ⟨_, Try.func31, by kernel_rfl⟩ fun m args ms h hp hw ρ w hm => ?_
  split at h
  · split at h
    · rename_i a0 a1 a2 a3 a4 _ _ _ _ _ t pm ps pa hs hg n o h0 h1 h2 h3 h4
      cases h
      have hS : ∀ q ∈ [s_made, s_listed, s_may, s_lnew, s_lpush, s_comes], SumOK Try.prog q := (okc s_made_ok (okc s_listed_ok (okc s_may_ok (okc s_lnew_ok (okc s_lpush_ok (okc s_comes_ok okn))))))
      exact mm_ghostY nameOK hS (drawh_sound nameOK hS (by kernel_rfl) _ _) 300 _ m _ (t_gpush m t pm ps pa hs hg n o) yOf hp (fun G hG => gpush_walk G hG) ρ w hm (by simp only [List.map_cons, List.map_nil, ptrOf_den h0, plaOf_den h1, hanOf_den h2, intOf_den h3, booOf_den h4])
    · cases h
  · cases h

/-! Insert -/
def T_ginsert (m : Mem) (t : Int) (pm ps pa : Int) (i : Int) (hs hg : Int) (n : Int) : Tr := (.req (madeOK m t) (.req ((([(1, ([(.si .i64 hs), (.si .u64 hg)], 29)), (0, ([(.si .i64 pm), (.si .i64 ps), (.si .i64 pa)], 59))] : List (Nat × Blk)) = [(1, ([(.si .i64 hs), (.si .u64 hg)], 29)), (0, ([(.si .i64 pm), (.si .i64 ps), (.si .i64 pa)], 59))]) ∧ (([] : List (Nat × MBlk)) = [])) (.br (madeV m t) (.req (treedOK m t pm ps pa) (.req ((([(1, ([(.si .i64 hs), (.si .u64 hg)], 29)), (0, ([(.si .i64 pm), (.si .i64 ps), (.si .i64 pa)], 59))] : List (Nat × Blk)) = [(1, ([(.si .i64 hs), (.si .u64 hg)], 29)), (0, ([(.si .i64 pm), (.si .i64 ps), (.si .i64 pa)], 59))]) ∧ (([] : List (Nat × MBlk)) = [])) (.br (cmpOK m (treedV m t pm ps pa) 0) (.req (mayOK m t pm ps pa hs hg n (bNot (peq (treedV m t pm ps pa) 0))) (.req ((([(1, ([(.si .i64 hs), (.si .u64 hg)], 29)), (0, ([(.si .i64 pm), (.si .i64 ps), (.si .i64 pa)], 59))] : List (Nat × Blk)) = [(1, ([(.si .i64 hs), (.si .u64 hg)], 29)), (0, ([(.si .i64 pm), (.si .i64 ps), (.si .i64 pa)], 59))]) ∧ (([] : List (Nat × MBlk)) = [])) (.br (iNe (mayV m t pm ps pa hs hg n (bNot (peq (treedV m t pm ps pa) 0))) 0) (.leaf (.memo (.u (.c (.si .i64 (mayV m t pm ps pa hs hg n (bNot (peq (treedV m t pm ps pa) 0)))))) m)) (.req (treedOK m t pm ps pa) (.br (cmpOK m (treedV m t pm ps pa) 0) (.br (peq (treedV m t pm ps pa) 0) (.req (freshP m) (.any (freshQ m) (fun y0 => (.req (insertP y0.4 (hdI y0.1) i hs hg) (.any (insertQ y0.4 (hdI y0.1) i hs hg) (fun y1 => (.br (iEq (hdI y1.1) 0) (.req (comesOK y1.4 t pm ps pa hs hg n (pl (mkIf 24 (hdI y0.1)))) (.letm (comesM y1.4 t pm ps pa hs hg n (pl (mkIf 24 (hdI y0.1)))) (fun m1 => (.leaf (.memo (.u (.c (.si .i64 (hdI y1.1)))) m1))))) (.leaf (.memo (.u (.c (.si .i64 (hdI y1.1)))) y1.4))))))))) (.req (insertP m (treedV m t pm ps pa) i hs hg) (.any (insertQ m (treedV m t pm ps pa) i hs hg) (fun y0 => (.br (iEq (hdI y0.1) 0) (.req (comesOK y0.4 t pm ps pa hs hg n (pl (mkIf 24 (treedV m t pm ps pa)))) (.letm (comesM y0.4 t pm ps pa hs hg n (pl (mkIf 24 (treedV m t pm ps pa)))) (fun m1 => (.leaf (.memo (.u (.c (.si .i64 (hdI y0.1)))) m1))))) (.leaf (.memo (.u (.c (.si .i64 (hdI y0.1)))) y0.4))))))) (.no 78)))))) (.no 78)))) (.req ((([(1, ([(.si .i64 hs), (.si .u64 hg)], 29)), (0, ([(.si .i64 pm), (.si .i64 ps), (.si .i64 pa)], 59))] : List (Nat × Blk)) = [(1, ([(.si .i64 hs), (.si .u64 hg)], 29)), (0, ([(.si .i64 pm), (.si .i64 ps), (.si .i64 pa)], 59))]) ∧ (([] : List (Nat × MBlk)) = [])) (.req (mayOK m t pm ps pa hs hg n false) (.req ((([(1, ([(.si .i64 hs), (.si .u64 hg)], 29)), (0, ([(.si .i64 pm), (.si .i64 ps), (.si .i64 pa)], 59))] : List (Nat × Blk)) = [(1, ([(.si .i64 hs), (.si .u64 hg)], 29)), (0, ([(.si .i64 pm), (.si .i64 ps), (.si .i64 pa)], 59))]) ∧ (([] : List (Nat × MBlk)) = [])) (.br (iNe (mayV m t pm ps pa hs hg n false) 0) (.leaf (.memo (.u (.c (.si .i64 (mayV m t pm ps pa hs hg n false)))) m)) (.req (treedOK m t pm ps pa) (.br (cmpOK m (treedV m t pm ps pa) 0) (.br (peq (treedV m t pm ps pa) 0) (.req (freshP m) (.any (freshQ m) (fun y0 => (.req (insertP y0.4 (hdI y0.1) i hs hg) (.any (insertQ y0.4 (hdI y0.1) i hs hg) (fun y1 => (.br (iEq (hdI y1.1) 0) (.req (comesOK y1.4 t pm ps pa hs hg n (pl (mkIf 24 (hdI y0.1)))) (.letm (comesM y1.4 t pm ps pa hs hg n (pl (mkIf 24 (hdI y0.1)))) (fun m1 => (.leaf (.memo (.u (.c (.si .i64 (hdI y1.1)))) m1))))) (.leaf (.memo (.u (.c (.si .i64 (hdI y1.1)))) y1.4))))))))) (.req (insertP m (treedV m t pm ps pa) i hs hg) (.any (insertQ m (treedV m t pm ps pa) i hs hg) (fun y0 => (.br (iEq (hdI y0.1) 0) (.req (comesOK y0.4 t pm ps pa hs hg n (pl (mkIf 24 (treedV m t pm ps pa)))) (.letm (comesM y0.4 t pm ps pa hs hg n (pl (mkIf 24 (treedV m t pm ps pa)))) (fun m1 => (.leaf (.memo (.u (.c (.si .i64 (hdI y0.1)))) m1))))) (.leaf (.memo (.u (.c (.si .i64 (hdI y0.1)))) y0.4))))))) (.no 78))))))))))
def ginsertPre (G : GG) (m : Mem) (t pm ps pa hs hg n : Int) : Prop := gpushPre G m t pm ps pa hs hg n ∧ (hsO (G.R (pm, ps, pa))).length + 1 < 1152921504606846976
def ginsertPost (m : Mem) (G : GG) (p : Pl) (i : Int) (k : Hn) (n : Int) (y : Vars) : Prop :=
  (mayE G p k n (treeB (G.R p)) ≠ 0 ∧ y.i = [mayE G p k n (treeB (G.R p))] ∧ y.m = m) ∨
  (mayE G p k n (treeB (G.R p)) = 0 ∧ (i < 0 ∨ ((hsO (G.R p)).length : Int) < i) ∧ y.i = [2] ∧ ∀ a, m a ≠ none → y.m a = m a) ∨
  (mayE G p k n (treeB (G.R p)) = 0 ∧ 0 ≤ i ∧ i ≤ (hsO (G.R p)).length ∧ y.i = [0] ∧ ∃ X', X'.tree = true ∧ X'.hs = (hsO (G.R p)).take i.toNat ++ k :: (hsO (G.R p)).drop i.toNat ∧ G.to (G.come p k n X') m y.m)
def ginsertP (m : Mem) (t pm ps pa i hs hg n : Int) : Prop := ∃ G, ginsertPre G m t pm ps pa hs hg n
def ginsertQ (m : Mem) (t pm ps pa i hs hg n : Int) (y : Vars) : Prop := ∀ G, ginsertPre G m t pm ps pa hs hg n → ginsertPost m G (pm, ps, pa) i (hs, hg) n y
def s_ginsert : Sum := memSum 32 fun m a => match a with | [a0, a1, a2, a3, a4] => (match ptrOf a0, plaOf a1, intOf a2, hanOf a3, intOf a4 with | some t, some (pm, ps, pa), some i, some (hs, hg), some n => some ⟨ginsertP m t pm ps pa i hs hg n, ginsertQ m t pm ps pa i hs hg n, fun y => .u (.c (.si .i64 (hdI y.i)))⟩ | _, _, _, _, _ => none) | _ => none
theorem mem_cutin {k j : Hn} {l : List Hn} (i : Nat) : j ∈ l.take i ++ k :: l.drop i ↔ j = k ∨ j ∈ l := by
  conv => rhs; rw [← List.take_append_drop i l]
  simp only [List.mem_append, List.mem_cons]
  constructor
  · rintro (h | h | h)
    · exact .inr (.inl h)
    · exact .inl h
    · exact .inr (.inr h)
  · rintro (h | h | h)
    · exact .inr (.inl h)
    · exact .inl h
    · exact .inr (.inr h)
theorem ginsert_walk {m : Mem} {t a b c i k l n : Int} (G : GG) (hG : ginsertPre G m t a b c k l n) : (T_ginsert m t a b c i k l n).sat (isMemo fun v x => ginsertPost m G (a, b, c) i (k, l) n (yOf v x) ∧ (yOf v x).m = x ∧ ∀ ρ, v.den ρ = V.den ρ (.u (.c (.si .i64 (hdI (yOf v x).i))))) := by
  obtain ⟨⟨rfl, h, hp, hk, hn⟩, hsz⟩ := hG
  have hg := h.toGM
  obtain ⟨m1, m2⟩ := made_spec hg
  obtain ⟨l1, l2⟩ := treed_spec hg hp
  obtain ⟨y1, y2⟩ := may_spec hg hp hk hn (treeB (G.R (a, b, c)))
  have hb : bNot (peq (tP (G.R (a, b, c))) 0) = treeB (G.R (a, b, c)) := by rw [tP_b]; simp [bNot]
  unfold T_ginsert
  simp only [l2, hb, y2]
  rw [sat_req]
  refine ⟨m1, ?_⟩
  rw [sat_req]
  refine ⟨⟨trivial, trivial⟩, ?_⟩
  rw [brT m2, sat_req]
  refine ⟨l1, ?_⟩
  rw [sat_req]
  refine ⟨⟨trivial, trivial⟩, ?_⟩
  rw [brT (cmp_zero _ _), sat_req]
  refine ⟨y1, ?_⟩
  rw [sat_req]
  refine ⟨⟨trivial, trivial⟩, ?_⟩
  by_cases he : mayE G (a, b, c) (k, l) n (treeB (G.R (a, b, c))) = 0
  rotate_left
  · rw [brT (by simpa [iNe] using he)]
    exact ⟨.inl ⟨he, rfl, rfl⟩, rfl, fun ρ => rfl⟩
  rw [brF (by simp [iNe, he]), sat_req]
  refine ⟨l1, ?_⟩
  rw [brT (cmp_zero _ _), tP_b]
  obtain ⟨z1, z2, z3⟩ := mayE_zero he
  cases hX : G.R (a, b, c) with
  | none =>
    rw [brT (by rfl), sat_req]
    refine ⟨trivial, ?_⟩
    rw [sat_any]
    rintro ⟨ui, ub, uv, um⟩ hu
    obtain ⟨X0, u1, u2, u3, u4, u5, u6⟩ := Str.tnew hu
    simp only at u1 u2 u6
    subst u1
    obtain ⟨q1, q2⟩ := Str.ins u2 u3 (by rw [u4]; decide) hk i
    simp only [hdI]
    rw [sat_req]
    refine ⟨q1, ?_⟩
    rw [sat_any]
    rintro ⟨wi, wb, wv, wm⟩ hw
    rcases q2 _ hw with ⟨s1, s2, s3⟩ | ⟨_, _, s1, _⟩ | ⟨i1, i2, s1, s2, X', s3, s4⟩
    · simp only at s2 s3
      subst s2 s3
      rw [brF (by rfl)]
      refine ⟨.inr (.inl ⟨he, ?_, rfl, u6⟩), rfl, fun ρ => rfl⟩
      rw [u4] at s1; rw [hX]; exact s1
    · rw [u4] at s1; cases s1
    simp only at s2 s3
    subst s2
    have hmid := h.mid_new hX u5 u6 s3
    have hX't : X'.tree = true := s3.tree.trans u3
    rw [brT (by rfl), tifv hX't (by rw [s3.t])]
    rw [u4] at s4 i2
    obtain ⟨c1, c2⟩ := hmid.comes hp hk hn z1 z2 (by rw [s4]; simp) (fun j => by rw [s4, mem_cutin, hX]; simp)
    rw [sat_req]
    refine ⟨c1, ?_⟩
    exact ⟨.inr (.inr ⟨he, i1, by rw [hX]; exact i2, rfl, X', hX't, by rw [hX]; exact s4, c2⟩), rfl, fun ρ => rfl⟩
  | some X =>
    have hf := z3 (by rw [hX]; rfl)
    rw [hX] at hf hsz
    have ht : X.tree = true := by simpa [treeB] using hf
    have hin := (h.st _ X hX).1
    have hl : tP (some X) = (X.t : Int) + 1 := by simp [tP, ht]
    obtain ⟨q1, q2⟩ := Str.ins hin ht hsz hk i
    rw [brF (by rw [hf]; rfl), sat_req, hl]
    refine ⟨q1, ?_⟩
    rw [sat_any]
    rintro ⟨wi, wb, wv, wm⟩ hw
    rcases q2 _ hw with ⟨s1, s2, s3⟩ | ⟨_, _, s1, _⟩ | ⟨i1, i2, s1, s2, X', s3, s4⟩
    · simp only at s2 s3
      subst s2 s3
      simp only [hdI]
      rw [brF (by rfl)]
      exact ⟨.inr (.inl ⟨he, by rw [hX]; exact s1, rfl, fun _ _ => rfl⟩), rfl, fun ρ => rfl⟩
    · exfalso
      have := (h.nh (a, b, c) (k, l)).2 ⟨X, hX, s1⟩
      rw [z2] at this; cases this
    simp only at s2 s3
    subst s2
    have hmid := h.mid_to hX s3
    have hX't : X'.tree = true := s3.tree.trans ht
    simp only [hdI]
    rw [brT (by rfl), tifv hX't (by rw [s3.t])]
    obtain ⟨c1, c2⟩ := hmid.comes hp hk hn z1 z2 (by rw [s4]; simp) (fun j => by rw [s4, mem_cutin, hX]; simp)
    rw [sat_req]
    refine ⟨c1, ?_⟩
    exact ⟨.inr (.inr ⟨he, i1, by rw [hX]; exact i2, rfl, X', hX't, by rw [hX]; exact s4, c2⟩), rfl, fun ρ => rfl⟩
theorem t_ginsert (m : Mem) (t : Int) (pm ps pa : Int) (i : Int) (hs hg : Int) (n : Int) : runm Try.prog [s_made, s_treed, s_may, s_fresh, s_insert, s_comes] (drawh Try.prog [s_made, s_treed, s_may, s_fresh, s_insert, s_comes] (fun _ _ => none) (fun _ _ _ => none)) 300 32 [.u (.c (.np t 0)), .u (.agg [.si .i64 pm, .si .i64 ps, .si .i64 pa]), .u (.c (.si .i64 i)), .u (.agg [.si .i64 hs, .si .u64 hg]), .u (.c (.si .i64 n))] m [98, 92, 95, 142, 140, 137, 111, 107, 108, 109] = T_ginsert m t pm ps pa i hs hg n := by kernel_rfl
theorem s_ginsert_ok : SumOK Try.prog s_ginsert := by
  refine memSum_ok ⟨_, Try.func32, by kernel_rfl⟩ fun m args ms h hp hw ρ w hm => ?_
  split at h
  · split at h
    · rename_i a0 a1 a2 a3 a4 _ _ _ _ _ t pm ps pa i hs hg n h0 h1 h2 h3 h4
      cases h
      have hS : ∀ q ∈ [s_made, s_treed, s_may, s_fresh, s_insert, s_comes], SumOK Try.prog q := (okc s_made_ok (okc s_treed_ok (okc s_may_ok (okc s_fresh_ok (okc s_insert_ok (okc s_comes_ok okn))))))
      exact mm_ghostY nameOK hS (drawh_sound nameOK hS (by kernel_rfl) _ _) 300 _ m _ (t_ginsert m t pm ps pa i hs hg n) yOf hp (fun G hG => ginsert_walk G hG) ρ w hm (by simp only [List.map_cons, List.map_nil, ptrOf_den h0, plaOf_den h1, intOf_den h2, hanOf_den h3, intOf_den h4])
    · cases h
  · cases h

/-! Pop, Peek -/
def T_gpop (m : Mem) (t : Int) (pm ps pa : Int) (o : Bool) : Tr := (.req (madeOK m t) (.br (bNot (madeV m t)) (.leaf (.memo (.tup [(.agg [(.li .i64 0), (.li .u64 0)]), (.c (.lb false))]) m)) (.req (listedOK m t pm ps pa) (.req (lpopP m (listedV m t pm ps pa) o) (.any (lpopQ m (listedV m t pm ps pa) o) (fun y0 => (.br (hdB y0.2) (.req (goesOK y0.4 t pm ps pa (hdI y0.1) (hdI (tlI y0.1))) (.letm (goesM y0.4 t pm ps pa (hdI y0.1) (hdI (tlI y0.1))) (fun m1 => (.leaf (.memo (.tup [(.agg [(.si .i64 (hdI y0.1)), (.si .u64 (hdI (tlI y0.1)))]), (.c (.sb (hdB y0.2)))]) m1))))) (.leaf (.memo (.tup [(.agg [(.si .i64 (hdI y0.1)), (.si .u64 (hdI (tlI y0.1)))]), (.c (.sb (hdB y0.2)))]) y0.4)))))))))
def gpopPre (G : GG) (m : Mem) (t pm ps pa : Int) : Prop := t = (G.g : Int) + 1 ∧ G.is m ∧ okP' (pm, ps, pa)
def gpopPost (m : Mem) (G : GG) (p : Pl) (o : Bool) (y : Vars) : Prop :=
  (listB (G.R p) = false ∧ y.i = [0, 0] ∧ y.b = [false] ∧ y.m = m) ∨
  (∃ k n X', listB (G.R p) = true ∧ endH (hsO (G.R p)) o = some k ∧ y.i = [k.1, k.2] ∧ y.b = [true] ∧ G.N p k = some n ∧ X'.tree = false ∧ X'.hs = (hsO (G.R p)).erase k ∧ G.to (G.go p k n X') m y.m)
def gpopP (m : Mem) (t pm ps pa : Int) (o : Bool) : Prop := ∃ G, gpopPre G m t pm ps pa
def gpopQ (m : Mem) (t pm ps pa : Int) (o : Bool) (y : Vars) : Prop := ∀ G, gpopPre G m t pm ps pa → gpopPost m G (pm, ps, pa) o y
def s_gpop : Sum := memSum 33 fun m a => match a with | [a0, a1, a2] => (match ptrOf a0, plaOf a1, booOf a2 with | some t, some (pm, ps, pa), some o => some ⟨gpopP m t pm ps pa o, gpopQ m t pm ps pa o, fun y => .tup [.agg [.si .i64 (hdI y.i), .si .u64 (hdI (tlI y.i))], .c (.sb (hdB y.b))]⟩ | _, _, _ => none) | _ => none
theorem endH_mem {l : List Hn} {o : Bool} {k : Hn} (h : endH l o = some k) : k ∈ l := by
  cases o with
  | true => exact List.mem_of_mem_head? h
  | false => exact List.mem_of_mem_getLast? h
theorem gpop_walk {m : Mem} {t a b c : Int} {o : Bool} (G : GG) (hG : gpopPre G m t a b c) : (T_gpop m t a b c o).sat (isMemo fun v x => gpopPost m G (a, b, c) o (yOf v x) ∧ (yOf v x).m = x ∧ ∀ ρ, v.den ρ = V.den ρ (.tup [.agg [.si .i64 (hdI (yOf v x).i), .si .u64 (hdI (tlI (yOf v x).i))], .c (.sb (hdB (yOf v x).b))])) := by
  obtain ⟨rfl, h, hp⟩ := hG
  have hg := h.toGM
  obtain ⟨m1, m2⟩ := made_spec hg
  obtain ⟨l1, l2⟩ := listed_spec hg hp
  unfold T_gpop
  simp only [l2]
  rw [sat_req]
  refine ⟨m1, ?_⟩
  rw [m2, brF (by rfl), sat_req]
  refine ⟨l1, ?_⟩
  have no : listB (G.R (a, b, c)) = false → lP (G.R (a, b, c)) = 0 := fun hl => by
    cases hX : G.R (a, b, c) with
    | none => rfl
    | some X => rw [hX] at hl; simp only [listB, Bool.not_eq_false'] at hl; simp [lP, hl]
  cases hlb : listB (G.R (a, b, c)) with
  | false =>
    rw [no hlb, sat_req]
    refine ⟨⟨none, rfl⟩, ?_⟩
    rw [sat_any]
    rintro ⟨wi, wb, wv, wm⟩ hw
    obtain ⟨w1, w2, w3⟩ := hw none rfl
    simp only at w1 w2 w3
    subst w1 w2 w3
    simp only [hdB]
    rw [sat_brF]
    exact ⟨.inl ⟨hlb, rfl, rfl, rfl⟩, rfl, fun ρ => rfl⟩
  | true =>
    obtain ⟨X, hX, ht⟩ : ∃ X, G.R (a, b, c) = some X ∧ X.tree = false := by
      cases hX : G.R (a, b, c) with
      | none => rw [hX] at hlb; cases hlb
      | some X => rw [hX] at hlb; exact ⟨X, rfl, by simpa [listB] using hlb⟩
    obtain ⟨hin, hne, _⟩ := h.st _ X hX
    have hl : lP (some X) = (X.t : Int) + 1 := by simp [lP, ht]
    obtain ⟨q1, q2⟩ := Str.pop hin ht o
    rw [hX, hl, sat_req]
    refine ⟨q1, ?_⟩
    rw [sat_any]
    rintro ⟨wi, wb, wv, wm⟩ hw
    rcases q2 _ hw with ⟨s1, _⟩ | ⟨k, s1, s2, s3, X', s4, s5⟩
    · exact absurd s1 hne
    simp only at s2 s3 s4
    subst s2 s3
    simp only [hdB, hdI, tlI]
    have hkm : k ∈ X.hs := endH_mem s1
    obtain ⟨n, hN⟩ := Option.isSome_iff_exists.1 ((h.nh (a, b, c) k).2 ⟨X, hX, hkm⟩)
    obtain ⟨c1, c2⟩ := (h.mid_to hX s4).goes hX s4.tree s4.t (hin.rng hkm) hN s5
    rw [sat_brT, sat_req]
    refine ⟨c1, ?_⟩
    exact ⟨.inr ⟨k, n, X', hlb, by rw [hX]; exact s1, rfl, rfl, hN, s4.tree.trans ht, by rw [hX]; exact s5, c2⟩, rfl, fun ρ => rfl⟩
theorem t_gpop (m : Mem) (t : Int) (pm ps pa : Int) (o : Bool) : runm Try.prog [s_made, s_listed, s_lpop, s_goes] (drawx Try.prog [s_made, s_listed, s_lpop, s_goes]) 300 33 [.u (.c (.np t 0)), .u (.agg [.si .i64 pm, .si .i64 ps, .si .i64 pa]), .u (.c (.sb o))] m [98, 92, 95, 142, 140, 137, 111, 107, 108, 109] = T_gpop m t pm ps pa o := by kernel_rfl
theorem s_gpop_ok : SumOK Try.prog s_gpop := by
  refine memSum_ok ⟨_, Try.func33, by kernel_rfl⟩ fun m args ms h hp hw ρ w hm => ?_
  split at h
  · split at h
    · rename_i a0 a1 a2 _ _ _ t pm ps pa o h0 h1 h2
      cases h
      have hS : ∀ q ∈ [s_made, s_listed, s_lpop, s_goes], SumOK Try.prog q := (okc s_made_ok (okc s_listed_ok (okc s_lpop_ok (okc s_goes_ok okn))))
      exact mm_ghostY nameOK hS (dOK hS) 300 _ m _ (t_gpop m t pm ps pa o) yOf hp (fun G hG => gpop_walk G hG) ρ w hm (by simp only [List.map_cons, List.map_nil, ptrOf_den h0, plaOf_den h1, booOf_den h2])
    · cases h
  · cases h
/-! Remove -/
def T_gremove (m : Mem) (t : Int) (pm ps pa : Int) (hs hg : Int) (n : Int) : Tr := (.req (madeOK m t) (.br (bNot (madeV m t)) (.leaf (.memo (.u (.c (.lb false))) m)) (.br (nzp t) (.br (nzp t) (.br (okL m t 1 [(.raw (.map (.none)))]) (.req ((Go.Maps.Keyed Try.prog 121) ∧ ((okM Try.prog 121 m (pl (mcell m t 1))) ∧ ((okKey Try.prog 121 (.agg (.mk [(.int .i64 hs), (.int .u64 hg), (.int .i64 n)]))) ∧ (((okU (.agg [(.li .i64 0), (.li .i64 0), (.li .i64 0)]) (lkZ m (pl (mcell m t 1)) (.agg (.mk [(.int .i64 hs), (.int .u64 hg), (.int .i64 n)])) (.agg (.mk [(.int .i64 0), (.int .i64 0), (.int .i64 0)])))) : Bool) = true)))) (.br (bNot (mhas m (pl (mcell m t 1)) (.agg (.mk [(.int .i64 hs), (.int .u64 hg), (.int .i64 n)])))) (.leaf (.memo (.u (.c (.lb false))) m)) (.br (bNot (bAnd (iEq (vI (cellAt (lkZ m (pl (mcell m t 1)) (.agg (.mk [(.int .i64 hs), (.int .u64 hg), (.int .i64 n)])) (.agg (.mk [(.int .i64 0), (.int .i64 0), (.int .i64 0)]))) 0)) pm) (bAnd (iEq (vI (cellAt (lkZ m (pl (mcell m t 1)) (.agg (.mk [(.int .i64 hs), (.int .u64 hg), (.int .i64 n)])) (.agg (.mk [(.int .i64 0), (.int .i64 0), (.int .i64 0)]))) 1)) ps) (iEq (vI (cellAt (lkZ m (pl (mcell m t 1)) (.agg (.mk [(.int .i64 hs), (.int .u64 hg), (.int .i64 n)])) (.agg (.mk [(.int .i64 0), (.int .i64 0), (.int .i64 0)]))) 2)) pa)))) (.leaf (.memo (.u (.c (.lb false))) m)) (.br (nzp t) (.br (nzp t) (.br (okL m t 0 [(.raw (.map (.none)))]) (.req ((Go.Maps.Keyed Try.prog 59) ∧ ((okM Try.prog 59 m (pl (mcell m t 0))) ∧ ((okKey Try.prog 59 (.agg (.mk [(.int .i64 pm), (.int .i64 ps), (.int .i64 pa)]))) ∧ (((okU (.c (.raw .nilIface)) (lkZ m (pl (mcell m t 0)) (.agg (.mk [(.int .i64 pm), (.int .i64 ps), (.int .i64 pa)])) .nilIface)) : Bool) = true)))) (.br (isIfV (pl (lkZ m (pl (mcell m t 0)) (.agg (.mk [(.int .i64 pm), (.int .i64 ps), (.int .i64 pa)])) .nilIface))) (.br (ifIs 112 (pl (lkZ m (pl (mcell m t 0)) (.agg (.mk [(.int .i64 pm), (.int .i64 ps), (.int .i64 pa)])) .nilIface))) (.req (lremoveP m (ifP 112 (pl (lkZ m (pl (mcell m t 0)) (.agg (.mk [(.int .i64 pm), (.int .i64 ps), (.int .i64 pa)])) .nilIface))) hs hg) (.any (lremoveQ m (ifP 112 (pl (lkZ m (pl (mcell m t 0)) (.agg (.mk [(.int .i64 pm), (.int .i64 ps), (.int .i64 pa)])) .nilIface))) hs hg) (fun y0 => (.req (goesOK y0.4 t pm ps pa hs hg) (.letm (goesM y0.4 t pm ps pa hs hg) (fun m1 => (.leaf (.memo (.u (.c (.lb true))) m1)))))))) (.br (isIfV (pl (lkZ m (pl (mcell m t 0)) (.agg (.mk [(.int .i64 pm), (.int .i64 ps), (.int .i64 pa)])) .nilIface))) (.br (ifIs 24 (pl (lkZ m (pl (mcell m t 0)) (.agg (.mk [(.int .i64 pm), (.int .i64 ps), (.int .i64 pa)])) .nilIface))) (.req (removeP m (ifP 24 (pl (lkZ m (pl (mcell m t 0)) (.agg (.mk [(.int .i64 pm), (.int .i64 ps), (.int .i64 pa)])) .nilIface))) hs hg) (.any (removeQ m (ifP 24 (pl (lkZ m (pl (mcell m t 0)) (.agg (.mk [(.int .i64 pm), (.int .i64 ps), (.int .i64 pa)])) .nilIface))) hs hg) (fun y0 => (.req (goesOK y0.4 t pm ps pa hs hg) (.letm (goesM y0.4 t pm ps pa hs hg) (fun m1 => (.leaf (.memo (.u (.c (.lb true))) m1)))))))) (.req (goesOK m t pm ps pa hs hg) (.letm (goesM m t pm ps pa hs hg) (fun m1 => (.leaf (.memo (.u (.c (.lb true))) m1)))))) (.no 130))) (.no 130))) (.no 70)) (.no 76)) (.no 75))))) (.no 70)) (.no 76)) (.no 75))))
def gremovePost (m : Mem) (G : GG) (p : Pl) (k : Hn) (n : Int) (y : Vars) : Prop :=
  (G.I k n ≠ some p ∧ y.b = [false] ∧ y.m = m) ∨
  (G.I k n = some p ∧ y.b = [true] ∧ ∃ X X', G.R p = some X ∧ X'.tree = X.tree ∧ X'.hs = X.hs.erase k ∧ G.to (G.go p k n X') m y.m)
def gremoveP (m : Mem) (t pm ps pa hs hg n : Int) : Prop := ∃ G, gpushPre G m t pm ps pa hs hg n
def gremoveQ (m : Mem) (t pm ps pa hs hg n : Int) (y : Vars) : Prop := ∀ G, gpushPre G m t pm ps pa hs hg n → gremovePost m G (pm, ps, pa) (hs, hg) n y
def s_gremove : Sum := memSum 34 fun m a => match a with | [a0, a1, a2, a3] => (match ptrOf a0, plaOf a1, hanOf a2, intOf a3 with | some t, some (pm, ps, pa), some (hs, hg), some n => some ⟨gremoveP m t pm ps pa hs hg n, gremoveQ m t pm ps pa hs hg n, fun y => .u (.c (.sb (hdB y.b)))⟩ | _, _, _, _ => none) | _ => none
theorem iV_cells (p : Pl) : vI (cellAt (iV (some p)) 0) = p.1 ∧ vI (cellAt (iV (some p)) 1) = p.2.1 ∧ vI (cellAt (iV (some p)) 2) = p.2.2 := ⟨rfl, rfl, rfl⟩
theorem gremove_walk {m : Mem} {t a b c k l n : Int} (G : GG) (hG : gpushPre G m t a b c k l n) : (T_gremove m t a b c k l n).sat (isMemo fun v x => gremovePost m G (a, b, c) (k, l) n (yBoo v x) ∧ (yBoo v x).m = x ∧ ∀ ρ, v.den ρ = V.den ρ (.u (.c (.sb (hdB (yBoo v x).b))))) := by
  obtain ⟨rfl, h, hp, hk, hn⟩ := hG
  have hg := h.toGM
  obtain ⟨m1, m2⟩ := made_spec hg
  obtain ⟨i1, i2⟩ := hg.lkI hk hn
  unfold T_gremove
  simp only [hg.c0, hg.c1, i1, i2, hg.lkR hp]
  rw [sat_req]
  refine ⟨m1, ?_⟩
  rw [m2, brF (by rfl), brT (nz_p _), brT (nz_p _), brT hg.okL.2.1, sat_req]
  refine ⟨hg.iq hk hn, ?_⟩
  cases hI : G.I (k, l) n with
  | none =>
    rw [brT (by rfl)]
    exact ⟨.inl ⟨by rw [hI]; simp, rfl, rfl⟩, rfl, fun ρ => rfl⟩
  | some q =>
    obtain ⟨v1, v2, v3⟩ := iV_cells q
    rw [brF (by rfl), v1, v2, v3]
    by_cases hq : q = (a, b, c)
    rotate_left
    · have hne : bNot (bAnd (iEq q.1 a) (bAnd (iEq q.2.1 b) (iEq q.2.2 c))) = true := by
        obtain ⟨x, y, z⟩ := q
        simp only [bNot, bAnd, iEq, Bool.not_eq_true', Bool.and_eq_false_iff, beq_eq_false_iff_ne]
        by_cases e1 : x = a
        · by_cases e2 : y = b
          · by_cases e3 : z = c
            · subst e1 e2 e3; exact absurd rfl hq
            · exact .inr (.inr e3)
          · exact .inr (.inl e2)
        · exact .inl e1
      rw [brT hne]
      exact ⟨.inl ⟨by rw [hI]; simpa using hq, rfl, rfl⟩, rfl, fun ρ => rfl⟩
    subst hq
    rw [brF (by simp [bNot, bAnd, iEq]), brT (nz_p _), brT (nz_p _), brT hg.okL.1, sat_req]
    refine ⟨hg.rq hp, ?_⟩
    have hN := (h.nu (k, l) n (a, b, c)).1 hI
    obtain ⟨X, hX, hkm⟩ := (h.nh (a, b, c) (k, l)).1 (by rw [hN]; rfl)
    obtain ⟨hin, hne, _⟩ := h.st _ X hX
    obtain ⟨r1, r2, r3, r4, r5⟩ := rv_ok (G.R (a, b, c))
    rw [brT r2, r3, r4]
    rw [hX] at r2 ⊢
    cases ht : X.tree with
    | false =>
      have hif : ifIs 112 (pl (rv (some X))) = true := by simp only [rv, Str.ifv, ht, mkIf_eq]; rfl
      have hl : lP (some X) = (X.t : Int) + 1 := by simp [lP, ht]
      obtain ⟨q1, q2⟩ := Str.lrem hin ht hk
      rw [brT hif, hl, sat_req]
      refine ⟨q1, ?_⟩
      rw [sat_any]
      rintro ⟨wi, wb, wv, wm⟩ hw
      rcases q2 _ hw with ⟨s1, _⟩ | ⟨_, X', s4, s5⟩
      · exact absurd hkm s1
      simp only at s4
      obtain ⟨c1, c2⟩ := (h.mid_to hX s4).goes hX s4.tree s4.t hk hN s5
      rw [sat_req]
      refine ⟨c1, ?_⟩
      exact ⟨.inr ⟨hI, rfl, X, X', hX, s4.tree, s5, c2⟩, rfl, fun ρ => rfl⟩
    | true =>
      have hif : ifIs 112 (pl (rv (some X))) = false := by simp only [rv, Str.ifv, ht, mkIf_eq]; rfl
      have hif2 : ifIs 24 (pl (rv (some X))) = true := by simp only [rv, Str.ifv, ht, mkIf_eq]; rfl
      have hl : tP (some X) = (X.t : Int) + 1 := by simp [tP, ht]
      obtain ⟨q1, q2⟩ := Str.trem hin ht hk
      rw [brF hif, brT r2, brT hif2, hl, sat_req]
      refine ⟨q1, ?_⟩
      rw [sat_any]
      rintro ⟨wi, wb, wv, wm⟩ hw
      rcases q2 _ hw with ⟨s1, _⟩ | ⟨_, X', s4, s5⟩
      · exact absurd hkm s1
      simp only at s4
      obtain ⟨c1, c2⟩ := (h.mid_to hX s4).goes hX s4.tree s4.t hk hN s5
      rw [sat_req]
      refine ⟨c1, ?_⟩
      exact ⟨.inr ⟨hI, rfl, X, X', hX, s4.tree, s5, c2⟩, rfl, fun ρ => rfl⟩
theorem t_gremove (m : Mem) (t : Int) (pm ps pa : Int) (hs hg : Int) (n : Int) : runm Try.prog [s_made, s_goes, s_lremove, s_remove] (drawx Try.prog [s_made, s_goes, s_lremove, s_remove]) 300 34 [.u (.c (.np t 0)), .u (.agg [.si .i64 pm, .si .i64 ps, .si .i64 pa]), .u (.agg [.si .i64 hs, .si .u64 hg]), .u (.c (.si .i64 n))] m [98, 92, 95, 142, 140, 137, 111, 107, 108, 109] = T_gremove m t pm ps pa hs hg n := by kernel_rfl
theorem s_gremove_ok : SumOK Try.prog s_gremove := by
  refine memSum_ok ⟨_, Try.func34, by kernel_rfl⟩ fun m args ms h hp hw ρ w hm => ?_
  split at h
  · split at h
    · rename_i a0 a1 a2 a3 _ _ _ _ t pm ps pa hs hg n h0 h1 h2 h3
      cases h
      have hS : ∀ q ∈ [s_made, s_goes, s_lremove, s_remove], SumOK Try.prog q := (okc s_made_ok (okc s_goes_ok (okc s_lremove_ok (okc s_remove_ok okn))))
      exact mm_ghostY nameOK hS (dOK hS) 300 _ m _ (t_gremove m t pm ps pa hs hg n) yBoo hp (fun G hG => gremove_walk G hG) ρ w hm (by simp only [List.map_cons, List.map_nil, ptrOf_den h0, plaOf_den h1, hanOf_den h2, intOf_den h3])
    · cases h
  · cases h
end Go.Proofs.Ytnlohongffpkpaa.T16
end

section
/- Layer 17: At, Drain. A text of the session's own. -/
namespace Go.Proofs.Ytnlohongffpkpaa.T16
open Go Go.RowKit Go.Proofs.Ytnlohongffpkpaa.Sx Go.Proofs
set_option linter.unusedVariables false
set_option linter.unusedSimpArgs false

/-- a slice of handles that All has made -/
def RowB (m : Mem) (v : Value) (hs : List Hn) : Prop :=
  (v = .slice none 0 0 ∧ hs = []) ∨ ∃ g cap cur, v = .slice (some ⟨g, 0, none⟩) hs.length cap ∧ m g = some (.cells cur 29 (0, 0)) ∧ hs.length ≤ cap ∧ cur.toList.take (hs.length * 2) = hCells hs
section
variable {m m' : Mem} {v : Value} {hs : List Hn}
theorem RowB.of (h : rowOf m hs v m') : RowB m' v hs ∧ (∀ a, m a ≠ none → m' a = m a) ∧ ∀ a : Nat, slB v = (a : Int) + 1 → m a = none := by
  rcases h with ⟨rfl, rfl, rfl⟩ | ⟨g, cap, cur, rfl, hg, rfl, h1, h2, h3⟩
  · refine ⟨.inl ⟨rfl, rfl⟩, fun _ _ => rfl, fun a ha => ?_⟩
    simp only [slB] at ha; omega
  · refine ⟨.inr ⟨g, cap, cur, rfl, alO_self _ _ _, h1, h3⟩, fun a ha => alO_ne _ (by rintro rfl; exact ha hg), fun a ha => ?_⟩
    simp only [slB] at ha
    have : g = a := by omega
    rw [← this]; exact hg
theorem RowB.sl (h : RowB m v hs) : pl v = v ∧ isSlV v = true ∧ slN v = hs.length := by
  rcases h with ⟨rfl, rfl⟩ | ⟨g, cap, cur, rfl, _⟩ <;> exact ⟨rfl, rfl, rfl⟩
theorem RowB.more (h : RowB m v hs) (hm : ∀ a : Nat, slB v = (a : Int) + 1 → m a ≠ none → m' a = m a) : RowB m' v hs := by
  rcases h with ⟨rfl, rfl⟩ | ⟨g, cap, cur, rfl, h1, h2, h3⟩
  · exact .inl ⟨rfl, rfl⟩
  · exact .inr ⟨g, cap, cur, rfl, (hm g rfl (by rw [h1]; simp)).trans h1, h2, h3⟩
theorem RowB.there (h : RowB m v hs) {a : Nat} (ha : slB v = (a : Int) + 1) : m a ≠ none := by
  rcases h with ⟨rfl, rfl⟩ | ⟨g, cap, cur, rfl, h1, h2, h3⟩
  · simp only [slB] at ha; omega
  · simp only [slB] at ha
    have : g = a := by omega
    rw [← this, h1]; simp
theorem RowB.get (h : RowB m v hs) {i : Nat} {x : Hn} (hx : hs[i]? = some x) :
    inSl v (i : Int) = true ∧ okL m (slB v) (aOff (slO v) i 2) [.li .i64 0, .li .u64 0] = true ∧ gI m (slB v) (aOff (slO v) i 2) = x.1 ∧ gI m (slB v) (.succ (aOff (slO v) i 2)) = x.2 := by
  have hlt : i < hs.length := (List.getElem?_eq_some_iff.1 hx).1
  rcases h with ⟨rfl, rfl⟩ | ⟨g, cap, cur, rfl, h1, h2, h3⟩
  · simp at hlt
  obtain ⟨c1, c2⟩ := hCells_get hs i x hx
  have k1 : cur[2 * i]? = some (.int .i64 x.1) := by
    have : cur.toList[2 * i]? = some (.int .i64 x.1) := by rw [← c1, ← h3, List.getElem?_take_of_lt (by omega)]
    simpa using this
  have k2 : cur[2 * i + 1]? = some (.int .u64 x.2) := by
    have : cur.toList[2 * i + 1]? = some (.int .u64 x.2) := by rw [← c2, ← h3, List.getElem?_take_of_lt (by omega)]
    simpa using this
  have ea : aOff 0 (i : Int) 2 = 2 * i := by simp [aOff]; omega
  have eb : (2 * i).succ = 2 * i + 1 := rfl
  simp only [slB, slO, ea, eb]
  refine ⟨?_, ?_, ?_, ?_⟩
  · have : Nat.ble hs.length cap = true := Nat.ble_eq_true_of_le h2
    simp [inSl, isSl, slN, this, hlt]
  · unfold okL; rw [mget_of h1]
    simp only [okR, k1, k2, okC, isK, decide_true, Bool.and_self]
  · unfold gI mcell; rw [mget_of h1]; simp [k1, vI]
  · unfold gI mcell; rw [mget_of h1]; simp [k2, vI]
end

/-! At -/
def T_gat (m : Mem) (t : Int) (pm ps pa : Int) (i : Int) : Tr := (.br (iLt i 0) (.leaf (.memo (.tup [(.agg [(.li .i64 0), (.li .u64 0)]), (.c (.lb false))]) m)) (.req (glenOK m t pm ps pa) (.br (iGe i (glenV m t pm ps pa)) (.leaf (.memo (.tup [(.agg [(.li .i64 0), (.li .u64 0)]), (.c (.lb false))]) m)) (.req (treedOK m t pm ps pa) (.br (cmpOK m (treedV m t pm ps pa) 0) (.br (bNot (peq (treedV m t pm ps pa) 0)) (.req (atP m (treedV m t pm ps pa) i) (.any (atQ m (treedV m t pm ps pa) i) (fun y0 => (.leaf (.memo (.tup [(.agg [(.si .i64 (hdI y0.1)), (.si .u64 (hdI (tlI y0.1)))]), (.c (.sb (hdB y0.2)))]) y0.4))))) (.br (nzp t) (.br (nzp t) (.br (okL m t 0 [(.raw (.map (.none)))]) (.req ((Go.Maps.Keyed Try.prog 59) ∧ ((okM Try.prog 59 m (pl (mcell m t 0))) ∧ ((okKey Try.prog 59 (.agg (.mk [(.int .i64 pm), (.int .i64 ps), (.int .i64 pa)]))) ∧ (((okU (.c (.raw .nilIface)) (lkZ m (pl (mcell m t 0)) (.agg (.mk [(.int .i64 pm), (.int .i64 ps), (.int .i64 pa)])) .nilIface)) : Bool) = true)))) (.br (isIfV (pl (lkZ m (pl (mcell m t 0)) (.agg (.mk [(.int .i64 pm), (.int .i64 ps), (.int .i64 pa)])) .nilIface))) (.br (ifIs 112 (pl (lkZ m (pl (mcell m t 0)) (.agg (.mk [(.int .i64 pm), (.int .i64 ps), (.int .i64 pa)])) .nilIface))) (.req (lallP m (ifP 112 (pl (lkZ m (pl (mcell m t 0)) (.agg (.mk [(.int .i64 pm), (.int .i64 ps), (.int .i64 pa)])) .nilIface)))) (.any (lallQ m (ifP 112 (pl (lkZ m (pl (mcell m t 0)) (.agg (.mk [(.int .i64 pm), (.int .i64 ps), (.int .i64 pa)])) .nilIface)))) (fun y0 => (.req ((([(0, ([(.si .i64 pm), (.si .i64 ps), (.si .i64 pa)], 59))] : List (Nat × Blk)) = [(0, ([(.si .i64 pm), (.si .i64 ps), (.si .i64 pa)], 59))]) ∧ (([] : List (Nat × MBlk)) = [])) (.br (inSl (pl (hdV y0.3)) i) (.br (okL y0.4 (slB (pl (hdV y0.3))) (aOff (slO (pl (hdV y0.3))) i 2) [(.li .i64 0), (.li .u64 0)]) (.req ((([(0, ([(.si .i64 pm), (.si .i64 ps), (.si .i64 pa)], 59))] : List (Nat × Blk)) = [(0, ([(.si .i64 pm), (.si .i64 ps), (.si .i64 pa)], 59))]) ∧ (([] : List (Nat × MBlk)) = [])) (.leaf (.memo (.tup [(.agg [(.si .i64 (gI y0.4 (slB (pl (hdV y0.3))) (aOff (slO (pl (hdV y0.3))) i 2))), (.si .u64 (gI y0.4 (slB (pl (hdV y0.3))) (.succ (aOff (slO (pl (hdV y0.3))) i 2))))]), (.c (.lb true))]) y0.4))) (.no 70)) (.no 104)))))) (.br (ifIs 24 (pl (lkZ m (pl (mcell m t 0)) (.agg (.mk [(.int .i64 pm), (.int .i64 ps), (.int .i64 pa)])) .nilIface))) (.req (allP m (ifP 24 (pl (lkZ m (pl (mcell m t 0)) (.agg (.mk [(.int .i64 pm), (.int .i64 ps), (.int .i64 pa)])) .nilIface)))) (.any (allQ m (ifP 24 (pl (lkZ m (pl (mcell m t 0)) (.agg (.mk [(.int .i64 pm), (.int .i64 ps), (.int .i64 pa)])) .nilIface)))) (fun y0 => (.req ((([(0, ([(.si .i64 pm), (.si .i64 ps), (.si .i64 pa)], 59))] : List (Nat × Blk)) = [(0, ([(.si .i64 pm), (.si .i64 ps), (.si .i64 pa)], 59))]) ∧ (([] : List (Nat × MBlk)) = [])) (.br (inSl (pl (hdV y0.3)) i) (.br (okL y0.4 (slB (pl (hdV y0.3))) (aOff (slO (pl (hdV y0.3))) i 2) [(.li .i64 0), (.li .u64 0)]) (.req ((([(0, ([(.si .i64 pm), (.si .i64 ps), (.si .i64 pa)], 59))] : List (Nat × Blk)) = [(0, ([(.si .i64 pm), (.si .i64 ps), (.si .i64 pa)], 59))]) ∧ (([] : List (Nat × MBlk)) = [])) (.leaf (.memo (.tup [(.agg [(.si .i64 (gI y0.4 (slB (pl (hdV y0.3))) (aOff (slO (pl (hdV y0.3))) i 2))), (.si .u64 (gI y0.4 (slB (pl (hdV y0.3))) (.succ (aOff (slO (pl (hdV y0.3))) i 2))))]), (.c (.lb true))]) y0.4))) (.no 70)) (.no 104)))))) (.no 37))) (.no 38))) (.no 70)) (.no 76)) (.no 75))) (.no 78))))))
def gatPre (G : GG) (m : Mem) (t pm ps pa : Int) : Prop := gpopPre G m t pm ps pa ∧ (hsO (G.R (pm, ps, pa))).length < 1099511627776
def gatPost (m : Mem) (G : GG) (p : Pl) (i : Int) (y : Vars) : Prop :=
  (∃ (j : Nat) (k : Hn), i = j ∧ (hsO (G.R p))[j]? = some k ∧ y.i = [k.1, k.2] ∧ y.b = [true] ∧ ∀ a, m a ≠ none → y.m a = m a) ∨
  ((i < 0 ∨ ((hsO (G.R p)).length : Int) ≤ i) ∧ y.i = [0, 0] ∧ y.b = [false] ∧ y.m = m)
def gatP (m : Mem) (t pm ps pa i : Int) : Prop := ∃ G, gatPre G m t pm ps pa
def gatQ (m : Mem) (t pm ps pa i : Int) (y : Vars) : Prop := ∀ G, gatPre G m t pm ps pa → gatPost m G (pm, ps, pa) i y
def s_gat : Sum := memSum 37 fun m a => match a with | [a0, a1, a2] => (match ptrOf a0, plaOf a1, intOf a2 with | some t, some (pm, ps, pa), some i => some ⟨gatP m t pm ps pa i, gatQ m t pm ps pa i, fun y => .tup [.agg [.si .i64 (hdI y.i), .si .u64 (hdI (tlI y.i))], .c (.sb (hdB y.b))]⟩ | _, _, _ => none) | _ => none
theorem gat_walk {m : Mem} {t a b c i : Int} (G : GG) (hG : gatPre G m t a b c) : (T_gat m t a b c i).sat (isMemo fun v x => gatPost m G (a, b, c) i (yOf v x) ∧ (yOf v x).m = x ∧ ∀ ρ, v.den ρ = V.den ρ (.tup [.agg [.si .i64 (hdI (yOf v x).i), .si .u64 (hdI (tlI (yOf v x).i))], .c (.sb (hdB (yOf v x).b))])) := by
  obtain ⟨⟨rfl, h, hp⟩, hsz⟩ := hG
  have hg := h.toGM
  obtain ⟨m1, m2⟩ := made_spec hg
  obtain ⟨l1, l2⟩ := treed_spec hg hp
  obtain ⟨n1, n2⟩ := glen_spec h hp
  unfold T_gat
  simp only [l2, n2, hg.c0, hg.lkR hp]
  by_cases i0 : i < 0
  · rw [brT (by simpa [iLt] using i0)]
    exact ⟨.inr ⟨.inl i0, rfl, rfl, rfl⟩, rfl, fun ρ => rfl⟩
  rw [brF (by simpa [iLt] using i0), sat_req]
  refine ⟨n1, ?_⟩
  by_cases i1 : ((hsO (G.R (a, b, c))).length : Int) ≤ i
  · rw [brT (by simpa [iGe] using i1)]
    exact ⟨.inr ⟨.inr i1, rfl, rfl, rfl⟩, rfl, fun ρ => rfl⟩
  rw [brF (by simpa [iGe] using i1), sat_req]
  refine ⟨l1, ?_⟩
  obtain ⟨j, rfl⟩ : ∃ j : Nat, i = j := ⟨i.toNat, by omega⟩
  have hj : j < (hsO (G.R (a, b, c))).length := by omega
  obtain ⟨k, hk⟩ : ∃ k, (hsO (G.R (a, b, c)))[j]? = some k := ⟨_, List.getElem?_eq_getElem hj⟩
  cases hX : G.R (a, b, c) with
  | none => rw [hX] at hj; simp [hsO] at hj
  | some X =>
    have hin := (h.st _ X hX).1
    obtain ⟨r1, r2, r3, r4, r5⟩ := rv_ok (some X)
    have hk' : X.hs[j]? = some k := by rw [hX] at hk; exact hk
    rw [hX] at hsz
    rw [brT (cmp_zero _ _), tP_b]
    cases ht : X.tree with
    | true =>
      have hl : tP (some X) = (X.t : Int) + 1 := by simp [tP, ht]
      obtain ⟨q1, q2⟩ := Str.tat hin ht hk'
      rw [brT (by simp [treeB, ht, bNot]), hl, sat_req]
      refine ⟨q1, ?_⟩
      rw [sat_any]
      rintro ⟨wi, wb, wv, wm⟩ hw
      obtain ⟨s1, s2, s3⟩ := q2 _ hw
      simp only at s1 s2 s3
      subst s1 s2 s3
      exact ⟨.inl ⟨j, k, rfl, hk, rfl, rfl, fun _ _ => rfl⟩, rfl, fun ρ => rfl⟩
    | false =>
      have hl : lP (some X) = (X.t : Int) + 1 := by simp [lP, ht]
      have hif : ifIs 112 (pl (rv (some X))) = true := by simp only [rv, Str.ifv, ht, mkIf_eq]; rfl
      have hrq := hg.rq hp
      rw [hX] at hrq
      rw [brF (by simp [treeB, ht, bNot]), brT (nz_p _), brT (nz_p _), brT hg.okL.1, sat_req]
      refine ⟨hrq, ?_⟩
      obtain ⟨q1, q2⟩ := Str.lall hin ht hsz
      rw [brT r2, brT hif, r3, hl, sat_req]
      refine ⟨q1, ?_⟩
      rw [sat_any]
      rintro ⟨wi, wb, wv, wm⟩ hw
      obtain ⟨s1, s2, s3⟩ := RowB.of (q2 _ hw)
      simp only at s1 s2 s3
      obtain ⟨e1, e2, e3⟩ := s1.sl
      obtain ⟨g1, g2, g3, g4⟩ := s1.get hk'
      simp only [e1]
      rw [sat_req]
      refine ⟨⟨trivial, trivial⟩, ?_⟩
      rw [brT g1, brT g2, sat_req, g3, g4]
      exact ⟨⟨trivial, trivial⟩, .inl ⟨j, k, rfl, hk, rfl, rfl, s2⟩, rfl, fun ρ => rfl⟩
theorem t_gat (m : Mem) (t : Int) (pm ps pa : Int) (i : Int) : runm Try.prog [s_glen, s_treed, s_at, s_all, s_lall] (drawh Try.prog [s_glen, s_treed, s_at, s_all, s_lall] (fun _ _ => none) (fun _ _ _ => none)) 300 37 [.u (.c (.np t 0)), .u (.agg [.si .i64 pm, .si .i64 ps, .si .i64 pa]), .u (.c (.si .i64 i))] m [98, 92, 95, 142, 140, 137, 111, 107, 108, 109] = T_gat m t pm ps pa i := by kernel_rfl
theorem s_gat_ok : SumOK Try.prog s_gat := by
  refine memSum_ok ⟨_, Try.func37, by kernel_rfl⟩ fun m args ms h hp hw ρ w hm => ?_
  split at h
  · split at h
    · rename_i a0 a1 a2 _ _ _ t pm ps pa i h0 h1 h2
      cases h
      have hS : ∀ q ∈ [s_glen, s_treed, s_at, s_all, s_lall], SumOK Try.prog q := (okc s_glen_ok (okc s_treed_ok (okc s_at_ok (okc s_all_ok (okc s_lall_ok okn)))))
      exact mm_ghostY nameOK hS (drawh_sound nameOK hS (by kernel_rfl) _ _) 300 _ m _ (t_gat m t pm ps pa i) yOf hp (fun G hG => gat_walk G hG) ρ w hm (by simp only [List.map_cons, List.map_nil, ptrOf_den h0, plaOf_den h1, intOf_den h2])
    · cases h
  · cases h

/-! Drain -/
theorem GG.to.trans {G1 G2 G3 : GG} {m1 m2 m3 : Mem} (h : G1.to G2 m1 m2) (k : G2.to G3 m2 m3) : G1.to G3 m1 m3 := by
  refine ⟨k.is', k.g.trans h.g, fun a ha => ?_, fun a ha hd => ?_⟩
  · rcases k.dom a ha with h2 | h2
    · exact h.dom a h2
    · cases e : m1 a with
      | none => exact .inr rfl
      | some o =>
        refine Classical.byContradiction fun hn => ?_
        have hd : ¬ G1.dom a := fun hd => hn (.inl hd)
        have := h.keep a (by rw [e]; simp) hd
        rw [h2, e] at this; cases this
  · have h1 := h.keep a ha hd
    refine (k.keep a (by rw [h1]; exact ha) fun h2 => ?_).trans h1
    rcases h.dom a h2 with h3 | h3
    · exact hd h3
    · exact ha h3
/-- .. where the memory had grown -/
theorem GG.to.less {G G' : GG} {m0 m1 m' : Mem} (h : G.to G' m1 m') (hm : ∀ a, m0 a ≠ none → m1 a = m0 a) : G.to G' m0 m' := by
  refine ⟨h.is', h.g, fun a ha => (h.dom a ha).imp id fun hn => ?_, fun a ha hd => ?_⟩
  · cases e : m0 a with
    | none => rfl
    | some o => have := hm a (by rw [e]; simp); rw [hn, e] at this; cases this
  · exact (h.keep a (by rw [hm a ha]; exact ha) hd).trans (hm a ha)
def T_dloop (m0 : Mem) (t pm ps pa : Int) (v : Value) : Tr := (.lp (.mk [0] [] [] m0) (fun y1 j1 => (.br (iLt (hdI y1.1) (slN (pl v))) (.br (inSl (pl v) (hdI y1.1)) (.br (okL y1.4 (slB (pl v)) (aOff (slO (pl v)) (hdI y1.1) 2) [(.li .i64 0), (.li .u64 0)]) (.br (nzp t) (.br (nzp t) (.br (okL y1.4 t 2 [(.raw (.map (.none)))]) (.req ((Go.Maps.Keyed Try.prog 126) ∧ ((okM Try.prog 126 y1.4 (pl (mcell y1.4 t 2))) ∧ ((okKey Try.prog 126 (.agg (.mk [(.int .i64 pm), (.int .i64 ps), (.int .i64 pa), (.int .i64 (gI y1.4 (slB (pl v)) (aOff (slO (pl v)) (hdI y1.1) 2))), (.int .u64 (gI y1.4 (slB (pl v)) (.succ (aOff (slO (pl v)) (hdI y1.1) 2))))]))) ∧ (((okU (.c (.li .i64 0)) (lkZ y1.4 (pl (mcell y1.4 t 2)) (.agg (.mk [(.int .i64 pm), (.int .i64 ps), (.int .i64 pa), (.int .i64 (gI y1.4 (slB (pl v)) (aOff (slO (pl v)) (hdI y1.1) 2))), (.int .u64 (gI y1.4 (slB (pl v)) (.succ (aOff (slO (pl v)) (hdI y1.1) 2))))])) (.int .i64 0))) : Bool) = true)))) (.req (gremoveP y1.4 t pm ps pa (gI y1.4 (slB (pl v)) (aOff (slO (pl v)) (hdI y1.1) 2)) (gI y1.4 (slB (pl v)) (.succ (aOff (slO (pl v)) (hdI y1.1) 2))) (vI (lkZ y1.4 (pl (mcell y1.4 t 2)) (.agg (.mk [(.int .i64 pm), (.int .i64 ps), (.int .i64 pa), (.int .i64 (gI y1.4 (slB (pl v)) (aOff (slO (pl v)) (hdI y1.1) 2))), (.int .u64 (gI y1.4 (slB (pl v)) (.succ (aOff (slO (pl v)) (hdI y1.1) 2))))])) (.int .i64 0)))) (.any (gremoveQ y1.4 t pm ps pa (gI y1.4 (slB (pl v)) (aOff (slO (pl v)) (hdI y1.1) 2)) (gI y1.4 (slB (pl v)) (.succ (aOff (slO (pl v)) (hdI y1.1) 2))) (vI (lkZ y1.4 (pl (mcell y1.4 t 2)) (.agg (.mk [(.int .i64 pm), (.int .i64 ps), (.int .i64 pa), (.int .i64 (gI y1.4 (slB (pl v)) (aOff (slO (pl v)) (hdI y1.1) 2))), (.int .u64 (gI y1.4 (slB (pl v)) (.succ (aOff (slO (pl v)) (hdI y1.1) 2))))])) (.int .i64 0)))) (fun y2 => (.req ((([(0, (.u (.c (.np t 0)))), (3, (.u (.c (.ptr 0 0)))), (4, (.u (.c (.raw (.slice (.none) 0 0))))), (5, (.u (.c (.sv v)))), (19, (.u (.c (.sv v)))), (20, (.u (.c (.si .i64 (slN (pl v))))))] : List (Nat × V)) = [(0, (.u (.c (.np t 0)))), (3, (.u (.c (.ptr 0 0)))), (4, (.u (.c (.raw (.slice (.none) 0 0))))), (5, (.u (.c (.sv v)))), (19, (.u (.c (.sv v)))), (20, (.u (.c (.si .i64 (slN (pl v))))))]) ∧ (([(0, ([(.si .i64 pm), (.si .i64 ps), (.si .i64 pa)], 59))] : List (Nat × Blk)) = [(0, ([(.si .i64 pm), (.si .i64 ps), (.si .i64 pa)], 59))])) (.leaf (.again (.mk [(iAdd .i64 (hdI y1.1) 1)] [] [] y2.4)))))))) (.no 70)) (.no 76)) (.no 75)) (.no 70)) (.no 104)) (.leaf (.up (.memo (.u (.c (.sv v))) y1.4))))))
def T_gdrain (m : Mem) (t : Int) (pm ps pa : Int) : Tr := (.req (glenOK m t pm ps pa) (.br (iEq (glenV m t pm ps pa) 0) (.leaf (.memo (.u (.c (.raw (.slice (.none) 0 0)))) m)) (.br (nzp t) (.br (nzp t) (.br (okL m t 0 [(.raw (.map (.none)))]) (.req ((Go.Maps.Keyed Try.prog 59) ∧ ((okM Try.prog 59 m (pl (mcell m t 0))) ∧ ((okKey Try.prog 59 (.agg (.mk [(.int .i64 pm), (.int .i64 ps), (.int .i64 pa)]))) ∧ (((okU (.c (.raw .nilIface)) (lkZ m (pl (mcell m t 0)) (.agg (.mk [(.int .i64 pm), (.int .i64 ps), (.int .i64 pa)])) .nilIface)) : Bool) = true)))) (.br (isIfV (pl (lkZ m (pl (mcell m t 0)) (.agg (.mk [(.int .i64 pm), (.int .i64 ps), (.int .i64 pa)])) .nilIface))) (.br (ifIs 112 (pl (lkZ m (pl (mcell m t 0)) (.agg (.mk [(.int .i64 pm), (.int .i64 ps), (.int .i64 pa)])) .nilIface))) (.req (lallP m (ifP 112 (pl (lkZ m (pl (mcell m t 0)) (.agg (.mk [(.int .i64 pm), (.int .i64 ps), (.int .i64 pa)])) .nilIface)))) (.any (lallQ m (ifP 112 (pl (lkZ m (pl (mcell m t 0)) (.agg (.mk [(.int .i64 pm), (.int .i64 ps), (.int .i64 pa)])) .nilIface)))) (fun y0 => (.req ((([(0, ([(.si .i64 pm), (.si .i64 ps), (.si .i64 pa)], 59))] : List (Nat × Blk)) = [(0, ([(.si .i64 pm), (.si .i64 ps), (.si .i64 pa)], 59))]) ∧ (([] : List (Nat × MBlk)) = [])) (.br (isSlV (pl (hdV y0.3))) (T_dloop y0.4 t pm ps pa (hdV y0.3)) (.no 123)))))) (.br (ifIs 24 (pl (lkZ m (pl (mcell m t 0)) (.agg (.mk [(.int .i64 pm), (.int .i64 ps), (.int .i64 pa)])) .nilIface))) (.req (allP m (ifP 24 (pl (lkZ m (pl (mcell m t 0)) (.agg (.mk [(.int .i64 pm), (.int .i64 ps), (.int .i64 pa)])) .nilIface)))) (.any (allQ m (ifP 24 (pl (lkZ m (pl (mcell m t 0)) (.agg (.mk [(.int .i64 pm), (.int .i64 ps), (.int .i64 pa)])) .nilIface)))) (fun y0 => (.req ((([(0, ([(.si .i64 pm), (.si .i64 ps), (.si .i64 pa)], 59))] : List (Nat × Blk)) = [(0, ([(.si .i64 pm), (.si .i64 ps), (.si .i64 pa)], 59))]) ∧ (([] : List (Nat × MBlk)) = [])) (.br (isSlV (pl (hdV y0.3))) (T_dloop y0.4 t pm ps pa (hdV y0.3)) (.no 123)))))) (.no 37))) (.no 38))) (.no 70)) (.no 76)) (.no 75))))
def gdrainPost (m : Mem) (G : GG) (p : Pl) (y : Vars) : Prop := ∃ G' : GG, G.to G' m y.m ∧ (∀ q, G'.R q = if q = p then none else G.R q) ∧ (∀ q h, G'.N q h = if q = p then none else G.N q h) ∧ (∀ h n, G'.I h n = if G.I h n = some p then none else G.I h n) ∧
  RowB y.m (hdV y.v) (hsO (G.R p)) ∧ ∀ a : Nat, slB (hdV y.v) = (a : Int) + 1 → m a = none ∧ ¬ G'.dom a
def gdrainP (m : Mem) (t pm ps pa : Int) : Prop := ∃ G, gatPre G m t pm ps pa
def gdrainQ (m : Mem) (t pm ps pa : Int) (y : Vars) : Prop := ∀ G, gatPre G m t pm ps pa → gdrainPost m G (pm, ps, pa) y
def s_gdrain : Sum := memSum 38 fun m a => match a with | [a0, a1] => (match ptrOf a0, plaOf a1 with | some t, some (pm, ps, pa) => some ⟨gdrainP m t pm ps pa, gdrainQ m t pm ps pa, fun y => .u (.c (.sv (hdV y.v)))⟩ | _, _ => none) | _ => none
def yVal (v : V) (m : Mem) : Vars :=
  match v with
  | .u (.c (.sv x)) => ⟨[], [], [pl x], m⟩
  | .u (.c (.raw x)) => ⟨[], [], [pl x], m⟩
  | _ => ⟨[], [], [], m⟩
theorem dloop_walk {m m1 : Mem} {a b c : Int} {v : Value} (G : GG) (h : G.is m1) (hp : okP' (a, b, c)) (hv : RowB m1 v (hsO (G.R (a, b, c)))) (hf : ∀ x : Nat, slB v = (x : Int) + 1 → m x = none ∧ ¬ G.dom x) (hm : ∀ x, m x ≠ none → m1 x = m x) (hsz : (hsO (G.R (a, b, c))).length < 1099511627776) :
    (T_dloop m1 ((G.g : Int) + 1) a b c v).sat (isMemo fun w x => gdrainPost m G (a, b, c) (yVal w x) ∧ (yVal w x).m = x ∧ ∀ ρ, w.den ρ = V.den ρ (.u (.c (.sv (hdV (yVal w x).v))))) := by
  obtain ⟨e1, e2, e3⟩ := hv.sl
  have hnd : (hsO (G.R (a, b, c))).Nodup := by
    cases hX : G.R (a, b, c) with
    | none => exact List.nodup_nil
    | some X => exact (h.st _ X hX).1.nodup
  unfold T_dloop
  simp only [e1, e3]
  let J : Nat → Vars → Prop := fun N y => ∃ (i : Nat) (Gi : GG), i + N = (hsO (G.R (a, b, c))).length ∧ y.i = [(i : Int)] ∧ G.to Gi m1 y.m ∧ hsO (Gi.R (a, b, c)) = (hsO (G.R (a, b, c))).drop i ∧ (∀ q, q ≠ (a, b, c) → Gi.R q = G.R q) ∧
    (∀ q k, Gi.N q k = if q = (a, b, c) ∧ k ∈ (hsO (G.R (a, b, c))).take i then none else G.N q k) ∧ (∀ k n, Gi.I k n = if G.I k n = some (a, b, c) ∧ k ∈ (hsO (G.R (a, b, c))).take i then none else G.I k n)
  refine lp_idx J (n0 := (hsO (G.R (a, b, c))).length) ⟨0, G, by omega, rfl, GG.to.refl h, by simp, fun _ _ => rfl, fun q k => by simp, fun k n => by simp⟩ ?_
  rintro N ⟨yi, yb, yv, ym⟩ _ ⟨i, Gi, hi, rfl, hto, hR, hRo, hN, hI⟩
  simp only at hto hi
  simp only [hdI]
  have hvi : RowB ym v (hsO (G.R (a, b, c))) := hv.more fun x hx hxn => hto.keep x hxn (hf x hx).2
  have his := hto.is'
  by_cases hlt : i < (hsO (G.R (a, b, c))).length
  rotate_left
  · rw [brF (by simp [iLt]; omega)]
    have hi' : i = (hsO (G.R (a, b, c))).length := by omega
    rw [hi', List.drop_length] at hR
    rw [hi'] at hN hI
    simp only [List.take_length] at hN hI
    have hRn : Gi.R (a, b, c) = none := by
      cases hX : Gi.R (a, b, c) with
      | none => rfl
      | some X => rw [hX] at hR; exact absurd hR (his.st _ X hX).2.1
    have hall : ∀ k, (G.N (a, b, c) k).isSome = true → k ∈ hsO (G.R (a, b, c)) := fun k hk => by
      obtain ⟨X, hX, hx⟩ := (h.nh _ k).1 hk
      rw [hX]; exact hx
    refine ⟨⟨Gi, hto.less hm, fun q => ?_, fun q k => ?_, fun k n => ?_, ?_, fun x hx => ?_⟩, rfl, fun ρ => ?_⟩
    · by_cases e : q = (a, b, c)
      · rw [if_pos e, e]; exact hRn
      · rw [if_neg e]; exact hRo q e
    · rw [hN]
      by_cases e : q = (a, b, c)
      · subst e
        rw [if_pos rfl]
        by_cases e2 : k ∈ hsO (G.R (a, b, c))
        · rw [if_pos ⟨rfl, e2⟩]
        · rw [if_neg (fun h => e2 h.2)]
          cases hx : G.N (a, b, c) k with
          | none => rfl
          | some n => exact absurd (hall k (by rw [hx]; rfl)) e2
      · rw [if_neg e, if_neg (fun h => e h.1)]
    · rw [hI]
      by_cases e : G.I k n = some (a, b, c)
      · rw [if_pos e]
        have := (h.nu k n (a, b, c)).1 e
        rw [if_pos ⟨e, hall k (by rw [this]; rfl)⟩]
      · rw [if_neg e, if_neg (fun h => e h.1)]
    · show RowB ym (pl v) _
      rw [e1]; exact hvi
    · have hx : slB v = (x : Int) + 1 := by rw [← e1]; exact hx
      obtain ⟨f1, f2⟩ := hf x hx
      refine ⟨f1, fun hd => ?_⟩
      rcases hto.dom x hd with hd | hn
      · exact f2 hd
      · exact hv.there hx hn
    · show pl v = pl (pl v)
      rw [e1, e1]
  obtain ⟨k, hk⟩ : ∃ k, (hsO (G.R (a, b, c)))[i]? = some k := ⟨_, List.getElem?_eq_getElem hlt⟩
  obtain ⟨k1, k2⟩ := k
  obtain ⟨g1, g2, g3, g4⟩ := hvi.get hk
  have hdrop : (hsO (G.R (a, b, c))).drop i = (k1, k2) :: (hsO (G.R (a, b, c))).drop (i + 1) := by
    rw [List.drop_eq_getElem_cons hlt]
    rw [List.getElem?_eq_getElem hlt] at hk
    rw [Option.some.inj hk]
  rw [hdrop] at hR
  obtain ⟨X, hX, hXh⟩ : ∃ X, Gi.R (a, b, c) = some X ∧ X.hs = (k1, k2) :: (hsO (G.R (a, b, c))).drop (i + 1) := by
    cases hX : Gi.R (a, b, c) with
    | none => rw [hX] at hR; cases hR
    | some X => rw [hX] at hR; exact ⟨X, rfl, hR⟩
  have hkm : (k1, k2) ∈ X.hs := by rw [hXh]; simp
  have hkok : okH (k1, k2) := (his.st _ X hX).1.rng hkm
  obtain ⟨n, hNk⟩ := Option.isSome_iff_exists.1 ((his.nh (a, b, c) (k1, k2)).2 ⟨X, hX, hkm⟩)
  have hn : inI n := his.nr _ _ _ hNk
  have hg := his.toGM
  obtain ⟨n1, n2⟩ := hg.lkN hp hkok
  rw [hNk] at n1
  have hvI : vI (nV (some n)) = n := rfl
  have eg : (Gi.g : Int) + 1 = (G.g : Int) + 1 := by rw [hto.g]
  have hnq := hg.nq hp hkok
  rw [hNk] at hnq
  have okL2 := hg.okL.2.2
  have c2 := hg.c2
  rw [eg] at okL2 c2
  simp only [g3, g4, c2, n1, hvI]
  rw [brT (by simp [iLt]; omega), brT g1, brT g2, brT (nz_p _), brT (nz_p _), brT okL2, sat_req]
  refine ⟨hnq, ?_⟩
  have hpre : gpushPre Gi ym ((G.g : Int) + 1) a b c k1 k2 n := ⟨eg.symm, his, hp, hkok, hn⟩
  rw [sat_req]
  refine ⟨⟨Gi, hpre⟩, ?_⟩
  rw [sat_any]
  rintro ⟨wi, wb, wv, wm⟩ hw
  have hIk := (his.nu (k1, k2) n (a, b, c)).2 hNk
  rcases hw Gi hpre with ⟨s1, _⟩ | ⟨_, _, X1, X', s1, s2, s3, s4⟩
  · exact absurd hIk s1
  simp only at s4
  rw [hX] at s1; cases s1
  rw [sat_req]
  refine ⟨⟨trivial, trivial⟩, ?_⟩
  have hX'h : X'.hs = (hsO (G.R (a, b, c))).drop (i + 1) := by rw [s3, hXh, List.erase_cons_head]
  have hin : iAdd .i64 (i : Int) 1 = ((i + 1 : Nat) : Int) := by rw [iadd_i (by omega)]; omega
  rw [hin]
  have htake : ∀ j, j ∈ (hsO (G.R (a, b, c))).take (i + 1) ↔ j = (k1, k2) ∨ j ∈ (hsO (G.R (a, b, c))).take i := fun j => by
    rw [List.take_add_one, hk]; simp [or_comm]
  refine ⟨N - 1, by omega, i + 1, Gi.go (a, b, c) (k1, k2) n X', by omega, rfl, hto.trans s4, ?_, fun q hq => ?_, fun q j => ?_, fun j n' => ?_⟩
  · show hsO (upd1 Gi.R (a, b, c) (goneR X') (a, b, c)) = _
    rw [show upd1 Gi.R (a, b, c) (goneR X') (a, b, c) = goneR X' from if_pos rfl, ← hX'h]
    unfold goneR
    cases he : X'.hs with
    | nil => rfl
    | cons x r => exact he
  · show upd1 Gi.R (a, b, c) (goneR X') q = _
    rw [show upd1 Gi.R (a, b, c) (goneR X') q = Gi.R q from if_neg hq]
    exact hRo q hq
  · show updN Gi.N (a, b, c) (k1, k2) none q j = _
    simp only [updN, htake]
    by_cases e : q = (a, b, c)
    · subst e
      by_cases e2 : j = (k1, k2)
      · subst e2; rw [if_pos ⟨rfl, rfl⟩, if_pos ⟨rfl, .inl rfl⟩]
      · rw [if_neg (fun h => e2 h.2), hN]
        by_cases e3 : j ∈ (hsO (G.R (a, b, c))).take i
        · rw [if_pos ⟨rfl, e3⟩, if_pos ⟨rfl, .inr e3⟩]
        · rw [if_neg (fun h => e3 h.2), if_neg (fun h => by rcases h.2 with h | h; exact e2 h; exact e3 h)]
    · rw [if_neg (fun h => e h.1), if_neg (fun h => e h.1), hN, if_neg (fun h => e h.1)]
  · show updI Gi.I (k1, k2) n none j n' = _
    simp only [updI, htake]
    have hknot : (k1, k2) ∉ (hsO (G.R (a, b, c))).take i := by
      intro hm
      have := hnd
      rw [← List.take_append_drop i (hsO (G.R (a, b, c))), hdrop, List.nodup_append] at this
      exact this.2.2 _ hm _ (by simp) rfl
    have hGI : G.I (k1, k2) n = some (a, b, c) := by
      have := hI (k1, k2) n
      rw [if_neg (fun h => hknot h.2)] at this
      rw [← this]; exact hIk
    by_cases e : j = (k1, k2)
    · subst e
      by_cases e2 : n' = n
      · subst e2; rw [if_pos ⟨rfl, rfl⟩, if_pos ⟨hGI, .inl rfl⟩]
      · rw [if_neg (fun h => e2 h.2), hI, if_neg (fun h => hknot h.2)]
        by_cases e3 : G.I (k1, k2) n' = some (a, b, c)
        · exfalso
          have x1 := (h.nu _ _ _).1 e3
          have x2 := (h.nu _ _ _).1 hGI
          rw [x1] at x2; cases x2; exact e2 rfl
        · rw [if_neg (fun h => e3 h.1)]
    · rw [if_neg (fun h => e h.1), hI]
      by_cases e3 : G.I j n' = some (a, b, c) ∧ j ∈ (hsO (G.R (a, b, c))).take i
      · rw [if_pos e3, if_pos ⟨e3.1, .inr e3.2⟩]
      · rw [if_neg e3, if_neg (fun h => by rcases h.2 with h2 | h2; exact e h2; exact e3 ⟨h.1, h2⟩)]
theorem gdrain_walk {m : Mem} {t a b c : Int} (G : GG) (hG : gatPre G m t a b c) : (T_gdrain m t a b c).sat (isMemo fun w x => gdrainPost m G (a, b, c) (yVal w x) ∧ (yVal w x).m = x ∧ ∀ ρ, w.den ρ = V.den ρ (.u (.c (.sv (hdV (yVal w x).v))))) := by
  obtain ⟨⟨rfl, h, hp⟩, hsz⟩ := hG
  have hg := h.toGM
  obtain ⟨n1, n2⟩ := glen_spec h hp
  unfold T_gdrain
  simp only [n2, hg.c0, hg.lkR hp]
  rw [sat_req]
  refine ⟨n1, ?_⟩
  obtain ⟨r1, r2, r3, r4, r5⟩ := rv_ok (G.R (a, b, c))
  cases hX : G.R (a, b, c) with
  | none =>
    rw [brT (by rfl)]
    refine ⟨⟨G, GG.to.refl h, fun q => ?_, fun q k => ?_, fun k n => ?_, ?_, fun x hx => ?_⟩, rfl, fun ρ => rfl⟩
    · by_cases e : q = (a, b, c)
      · rw [if_pos e, e]; exact hX
      · rw [if_neg e]
    · by_cases e : q = (a, b, c)
      · rw [if_pos e, e]
        cases hN : G.N (a, b, c) k with
        | none => rfl
        | some n => obtain ⟨X, h1, _⟩ := (h.nh _ k).1 (by rw [hN]; rfl); rw [hX] at h1; cases h1
      · rw [if_neg e]
    · by_cases e : G.I k n = some (a, b, c)
      · have := (h.nu k n _).1 e
        obtain ⟨X, h1, _⟩ := (h.nh _ k).1 (by rw [this]; rfl); rw [hX] at h1; cases h1
      · rw [if_neg e]
    · exact .inl ⟨rfl, by rw [hX]; rfl⟩
    · have : slB (.slice none 0 0) = (x : Int) + 1 := hx
      simp only [slB] at this; omega
  | some X =>
    have hne := (h.st _ X hX).2.1
    have hin := (h.st _ X hX).1
    have hl : iEq ((hsO (some X)).length : Int) 0 = false := by
      show iEq (X.hs.length : Int) 0 = false
      cases he : X.hs with
      | nil => exact absurd he hne
      | cons x r => simp [iEq]; omega
    have hrq := hg.rq hp
    rw [hX] at hrq r2 r3 r4 hsz
    rw [brF hl, brT (nz_p _), brT (nz_p _), brT hg.okL.1, sat_req]
    refine ⟨hrq, ?_⟩
    have fin : ∀ y : Vars, rowOf m X.hs (hdV y.v) y.m → (Tr.br (isSlV (pl (hdV y.v))) (T_dloop y.m ((G.g : Int) + 1) a b c (hdV y.v)) (.no 123)).sat (isMemo fun w x => gdrainPost m G (a, b, c) (yVal w x) ∧ (yVal w x).m = x ∧ ∀ ρ, w.den ρ = V.den ρ (.u (.c (.sv (hdV (yVal w x).v))))) := by
      intro y hy
      obtain ⟨s1, s2, s3⟩ := RowB.of hy
      obtain ⟨e1, e2, e3⟩ := s1.sl
      rw [brT (by rw [e1]; exact e2)]
      refine dloop_walk G (h.congr fun x hx => s2 x (h.there hx)) hp (by rw [hX]; exact s1) (fun x hx => ⟨s3 x hx, fun hd => h.there hd (s3 x hx)⟩) s2 (by rw [hX]; exact hsz)
    rw [brT r2, r3, r4]
    cases ht : X.tree with
    | false =>
      have hif : ifIs 112 (pl (rv (some X))) = true := by simp only [rv, Str.ifv, ht, mkIf_eq]; rfl
      have hl : lP (some X) = (X.t : Int) + 1 := by simp [lP, ht]
      obtain ⟨q1, q2⟩ := Str.lall hin ht hsz
      rw [brT hif, hl, sat_req]
      refine ⟨q1, ?_⟩
      rw [sat_any]
      exact fun y hy => ⟨⟨trivial, trivial⟩, fin y (q2 y hy)⟩
    | true =>
      have hif : ifIs 112 (pl (rv (some X))) = false := by simp only [rv, Str.ifv, ht, mkIf_eq]; rfl
      have hif2 : ifIs 24 (pl (rv (some X))) = true := by simp only [rv, Str.ifv, ht, mkIf_eq]; rfl
      have hl : tP (some X) = (X.t : Int) + 1 := by simp [tP, ht]
      obtain ⟨q1, q2⟩ := Str.tall hin ht hsz
      rw [brF hif, brT hif2, hl, sat_req]
      refine ⟨q1, ?_⟩
      rw [sat_any]
      exact fun y hy => ⟨⟨trivial, trivial⟩, fin y (q2 y hy)⟩
theorem t_gdrain (m : Mem) (t : Int) (pm ps pa : Int) : runm Try.prog [s_glen, s_all, s_lall, s_gremove] (drawh Try.prog [s_glen, s_all, s_lall, s_gremove] (fun _ _ => some ⟨[21], [], [0, 3, 4, 5, 19, 20], [0]⟩) (fun _ _ _ => none)) 300 38 [.u (.c (.np t 0)), .u (.agg [.si .i64 pm, .si .i64 ps, .si .i64 pa])] m [98, 92, 95, 142, 140, 137, 111, 107, 108, 109] = T_gdrain m t pm ps pa := by kernel_rfl
theorem s_gdrain_ok : SumOK Try.prog s_gdrain := by
  refine memSum_ok ⟨_, Try.func38, by kernel_rfl⟩ fun m args ms h hp hw ρ w hm => ?_
  split at h
  · split at h
    · rename_i a0 a1 _ _ t pm ps pa h0 h1
      cases h
      have hS : ∀ q ∈ [s_glen, s_all, s_lall, s_gremove], SumOK Try.prog q := (okc s_glen_ok (okc s_all_ok (okc s_lall_ok (okc s_gremove_ok okn))))
      exact mm_ghostY nameOK hS (drawh_sound nameOK hS (by kernel_rfl) _ _) 300 _ m _ (t_gdrain m t pm ps pa) yVal hp (fun G hG => gdrain_walk G hG) ρ w hm (by simp only [List.map_cons, List.map_nil, ptrOf_den h0, plaOf_den h1])
    · cases h
  · cases h
end Go.Proofs.Ytnlohongffpkpaa.T16
end

section
/- Layer 16: TreePlays' walk. A text of the session's own. -/
namespace Go.Proofs.Ytnlohongffpkpaa.T16
open Go Go.RowKit Go.Proofs.Ytnlohongffpkpaa.Sx Go.Proofs
set_option linter.unusedVariables false
set_option linter.unusedSimpArgs false

/-! where paths meet -/
def joinR (Q : Vars → Prop) (R : Leaf → Prop) : Leaf → Prop
  | .again y => hdI y.i = 1 ∧ Q ⟨tlI y.i, y.b, y.v, y.m⟩
  | .up l => R l
  | _ => False
def upR (R : Leaf → Prop) : Leaf → Prop
  | .up l => R l
  | _ => False
theorem sat_jn {R : Leaf → Prop} {m : Mem} {A : Tr} {f : Vars → (Nat → Value) → Tr} (Q : Vars → Prop) (hA : A.sat (joinR Q R))
    (hf : ∀ v j, hdI v.i = 1 → Q ⟨tlI v.i, v.b, v.v, v.m⟩ → (f v j).sat (upR R)) : (Tr.lp ⟨[0], [], [], m⟩ fun v j => .br (iZero? (hdI v.i)) A (f v j)).sat R := by
  refine ⟨fun v => hdI v.i = 0 ∨ (hdI v.i = 1 ∧ Q ⟨tlI v.i, v.b, v.v, v.m⟩), fun v => if hdI v.i = 0 then 1 else 0, .inl rfl, fun v j hv => ⟨fun hz => ?_, fun hz => ?_⟩⟩
  · have hz : hdI v.i = 0 := by simpa [iZero?] using hz
    refine sat_mono (fun l hl => ?_) hA
    cases l with
    | again y =>
      refine ⟨.inr hl, ?_⟩
      have h1 : hdI y.i = 1 := hl.1
      simp only [h1, hz]; decide
    | up l => exact hl
    | _ => exact hl.elim
  · have hz : ¬ hdI v.i = 0 := by simpa [iZero?] using hz
    rcases hv with hv | hv
    · exact absurd hv hz
    · refine sat_mono (fun l hl => ?_) (hf v j hv.1 hv.2)
      cases l with
      | up l => exact hl
      | _ => exact hl.elim

/-! a slice of steps -/
structure Stp where
  rm : Bool
  at' : Int
  s : Int
  g : Int
structure ArgS (l : Value) (xs : List Stp) (m : Mem) : Prop where
  sl : isSlV (pl l) = true
  n : slN (pl l) = xs.length
  at' : ∀ i : Nat, ∀ x, xs[i]? = some x → inSl (pl l) i = true ∧ okL m (slB (pl l)) (aOff (slO (pl l)) i 4) [.lb false, .li .i64 0, .li .i64 0, .li .u64 0] = true ∧ gB m (slB (pl l)) (aOff (slO (pl l)) i 4) = x.rm ∧ gI m (slB (pl l)) (.succ (aOff (slO (pl l)) i 4)) = x.at' ∧
    gI m (slB (pl l)) (.succ (.succ (aOff (slO (pl l)) i 4))) = x.s ∧ gI m (slB (pl l)) (.succ (.succ (.succ (aOff (slO (pl l)) i 4)))) = x.g
  rng : ∀ x ∈ xs, inI x.s ∧ inU x.g
theorem ArgS.more {l : Value} {xs : List Stp} {m m' : Mem} (h : ArgS l xs m) (hm : ∀ a, m a ≠ none → m' a = m a) : ArgS l xs m' := by
  refine ⟨h.sl, h.n, fun i x hx => ?_, h.rng⟩
  obtain ⟨a1, a2, a3, a4, a5, a6⟩ := h.at' i x hx
  obtain ⟨b1, b2⟩ := okL_more hm a2
  unfold gI at a4 a5 a6
  unfold gB at a3
  refine ⟨a1, b1, ?_, ?_, ?_, ?_⟩
  · unfold gB; rw [b2]; exact a3
  · unfold gI; rw [b2]; exact a4
  · unfold gI; rw [b2]; exact a5
  · unfold gI; rw [b2]; exact a6

/-! a tree and a list, in one memory -/
theorem lst_mem {S : TS} {b : Mem} {r : Int} {v : Value} {hs ks : List (Int × Int)} {y : Vars} (hF : Fre S b) (hL : Lst b r v hs) (h : lstPost (S.mem b) r ks y) :
    ∃ b' u, y.m = S.mem b' ∧ Fre S b' ∧ Lst b' r u ks ∧ ∀ a : Nat, b a ≠ none → (a : Int) + 1 ≠ r → b' a = b a := by
  obtain ⟨u, h1, h2, h3⟩ := h
  obtain ⟨⟨p0, rfl, hp0⟩, hsl⟩ := hL
  have hb0 : b p0 ≠ none := by rw [hp0]; simp
  have ht : p0 ≠ S.t := by rintro rfl; exact hb0 hF.t
  have hq : p0 ≠ S.q := by rintro rfl; exact hb0 hF.q
  have hH : S.H ((p0 : Int) + 1) = none := by
    cases e : S.H ((p0 : Int) + 1) with
    | none => rfl
    | some d => exact absurd (hF.H p0 (by rw [e]; simp)) hb0
  let b' : Mem := fun a => if a = S.t ∨ a = S.q ∨ S.H ((a : Int) + 1) ≠ none then none else y.m a
  have e0 : ∀ a, ¬ (a = S.t ∨ a = S.q ∨ S.H ((a : Int) + 1) ≠ none) → b' a = y.m a := fun a ha => by simp only [b', if_neg ha]
  have em : y.m = S.mem b' := by
    funext a
    by_cases ha : a = S.t ∨ a = S.q ∨ S.H ((a : Int) + 1) ≠ none
    · have hs : S.mem b a ≠ none ∧ S.mem b a = S.mem b' a := by
        unfold TS.mem
        by_cases e1 : a = S.t
        · simp [e1]
        · by_cases e2 : a = S.q
          · subst e2; simp [e1]
          · have e3 : S.H ((a : Int) + 1) ≠ none := by rcases ha with h | h | h; exact absurd h e1; exact absurd h e2; exact h
            cases e : S.H ((a : Int) + 1) with
            | none => exact absurd e e3
            | some d => simp [e1, e2]
      have hne : (a : Int) + 1 ≠ (p0 : Int) + 1 := by
        intro e
        have : a = p0 := by omega
        subst this
        rcases ha with h | h | h
        · exact ht h
        · exact hq h
        · exact h hH
      rw [h2 a hs.1 hne, hs.2]
    · rw [← e0 a ha]
      have h' := ha
      simp only [not_or, Decidable.not_not] at h'
      obtain ⟨x1, x2, x3⟩ := h'
      simp [TS.mem, x1, x2, x3]
  have hpn : ¬ (p0 = S.t ∨ p0 = S.q ∨ S.H ((p0 : Int) + 1) ≠ none) := by simp [ht, hq, hH]
  refine ⟨b', u, em, ⟨by simp [b'], by simp [b'], fun a ha => by simp [b', ha]⟩, ⟨⟨p0, rfl, ?_⟩, ?_⟩, fun a ha hne => ?_⟩
  · obtain ⟨a, ha, h4⟩ := h1.hd
    have : a = p0 := by omega
    subst this
    rw [e0 _ hpn]; exact h4
  · refine h1.sl.more fun a ha _ => ?_
    have := h3 a ha
    obtain ⟨x1, x2, x3⟩ := free_at this
    exact e0 a (by simp [x1, x2, x3])
  · have hs : S.mem b a = b a := hF.more a ha
    have x1 : a ≠ S.t := by rintro rfl; exact ha hF.t
    have x2 : a ≠ S.q := by rintro rfl; exact ha hF.q
    have x3 : S.H ((a : Int) + 1) = none := by
      cases e : S.H ((a : Int) + 1) with
      | none => rfl
      | some d => exact absurd (hF.H a (by rw [e]; simp)) ha
    rw [e0 a (by simp [x1, x2, x3]), h2 a (by rw [hs]; exact ha) hne, hs]
/-- what holds ahead of each step -/
def PlI (m0 : Mem) (p r : Int) (k : Nat) (m : Mem) : Prop :=
  ∃ (S : TS) (b : Mem) (t : T) (n : Nat) (v : Value), m = S.mem b ∧ S.p = p ∧ Tre S t n ∧ Fre S b ∧ (∀ a, m0 a ≠ none → b a = m0 a) ∧ Lst b r v (hans t) ∧ t.size ≤ k ∧ ∀ a : Nat, r = (a : Int) + 1 → m0 a = none
theorem PlI.of {m0 : Mem} {p r : Int} {k : Nat} {S : TS} {b : Mem} {t : T} {n : Nat} {v : Value} {hs : List (Int × Int)} {y : Vars} (e1 : S.p = p) (hT : Tre S t n) (hF : Fre S b) (hk : ∀ a, m0 a ≠ none → b a = m0 a) (hL : Lst b r v hs) (hs' : t.size ≤ k) (hr : ∀ a : Nat, r = (a : Int) + 1 → m0 a = none)
    (h : lstPost (S.mem b) r (hans t) y) : PlI m0 p r k y.m := by
  obtain ⟨b', u, h1, h2, h3, h4⟩ := lst_mem hF hL h
  refine ⟨S, b', t, n, u, h1, e1, hT, h2, fun a ha => ?_, h3, hs', hr⟩
  rw [h4 a (by rw [hk a ha]; exact ha) (fun e => ha (hr a e.symm)), hk a ha]
end Go.Proofs.Ytnlohongffpkpaa.T16
end

section
/- Layer 16: TreePlays' contract. A text of the session's own. -/
namespace Go.Proofs.Ytnlohongffpkpaa.T16
open Go Go.RowKit Go.Proofs.Ytnlohongffpkpaa.Sx Go.Proofs Go.WideShapes Go.ChangeShapes
set_option linter.unusedVariables false
set_option linter.unusedSimpArgs false

theorem wf_inI {n : Int} (h : (Lit.int .i64 n).wf = true) : inI n := by
  have e1 : IntKind.min .i64 = -9223372036854775808 := rfl
  have e2 : IntKind.max .i64 = 9223372036854775807 := rfl
  simp only [Lit.wf, e1, e2, Bool.and_eq_true, decide_eq_true_eq] at h
  unfold inI; omega
theorem wf_inU {n : Int} (h : (Lit.int .u64 n).wf = true) : inU n := by
  have e1 : IntKind.min .u64 = 0 := rfl
  have e2 : IntKind.max .u64 = 18446744073709551615 := rfl
  simp only [Lit.wf, e1, e2, Bool.and_eq_true, decide_eq_true_eq] at h
  unfold inU; omega
section
variable {H : Type} {enc : TypeId × Value → H} {P : Program} {W : World} {base : Nat} {sp : Nat → Bool} {held : Bool}
theorem han_cells {t n : Nat} {cs : List Value} {x : DataW H × List MemPlace} (ht : hTy P t = true) (h : DataW.trod enc P W base sp held n t cs = some x) : ∃ s g, cs = [.int .i64 s, .int .u64 g] ∧ inI s ∧ inU g := by
  unfold hTy at ht
  split at ht
  · rename_i fs hu
    split at ht
    · rename_i f g hfs
      simp only [Bool.and_eq_true] at ht
      obtain ⟨⟨⟨⟨⟨⟨⟨⟨a1, a2⟩, a3⟩, a4⟩, a5⟩, a6⟩, a7⟩, a8⟩, a9⟩ := ht
      replace a3 := Nat.eq_of_beq_eq_true a3
      replace a4 := Nat.eq_of_beq_eq_true a4
      replace a5 := Nat.eq_of_beq_eq_true a5
      replace a6 := Nat.eq_of_beq_eq_true a6
      replace a7 := Nat.eq_of_beq_eq_true a7
      have hf : fs = #[f, g] := by rw [← Array.toArray_toList (xs := fs), hfs]
      subst hf
      have u1 : P.underlying f.type = some (.int .i64) := by revert a8; split <;> simp_all
      have u2 : P.underlying g.type = some (.int .u64) := by revert a9; split <;> simp_all
      obtain ⟨xs, k, _, _, hl, hxl, hall⟩ := DataW.trod_struct hu h
      rw [a7] at hl
      match cs, hl with
      | [v0, v1], _ =>
        match xs, hxl with
        | [y0, y1], _ =>
          have g0 := hall 0 f rfl
          have g1 := hall 1 g rfl
          simp [a3, a4, a5, a6] at g0 g1
          obtain ⟨s, e0, _, w0⟩ := DataW.trod_int u1 g0
          obtain ⟨q, e1, _, w1⟩ := DataW.trod_int u2 g1
          simp only [List.cons.injEq, and_true] at e0 e1
          subst e0 e1
          exact ⟨s, q, rfl, wf_inI w0, wf_inU w1⟩
    · cases ht
  · cases ht
instance : Inhabited Stp := ⟨⟨false, 0, 0, 0⟩⟩
end
end Go.Proofs.Ytnlohongffpkpaa.T16
end

section
/- Layer 17: Places: the keys of a map, gathered. A text of the session's own, after the kit's worked walks of such iterators. -/
namespace Go.Proofs.Ytnlohongffpkpaa.T16
open Go Go.RowKit Go.Shelf Go.Proofs.Ytnlohongffpkpaa.Sx Go.Proofs
set_option linter.unusedVariables false
set_option linter.unusedSimpArgs false

attribute [local go_sem] Oper.semAt_some

/-! what reads as a key is a place -/
theorem flds_inv {P : Program} {f : TypeId → Option (List IntKind)} {g : TypeId → List Value → Option (List Lit)}
    (hg : ∀ t ks cs x, f t = some ks → g t cs = some x → ∃ ls : KI, ls.map (·.1) = ks ∧ kWf ls ∧ cs = kVals ls) :
    ∀ (fs : List Field) (o : Nat) (ks : List IntKind), fldKs P f o fs = some ks → ∀ (cs : List Value) (x : List (List Lit)), (fs.mapM fun y => g y.type ((cs.drop y.offset).take (P.cellsOf y.type))) = some x →
      ∃ ls : KI, ls.map (·.1) = ks ∧ kWf ls ∧ (cs.drop o).take ks.length = kVals ls
  | [], o, ks, h, cs, x, hx => by
    cases h
    exact ⟨[], rfl, fun _ h => by simp at h, by simp [kVals]⟩
  | y :: r, o, ks, h, cs, x, hx => by
    simp only [fldKs] at h
    split at h
    · rename_i ks1 hn hf
      split at h
      · rename_i rest h1 h2
        cases h
        rw [Bool.and_eq_true] at hn
        have ho := Nat.eq_of_beq_eq_true hn.2
        have hc := Nat.eq_of_beq_eq_true h1
        rw [List.mapM_cons] at hx
        cases e1 : g y.type ((cs.drop y.offset).take (P.cellsOf y.type)) with
        | none => rw [e1] at hx; cases hx
        | some x1 =>
          rw [e1] at hx
          cases e2 : (r.mapM fun y => g y.type ((cs.drop y.offset).take (P.cellsOf y.type))) with
          | none => rw [e2] at hx; cases hx
          | some x2 =>
            obtain ⟨l1, a1, a2, a3⟩ := hg _ _ _ _ hf e1
            obtain ⟨l2, b1, b2, b3⟩ := flds_inv hg r (o + ks1.length) rest h2 cs x2 e2
            refine ⟨l1 ++ l2, by simp [a1, b1], fun z hz => (List.mem_append.1 hz).elim (a2 z) (b2 z), ?_⟩
            rw [ho, hc] at a3
            rw [kVals_app, ← a3, ← b3, List.length_append, ← List.drop_drop, ← List.take_add]
      · cases h
    · cases h
theorem keyLits_inv {P : Program} : ∀ (d : Nat) (t : TypeId) (ks : List IntKind), kKinds P d t = some ks → ∀ (e : Nat) (cs : List Value) (x : List Lit), P.keyLits (d + e) t cs = some x → ∃ ls : KI, ls.map (·.1) = ks ∧ kWf ls ∧ cs = kVals ls
  | 0, _, _, h, _, _, _, _ => by cases h
  | d + 1, t, ks, h, e, cs, x, hx => by
    simp only [kKinds] at h
    rw [show d + 1 + e = (d + e) + 1 by omega] at hx
    unfold Program.keyLits at hx
    split at h
    · rename_i q hu
      cases h
      rw [hu] at hx
      obtain ⟨n, rfl⟩ : ∃ n, cs = [.int q n] := by
        rcases cs with _ | ⟨v, _ | ⟨v2, r⟩⟩
        · simp at hx
        · cases v with
          | int q' n =>
            simp only at hx
            split at hx
            · rename_i hq; exact ⟨n, by rw [hq.1]⟩
            · cases hx
          | _ => simp at hx
        · cases v <;> simp at hx
      refine ⟨[(q, n)], rfl, fun z hz => ?_, rfl⟩
      simp only at hx
      split at hx
      · rename_i hq
        simp at hz; subst hz; exact hq.2
      · cases hx
    · rename_i fs hu
      split at h
      · rename_i ks' hf
        split at h
        · rename_i hc
          cases h
          have hc := Nat.eq_of_beq_eq_true hc
          rw [hu] at hx
          simp only at hx
          split at hx
          · rename_i hl
            obtain ⟨y, hy, _⟩ := Option.map_eq_some_iff.1 hx
            obtain ⟨ls, a1, a2, a3⟩ := flds_inv (g := fun t cs => P.keyLits (d + e) t cs) (fun t ks cs x h hx => keyLits_inv d t ks h e cs x hx) fs.toList 0 ks hf cs y hy
            refine ⟨ls, a1, a2, ?_⟩
            rw [← a3, List.drop_zero, List.take_of_length_le (by omega)]
          · cases hx
        · cases h
      · cases h
    · cases h
theorem key59_inv {v : Value} {l : Lit} (h : keyOf Try.prog 59 v = some l) : ∃ p : Pl, v = pKey p ∧ okP' p := by
  have hu : ∃ fs, Try.prog.underlying 59 = some (.struct fs) := ⟨_, Try.underlying59⟩
  obtain ⟨fs, hu⟩ := hu
  unfold Go.keyOf at h
  rw [hu] at h
  simp only at h
  split at h
  · rename_i hf
    rw [Bool.and_eq_true] at hf
    obtain ⟨x, hx, _⟩ := Option.map_eq_some_iff.1 h
    obtain ⟨e, he⟩ : ∃ e, Try.prog.types.size + 1 = 3 + e := ⟨Try.prog.types.size + 1 - 3, by have : 2 ≤ Try.prog.types.size := of_decide_eq_true (by kernel_rfl); omega⟩
    rw [he] at hx
    have hk : kKinds Try.prog 3 59 = some [.i64, .i64, .i64] := by kernel_rfl
    obtain ⟨ls, a1, a2, a3⟩ := keyLits_inv 3 59 _ hk e _ x hx
    match ls, a1 with
    | [(q1, n1), (q2, n2), (q3, n3)], a1 =>
      simp only [List.map_cons, List.map_nil, List.cons.injEq, and_true] at a1
      obtain ⟨rfl, rfl, rfl⟩ := a1
      refine ⟨(n1, n2, n3), ?_, ?_⟩
      · have hv : ∃ cs, v = .agg cs := by
          have h2 := hf.2
          unfold Value.formed at h2
          cases v with
          | agg cs => exact ⟨cs, rfl⟩
          | _ => simp [hu] at h2
        obtain ⟨cs, rfl⟩ := hv
        simp only [Value.cells] at a3
        exact congrArg Value.agg (Array.ext' a3)
      · have w1 := a2 (.i64, n1) (by simp)
        have w2 := a2 (.i64, n2) (by simp)
        have w3 := a2 (.i64, n3) (by simp)
        refine ⟨?_, ?_, ?_⟩
        · exact wf_inI w1
        · exact wf_inI w2
        · exact wf_inI w3
  · cases h

/-! a range over a map, by the raw entries -/
section
variable {F : Fence} {n : Nat} {P : Program} (w : World) {ops : Array Oper} {rest : List Oper} {o : Oper} {a : Act} {Q : Exit → Act → World → Prop}
theorem wpListIn_range_raw (hg : o.guard = none) (m : Operand) (t : TypeId) (hop : o.op = Op.range t m) (k e : TypeId) (ht : P.underlying t = some (.map k e)) (b : Nat) (es : Array MapEntry) (c : Nat) (hm : a.eval m = .map (some b)) (hb : w.heap[b]? = some (.map es c))
    (hK : wpListIn F n P ops Q rest (a.put o.dst (.pointer (some ⟨w.heap.size, 0, none⟩))) (w.alloc (.mapIter (some b) c #[] c))) :
    wpListIn F n P ops Q (o :: rest) a w := by
  refine wpListIn_plain hg fun K' hK' => ?_
  unfold Oper.wpIn
  refine ⟨?_, ?_⟩
  · simp [Oper.about, hop]
  · rw [Oper.semAt_plain F _ _ (by rw [hop]; intro c hc'; cases hc')]
    simp [execOp, hop, hm, run_range_map w t k e b es c ht hb, Result.andThen]
    exact hK' _ _ hK
def NoneLeft (es : Array MapEntry) (seen : Array Nat) : Prop := (leftOf es seen).size = 0
def IsLeft (e : MapEntry) (es : Array MapEntry) (seen : Array Nat) : Prop := e ∈ (leftOf es seen).toList
def KeyAt (kp : MapEntry → Pl) (e : MapEntry) (x1 x2 x3 : Int) : Prop := kp e = (x1, x2, x3)
theorem wpListIn_next_raw (hg : o.guard = none) (it : Operand) (hop : o.op = Op.next it false) (kp : MapEntry → Pl) (b r since last c : Nat) (seen : Array Nat) (es : Array MapEntry)
    (hit : a.eval it = .pointer (some ⟨r, 0, none⟩)) (hr : w.heap[r]? = some (.mapIter (some b) since seen last)) (hb : w.heap[b]? = some (.map es c)) (hne : r ≠ b) (hold : ∀ x ∈ es.toList, x.born < since) (hsc : since ≤ last) (hn : (es.toList.map (·.born)).Nodup) (hkp : ∀ e ∈ es.toList, e.key = pKey (kp e))
    (hDone : NoneLeft es seen → wpListIn F n P ops Q rest (a.put o.dst (.tuple #[.bool false])) w)
    (hMore : ∀ (e : MapEntry) (x1 x2 x3 : Int) (u : Value) (w' : World), IsLeft e es seen → KeyAt kp e x1 x2 x3 → w'.heap[r]? = some (.mapIter (some b) since (seen.push e.born) c) → w.grownBy w' (some r) → w'.heap.size = w.heap.size →
      (Instr.entry (.pointer (some ⟨r, 0, none⟩))).run P w' = .ok (.tuple #[.agg #[.int .i64 x1, .int .i64 x2, .int .i64 x3], u]) w' → wpListIn F n P ops Q rest (a.put o.dst (.tuple #[.bool true, .agg #[.int .i64 x1, .int .i64 x2, .int .i64 x3], u])) w') :
    wpListIn F n P ops Q (o :: rest) a w := by
  refine wpListIn_plain hg fun K' hK' => ?_
  unfold Oper.wpIn
  refine ⟨by simp [Oper.about, hop], ?_⟩
  rw [Oper.semAt_plain F _ _ (by rw [hop]; intro c hc'; cases hc')]
  rcases run_next_at (P := P) w o.type r b since last seen es c hr hb hold hsc with ⟨h0, hrun⟩ | ⟨e, he, w1, hal, hrun⟩
  · simp [execOp, hop, hit, hrun, Result.andThen]
    exact hK' _ _ (hDone h0)
  · obtain ⟨hem, hes⟩ := mem_left he
    have hr1 : w1.heap[r]? = some (.mapIter (some b) since seen last) := by rcases hal with rfl | rfl <;> exact hr
    have hb1 : w1.heap[b]? = some (.map es c) := by rcases hal with rfl | rfl <;> exact hb
    have hset := MapKept.heap_set (o' := .mapIter (some b) since (seen.push e.born) c) hr1
    have hb' : (ChangeMaps.setBlock w1 r (.mapIter (some b) since (seen.push e.born) c)).heap[b]? = some (.map es c) := (hset.2 b (fun e1 => hne e1.symm)).trans hb1
    have hkey := hkp e hem
    have hen := run_entry_at (P := P) _ r b since seen es c e hset.1 hb' hem hn
    rw [hkey] at hrun hen
    simp [execOp, hop, hit, hrun, Result.andThen]
    refine hK' _ _ (hMore e _ _ _ e.val _ he rfl hset.1 ?_ ?_ hen)
    · rcases hal with rfl | rfl <;> exact ⟨rfl, rfl, rfl, by simp [ChangeMaps.setBlock], fun i _ hi => hset.2 i (fun e1 => hi (by rw [e1]))⟩
    · rcases hal with rfl | rfl <;> simp [ChangeMaps.setBlock]
end
end Go.Proofs.Ytnlohongffpkpaa.T16
end

section
/- Layer 17: Places: the keys of a map, gathered into a slice. A text of the session's own, after the kit's worked walks of such iterators. -/
namespace Go.Proofs.Ytnlohongffpkpaa.T16
open Go Go.RowKit Go.Shelf Go.Proofs.Ytnlohongffpkpaa.Sx Go.Proofs
set_option linter.unusedVariables false
set_option linter.unusedSimpArgs false

attribute [local go_sem] Oper.semAt_some

def pEnc (p : Pl) : List Value := [.int .i64 p.1, .int .i64 p.2.1, .int .i64 p.2.2]
def pCells (l : List Pl) : List Value := l.flatMap pEnc
theorem pCells_snoc (l : List Pl) (x : Pl) : pCells (l ++ [x]) = pCells l ++ [.int .i64 x.1, .int .i64 x.2.1, .int .i64 x.2.2] := by simp [pCells, pEnc]
/-- what a round finds, and leaves -/
structure GatI (w : World) (lo : Loop) (pre : List Pl) (v : Value) (W : World) : Prop where
  box : W.heap[w.heap.size]? = some (.cells #[v] 80 (0, 0))
  row : W.ownsRow w.heap.size 59 3 v pre.length (pCells pre)
  below : Below w.heap.size w W
  loop : W.heap[w.heap.size + 2]? = some (.loop lo)
  df : W.heap[w.heap.size + 1]? = some (.deferred (some []))
theorem prow_ne {W : World} {base : Nat} {v : Value} {n : Nat} {xs : List Value} (h : W.ownsRow base 59 3 v n xs) {j : Nat} {o : Obj} (hj : W.heap[j]? = some o) (ho : ∀ cur, o ≠ .cells cur 59 (0, 0)) : v.ownBlock = none ∨ v.ownBlock ≠ some j := by
  rcases h.2 with ⟨rfl, _⟩ | ⟨g, cap, cur, rfl, _, hg, _⟩
  · exact .inl rfl
  · refine .inr fun e => ?_
    simp only [Value.ownBlock, Option.some.injEq] at e
    subst e
    rw [hg] at hj; cases hj
    exact ho cur rfl
theorem GatI.turn {w W W' : World} {lo : Loop} {pre : List Pl} {v : Value} (h : GatI w lo pre v W) {r : Option Nat} (hg : W.grownBy W' r) (hr : ∀ k, r = some k → w.heap.size < k ∧ k ≠ w.heap.size + 1 ∧ k ≠ w.heap.size + 2) (hv : v.ownBlock = none ∨ v.ownBlock ≠ r) : GatI w lo pre v W' := by
  have lt : ∀ {k : Nat} {o : Obj}, W.heap[k]? = some o → k < W.heap.size := fun h => (Array.getElem?_eq_some_iff.1 h).1
  refine ⟨(hg.block _ (lt h.box) fun e => ?_).trans h.box, h.row.kept hg hv, h.below.grown hg h.below.size (fun k e => by have := hr k e; omega), (hg.block _ (lt h.loop) fun e => ?_).trans h.loop, (hg.block _ (lt h.df) fun e => ?_).trans h.df⟩
  · have := hr _ e.symm; omega
  · have := hr _ e.symm; omega
  · have := hr _ e.symm; omega
/-- an iterator's own step -/
theorem GatI.walk {w W W' : World} {lo : Loop} {pre : List Pl} {v : Value} (h : GatI w lo pre v W) {r : Nat} {o : Obj} (ho : W.heap[r]? = some o) (hw : o.isWalk = true) (hr : w.heap.size ≤ r) (hg : W.grownBy W' (some r)) : GatI w lo pre v W' := by
  refine h.turn hg (fun k e => ?_) ?_
  · cases e
    refine ⟨?_, ?_, ?_⟩
    · rcases Nat.lt_or_eq_of_le hr with h1 | h1
      · exact h1
      · subst h1; rw [h.box] at ho; cases ho; cases hw
    · rintro rfl; rw [h.df] at ho; cases ho; cases hw
    · rintro rfl; rw [h.loop] at ho; cases ho; cases hw
  · exact prow_ne h.row ho (fun cur e => by subst e; cases hw)
theorem GatI.put {w W : World} {lo : Loop} {pre : List Pl} {v : Value} (h : GatI w lo pre v W) (lo' : Loop) : GatI w lo' pre v (W.putObj (w.heap.size + 2) (.loop lo')) := by
  have lt : ∀ {k : Nat} {o : Obj}, W.heap[k]? = some o → k < W.heap.size := fun h => (Array.getElem?_eq_some_iff.1 h).1
  have hg := grownBy_putObj' W (w.heap.size + 2) (.loop lo')
  refine ⟨(World.putObj_heap_other (by omega)).trans h.box, h.row.kept hg (prow_ne h.row h.loop (fun cur e => by cases e)), h.below.grown hg h.below.size (fun k e => by cases e; omega), World.putObj_heap_same (lt h.loop), (World.putObj_heap_other (by omega)).trans h.df⟩

/-- how far a range has come: the entries seen, and what was told -/
def Told {α : Type} (es : Array MapEntry) (kp : MapEntry → α) (seen : Array Nat) (pre : List α) : Prop := ∃ D : List MapEntry, (∀ e ∈ D, e ∈ es.toList) ∧ seen.toList = D.map (·.born) ∧ pre = D.map kp ∧ (D.map (·.born)).Nodup
theorem Told.start {α : Type} (es : Array MapEntry) (kp : MapEntry → α) : Told es kp #[] [] := ⟨[], by simp, rfl, rfl, by simp⟩
theorem Told.step {α : Type} {es : Array MapEntry} {kp : MapEntry → α} {seen : Array Nat} {pre : List α} (h : Told es kp seen pre) {e : MapEntry} (he : e ∈ (leftOf es seen).toList) : Told es kp (seen.push e.born) (pre ++ [kp e]) := by
  obtain ⟨D, h1, h2, h3, h4⟩ := h
  obtain ⟨g1, g2⟩ := mem_left he
  refine ⟨D ++ [e], fun x hx => ?_, by simp [h2], by simp [h3], ?_⟩
  · rcases List.mem_append.1 hx with hx | hx
    · exact h1 x hx
    · simp at hx; subst hx; exact g1
  · rw [List.map_append, List.nodup_append]
    refine ⟨h4, by simp, fun x hx y hy e' => ?_⟩
    simp at hy
    subst hy e'
    rw [← h2] at hx
    have : seen.contains e.born = true := by simpa using hx
    rw [g2] at this; cases this
theorem nodup_le {α : Type} [DecidableEq α] : ∀ {l l' : List α}, l.Nodup → (∀ x ∈ l, x ∈ l') → l.length ≤ l'.length
  | [], _, _, _ => Nat.zero_le _
  | x :: r, l', hn, hs => by
    rw [List.nodup_cons] at hn
    have hx := hs x (by simp)
    have := nodup_le (l' := l'.erase x) hn.2 fun y hy => (List.mem_erase_of_ne (fun e => hn.1 (by rw [← e]; exact hy))).2 (hs y (by simp [hy]))
    have h2 := List.length_erase_of_mem hx
    have h3 := List.length_pos_of_mem hx
    simp only [List.length_cons]; omega
theorem Told.len {α : Type} {es : Array MapEntry} {kp : MapEntry → α} {seen : Array Nat} {pre : List α} (h : Told es kp seen pre) {e : MapEntry} (he : e ∈ (leftOf es seen).toList) (hn : (es.toList.map (·.born)).Nodup) : pre.length < es.size := by
  obtain ⟨D, h1, h2, h3, h4⟩ := h.step he
  have : (D.map (·.born)).length ≤ (es.toList.map (·.born)).length := nodup_le h4 (fun x hx => by
    obtain ⟨y, hy, rfl⟩ := List.mem_map.1 hx
    exact List.mem_map_of_mem (h1 y hy))
  have h5 := congrArg List.length h3
  simp at this h5
  omega
theorem Told.all {α : Type} {es : Array MapEntry} {kp : MapEntry → α} {seen : Array Nat} {pre : List α} (h : Told es kp seen pre) (h0 : (leftOf es seen).size = 0) (hn : (es.toList.map (·.born)).Nodup) : pre.Perm (es.toList.map kp) := by
  obtain ⟨D, h1, h2, h3, h4⟩ := h
  rw [h3]
  refine List.Perm.map kp ?_
  have nd : D.Nodup := (List.pairwise_map.1 h4).imp fun h e => h (by rw [e])
  have nd2 : es.toList.Nodup := (List.pairwise_map.1 hn).imp fun h e => h (by rw [e])
  refine (List.perm_ext_iff_of_nodup nd nd2).2 fun x => ⟨h1 x, fun hx => ?_⟩
  have hc := all_seen es seen h0 x hx
  have hc : x.born ∈ seen.toList := by simpa using hc
  rw [h2] at hc
  obtain ⟨y, hy, e⟩ := List.mem_map.1 hc
  rw [← born_inj hn (h1 y hy) hx e]; exact hy

set_option maxRecDepth 100000 in
set_option maxHeartbeats 4000000 in
theorem keys1_in (F : Fence) (n : Nat) (h83 : F.fn 83) (hro : F.round = none) (l Bm b c : Nat) (w : World) (lo : Loop) (es : Array MapEntry) (kp : MapEntry → Pl)
    (hY : ∀ pre x v W, GatI w lo pre v W → pre.length < es.size → YieldAt F (n - 1) Try.prog l #[pKey x] W fun e W' => e = .returned (.bool true) ∧ (∃ v', GatI w lo (pre ++ [x]) v' W') ∧ KeepsWalks W W')
    (hd : F.depth = none) (hbl : b < w.heap.size) (hst : MapKept.Stamped es c) (hkp : ∀ e ∈ es.toList, e.key = pKey (kp e)) (hb : w.heap[b]? = some (.map es c))
    (W : World) (v0 : Value) (hBm : W.cell? ⟨Bm, 0, none⟩ = some (.map (some b))) (h0 : GatI w lo [] v0 W) :
    CallsIn F n Try.prog 83 #[.func (.yield l) #[] #[], .pointer (some ⟨Bm, 0, none⟩)] W fun e W' => (∃ v, e = .returned v) ∧ ∃ ps v, ps.Perm (es.toList.map kp) ∧ GatI w lo ps v W' := by
  obtain ⟨st1, st2, st3⟩ := (MapKept.stamped_iff es c).1 hst
  have hdd : ∀ k : Nat, (F.depth.isSome = true → 1 ≤ k) := fun k h => by rw [hd] at h; cases h
  have u107 : Try.prog.underlying 107 = some (.map 59 123) := by kernel_rfl
  have hbW : ∀ {W' : World} {pre v}, GatI w lo pre v W' → W'.heap[b]? = some (.map es c) := fun h => (h.below.block b hbl).trans hb
  refine callsIn_of_wp Try.func83 rfl h83 ?_ hro
  simp only [Try.ntmps83, List.size_toArray, List.length_cons, List.length_nil, Nat.reduceAdd, Nat.reduceSub, Array.replicate_succ, Array.replicate_zero, List.push_toArray, List.append_toArray, List.nil_append, List.cons_append]
  have hbs : b ≠ W.heap.size := by have := h0.below.size; omega
  gi_wp2_with (first
    | (gi_at_range; refine wpListIn_range_raw _ rfl _ 107 rfl 59 123 u107 b es c rfl (hbW h0) ?_)
    | gi_in)
  go_frame
  gi_loopw [3] (fun _ wr => ∃ (seen : Array Nat) (last : Nat) (pre : List Pl) (v : Value), wr.heap[W.heap.size]? = some (.mapIter (some b) c seen last) ∧ c ≤ last ∧ Told es kp seen pre ∧ GatI w lo pre v wr)
    (fun _ wr => wr.rangeLeft b W.heap.size)
  case atStart =>
    exact ⟨#[], c, [], v0, World.alloc_heap_new W _, Nat.le_refl _, Told.start _ _, h0.turn (World.grownBy_alloc W _ none) (fun k e => by cases e) (by cases v0.ownBlock <;> simp)⟩
  case round =>
    obtain ⟨seen, last, pre, v, hit, hcl, hT, hG⟩ := hrel
    have hws : w.heap.size ≤ W.heap.size := h0.below.size
    gi_wp2_with (first
      | (gi_at_next; refine wpListIn_next_raw _ rfl _ rfl kp b W.heap.size c last c seen es rfl hit (hbW hG) (Ne.symm hbs) st1 hcl st2 hkp ?_ ?_)
      | gi_in)
    · intro h00
      gi_wp2
      go_end0
      exact ⟨⟨_, rfl⟩, pre, v, hT.all h00 st2, hG⟩
    · intro e x1 x2 x3 u w2 he hx hit2 hg2 hs2 hen
      obtain ⟨x, rfl, rfl, rfl⟩ : ∃ x : Pl, x.1 = x1 ∧ x.2.1 = x2 ∧ x.2.2 = x3 := ⟨(x1, x2, x3), rfl, rfl, rfl⟩
      have hx : kp e = x := hx
      have hG2 : GatI w lo pre v w2 := hG.walk hit rfl hws hg2
      have hG3 : GatI w lo pre v (w2.alloc (.cells #[.int .i64 x.1, .int .i64 x.2.1, .int .i64 x.2.2] 59)) := hG2.turn (World.grownBy_alloc w2 _ none) (fun k e => by cases e) (by cases v.ownBlock <;> simp)
      have hit3 : (w2.alloc (.cells #[.int .i64 x.1, .int .i64 x.2.1, .int .i64 x.2.2] 59)).heap[W.heap.size]? = some (.mapIter (some b) c (seen.push e.born) c) := (Below.heap_alloc _ _ _ (Array.getElem?_eq_some_iff.1 hit2).1).trans hit2
      obtain ⟨fn, tmps, assign, body, hy, hR⟩ := hY pre x v _ hG3 (hT.len he st2)
      clear hs2
      gi_wp2
      refine hR.mono ?_
      rintro e' W3 ⟨rfl, ⟨v', hG4⟩, hk4⟩
      gi_wp2
      have hit4 := hk4.same _ _ hit3 rfl
      go_roundw
      case rel => exact ⟨_, c, pre ++ [x], v', hit4, Nat.le_refl _, hx ▸ hT.step he, hG4⟩
      case measure =>
        unfold World.rangeLeft
        rw [hbW hG4, hit4, hbW hG, hit]
        exact left_shrinks es seen e he

theorem gat_loop {F : Fence} (hd : F.depth = none) {n : Nat} (h83 : F.fn 83) (hro : F.round = none) (h1 : 1 ≤ n) {w w2 : World} {A B : Code} {Q : Exit → Act → World → Prop} {act : Act} {Bm b c : Nat} {es : Array MapEntry} {kp : MapEntry → Pl}
    (hev : act.eval (Operand.tmp 6) = .func (.func 83) #[] #[.pointer (some ⟨Bm, 0, none⟩)]) (hbl : b < w.heap.size) (hst : MapKept.Stamped es c) (hkp : ∀ e ∈ es.toList, e.key = pKey (kp e)) (hb : w.heap[b]? = some (.map es c)) (hBm : w.cell? ⟨Bm, 0, none⟩ = some (.map (some b))) (hBl : Bm < w.heap.size)
    (hs2 : w2.heap.size = w.heap.size + 1) (hb2 : Below w.heap.size w w2) (hbox : w2.heap[w.heap.size]? = some (.cells #[.slice none 0 0] 80 (0, 0)))
    (hround : ∀ (lo : Loop) (pre : List Pl) (x : Pl) (v : Value) (W : World), lo.state = .ready → lo.pending = none → GatI w lo pre v W → pre.length < es.size →
      A.wpIn (F.inRound (w.heap.size + 2)) (n - 1 - 1) Try.prog (Exit.then (fun a₁ w₁ => ∃ w₂, (Instr.beginRound (w.heap.size + 2)).run Try.prog w₁ = .ok () w₂ ∧ B.wpIn (F.inRound (w.heap.size + 2)) (n - 1 - 1) Try.prog (roundPost Try.prog (w.heap.size + 2)
        (fun e W' => e = .returned (.bool true) ∧ (∃ v', GatI w lo (pre ++ [x]) v' W') ∧ KeepsWalks W W')) a₁ w₂) (fun _ _ _ => False)) { tmps := act.tmps.setIfInBounds 7 (pKey x), defers := [] } W)
    (hdone : ∀ (lo : Loop) (ps : List Pl) (v : Value) (W : World), ps.Perm (es.toList.map kp) → GatI w lo ps v W → Q .normal { act with defers := { target := .collected (w.heap.size + 1), args := #[] } :: act.defers } W) :
    (Code.rangeFunc (Operand.tmp 6) #[7] A B).wpIn F n Try.prog Q act w2 := by
  refine wpIn_rangeFunc ?_
  intro fn hfn
  rw [hro]
  obtain ⟨lo, hlo⟩ : ∃ lo : Loop, { state := .ready, pending := none, fn := fn, tmps := act.tmps, params := #[7], assign := A, body := B, defers := w2.heap.size } = lo := ⟨_, rfl⟩
  have l1 : lo.state = .ready := by rw [← hlo]
  have l2 : lo.pending = none := by rw [← hlo]
  have hent := run_enterLoop_outer (P := Try.prog) (w := w2) fn act.tmps #[7] A B
  rw [hlo] at hent
  obtain ⟨W1, hW1⟩ : ∃ W1, (w2.alloc (.deferred (some []))).alloc (.loop lo) = W1 := ⟨_, rfl⟩
  rw [hW1] at hent
  have hb1 : Below w.heap.size w W1 := by rw [← hW1]; exact (hb2.alloc (by omega) _).alloc (by simp; omega) _
  have hI1 : GatI w lo [] (.slice none 0 0) W1 := by
    refine ⟨?_, World.ownsRow_nil _ _ _ _, hb1, ?_, ?_⟩
    · rw [← hW1]; exact (Below.heap_alloc _ _ _ (by simp; omega)).trans ((Below.heap_alloc _ _ _ (by omega)).trans hbox)
    · rw [← hW1]; have := World.alloc_heap_new (w2.alloc (.deferred (some []))) (.loop lo); rwa [World.size_alloc, hs2] at this
    · rw [← hW1]; have := World.alloc_heap_new w2 (.deferred (some [])); rw [hs2] at this; exact (Below.heap_alloc _ _ _ (by simp; omega)).trans this
  rw [hs2] at hent
  refine ⟨w.heap.size + 1 + 1, [{ target := .collected (w.heap.size + 1), args := #[] }], W1, { target := .fn (.func 83) #[.pointer (some ⟨Bm, 0, none⟩)], args := #[.func (.yield (w.heap.size + 1 + 1)) #[] #[]] }, W1, 83,
    #[.func (.yield (w.heap.size + 1 + 1)) #[] #[], .pointer (some ⟨Bm, 0, none⟩)], W1, hent, ?_, ?_, ?_, fun _ => h1, ?_⟩
  · simp only [resolve, hev]
    simp [go_sem]
  · intro f' hf'; simp [Target.leads] at hf'; subst hf'; exact h83
  · have eg := enters_of Try.func83 (by kernel_rfl) rfl
    simp [invoke, go_sem, eg]
  · refine (keys1_in F (n - 1) h83 hro (w.heap.size + 2) Bm b c w lo es kp ?_ hd hbl hst hkp hb W1 _ ((hb1.cell (p := ⟨Bm, 0, none⟩) hBl).trans hBm) hI1).mono ?_
    · intro pre x v W hI hlen
      have hy := run_yield (P := Try.prog) (args := #[pKey x]) hI.loop (by rw [← hlo]; rfl)
      have e1 : lo.fn = fn := by rw [← hlo]
      have e2 : lo.assign = A := by rw [← hlo]
      have e3 : lo.body = B := by rw [← hlo]
      have e4 : (lo.params.zip #[pKey x]).foldl (fun tmps (t, a) => tmps.setIfInBounds t a) lo.tmps = act.tmps.setIfInBounds 7 (pKey x) := by rw [← hlo]; simp
      rw [e1, e2, e3, e4] at hy
      exact ⟨fn, _, A, B, hy, roundIn_of_wpIn hfn (hround lo pre x v W l1 l2 hI hlen)⟩
    · rintro e W2 ⟨⟨v0, rfl⟩, ps, v, hps, hI⟩
      have hend := run_endLoop (P := Try.prog) hI.loop (by rw [l1]; simp)
      rw [l2] at hend
      exact ⟨none, _, hend, hdone _ ps v _ hps (hI.put _)⟩
theorem prow_walk {W : World} {base : Nat} {v : Value} {n : Nat} {xs : List Value} (h : W.ownsRow base 59 3 v n xs) (j : Nat) (o : Obj) (hj : v.ownBlock = some j) (ho : W.heap[j]? = some o) : o.isWalk = false := by
  rcases h.2 with ⟨rfl, _⟩ | ⟨g, cap, cur, rfl, _, hg, _⟩
  · cases hj
  · simp only [Value.ownBlock, Option.some.injEq] at hj
    subst hj
    rw [hg] at ho; cases ho; rfl
set_option maxRecDepth 100000 in
set_option maxHeartbeats 4000000 in
theorem gather_in (F : Fence) (hd : F.depth = none) (n : Nat) (h89 : F.fn 89) (h83 : F.fn 83) (hro : F.round = none) (hn : 2 ≤ n) (Bm b c : Nat) (es : Array MapEntry) (kp : MapEntry → Pl) (w : World) (hbl : b < w.heap.size) (hst : MapKept.Stamped es c) (hkp : ∀ e ∈ es.toList, e.key = pKey (kp e))
    (hb : w.heap[b]? = some (.map es c)) (hBm : w.cell? ⟨Bm, 0, none⟩ = some (.map (some b))) (hBl : Bm < w.heap.size) (hlen : es.size < 1099511627776) :
    CallsIn F n Try.prog 89 #[.slice none 0 0, .func (.func 83) #[] #[.pointer (some ⟨Bm, 0, none⟩)]] w fun e w' => ∃ v ps, e = .returned v ∧ ps.Perm (es.toList.map kp) ∧ w'.ownsRow w.heap.size 59 3 v ps.length (pCells ps) ∧ Below w.heap.size w w' := by
  have h1 : 1 ≤ n := by omega
  obtain ⟨i0, z0, hi0, hz0, hz1, hz2, hz3⟩ := infoB_of (P := Try.prog) (t := 59) (sz := 3) (by_ := 24) (by kernel_rfl)
  refine callsIn_of_wp_marks Try.func89 rfl h89 ?_ hro
  simp only [Try.ntmps89, List.size_toArray, List.length_cons, List.length_nil, Nat.reduceAdd, Nat.reduceSub, Array.replicate_succ, Array.replicate_zero, List.push_toArray, List.append_toArray, List.nil_append, List.cons_append]
  gi_wp2
  refine gat_loop hd h83 hro h1 (w := w) (es := es) (kp := kp) (by rfl) hbl hst hkp hb hBm hBl (by simp) ((Below.refl _ w).alloc (Nat.le_refl _) _) ?box ?round ?done
  case box => exact World.alloc_heap_new w _
  case done =>
    intro lo ps v W hps hI
    obtain ⟨hc3, hf3⟩ := cell_of_box hI.box
    gi_wp2
    refine ⟨by simp, .inl ⟨_, _, rfl, run_takeDeferred hI.df, ?_⟩⟩
    have hg := grownBy_putObj' W (w.heap.size + 1) (.deferred none)
    exact ⟨_, results_tmp rfl _ _ _, v, ps, rfl, hps, hI.row.kept hg (prow_ne hI.row hI.df (fun cur e => by cases e)), hI.below.grown hg hI.below.size (fun k e => by cases e; omega)⟩
  case round =>
    intro lo pre x v W l1 l2 hI hlen'
    gi_wp2
    have hIa : GatI w lo pre v (W.alloc (.cells #[.int .i64 x.1, .int .i64 x.2.1, .int .i64 x.2.2] 59)) := hI.turn (World.grownBy_alloc W _ none) (fun k e => by cases e) (by cases v.ownBlock <;> simp)
    have kA : KeepsWalks W (W.alloc (.cells #[.int .i64 x.1, .int .i64 x.2.1, .int .i64 x.2.2] 59)) := KeepsWalks.alloc _ _
    refine ⟨_, run_beginRound hIa.loop l1, ?_⟩
    have hIb := hIa.put { lo with state := .busy }
    have kB := kA.trans (KeepsWalks.putObj (.loop { lo with state := .busy }) hIa.loop rfl)
    have hbW : ((W.alloc (.cells #[.int .i64 x.1, .int .i64 x.2.1, .int .i64 x.2.2] 59)).putObj (w.heap.size + 2) (.loop { lo with state := .busy })).heap[W.heap.size]? = some (.cells #[.int .i64 x.1, .int .i64 x.2.1, .int .i64 x.2.2] 59 (0, 0)) := by
      have := (Array.getElem?_eq_some_iff.1 hI.loop).1
      exact (World.putObj_heap_other (by omega)).trans (World.alloc_heap_new W _)
    have hsW : ((W.alloc (.cells #[.int .i64 x.1, .int .i64 x.2.1, .int .i64 x.2.2] 59)).putObj (w.heap.size + 2) (.loop { lo with state := .busy })).heap.size = W.heap.size + 1 := by simp
    generalize (W.alloc (.cells #[.int .i64 x.1, .int .i64 x.2.1, .int .i64 x.2.2] 59)).putObj (w.heap.size + 2) (.loop { lo with state := .busy }) = W2 at hIb hbW hsW kB
    obtain ⟨hc2, hf2⟩ := cell_of_box hIb.box
    have hq0 : W2.cell? ⟨W.heap.size, 0, none⟩ = some (.int .i64 x.1) := by simp [World.cell?, hbW]
    have hq1 : W2.cell? ⟨W.heap.size, 1, none⟩ = some (.int .i64 x.2.1) := by simp [World.cell?, hbW]
    have hq2 : W2.cell? ⟨W.heap.size, 2, none⟩ = some (.int .i64 x.2.2) := by simp [World.cell?, hbW]
    have hIc : GatI w { lo with state := .busy } pre v (W2.alloc (.cells #[.int .i64 x.1, .int .i64 x.2.1, .int .i64 x.2.2] 59)) := hIb.turn (World.grownBy_alloc W2 _ none) (fun k e => by cases e) (by cases v.ownBlock <;> simp)
    have kC := kB.trans (KeepsWalks.alloc W2 (.cells #[.int .i64 x.1, .int .i64 x.2.1, .int .i64 x.2.2] 59))
    have hnew : ∀ (j : Nat) (u : Value), [Value.int .i64 x.1, Value.int .i64 x.2.1, Value.int .i64 x.2.2][j]? = some u → (W2.alloc (.cells #[.int .i64 x.1, .int .i64 x.2.1, .int .i64 x.2.2] 59)).cell? ((⟨W.heap.size + 1, 0, none⟩ : Addr).add j) = some u := by
      intro j u hu
      have hh := World.alloc_heap_new W2 (.cells #[.int .i64 x.1, .int .i64 x.2.1, .int .i64 x.2.2] 59)
      rw [hsW] at hh
      have t0 : (⟨W.heap.size + 1, 0, none⟩ : Addr).add 0 = ⟨W.heap.size + 1, 0, none⟩ := by simp [Addr.add]
      have t1 : (⟨W.heap.size + 1, 0, none⟩ : Addr).add 1 = ⟨W.heap.size + 1, 1, none⟩ := by simp [Addr.add]
      have t2 : (⟨W.heap.size + 1, 0, none⟩ : Addr).add 2 = ⟨W.heap.size + 1, 2, none⟩ := by simp [Addr.add]
      rcases j with _ | _ | _ | j
      · simp only [List.getElem?_cons_zero] at hu; cases hu; rw [t0]; unfold World.cell?; rw [hh]; rfl
      · simp only [List.getElem?_cons_succ, List.getElem?_cons_zero] at hu; cases hu; rw [show (0 + 1) = 1 from rfl, t1]; unfold World.cell?; rw [hh]; rfl
      · simp only [List.getElem?_cons_succ, List.getElem?_cons_zero] at hu; cases hu; rw [show (0 + 1 + 1) = 2 from rfl, t2]; unfold World.cell?; rw [hh]; rfl
      · simp at hu
    have hfin : ∀ v' w3, w3.ownsRow w.heap.size 59 3 v' (pre.length + 1) (pCells pre ++ [Value.int .i64 x.1, Value.int .i64 x.2.1, Value.int .i64 x.2.2]) → (W2.alloc (.cells #[.int .i64 x.1, .int .i64 x.2.1, .int .i64 x.2.2] 59)).grownBy w3 v.ownBlock →
        w3.heap[w.heap.size]? = some (.cells #[v] 80 (0, 0)) ∧ (∃ v1, v1 = v' ∧ GatI w { lo with state := .busy } (pre ++ [x]) v1 (w3.setCell ⟨w.heap.size, 0, none⟩ v')) ∧ KeepsWalks W (w3.setCell ⟨w.heap.size, 0, none⟩ v') := by
      intro v' w3 ho hg
      have lt : ∀ {W : World} {k : Nat} {o : Obj}, W.heap[k]? = some o → k < W.heap.size := fun h => (Array.getElem?_eq_some_iff.1 h).1
      have hkeep : ∀ {k : Nat} {o : Obj}, (W2.alloc (.cells #[.int .i64 x.1, .int .i64 x.2.1, .int .i64 x.2.2] 59)).heap[k]? = some o → (∀ cur, o ≠ .cells cur 59 (0, 0)) → w3.heap[k]? = some o := fun hk hno =>
        (hg.block _ (lt hk) fun e => by
          rcases prow_ne hIc.row hk hno with e' | e'
          · rw [e'] at e; cases e
          · exact e' e.symm).trans hk
      have hb3 := hkeep hIc.box (fun cur e => by cases e)
      have hl3 := hkeep hIc.loop (fun cur e => by cases e)
      have hd3 := hkeep hIc.df (fun cur e => by cases e)
      have hI3 : GatI w { lo with state := .busy } (pre ++ [x]) v' (w3.setCell ⟨w.heap.size, 0, none⟩ v') := by
        have hset : ∀ k, k ≠ w.heap.size → (w3.setCell ⟨w.heap.size, 0, none⟩ v').heap[k]? = w3.heap[k]? := fun k hk => by simp [World.setCell, Array.getElem?_modify, Ne.symm hk]
        have hgs : w3.grownBy (w3.setCell ⟨w.heap.size, 0, none⟩ v') (some w.heap.size) := ⟨rfl, rfl, rfl, by simp [World.setCell], fun k _ hk => hset k (fun e => hk (by rw [e]))⟩
        refine ⟨?_, ?_, ?_, (hset _ (by omega)).trans hl3, (hset _ (by omega)).trans hd3⟩
        · simp [World.setCell, Array.getElem?_modify, hb3]
        · have hr : w3.ownsRow w.heap.size 59 3 v' (pre ++ [x]).length (pCells (pre ++ [x])) := by rw [pCells_snoc, List.length_append]; exact ho
          exact hr.kept hgs (prow_ne hr hb3 (fun cur e => by cases e))
        · have := hIc.below.grown hg hIc.below.size (fun k e => (hIc.row.lt k e).1)
          exact this.grown hgs this.size (fun k e => by cases e; exact Nat.le_refl _)
      exact ⟨hb3, ⟨_, rfl, hI3⟩, (kC.trans (KeepsWalks.of_grownBy hg (prow_walk hIc.row))).trans (KeepsWalks.setCell _ _ _)⟩
    gi_wp2_with (first
      | (gi_at_builtin; refine wpListIn_append_own _ rfl _ _ 80 rfl w.heap.size 59 i0 z0 3 24 Try.underlying80 hi0 hz0 hz1 hz2 hz3 (by decide) v pre.length (pCells pre) rfl hIc.row ⟨W.heap.size + 1, 0, none⟩ 1 1 [.int .i64 x.1, .int .i64 x.2.1, .int .i64 x.2.2] rfl rfl hnew (by simp [Value.oneCell']) (by simp only [maxLen]; omega) (by omega) (by have := hIc.below.size; omega) ?_; intro v' w3 hown' hg3 hnil3
         obtain ⟨hb3, ⟨v1, hv1, hI4⟩, hk4⟩ := hfin v' w3 hown' hg3
         obtain ⟨hc3, hf3⟩ := cell_of_box hb3
         obtain ⟨g', cap', rfl⟩ : ∃ g' cap', v' = .slice (some ⟨g', 0, none⟩) (pre.length + 1) cap' := by
           rcases hown'.2 with ⟨_, h0⟩ | ⟨g', cap', _, h', _⟩
           · exact absurd h0 (by omega)
           · exact ⟨g', cap', h'⟩))
    subst hv1
    have hI5 := hI4.put { lo with state := .ready, pending := none }
    have elo : ({ lo with state := .ready, pending := none } : Loop) = lo := by cases lo; simp_all
    rw [elo] at hI5
    refine ⟨_, _, (run_endRound none hI4.loop).trans (congrArg (fun r => Result.ok (Value.bool true) (World.putObj _ (w.heap.size + 2) (.loop r))) elo), rfl, ⟨_, hI5⟩, ?_⟩
    exact hk4.trans (KeepsWalks.putObj (.loop lo) hI4.loop rfl)
end Go.Proofs.Ytnlohongffpkpaa.T16
end

section
/- Layer 17: Places: the keys of a map, gathered and sorted. A text of the session's own; the laying of the sort is the kit's tool's print. -/
namespace Go.Proofs.Ytnlohongffpkpaa.T16
open Go Go.RowKit Go.Shelf Go.Proofs.Ytnlohongffpkpaa.Sx Go.Proofs
set_option linter.unusedVariables false
set_option linter.unusedSimpArgs false

def ci (x y : Int) : Int := if x < y then -1 else if x > y then 1 else 0
set_option maxHeartbeats 1000000 in
theorem nan_calls (x : Int) (w : World) : Calls Try.prog 84 #[.int .i64 x] w fun e w' => e = .returned (.bool false) ∧ w' = w := by
  go_enter Try.func84, Try.ntmps84
  go_wp2
  go_ret
  exact ⟨by simp, rfl⟩
set_option maxHeartbeats 1000000 in
theorem cmp_calls (x y : Int) (w : World) : Calls Try.prog 70 #[.int .i64 x, .int .i64 y] w fun e w' => e = .returned (.int .i64 (ci x y)) ∧ w' = w := by
  go_enter Try.func70, Try.ntmps70
  go_wp2_with (go_at_call 84; refine (nan_calls _ _).mono ?_; rintro e w' ⟨rfl, hw⟩; rw [hw])
  all_goals (go_ret; refine ⟨?_, rfl⟩; unfold ci; (repeat' split) <;> first | rfl | (exfalso; omega))
def orI (x y z : Int) : Int := if x ≠ 0 then x else if y ≠ 0 then y else z
set_option maxHeartbeats 2000000 in
theorem or_calls (x y z : Int) (b cap : Nat) (w : World) (h0 : w.cell? ⟨b, 0, none⟩ = some (.int .i64 x)) (h1 : w.cell? ⟨b, 1, none⟩ = some (.int .i64 y)) (h2 : w.cell? ⟨b, 2, none⟩ = some (.int .i64 z)) :
    Calls Try.prog 69 #[.slice (some ⟨b, 0, none⟩) 3 cap] w fun e w' => e = .returned (.int .i64 (orI x y z)) ∧ w' = w := by
  go_enter Try.func69, Try.ntmps69
  go_wp2
  refine wp_loop_rounds 4 ?_
  rw [rounds_succ]
  go_wp2
  · go_ret
    refine ⟨?_, rfl⟩
    simp_all [orI]
  · rw [rounds_succ]
    go_wp2
    · go_ret
      refine ⟨?_, rfl⟩
      simp_all [orI]
    · rw [rounds_succ]
      go_wp2
      · go_ret
        refine ⟨?_, rfl⟩
        simp_all [orI]
      · rw [rounds_succ]
        go_wp2
        go_ret
        refine ⟨?_, rfl⟩
        simp_all [orI]
theorem mixedTry : Try.prog.follows .mixedOrders = true := by kernel_rfl
def cfP (p q : Pl) : Int := orI (ci p.1 q.1) (ci p.2.1 q.2.1) (ci p.2.2 q.2.2)
set_option maxRecDepth 100000 in
set_option maxHeartbeats 4000000 in
theorem plc_calls (p q : Pl) (w : World) : Calls Try.prog 68 #[.agg #[.int .i64 p.1, .int .i64 p.2.1, .int .i64 p.2.2], .agg #[.int .i64 q.1, .int .i64 q.2.1, .int .i64 q.2.2]] w fun e w' => e = .returned (.int .i64 (cfP p q)) ∧ ∃ n os', w' = Sort.grow (w.drewN n) os' := by
  have hc := fun x y W => cmp_calls x y W
  unfold cfP
  generalize e1 : ci p.1 q.1 = c1
  generalize e2 : ci p.2.1 q.2.1 = c2
  generalize e3 : ci p.2.2 q.2.2 = c3
  have h1 := fun W => hc p.1 q.1 W
  have h2 := fun W => hc p.2.1 q.2.1 W
  have h3 := fun W => hc p.2.2 q.2.2 W
  rw [e1] at h1; rw [e2] at h2; rw [e3] at h3
  clear hc
  go_enter Try.func68, Try.ntmps68
  go_wp2
  have b1 : ((w.alloc (.cells #[.int .i64 p.1, .int .i64 p.2.1, .int .i64 p.2.2] 59)).alloc (.cells #[.int .i64 q.1, .int .i64 q.2.1, .int .i64 q.2.2] 59)).heap[w.heap.size]? = some (.cells #[.int .i64 p.1, .int .i64 p.2.1, .int .i64 p.2.2] 59 (0, 0)) := (Below.heap_alloc _ _ _ (by simp)).trans (World.alloc_heap_new w _)
  have b2 : ((w.alloc (.cells #[.int .i64 p.1, .int .i64 p.2.1, .int .i64 p.2.2] 59)).alloc (.cells #[.int .i64 q.1, .int .i64 q.2.1, .int .i64 q.2.2] 59)).heap[w.heap.size + 1]? = some (.cells #[.int .i64 q.1, .int .i64 q.2.1, .int .i64 q.2.2] 59 (0, 0)) := by
    have := World.alloc_heap_new (w.alloc (.cells #[.int .i64 p.1, .int .i64 p.2.1, .int .i64 p.2.2] 59)) (.cells #[.int .i64 q.1, .int .i64 q.2.1, .int .i64 q.2.2] 59)
    rwa [World.size_alloc] at this
  have hW : (w.alloc (.cells #[.int .i64 p.1, .int .i64 p.2.1, .int .i64 p.2.2] 59)).alloc (.cells #[.int .i64 q.1, .int .i64 q.2.1, .int .i64 q.2.2] 59) = Sort.grow w #[.cells #[.int .i64 p.1, .int .i64 p.2.1, .int .i64 p.2.2] 59, .cells #[.int .i64 q.1, .int .i64 q.2.1, .int .i64 q.2.2] 59] := by rw [Sort.alloc_eq_grow, Sort.alloc_eq_grow, Sort.grow_grow]; rfl
  generalize (w.alloc (.cells #[.int .i64 p.1, .int .i64 p.2.1, .int .i64 p.2.2] 59)).alloc (.cells #[.int .i64 q.1, .int .i64 q.2.1, .int .i64 q.2.2] 59) = W2 at b1 b2 hW ⊢
  generalize w.heap.size = s at b1 b2 ⊢
  have a0 : W2.cell? ⟨s, 0, none⟩ = some (.int .i64 p.1) := by simp [World.cell?, b1]
  have a1 : W2.cell? ⟨s, 1, none⟩ = some (.int .i64 p.2.1) := by simp [World.cell?, b1]
  have a2 : W2.cell? ⟨s, 2, none⟩ = some (.int .i64 p.2.2) := by simp [World.cell?, b1]
  have a3 : W2.cell? ⟨s + 1, 0, none⟩ = some (.int .i64 q.1) := by simp [World.cell?, b2]
  have a4 : W2.cell? ⟨s + 1, 1, none⟩ = some (.int .i64 q.2.1) := by simp [World.cell?, b2]
  have a5 : W2.cell? ⟨s + 1, 2, none⟩ = some (.int .i64 q.2.2) := by simp [World.cell?, b2]
  clear b1 b2
  have A : Aside (W2 = Sort.grow w #[.cells #[.int .i64 p.1, .int .i64 p.2.1, .int .i64 p.2.2] 59, .cells #[.int .i64 q.1, .int .i64 q.2.1, .int .i64 q.2.2] 59]) := hW
  clear hW
  refine wp_region_still_tail 15 mixedTry (by kernel_rfl) ?_
  simp only [List.take_succ_cons, List.take_zero, List.drop_succ_cons, List.drop_zero]
  iterate 4 still_step
  still_call (h1 _)
  iterate 4 still_step
  still_call (h2 _)
  iterate 4 still_step
  still_call (h3 _)
  refine wpStill_nil ?_
  clear h1 h2 h3
  clear a0 a1 a2 a3 a4 a5
  go_wp2_with (go_at_call 69; refine (or_calls c1 c2 c3 _ 3 _ (by go_simp) (by go_simp) (by go_simp)).mono ?_; rintro e w' ⟨rfl, hw⟩; rw [hw])
  have A : W2 = _ := A
  have hend : (W2.alloc (.cells #[.int .i64 c1, .int .i64 c2, .int .i64 c3] 3)).drew = Sort.grow (w.drewN 1) (#[.cells #[.int .i64 p.1, .int .i64 p.2.1, .int .i64 p.2.2] 59, .cells #[.int .i64 q.1, .int .i64 q.2.1, .int .i64 q.2.2] 59] ++ #[.cells #[.int .i64 c1, .int .i64 c2, .int .i64 c3] 3]) := by
    rw [A, Sort.alloc_eq_grow, Sort.grow_grow]
    rfl
  clear A
  go_ret
  exact ⟨rfl, 1, _, hend⟩
def plt (p q : Pl) : Bool := decide (p.1 < q.1 ∨ (p.1 = q.1 ∧ (p.2.1 < q.2.1 ∨ (p.2.1 = q.2.1 ∧ p.2.2 < q.2.2))))
theorem lt_cfP (p q : Pl) : ltOf cfP p q = plt p q := by
  obtain ⟨a, b, c⟩ := p
  obtain ⟨x, y, z⟩ := q
  unfold ltOf cfP plt orI ci
  simp only [decide_eq_decide]
  constructor
  · intro h
    (repeat' split at h) <;> omega
  · intro h
    (repeat' split) <;> omega
theorem swoP : Sort.SWO (ltOf cfP) where
  irrefl x := by rw [lt_cfP]; simp [plt]
  trans x y z h1 h2 := by rw [lt_cfP] at *; simp only [plt, decide_eq_true_eq] at *; omega
  ntrans x y z h1 h2 := by rw [lt_cfP] at *; simp only [plt, decide_eq_false_iff_not] at *; omega
def sortPl_ren : Go.Shelf.Ren := ⟨fun | 6 => 82 | 15 => 91 | 14 => 90 | 28 => 101 | 29 => 102 | 20 => 93 | 21 => 94 | 22 => 95 | 23 => 96 | 24 => 97 | 25 => 98 | 26 => 99 | 27 => 100 | 46 => 103 | 47 => 104 | 48 => 105 | 49 => 106 | 50 => 107 | 57 => 108 | n => n, fun | 22 => 80 | 24 => 59 | 25 => 133 | 3 => 3 | 39 => 155 | 0 => 0 | 53 => 165 | 55 => 27 | 4 => 4 | 46 => 159 | 45 => 158 | 50 => 40 | 5 => 5 | 9 => 9 | 66 => 167 | 70 => 171 | 76 => 173 | 77 => 174 | n => n, fun | n => n⟩
theorem sortPl : Go.Proofs.SlLaysF0.n6 Try.prog sortPl_ren := {
  mixed := by kernel_rfl
  f6 := ⟨Try.f82.name, by decide, Try.func82.trans (congrArg some (by kernel_rfl))⟩
  f14 := ⟨Try.f90.name, by decide, Try.func90.trans (congrArg some (by kernel_rfl))⟩
  f15 := Try.func91.trans (congrArg some (by kernel_rfl))
  f20 := ⟨Try.f93.name, by decide, Try.func93.trans (congrArg some (by kernel_rfl))⟩
  f21 := ⟨Try.f94.name, by decide, Try.func94.trans (congrArg some (by kernel_rfl))⟩
  f22 := ⟨Try.f95.name, by decide, Try.func95.trans (congrArg some (by kernel_rfl))⟩
  f23 := ⟨Try.f96.name, by decide, Try.func96.trans (congrArg some (by kernel_rfl))⟩
  f24 := ⟨Try.f97.name, by decide, Try.func97.trans (congrArg some (by kernel_rfl))⟩
  f25 := ⟨Try.f98.name, by decide, Try.func98.trans (congrArg some (by kernel_rfl))⟩
  f26 := ⟨Try.f99.name, by decide, Try.func99.trans (congrArg some (by kernel_rfl))⟩
  f27 := ⟨Try.f100.name, by decide, Try.func100.trans (congrArg some (by kernel_rfl))⟩
  f28 := Try.func101.trans (congrArg some (by kernel_rfl))
  f29 := Try.func102.trans (congrArg some (by kernel_rfl))
  f46 := ⟨Try.f103.name, by decide, Try.func103.trans (congrArg some (by kernel_rfl))⟩
  f47 := Try.func104.trans (congrArg some (by kernel_rfl))
  f48 := Try.func105.trans (congrArg some (by kernel_rfl))
  f49 := ⟨Try.f106.name, by decide, Try.func106.trans (congrArg some (by kernel_rfl))⟩
  f50 := ⟨Try.f107.name, by decide, Try.func107.trans (congrArg some (by kernel_rfl))⟩
  f57 := ⟨Try.f108.name, by decide, Try.func108.trans (congrArg some (by kernel_rfl))⟩
  t0 := Try.underlying0
  a0 := Try.isAgg0
  z0 := Try.sizeOf0
  v0 := Try.zeroValue0
  t3 := Try.underlying3
  a3 := Try.isAgg3
  z3 := Try.sizeOf3
  v3 := Try.zeroValue3
  t4 := Try.underlying4
  a4 := Try.isAgg4
  z4 := Try.sizeOf4
  v4 := Try.zeroValue4
  t5 := Try.underlying5
  a5 := Try.isAgg5
  z5 := Try.sizeOf5
  v5 := Try.zeroValue5
  t9 := Try.underlying9
  a9 := Try.isAgg9
  z9 := Try.sizeOf9
  v9 := Try.zeroValue9
  t22 := Try.underlying80
  a22 := Try.isAgg80
  z22 := Try.sizeOf80
  v22 := Try.zeroValue80
  t25 := Try.underlying133
  a25 := Try.isAgg133
  z25 := Try.sizeOf133
  v25 := Try.zeroValue133
  t39 := Try.underlying155
  a39 := Try.isAgg155
  z39 := Try.sizeOf155
  v39 := Try.zeroValue155
  t45 := Try.underlying158
  a45 := Try.isAgg158
  z45 := Try.sizeOf158
  v45 := Try.zeroValue158
  t46 := Try.underlying159
  a46 := Try.isAgg159
  z46 := Try.sizeOf159
  v46 := Try.zeroValue159
  t50 := Try.underlying40
  a50 := Try.isAgg40
  z50 := Try.sizeOf40
  v50 := Try.zeroValue40
  t53 := Try.underlying165
  a53 := Try.isAgg165
  z53 := Try.sizeOf165
  v53 := Try.zeroValue165
  t55 := Try.underlying27
  a55 := Try.isAgg27
  z55 := Try.sizeOf27
  v55 := Try.zeroValue27
  t66 := Try.underlying167
  a66 := Try.isAgg167
  z66 := Try.sizeOf167
  v66 := Try.zeroValue167
  t70 := Try.underlying171
  a70 := Try.isAgg171
  z70 := Try.sizeOf171
  v70 := Try.zeroValue171
  t76 := Try.underlying173
  a76 := Try.isAgg173
  z76 := Try.sizeOf173
  v76 := Try.zeroValue173
  t77 := Try.underlying174
  a77 := Try.isAgg174
  z77 := Try.sizeOf174
  v77 := Try.zeroValue174 }

/-- a slice of places, in a heap -/
def RowPW (base : Nat) (W : World) (v : Value) (ps : List Pl) : Prop :=
  (v = .slice none 0 0 ∧ ps = []) ∨ ∃ g cap cur, v = .slice (some ⟨g, 0, none⟩) ps.length cap ∧ base ≤ g ∧ W.heap[g]? = some (.cells cur 59 (0, 0)) ∧ ps.length ≤ cap ∧
    ∀ i p, ps[i]? = some p → cur[i * 3]? = some (.int .i64 p.1) ∧ cur[i * 3 + 1]? = some (.int .i64 p.2.1) ∧ cur[i * 3 + 2]? = some (.int .i64 p.2.2)
theorem pCells_get : ∀ (ps : List Pl) (i : Nat) (p : Pl), ps[i]? = some p → (pCells ps)[i * 3]? = some (.int .i64 p.1) ∧ (pCells ps)[i * 3 + 1]? = some (.int .i64 p.2.1) ∧ (pCells ps)[i * 3 + 2]? = some (.int .i64 p.2.2)
  | [], i, p, h => by simp at h
  | q :: ps, 0, p, h => by
    simp only [List.getElem?_cons_zero, Option.some.injEq] at h
    subst h
    exact ⟨rfl, rfl, rfl⟩
  | q :: ps, i + 1, p, h => by
    simp only [List.getElem?_cons_succ] at h
    obtain ⟨h1, h2, h3⟩ := pCells_get ps i p h
    have e : pCells (q :: ps) = .int .i64 q.1 :: .int .i64 q.2.1 :: .int .i64 q.2.2 :: pCells ps := rfl
    rw [e]
    refine ⟨?_, ?_, ?_⟩
    · rw [show (i + 1) * 3 = i * 3 + 1 + 1 + 1 by omega]; simp only [List.getElem?_cons_succ]; exact h1
    · rw [show (i + 1) * 3 + 1 = i * 3 + 1 + 1 + 1 + 1 by omega]; simp only [List.getElem?_cons_succ]; exact h2
    · rw [show (i + 1) * 3 + 2 = i * 3 + 2 + 1 + 1 + 1 by omega]; simp only [List.getElem?_cons_succ]; exact h3
theorem holds_row {W : World} {g : Nat} {cur : Array Value} {ps : List Pl} (hg : W.heap[g]? = some (.cells cur 59 (0, 0))) (hc : cur.toList.take (ps.length * 3) = pCells ps) : Sort.HoldsK pEnc 3 W g 0 ps.toArray := by
  intro j hj
  have hj' : j < ps.length * 3 := by simpa [Sort.flatK] using hj
  have hi : j / 3 < ps.length := by omega
  obtain ⟨q, hq⟩ : ∃ q, ps[j / 3]? = some q := ⟨_, List.getElem?_eq_getElem hi⟩
  obtain ⟨c0, c1, c2⟩ := pCells_get ps (j / 3) _ hq
  have hget : ∀ k, k < ps.length * 3 → cur[k]? = (pCells ps)[k]? := fun k hk => by
    rw [← hc, List.getElem?_take_of_lt hk]; simp
  refine ⟨?_, by simp [World.frozen?, hg]⟩
  rw [Sort.get_flatK pEnc 3 _ j (by simpa using hj')]
  have e1 : ps.toArray[j / 3]! = q := by simp [hq]
  rw [e1]
  simp only [World.cell?, hg, Nat.zero_add, id]
  rw [hget j hj']
  have hm : j % 3 = 0 ∨ j % 3 = 1 ∨ j % 3 = 2 := by omega
  rcases hm with h | h | h
  · rw [h, show j = j / 3 * 3 by omega]; simp only [Option.isSome_none, Bool.false_eq_true, if_false]; rw [c0]; rfl
  · rw [h, show j = j / 3 * 3 + 1 by omega]; simp only [Option.isSome_none, Bool.false_eq_true, if_false]; rw [c1]; rfl
  · rw [h, show j = j / 3 * 3 + 2 by omega]; simp only [Option.isSome_none, Bool.false_eq_true, if_false]; rw [c2]; rfl
theorem row_of_holds {W : World} {g : Nat} {cur : Array Value} {d : Array Pl} (hg : W.heap[g]? = some (.cells cur 59 (0, 0))) (hH : Sort.HoldsK pEnc 3 W g 0 d) (i : Nat) (p : Pl) (hp : d.toList[i]? = some p) :
    cur[i * 3]? = some (.int .i64 p.1) ∧ cur[i * 3 + 1]? = some (.int .i64 p.2.1) ∧ cur[i * 3 + 2]? = some (.int .i64 p.2.2) := by
  have hi : i < d.size := by simpa using (List.getElem?_eq_some_iff.1 hp).1
  have hd : d[i]! = p := by
    rw [Array.getElem?_toList] at hp
    rw [getElem!_def, hp]
  have key : ∀ c, c < 3 → cur[i * 3 + c]? = some (pEnc p)[c]! := fun c hc => by
    have := (hH (i * 3 + c) (by simp [Sort.flatK]; omega)).1
    rw [Sort.get_flatK pEnc 3 _ _ (by omega)] at this
    rw [show (i * 3 + c) / 3 = i by omega, show (i * 3 + c) % 3 = c by omega, hd] at this
    simpa [World.cell?, hg] using this
  exact ⟨key 0 (by omega), key 1 (by omega), key 2 (by omega)⟩
set_option maxHeartbeats 1000000 in
theorem collect_calls (Bm b c : Nat) (es : Array MapEntry) (kp : MapEntry → Pl) (w : World) (hbl : b < w.heap.size) (hst : MapKept.Stamped es c) (hkp : ∀ e ∈ es.toList, e.key = pKey (kp e))
    (hb : w.heap[b]? = some (.map es c)) (hBm : w.cell? ⟨Bm, 0, none⟩ = some (.map (some b))) (hBl : Bm < w.heap.size) (hlen : es.size < 1099511627776) :
    Calls Try.prog 81 #[.func (.func 83) #[] #[.pointer (some ⟨Bm, 0, none⟩)]] w fun e w' => ∃ v ps, e = .returned v ∧ ps.Perm (es.toList.map kp) ∧ w'.ownsRow w.heap.size 59 3 v ps.length (pCells ps) ∧ Below w.heap.size w w' := by
  have hg := callsIn_wide.1 (gather_in Fence.wide rfl 2 trivial trivial rfl (Nat.le_refl _) Bm b c es kp w hbl hst hkp hb hBm hBl hlen)
  go_enter Try.func81, Try.ntmps81
  go_wp2_with (go_at_call 89; refine hg.mono ?_; rintro e w' ⟨v, ps, rfl, h1, h2, h3⟩)
  go_ret
  exact ⟨v, ps, rfl, h1, h2, h3⟩
set_option maxHeartbeats 1000000 in
theorem sort_calls (v : Value) (ps : List Pl) (base : Nat) (w : World) (hrow : w.ownsRow base 59 3 v ps.length (pCells ps)) (hlen : ps.length < 1099511627776) (hbase : base ≤ w.heap.size) :
    Calls Try.prog 82 #[v, .func (.func 68) #[] #[]] w fun e w' => e = .returned (.tuple #[]) ∧ ∃ qs, qs.Perm ps ∧ qs.Pairwise (fun a b => plt b a = false) ∧ RowPW base w' v qs ∧ Below base w w' := by
  rcases hrow.2 with ⟨rfl, h0⟩ | ⟨g, cap, cur, rfl, hbg, hg, hcap, hmax, hsz, hcur⟩
  · have hps : ps = [] := List.eq_nil_of_length_eq_zero h0
    subst hps
    have := AnyF.slices_SortFunc_none sortPl none 0 (.func (.func 68) #[] #[]) w
    change Calls Try.prog 82 _ _ _ at this
    refine this.mono ?_
    rintro e w' ⟨rfl, rfl⟩
    exact ⟨rfl, [], List.Perm.refl _, List.Pairwise.nil, .inl ⟨rfl, rfl⟩, Below.refl _ _⟩
  · have hlt : g < w.heap.size := (Array.getElem?_eq_some_iff.1 hg).1
    have hH := holds_row hg hcur
    have eg : ∀ args w, (callFunc 68 args).run Try.prog w = .ok (.enter 68 args) w := enters_of Try.func68 (by kernel_rfl) rfl
    have hcmp : CmpLays Try.prog 68 #[] pEnc 3 cfP g 0 ps.toArray.size w := fun m os dk hs x y => plc_calls x y _
    have := AnyQ.slices_SortFunc sortPl 3 Try.isAgg59 Try.sizeOf59 pEnc (fun _ => rfl) (fun x v hv => by simp [pEnc] at hv; rcases hv with rfl | rfl | rfl <;> rfl) cfP swoP 68 #[] g 0 cap ps.toArray w eg hcmp hH hlt (by simp; omega)
    change Calls Try.prog 82 _ _ _ at this
    have e1 : ps.toArray.size = ps.length := by simp
    rw [e1] at this
    refine this.mono ?_
    rintro e w' ⟨rfl, d', n, os, hperm, hsort, rfl⟩
    obtain ⟨p1, p2, p3⟩ := hperm
    have hd : d'.size = ps.length := by rw [p1, e1]
    have hP : d'.toList.Perm ps := by
      have h1 : (d'.extract 0 ps.length).toList = d'.toList := by rw [← hd]; simp
      have h2 : (ps.toArray.extract 0 ps.length).toList = ps := by rw [← e1]; simp
      rw [h1, h2] at p3; exact p3
    have hH' : Sort.HoldsK pEnc 3 (Sort.putRowK pEnc 3 (Sort.ahead w n) g 0 d') g 0 d' := Sort.holdsK_putRowK pEnc 3 _ g 0 _ _ (Sort.holdsK_ahead pEnc 3 w n g 0 _ hH) (by rw [hd, e1])
    have hsz0 : (Sort.putRowK pEnc 3 (Sort.ahead w n) g 0 d').heap.size = w.heap.size := by simp [Sort.putRowK, Sort.putRow, Sort.mapBlock, Sort.ahead]
    have hH2 : Sort.HoldsK pEnc 3 (sortWorldK pEnc 3 w g 0 n d' os) g 0 d' := Sort.holdsK_grow pEnc 3 _ os g 0 d' (by rw [hsz0]; exact hlt) hH'
    obtain ⟨cur', hcur'⟩ : ∃ cur', (sortWorldK pEnc 3 w g 0 n d' os).heap[g]? = some (.cells cur' 59 (0, 0)) := by
      refine ⟨Sort.putCells id 0 (Sort.flatK pEnc 3 d') cur, ?_⟩
      show ((w.heap.modify g (Sort.onCells (Sort.putCells id 0 (Sort.flatK pEnc 3 d')))) ++ os)[g]? = _
      rw [Array.getElem?_append_left (by simpa using hlt), Array.getElem?_modify, if_pos rfl, hg]
      rfl
    have hfar : ∀ k, k < w.heap.size → k ≠ g → (sortWorldK pEnc 3 w g 0 n d' os).heap[k]? = w.heap[k]? := fun k hk hne => by
      show ((w.heap.modify g _) ++ os)[k]? = _
      rw [Array.getElem?_append_left (by simpa using hk), Array.getElem?_modify, if_neg (Ne.symm hne)]
    refine ⟨rfl, d'.toList, hP, ?_, .inr ⟨g, cap, cur', (by show Value.slice _ ps.toArray.size cap = _; rw [Array.length_toList, hd, e1]), hbg, hcur', by rw [Array.length_toList, hd]; exact hcap, fun i p hp => row_of_holds hcur' hH2 i p hp⟩, ⟨rfl, rfl, rfl, ?_, fun k hk => hfar k (by omega) (by omega)⟩⟩
    · rw [List.pairwise_iff_getElem]
      intro i j hi hj hij
      have := hsort i j (Nat.zero_le _) hij (by simpa [hd] using hj)
      rw [lt_cfP] at this
      simpa [show i < d'.size by simpa using hi, show j < d'.size by simpa using hj] using this
    · show w.heap.size ≤ ((w.heap.modify g _) ++ os).size
      simp
set_option maxHeartbeats 1000000 in
theorem sorted_calls (Bm b c : Nat) (es : Array MapEntry) (kp : MapEntry → Pl) (w : World) (hbl : b < w.heap.size) (hst : MapKept.Stamped es c) (hkp : ∀ e ∈ es.toList, e.key = pKey (kp e))
    (hb : w.heap[b]? = some (.map es c)) (hBm : w.cell? ⟨Bm, 0, none⟩ = some (.map (some b))) (hBl : Bm < w.heap.size) (hlen : es.size < 1099511627776) :
    Calls Try.prog 66 #[.func (.func 83) #[] #[.pointer (some ⟨Bm, 0, none⟩)], .func (.func 68) #[] #[]] w fun e w' => ∃ v qs, e = .returned v ∧ qs.Perm (es.toList.map kp) ∧ qs.Pairwise (fun a b => plt b a = false) ∧ RowPW w.heap.size w' v qs ∧ Below w.heap.size w w' := by
  have hg := collect_calls Bm b c es kp w hbl hst hkp hb hBm hBl hlen
  go_enter Try.func66, Try.ntmps66
  go_wp2_with (first
    | (go_at_call 81; refine hg.mono ?_; rintro e w1 ⟨v, ps, rfl, h1, h2, h3⟩)
    | (go_at_call 82; refine (sort_calls v ps w.heap.size w1 h2 (by have := h1.length_eq; simp at this; omega) h3.size).mono ?_; rintro e w2 ⟨rfl, qs, g1, g2, g3, g4⟩))
  go_ret
  exact ⟨v, qs, rfl, g1.trans h1, g2, g3, h3.trans g4⟩
set_option maxHeartbeats 1000000 in
theorem keys_calls (b : Nat) (w : World) : Calls Try.prog 67 #[.map (some b)] w fun e w' => e = .returned (.func (.func 83) #[] #[.pointer (some ⟨w.heap.size, 0, none⟩)]) ∧ w' = w.alloc (.cells #[.map (some b)] 107) := by
  go_enter Try.func67, Try.ntmps67
  go_wp2
  go_ret
  exact ⟨rfl, rfl⟩
set_option maxHeartbeats 1000000 in
theorem places_calls (a b c : Nat) (es : Array MapEntry) (kp : MapEntry → Pl) (w : World) (ha : w.cell? ⟨a, 0, none⟩ = some (.map (some b))) (hst : MapKept.Stamped es c) (hkp : ∀ e ∈ es.toList, e.key = pKey (kp e))
    (hb : w.heap[b]? = some (.map es c)) (hlen : es.size < 1099511627776) :
    Calls Try.prog 40 #[.pointer (some ⟨a, 0, none⟩)] w fun e w' => ∃ v qs, e = .returned v ∧ qs.Perm (es.toList.map kp) ∧ qs.Pairwise (fun a b => plt b a = false) ∧ RowPW w.heap.size w' v qs ∧ Below w.heap.size w w' := by
  have hbl : b < w.heap.size := (Array.getElem?_eq_some_iff.1 hb).1
  have hbox := World.alloc_heap_new w (.cells #[.map (some b)] 107)
  have hB : Below w.heap.size w (w.alloc (.cells #[.map (some b)] 107)) := (Below.refl _ w).alloc (Nat.le_refl _) _
  have hs := sorted_calls w.heap.size b c es kp (w.alloc (.cells #[.map (some b)] 107)) (by simp; omega) hst hkp ((hB.block b hbl).trans hb) (cell_of_box hbox).1 (by simp) hlen
  have hk := keys_calls b w
  clear hbox
  go_enter Try.func40, Try.ntmps40
  go_wp2_with (first
    | (go_at_call 67; refine hk.mono ?_; rintro e w1 ⟨rfl, hw1⟩; rw [hw1])
    | (go_at_call 66; refine hs.mono ?_; rintro e w2 ⟨v, qs, rfl, g1, g2, g3, g4⟩))
  go_ret
  refine ⟨v, qs, rfl, g1, g2, ?_, hB.trans (g4.mono (by simp))⟩
  rcases g3 with g3 | ⟨g, cap, cur, x1, x2, x3⟩
  · exact .inl g3
  · exact .inr ⟨g, cap, cur, x1, by simp at x2; omega, x3⟩
end Go.Proofs.Ytnlohongffpkpaa.T16
end

section
/- Layer 17: Places' summary. A text of the session's own. -/
namespace Go.Proofs.Ytnlohongffpkpaa.T16
open Go Go.RowKit Go.Proofs.Ytnlohongffpkpaa.Sx Go.Proofs
set_option linter.unusedVariables false
set_option linter.unusedSimpArgs false

/-- a slice of places, in a memory -/
def RowP (m : Mem) (v : Value) (ps : List Pl) : Prop :=
  (v = .slice none 0 0 ∧ ps = []) ∨ ∃ g cap cur, v = .slice (some ⟨g, 0, none⟩) ps.length cap ∧ m g = some (.cells cur 59 (0, 0)) ∧ ps.length ≤ cap ∧
    ∀ i p, ps[i]? = some p → cur[i * 3]? = some (.int .i64 p.1) ∧ cur[i * 3 + 1]? = some (.int .i64 p.2.1) ∧ cur[i * 3 + 2]? = some (.int .i64 p.2.2)
section
variable {m m' : Mem} {v : Value} {ps : List Pl}
theorem RowP.sl (h : RowP m v ps) : pl v = v ∧ isSlV v = true ∧ slN v = ps.length := by
  rcases h with ⟨rfl, rfl⟩ | ⟨g, cap, cur, rfl, _⟩ <;> exact ⟨rfl, rfl, rfl⟩
theorem RowP.more (h : RowP m v ps) (hm : ∀ a : Nat, slB v = (a : Int) + 1 → m a ≠ none → m' a = m a) : RowP m' v ps := by
  rcases h with ⟨rfl, rfl⟩ | ⟨g, cap, cur, rfl, h1, h2, h3⟩
  · exact .inl ⟨rfl, rfl⟩
  · exact .inr ⟨g, cap, cur, rfl, (hm g rfl (by rw [h1]; simp)).trans h1, h2, h3⟩
theorem RowP.there (h : RowP m v ps) {a : Nat} (ha : slB v = (a : Int) + 1) : m a ≠ none := by
  rcases h with ⟨rfl, rfl⟩ | ⟨g, cap, cur, rfl, h1, h2, h3⟩
  · simp only [slB] at ha; omega
  · simp only [slB] at ha
    have : g = a := by omega
    rw [← this, h1]; simp
theorem RowP.get (h : RowP m v ps) {i : Nat} {p : Pl} (hp : ps[i]? = some p) :
    inSl v (i : Int) = true ∧ okL m (slB v) (aOff (slO v) i 3) [.li .i64 0, .li .i64 0, .li .i64 0] = true ∧ gI m (slB v) (aOff (slO v) i 3) = p.1 ∧ gI m (slB v) (.succ (aOff (slO v) i 3)) = p.2.1 ∧ gI m (slB v) (.succ (.succ (aOff (slO v) i 3))) = p.2.2 := by
  have hlt : i < ps.length := (List.getElem?_eq_some_iff.1 hp).1
  rcases h with ⟨rfl, rfl⟩ | ⟨g, cap, cur, rfl, h1, h2, h3⟩
  · simp at hlt
  obtain ⟨c0, c1, c2⟩ := h3 i p hp
  have ea : aOff 0 (i : Int) 3 = i * 3 := by simp [aOff]
  have eb : (i * 3).succ = i * 3 + 1 := rfl
  have ec : (i * 3 + 1).succ = i * 3 + 2 := rfl
  simp only [slB, slO, ea, eb, ec]
  refine ⟨?_, ?_, ?_, ?_, ?_⟩
  · have : Nat.ble ps.length cap = true := Nat.ble_eq_true_of_le h2
    simp [inSl, isSl, slN, this, hlt]
  · unfold okL; rw [mget_of h1]
    simp only [okR, c0, c1, c2, okC, isK, decide_true, Bool.and_self]
  · unfold gI mcell; rw [mget_of h1]; simp [c0, vI]
  · unfold gI mcell; rw [mget_of h1]; simp [c1, vI]
  · unfold gI mcell; rw [mget_of h1]; simp [c2, vI]
end
/-- which places have something, by the map's entries -/
theorem dom_iff {G : GG} {m : Mem} (h : G.is m) {es : Array MapEntry} {c : Nat} (hm : m G.mr = some (.map es c)) (p : Pl) : (∃ e ∈ es.toList, e.key = pKey p) ↔ (G.R p).isSome = true := by
  obtain ⟨es', c', k1, k2, k3, k4⟩ := h.kr
  rw [hm] at k1; cases k1
  have key : okP' p → ((∃ e ∈ es.toList, e.key = pKey p) ↔ (G.R p).isSome = true) := fun hp => by
    have hl := h.lr p hp
    constructor
    · rintro ⟨e, he, ek⟩
      have := (h.kr.look (okKey59 hp).2 e.val).2 ⟨es, c, hm, e, he, ek, rfl⟩
      rw [hl] at this
      cases hR : G.R p with
      | none => rw [hR] at this; cases this
      | some X => rfl
    · intro hR
      obtain ⟨X, hX⟩ := Option.isSome_iff_exists.1 hR
      rw [hX] at hl
      obtain ⟨es', c', e1, e, he, ek, _⟩ := (h.kr.look (okKey59 hp).2 _).1 hl
      rw [hm] at e1; cases e1
      exact ⟨e, he, ek⟩
  constructor
  · rintro ⟨e, he, ek⟩
    obtain ⟨l, hl⟩ := k2 e he
    obtain ⟨q, hq, hq2⟩ := key59_inv hl
    have : p = q := pKey_inj (ek.symm.trans hq)
    subst this
    exact (key hq2).1 ⟨e, he, ek⟩
  · intro hR
    obtain ⟨X, hX⟩ := Option.isSome_iff_exists.1 hR
    exact (key (h.st p X hX).2.2).2 hR
def placesPre (G : GG) (m : Mem) (t : Int) : Prop := t = (G.g : Int) + 1 ∧ G.is m ∧ ∀ L : List Pl, L.Nodup → (∀ p ∈ L, (G.R p).isSome = true) → L.length < 1099511627776
def placesPost (m : Mem) (G : GG) (y : Vars) : Prop := ∃ ps : List Pl, RowP y.m (hdV y.v) ps ∧ ps.Nodup ∧ (∀ p, p ∈ ps ↔ (G.R p).isSome = true) ∧ ps.Pairwise (fun a b => plt b a = false) ∧ (∀ a, m a ≠ none → y.m a = m a) ∧ ∀ a : Nat, slB (hdV y.v) = (a : Int) + 1 → m a = none
def placesP (m : Mem) (t : Int) : Prop := ∃ G, placesPre G m t
def placesQ (m : Mem) (t : Int) (y : Vars) : Prop := ∀ G, placesPre G m t → placesPost m G y
def s_places : Sum := memSum 40 fun m a => match a with | [a0] => (match ptrOf a0 with | some t => some ⟨placesP m t, placesQ m t, fun y => .u (.c (.sv (hdV y.v)))⟩ | _ => none) | _ => none
theorem nodup_map_kp {kp : MapEntry → Pl} {l : List MapEntry} (hp : l.Pairwise fun a b => a.key ≠ b.key) (hk : ∀ e ∈ l, e.key = pKey (kp e)) : (l.map kp).Nodup := by
  induction l with
  | nil => simp
  | cons e l ih =>
    rw [List.pairwise_cons] at hp
    rw [List.map_cons, List.nodup_cons]
    refine ⟨fun hm => ?_, ih hp.2 fun x hx => hk x (by simp [hx])⟩
    obtain ⟨x, hx, ex⟩ := List.mem_map.1 hm
    exact hp.1 x hx (by rw [hk e (by simp), hk x (by simp [hx]), ex])
theorem s_places_ok : SumOK Try.prog s_places := by
  refine memSum_ok ⟨_, Try.func40, by kernel_rfl⟩ fun m args ms h hp hwf ρ w hm => ?_
  split at h
  · split at h
    · rename_i a0 _ t h0
      cases h
      obtain ⟨G, rfl, hG, hN⟩ := hp
      obtain ⟨es, c, k1, k2, k3, k4⟩ := id hG.kr
      have hkp : ∃ kp : MapEntry → Pl, ∀ e ∈ es.toList, e.key = pKey (kp e) := by
        classical
        refine ⟨fun e => if h : ∃ p, e.key = pKey p then Classical.choose h else (0, 0, 0), fun e he => ?_⟩
        obtain ⟨l, hl⟩ := k2 e he
        obtain ⟨q, hq, _⟩ := key59_inv hl
        have hex : ∃ p, e.key = pKey p := ⟨q, hq⟩
        simp only [dif_pos hex]
        exact Classical.choose_spec hex
      obtain ⟨kp, hkp⟩ := hkp
      have hv : (List.map (V.den ρ) [a0]).toArray = #[.pointer (some ⟨G.g, 0, none⟩)] := by
        rw [List.map_cons, List.map_nil, ptrOf_den h0]
        show #[pv ((G.g : Int) + 1) 0] = _
        rw [pv_succ]
      rw [hv]
      have hnd := nodup_map_kp k3 hkp
      have hmem : ∀ p, p ∈ es.toList.map kp ↔ ∃ e ∈ es.toList, e.key = pKey p := fun p => by
        rw [List.mem_map]
        constructor
        · rintro ⟨e, he, rfl⟩; exact ⟨e, he, hkp e he⟩
        · rintro ⟨e, he, ek⟩; exact ⟨e, he, pKey_inj ((hkp e he).symm.trans ek)⟩
      have hlen : es.size < 1099511627776 := by
        have := hN _ hnd fun p hp => (dom_iff hG k1 p).1 ((hmem p).1 hp)
        simpa using this
      have ha : w.cell? ⟨G.g, 0, none⟩ = some (.map (some G.mr)) := by
        have := hm _ _ hG.hd
        unfold World.cell?; rw [this]; rfl
      refine (places_calls G.g G.mr c es kp w ha k4 hkp (hm _ _ k1) hlen).mono ?_
      rintro e w' ⟨v, ps, rfl, hperm, hsort, hrow, hb⟩
      have ltm : ∀ a o, m a = some o → a < w.heap.size := fun a o h => (Array.getElem?_eq_some_iff.1 (hm a o h)).1
      have post : ∀ m', RowP m' v ps → (∀ a, m a ≠ none → m' a = m a) → (∀ a : Nat, slB v = (a : Int) + 1 → m a = none) → placesQ m ((G.g : Int) + 1) ⟨[], [], [v], m'⟩ := by
        intro m' r1 r2 r3 G' hG'
        obtain ⟨g1, g2, _⟩ := hG'
        have eg : G'.g = G.g := by omega
        have er : G'.mr = G.mr := by
          have := g2.hd
          rw [eg, hG.hd] at this
          simp only [gO, Option.some.injEq, Obj.cells.injEq, Array.mk.injEq, List.cons.injEq, Value.map.injEq] at this
          exact this.1.1.symm
        refine ⟨ps, r1, hperm.nodup_iff.2 hnd, fun p => ?_, hsort, r2, r3⟩
        rw [hperm.mem_iff, hmem]
        exact dom_iff g2 (er ▸ k1) p
      rcases hrow with ⟨rfl, rfl⟩ | ⟨g, cap, cur, rfl, hg0, hg, h1, h2⟩
      · exact ⟨⟨[], [], [.slice none 0 0], m⟩, post m (.inl ⟨rfl, rfl⟩) (fun _ _ => rfl) (fun a ha => by simp only [slB] at ha; omega), rfl, ⟨hb.os, hb.tape, hb.output, hb.size, fun a o h => (hb.block a (ltm a o h)).trans (hm a o h), fun k hk _ => hb.block k hk, fun a o h => .inl (by have h : m a = some o := h; rw [h]; simp)⟩⟩
      · have hgn : m g = none := by
          cases h : m g with
          | none => rfl
          | some o => have := ltm g o h; omega
        refine ⟨⟨[], [], [.slice (some ⟨g, 0, none⟩) ps.length cap], alO m g (.cells cur 59 (0, 0))⟩, post _ (.inr ⟨g, cap, cur, rfl, alO_self _ _ _, h1, h2⟩) (fun a ha => alO_ne _ (by rintro rfl; exact ha hgn)) (fun a ha => ?_), rfl, ⟨hb.os, hb.tape, hb.output, hb.size, fun a o h => ?_, fun k hk _ => hb.block k hk, fun a o h => ?_⟩⟩
        · simp only [slB] at ha
          have : g = a := by omega
          rw [← this]; exact hgn
        · show w'.heap[a]? = _
          simp only [alO] at h
          by_cases e : a = g
          · rw [if_pos e] at h; cases h; subst e; exact hg
          · rw [if_neg e] at h; exact (hb.block a (ltm a o h)).trans (hm a o h)
        · simp only [alO] at h
          by_cases e : a = g
          · subst e; exact .inr hg0
          · rw [if_neg e] at h; exact .inl (by rw [h]; simp)
    · cases h
  · cases h
end Go.Proofs.Ytnlohongffpkpaa.T16
end

section
/- Layer 17: GraphDrains' walk. A text of the session's own. -/
namespace Go.Proofs.Ytnlohongffpkpaa.T16
open Go Go.RowKit Go.Proofs.Ytnlohongffpkpaa.Sx Go.Proofs
set_option linter.unusedVariables false
set_option linter.unusedSimpArgs false

def s_gworks : Sum := { f := 28, s := fun args => match args with | [] => some ([], .u (.c (.lb true))) | _ => none }
theorem s_gworks_ok : SumOK Try.prog s_gworks := by
  refine ⟨⟨(fun _ h => by cases h), (fun _ h => by cases h), (fun _ h => by cases h)⟩, .inr ⟨rfl, .inr ⟨rfl, .inr ⟨rfl, ⟨_, Try.func28, by kernel_rfl⟩, fun args bs r ρ w hs hb => ?_⟩⟩⟩⟩
  simp only [s_gworks] at hs
  split at hs
  · cases hs
    exact pure_to nameOK okn (dOK okn) 600 [] (T := .leaf (.val (.u (.c (.lb true))))) (by kernel_rfl) ρ rfl (by simp only [Tr.all]) w
  · cases hs
def s_gone1 : Sum := { f := 30, s := fun args => match args with | [.u (.c (.si .u8 n))] => some ([], .u (.agg [.si .i64 (iConv .i64 n), .li .u64 1])) | _ => none }
theorem s_gone1_ok : SumOK Try.prog s_gone1 := by
  refine ⟨⟨(fun _ h => by cases h), (fun _ h => by cases h), (fun _ h => by cases h)⟩, .inr ⟨rfl, .inr ⟨rfl, .inr ⟨rfl, ⟨_, Try.func30, by kernel_rfl⟩, fun args bs r ρ w hs hb => ?_⟩⟩⟩⟩
  simp only [s_gone1] at hs
  split at hs
  · rename_i n
    cases hs
    exact pure_to nameOK okn (dOK okn) 300 [.u (.c (.si .u8 n))] (T := .leaf (.val (.u (.agg [.si .i64 (iConv .i64 n), .li .u64 1])))) (by kernel_rfl) ρ rfl (by simp only [Tr.all]) w
  · cases hs
/-! which nodes may come -/
theorem GG.is.no {G : GG} {m : Mem} (h : G.is m) {p : Pl} {k : Hn} (hk : k ∉ hsO (G.R p)) : G.N p k = none := by
  cases e : G.N p k with
  | none => rfl
  | some n =>
    obtain ⟨X, hX, hx⟩ := (h.nh p k).1 (by rw [e]; rfl)
    rw [hX] at hk; exact absurd hx hk
/-- what a part of the walk knows of the graph -/
structure DrS (G : GG) (p q : Pl) (tr : Bool) (W H : List Hn) : Prop where
  pW : hsO (G.R p) = W
  pk : ∀ X, G.R p = some X → X.tree = tr
  qH : hsO (G.R q) = H
  qk : ∀ X, G.R q = some X → X.tree = false
  oth : ∀ r, r ≠ p → r ≠ q → G.R r = none
  np : ∀ k n, G.N p k = some n → n = 8
  nq : ∀ k n, G.N q k = some n → n = 16
section
variable {G : GG} {m : Mem} {p q : Pl} {tr : Bool} {W H : List Hn}
/-- all of p is gone -/
theorem DrS.gone (s : DrS G p q tr W H) (hpq : p ≠ q) {G' : GG} (hR : ∀ r, G'.R r = if r = p then none else G.R r) (hN : ∀ r k, G'.N r k = if r = p then none else G.N r k) (tr' : Bool) : DrS G' p q tr' [] H := by
  refine ⟨by rw [hR]; simp [hsO], fun X hX => ?_, by rw [hR, if_neg (Ne.symm hpq)]; exact s.qH, fun X hX => ?_, fun r h1 h2 => by rw [hR, if_neg h1]; exact s.oth r h1 h2, fun j n hj => ?_, fun j n hj => ?_⟩
  · rw [hR, if_pos rfl] at hX; cases hX
  · rw [hR, if_neg (Ne.symm hpq)] at hX; exact s.qk X hX
  · rw [hN, if_pos rfl] at hj; cases hj
  · rw [hN, if_neg (Ne.symm hpq)] at hj; exact s.nq j n hj
end
/-- a slice's literal of one handle -/
theorem SlH.one {m : Mem} {s g : Int} {a : Nat} : SlH (alM m ((a : Int) + 1) (.mk [.int .i64 s, .int .u64 g]) 29) (slOf ((a : Int) + 1) 1) [(s, g)] := by
  rw [alM_alO]
  have : slOf ((a : Int) + 1) 1 = .slice (some ⟨a, 0, none⟩) ([(s, g)] : List Hn).length 1 := by
    unfold slOf; rw [show ((a : Int) + 1).toNat = a + 1 by omega]; rfl
  rw [this]
  exact SlH.of (by simp) (alO_self _ _ _) (by simp) (by simp [isPlain]) (by simp [hCells])
theorem DrS.hW {G : GG} {p q : Pl} {tr : Bool} {W H : List Hn} (s : DrS G p q tr W H) : hsO (G.R p) = W := s.pW
/-- what lies beside the graph stays, and beside it -/
theorem GG.to.beside {G G' : GG} {m m' : Mem} (h : G.to G' m m') {v : Value} {hs : List Hn} (hv : SlH m v hs) (ho : ∀ a : Nat, slB v = (a : Int) + 1 → ¬ G.dom a) : SlH m' v hs ∧ ∀ a : Nat, slB v = (a : Int) + 1 → ¬ G'.dom a := by
  refine ⟨hv.more fun a ha hn => h.keep a hn (ho a ha), fun a ha hd => ?_⟩
  rcases h.dom a hd with h1 | h1
  · exact ho a ha h1
  · rcases hv.inv with ⟨rfl, _⟩ | ⟨b, o, c, cs, ty, rfl, _, h2, _⟩
    · simp only [slB] at ha; omega
    · simp only [slB] at ha
      have : b = a := by omega
      subst this
      rw [h2] at h1; cases h1
end Go.Proofs.Ytnlohongffpkpaa.T16
end

section
/- Layer 16: TreeLow's contract. A text of the session's own. -/
namespace Go.Proofs.Ytnlohongffpkpaa.T16
open Go Go.RowKit Go.Proofs.Ytnlohongffpkpaa.Sx Go.Proofs Go.WideShapes Go.ChangeShapes
set_option linter.unusedVariables false
set_option linter.unusedSimpArgs false

def both (m1 m2 : Mem) : Mem := fun a => match m1 a with | some o => some o | none => m2 a
end Go.Proofs.Ytnlohongffpkpaa.T16
end

section
/- Layer 17: GraphDrains' walk: the second loop; all. A text of the session's own. -/
namespace Go.Proofs.Ytnlohongffpkpaa.T16
open Go Go.RowKit Go.Proofs.Ytnlohongffpkpaa.Sx Go.Proofs Go.WideShapes Go.ChangeShapes
set_option linter.unusedVariables false
set_option linter.unusedSimpArgs false

theorem SlH.there {m : Mem} {v : Value} {hs : List Hn} (h : SlH m v hs) {a : Nat} (ha : slB v = (a : Int) + 1) : m a ≠ none := by
  rcases h.inv with ⟨rfl, _⟩ | ⟨b, o, c, cs, ty, rfl, _, h2, _⟩
  · simp only [slB] at ha; omega
  · simp only [slB] at ha
    have : b = a := by omega
    subst this
    rw [h2]; simp
end Go.Proofs.Ytnlohongffpkpaa.T16
end

section
/- Layer 17: GraphApart's walk. A text of the session's own. -/
namespace Go.Proofs.Ytnlohongffpkpaa.T16
open Go Go.RowKit Go.Proofs.Ytnlohongffpkpaa.Sx Go.Proofs
set_option linter.unusedVariables false
set_option linter.unusedSimpArgs false

/-! what becomes of a place, by what it has -/
section
variable {G : GG} {m : Mem} {p : Pl} {k : Hn}
theorem GG.is.nhs (h : G.is m) : (G.N p k).isSome = true ↔ k ∈ hsO (G.R p) := by
  rw [h.nh]
  cases hX : G.R p with
  | none => simp [hsO]
  | some X => simp [hsO]
end
/-- a graph behind a call at a place -/
structure Out (G G' : GG) (m m' : Mem) (p : Pl) (k : Hn) : Prop where
  to : G.to G' m m'
  oth : ∀ q, q ≠ p → G'.R q = G.R q
  sub : ∀ r j n, G'.N r j = some n → G.N r j = some n ∨ (r = p ∧ j = k ∧ n = 8)
  len : (hsO (G'.R p)).length ≤ (hsO (G.R p)).length + 1
section
variable {G : GG} {m : Mem} {p : Pl} {k : Hn}
theorem Out.same (h : G.is m) {m' : Mem} (hm : ∀ a, m a ≠ none → m' a = m a) : Out G G m m' p k :=
  ⟨⟨h.congr fun a ha => hm a (h.there ha), rfl, fun _ ha => .inl ha, fun a ha _ => hm a ha⟩, fun _ _ => rfl, fun _ _ _ hn => .inl hn, by omega⟩
theorem Out.come {m' : Mem} {X' : Str} (ht : G.to (G.come p k 8 X') m m') (hl : X'.hs.length ≤ (hsO (G.R p)).length + 1) : Out G (G.come p k 8 X') m m' p k := by
  refine ⟨ht, fun q hq => if_neg hq, fun r j n hn => ?_, ?_⟩
  · have hn : updN G.N p k (some 8) r j = some n := hn
    simp only [updN] at hn
    split at hn
    · rename_i h; cases hn; exact .inr ⟨h.1, h.2, rfl⟩
    · exact .inl hn
  · show (hsO (upd1 G.R p (some X') p)).length ≤ _
    rw [show upd1 G.R p (some X') p = some X' from if_pos rfl]; exact hl
theorem Out.go {m' : Mem} {X' : Str} {j : Hn} {n : Int} (ht : G.to (G.go p j n X') m m') (hl : X'.hs.length ≤ (hsO (G.R p)).length) : Out G (G.go p j n X') m m' p k := by
  refine ⟨ht, fun q hq => if_neg hq, fun r i n' hn => ?_, ?_⟩
  · have hn : updN G.N p j none r i = some n' := hn
    simp only [updN] at hn
    split at hn
    · cases hn
    · exact .inl hn
  · show (hsO (upd1 G.R p (goneR X') p)).length ≤ _
    rw [show upd1 G.R p (goneR X') p = goneR X' from if_pos rfl]
    unfold goneR
    cases he : X'.hs with
    | nil => simp [hsO]
    | cons x r => simp only [hsO, he] at hl ⊢; omega
end

/-! two graphs beside each other -/
abbrev P1 : Pl := (1, 0, 0)
abbrev P2 : Pl := (2, 0, 0)
structure ApB (m0 : Mem) (Gg Ga : GG) (m : Mem) : Prop where
  ig : Gg.is m
  ia : Ga.is m
  dj : ∀ a, Gg.dom a → ¬ Ga.dom a
  fg : ∀ a, Gg.dom a → m0 a = none
  fa : ∀ a, Ga.dom a → m0 a = none
  kp : ∀ a, m0 a ≠ none → m a = m0 a
  ng : ∀ r k n, Gg.N r k = some n → n = 8 ∧ ((r = P1 ∧ k.2 = 1) ∨ (r = P2 ∧ k.2 = 2))
  na : ∀ r k n, Ga.N r k = some n → n = 8 ∧ r = P1 ∧ k.2 = 1
section
variable {m0 m m' : Mem} {Gg Ga G' : GG}
theorem ApB.g (b : ApB m0 Gg Ga m) {p : Pl} {k : Hn} (o : Out Gg G' m m' p k) (hp : (p = P1 ∧ k.2 = 1) ∨ (p = P2 ∧ k.2 = 2)) : ApB m0 G' Ga m' := by
  have old : ∀ a, m0 a ≠ none → ¬ Gg.dom a := fun a ha hd => ha (b.fg a hd)
  refine ⟨o.to.is', b.ia.congr fun a ha => o.to.keep a (b.ia.there ha) fun hd => b.dj a hd ha, fun a ha hd => ?_, fun a ha => ?_, b.fa, fun a ha => ?_, fun r j n hn => ?_, b.na⟩
  · rcases o.to.dom a ha with h | h
    · exact b.dj a h hd
    · exact b.ia.there hd h
  · rcases o.to.dom a ha with h | h
    · exact b.fg a h
    · cases e : m0 a with
      | none => rfl
      | some x => have := b.kp a (by rw [e]; simp); rw [h, e] at this; cases this
  · exact (o.to.keep a (by rw [b.kp a ha]; exact ha) (old a ha)).trans (b.kp a ha)
  · rcases o.sub r j n hn with h | ⟨rfl, rfl, rfl⟩
    · exact b.ng r j n h
    · exact ⟨rfl, hp⟩
theorem ApB.a (b : ApB m0 Gg Ga m) {k : Hn} (o : Out Ga G' m m' P1 k) (hk : k.2 = 1) : ApB m0 Gg G' m' := by
  have old : ∀ a, m0 a ≠ none → ¬ Ga.dom a := fun a ha hd => ha (b.fa a hd)
  refine ⟨b.ig.congr fun a ha => o.to.keep a (b.ig.there ha) fun hd => b.dj a ha hd, o.to.is', fun a ha hd => ?_, b.fg, fun a ha => ?_, fun a ha => ?_, b.ng, fun r j n hn => ?_⟩
  · rcases o.to.dom a hd with h | h
    · exact b.dj a ha h
    · exact b.ig.there ha h
  · rcases o.to.dom a ha with h | h
    · exact b.fa a h
    · cases e : m0 a with
      | none => rfl
      | some x => have := b.kp a (by rw [e]; simp); rw [h, e] at this; cases this
  · exact (o.to.keep a (by rw [b.kp a ha]; exact ha) (old a ha)).trans (b.kp a ha)
  · rcases o.sub r j n hn with h | ⟨rfl, rfl, rfl⟩
    · exact b.na r j n h
    · exact ⟨rfl, rfl, hk⟩
theorem ApB.more (b : ApB m0 Gg Ga m) (hm : ∀ a, m a ≠ none → m' a = m a) : ApB m0 Gg Ga m' :=
  ⟨b.ig.congr fun a ha => hm a (b.ig.there ha), b.ia.congr fun a ha => hm a (b.ia.there ha), b.dj, b.fg, b.fa, fun a ha => (hm a (by rw [b.kp a ha]; exact ha)).trans (b.kp a ha), b.ng, b.na⟩
end
/-- .. as one at P1 -/
structure ApS (m0 : Mem) (tg ta : Int) (c : Nat) (m : Mem) (Gg Ga : GG) : Prop where
  b : ApB m0 Gg Ga m
  g : tg = (Gg.g : Int) + 1
  a : ta = (Ga.g : Int) + 1
  eq : (kindO (Gg.R P1), hsO (Gg.R P1)) = (kindO (Ga.R P1), hsO (Ga.R P1))
  l1 : (hsO (Gg.R P1)).length ≤ c
  l2 : (hsO (Gg.R P2)).length ≤ c
end Go.Proofs.Ytnlohongffpkpaa.T16
end

section
/- Layer 17: GraphApart's contract: a slice of steps; all. A text of the session's own. -/
namespace Go.Proofs.Ytnlohongffpkpaa.T16
open Go Go.RowKit Go.Proofs.Ytnlohongffpkpaa.Sx Go.Proofs Go.WideShapes Go.ChangeShapes
set_option linter.unusedVariables false
set_option linter.unusedSimpArgs false

/-- a step of a graph's script -/
structure S9 where
  d : Int
  a : Int
  n : Int
  p : Pl
  h : Hn
  f : Bool
def S9.cells (x : S9) : List Value := [.int .i64 x.d, .int .i64 x.a, .int .i64 x.n, .int .i64 x.p.1, .int .i64 x.p.2.1, .int .i64 x.p.2.2, .int .i64 x.h.1, .int .u64 x.h.2, .bool x.f]
def S9.ok (x : S9) : Prop := inI x.a ∧ inI x.n ∧ okP' x.p ∧ okH x.h
structure Arg9 (l : Value) (xs : List S9) (m : Mem) : Prop where
  sl : isSlV (pl l) = true
  n : slN (pl l) = xs.length
  at' : ∀ i : Nat, ∀ x, xs[i]? = some x → inSl (pl l) i = true ∧ okL m (slB (pl l)) (aOff (slO (pl l)) i 9) [.li .i64 0, .li .i64 0, .li .i64 0, .li .i64 0, .li .i64 0, .li .i64 0, .li .i64 0, .li .u64 0, .lb false] = true ∧
    gI m (slB (pl l)) (aOff (slO (pl l)) i 9) = x.d ∧ gI m (slB (pl l)) (.succ (aOff (slO (pl l)) i 9)) = x.a ∧ gI m (slB (pl l)) (.succ (.succ (aOff (slO (pl l)) i 9))) = x.n ∧
    gI m (slB (pl l)) (.succ (.succ (.succ (aOff (slO (pl l)) i 9)))) = x.p.1 ∧ gI m (slB (pl l)) (.succ (.succ (.succ (.succ (aOff (slO (pl l)) i 9))))) = x.p.2.1 ∧ gI m (slB (pl l)) (.succ (.succ (.succ (.succ (.succ (aOff (slO (pl l)) i 9)))))) = x.p.2.2 ∧
    gI m (slB (pl l)) (.succ (.succ (.succ (.succ (.succ (.succ (aOff (slO (pl l)) i 9))))))) = x.h.1 ∧ gI m (slB (pl l)) (.succ (.succ (.succ (.succ (.succ (.succ (.succ (aOff (slO (pl l)) i 9)))))))) = x.h.2 ∧
    gB m (slB (pl l)) (.succ (.succ (.succ (.succ (.succ (.succ (.succ (.succ (aOff (slO (pl l)) i 9))))))))) = x.f
  rng : ∀ x ∈ xs, x.ok
theorem Arg9.more {l : Value} {xs : List S9} {m m' : Mem} (h : Arg9 l xs m) (hm : ∀ a, m a ≠ none → m' a = m a) : Arg9 l xs m' := by
  refine ⟨h.sl, h.n, fun i x hx => ?_, h.rng⟩
  obtain ⟨a1, a2, c0, c1, c2, c3, c4, c5, c6, c7, c8⟩ := h.at' i x hx
  obtain ⟨b1, b2⟩ := okL_more hm a2
  unfold gI at c0 c1 c2 c3 c4 c5 c6 c7 ⊢
  unfold gB at c8 ⊢
  simp only [b2]
  exact ⟨a1, b1, c0, c1, c2, c3, c4, c5, c6, c7, c8⟩
/-! the slice, opened -/
/-- three whole numbers -/
def plTy (P : Program) (t : Nat) : Bool := match P.underlying t with
  | some (.struct fs) => (match fs.toList with
    | [f, g, h] => Nat.beq f.offset 0 && Nat.beq g.offset 1 && Nat.beq h.offset 2 && Nat.beq (P.cellsOf f.type) 1 && Nat.beq (P.cellsOf g.type) 1 && Nat.beq (P.cellsOf h.type) 1 && Nat.beq (P.cellsOf t) 3 && (match P.underlying f.type with | some (.int .i64) => true | _ => false) && (match P.underlying g.type with | some (.int .i64) => true | _ => false) && (match P.underlying h.type with | some (.int .i64) => true | _ => false)
    | _ => false)
  | _ => false
def s9Ty (P : Program) (t : Nat) : Bool := match P.underlying t with
  | some (.struct fs) => (match fs.toList with
    | [f0, f1, f2, f3, f4, f5] => Nat.beq f0.offset 0 && Nat.beq f1.offset 1 && Nat.beq f2.offset 2 && Nat.beq f3.offset 3 && Nat.beq f4.offset 6 && Nat.beq f5.offset 8 && Nat.beq (P.cellsOf f0.type) 1 && Nat.beq (P.cellsOf f1.type) 1 && Nat.beq (P.cellsOf f2.type) 1 && Nat.beq (P.cellsOf f3.type) 3 && Nat.beq (P.cellsOf f4.type) 2 && Nat.beq (P.cellsOf f5.type) 1 && Nat.beq (P.cellsOf t) 9 &&
      (match P.underlying f0.type with | some (.int .i64) => true | _ => false) && (match P.underlying f1.type with | some (.int .i64) => true | _ => false) && (match P.underlying f2.type with | some (.int .i64) => true | _ => false) && plTy P f3.type && hTy P f4.type && (match P.underlying f5.type with | some .bool => true | _ => false)
    | _ => false)
  | _ => false
section
variable {H : Type} {enc : TypeId × Value → H} {P : Program} {W : World} {base : Nat} {sp : Nat → Bool} {held : Bool}
theorem pl_cells {t n : Nat} {cs : List Value} {x : DataW H × List MemPlace} (ht : plTy P t = true) (h : DataW.trod enc P W base sp held n t cs = some x) : ∃ p : Pl, cs = [.int .i64 p.1, .int .i64 p.2.1, .int .i64 p.2.2] ∧ okP' p := by
  unfold plTy at ht
  split at ht
  · rename_i fs hu
    split at ht
    · rename_i f0 f1 f2 hfs
      simp only [Bool.and_eq_true] at ht
      obtain ⟨⟨⟨⟨⟨⟨⟨⟨⟨a1, a2⟩, a3⟩, a4⟩, a5⟩, a6⟩, a7⟩, a8⟩, a9⟩, a10⟩ := ht
      replace a1 := Nat.eq_of_beq_eq_true a1
      replace a2 := Nat.eq_of_beq_eq_true a2
      replace a3 := Nat.eq_of_beq_eq_true a3
      replace a4 := Nat.eq_of_beq_eq_true a4
      replace a5 := Nat.eq_of_beq_eq_true a5
      replace a6 := Nat.eq_of_beq_eq_true a6
      replace a7 := Nat.eq_of_beq_eq_true a7
      have hf : fs = #[f0, f1, f2] := by rw [← Array.toArray_toList (xs := fs), hfs]
      subst hf
      have u0 : P.underlying f0.type = some (.int .i64) := by revert a8; split <;> simp_all
      have u1 : P.underlying f1.type = some (.int .i64) := by revert a9; split <;> simp_all
      have u2 : P.underlying f2.type = some (.int .i64) := by revert a10; split <;> simp_all
      obtain ⟨xs, k, _, _, hl, hxl, hall⟩ := DataW.trod_struct hu h
      rw [a7] at hl
      match cs, hl with
      | [v0, v1, v2], _ =>
        match xs, hxl with
        | [y0, y1, y2], _ =>
          have g0 := hall 0 f0 rfl
          have g1 := hall 1 f1 rfl
          have g2 := hall 2 f2 rfl
          simp [a1, a2, a3, a4, a5, a6] at g0 g1 g2
          obtain ⟨b0, e0, _, w0⟩ := DataW.trod_int u0 g0
          obtain ⟨b1, e1, _, w1⟩ := DataW.trod_int u1 g1
          obtain ⟨b2, e2, _, w2⟩ := DataW.trod_int u2 g2
          simp only [List.cons.injEq, and_true] at e0 e1 e2
          subst e0 e1 e2
          exact ⟨(b0, b1, b2), rfl, wf_inI w0, wf_inI w1, wf_inI w2⟩
    · cases ht
  · cases ht
theorem s9_cells {t n : Nat} {cs : List Value} {x : DataW H × List MemPlace} (ht : s9Ty P t = true) (h : DataW.trod enc P W base sp held n t cs = some x) : ∃ s : S9, cs = s.cells ∧ s.ok := by
  unfold s9Ty at ht
  split at ht
  · rename_i fs hu
    split at ht
    · rename_i f0 f1 f2 f3 f4 f5 hfs
      simp only [Bool.and_eq_true] at ht
      obtain ⟨⟨⟨⟨⟨⟨⟨⟨⟨⟨⟨⟨⟨⟨⟨⟨⟨⟨o0, o1⟩, o2⟩, o3⟩, o4⟩, o5⟩, c0⟩, c1⟩, c2⟩, c3⟩, c4⟩, c5⟩, ct⟩, t0⟩, t1⟩, t2⟩, t3⟩, t4⟩, t5⟩ := ht
      replace o0 := Nat.eq_of_beq_eq_true o0
      replace o1 := Nat.eq_of_beq_eq_true o1
      replace o2 := Nat.eq_of_beq_eq_true o2
      replace o3 := Nat.eq_of_beq_eq_true o3
      replace o4 := Nat.eq_of_beq_eq_true o4
      replace o5 := Nat.eq_of_beq_eq_true o5
      replace c0 := Nat.eq_of_beq_eq_true c0
      replace c1 := Nat.eq_of_beq_eq_true c1
      replace c2 := Nat.eq_of_beq_eq_true c2
      replace c3 := Nat.eq_of_beq_eq_true c3
      replace c4 := Nat.eq_of_beq_eq_true c4
      replace c5 := Nat.eq_of_beq_eq_true c5
      replace ct := Nat.eq_of_beq_eq_true ct
      have hf : fs = #[f0, f1, f2, f3, f4, f5] := by rw [← Array.toArray_toList (xs := fs), hfs]
      subst hf
      have u0 : P.underlying f0.type = some (.int .i64) := by revert t0; split <;> simp_all
      have u1 : P.underlying f1.type = some (.int .i64) := by revert t1; split <;> simp_all
      have u2 : P.underlying f2.type = some (.int .i64) := by revert t2; split <;> simp_all
      have u5 : P.underlying f5.type = some .bool := by revert t5; split <;> simp_all
      obtain ⟨xs, k, _, _, hl, hxl, hall⟩ := DataW.trod_struct hu h
      rw [ct] at hl
      match cs, hl with
      | [v0, v1, v2, v3, v4, v5, v6, v7, v8], _ =>
        match xs, hxl with
        | [y0, y1, y2, y3, y4, y5], _ =>
          have g0 := hall 0 f0 rfl
          have g1 := hall 1 f1 rfl
          have g2 := hall 2 f2 rfl
          have g3 := hall 3 f3 rfl
          have g4 := hall 4 f4 rfl
          have g5 := hall 5 f5 rfl
          simp [o0, o1, o2, o3, o4, o5, c0, c1, c2, c3, c4, c5] at g0 g1 g2 g3 g4 g5
          obtain ⟨b0, e0, _, w0⟩ := DataW.trod_int u0 g0
          obtain ⟨b1, e1, _, w1⟩ := DataW.trod_int u1 g1
          obtain ⟨b2, e2, _, w2⟩ := DataW.trod_int u2 g2
          obtain ⟨p, e3, w3⟩ := pl_cells t3 g3
          obtain ⟨s, g, e4, i1, i2⟩ := han_cells t4 g4
          obtain ⟨r, e5, _⟩ := DataW.trod_bool u5 g5
          simp only [List.cons.injEq, and_true] at e0 e1 e2 e3 e4 e5
          obtain ⟨e3a, e3b, e3c⟩ := e3
          obtain ⟨e4a, e4b⟩ := e4
          subst e0 e1 e2 e3a e3b e3c e4a e4b e5
          exact ⟨⟨b0, b1, b2, p, (s, g), r⟩, rfl, wf_inI w1, wf_inI w2, w3, i1, i2⟩
    · cases ht
  · cases ht
instance : Inhabited S9 := ⟨⟨0, 0, 0, (0, 0, 0), (0, 0), false⟩⟩
theorem arg_s9 {b0 : Nat} {r : Reach} {t e : TypeId} {v : Value} {d : DataW H} {ps : List MemPlace} (hst : s9Ty P e = true) (ht : P.underlying t = some (.slice e)) {q : Prop} (hq : q) (hc : P.cellsOf e = 9)
    (hval : Value.okWide P W r b0 t v) (h : DataW.Trod enc P W base sp held t v d ps) : ∃ xs m, (∀ a o, m a = some o → W.heap[a]? = some o) ∧ Arg9 v xs m ∧ pl v = v := by
  obtain ⟨a, len, cap, rfl⟩ := okWide_slice ht hval
  obtain ⟨fuel, hf⟩ := h
  rcases Go.Deep.open_slice ht hf with ⟨hcs, hx⟩ | ⟨a', len', cap', m', n, D, Pl, hcs, _, hl, _, hm, _, hel⟩
  · simp [Value.cells] at hcs
    obtain ⟨rfl, rfl, rfl⟩ := hcs
    exact ⟨[], fun _ => none, (fun _ _ h => by cases h), ⟨rfl, rfl, fun i x h => (by simp at h), by simp⟩, rfl⟩
  · simp [Value.cells] at hcs
    obtain ⟨rfl, rfl, rfl⟩ := hcs
    have hlm : len ≤ m' := by rw [hm]; split <;> omega
    obtain ⟨X, hX⟩ := Go.Deep.choose_lt (n := len) (p := fun i (x : S9) => W.cells? base (a'.add (i * 9)) 9 = some x.cells ∧ x.ok) (fun i hi => by
      obtain ⟨cs', h1, h2⟩ := hel i (by omega)
      rw [hc] at h1
      obtain ⟨s, rfl, i1⟩ := s9_cells hst h2
      exact ⟨s, h1, i1⟩)
    refine ⟨(List.range len).map X, fun c => if c = a'.block then W.heap[c]? else none, fun c o h => ?_, ⟨rfl, ?_, fun i x hx => ?_, fun x hx => ?_⟩, rfl⟩
    · simp only at h
      split at h
      · exact h
      · cases h
    · simp [slN, pl]
    · have hi : i < len := by
        have := (List.getElem?_eq_some_iff.1 hx).1
        simpa using this
      have hxe : x = X i := by
        rw [List.getElem?_map, List.getElem?_range hi] at hx
        simpa using hx.symm
      subst hxe
      obtain ⟨h1, _⟩ := hX i hi
      obtain ⟨_, _, hci⟩ := World.cells?_some h1
      obtain ⟨b, o, spt⟩ := a'
      have hsp : spt = none := by
        obtain ⟨h1', _⟩ := hX 0 (by omega)
        obtain ⟨_, _, hci'⟩ := World.cells?_some h1'
        have h0 := hci' 0 (by omega)
        rw [show ((⟨b, o, spt⟩ : Addr).add (0 * 9)).add 0 = (⟨b, o, spt⟩ : Addr) by simp [Addr.add]] at h0
        exact World.cell?_spot (h0.trans (by rfl : _ = some (Value.int .i64 (X 0).d)))
      subst hsp
      have key : ∀ k, k < 9 → W.cell? ⟨b, o + i * 9 + k, none⟩ = (X i).cells[k]? := fun k hk => by
        have := hci k hk
        rw [add_at, add_at] at this
        exact this
      obtain ⟨cs, ty, fz, hb, hcell⟩ : ∃ cs ty fz, W.heap[b]? = some (.cells cs ty fz) ∧ ∀ k, W.cell? ⟨b, k, none⟩ = cs[k]? := by
        have h0 := key 0 (by omega)
        unfold World.cell? at h0
        split at h0
        · rename_i cs ty fz hcs
          simp only at hcs
          exact ⟨cs, ty, fz, hcs, fun k => by simp [World.cell?, hcs]⟩
        · cases h0
      have hg : mget (fun c => if c = b then W.heap[c]? else none) ((b : Int) + 1) = some cs := mget_of (ty := ty) (q := fz) (by simp [hb])
      have c0 := (hcell _).symm.trans (key 0 (by omega))
      have c1 := (hcell _).symm.trans (key 1 (by omega))
      have c2 := (hcell _).symm.trans (key 2 (by omega))
      have c3 := (hcell _).symm.trans (key 3 (by omega))
      have c4 := (hcell _).symm.trans (key 4 (by omega))
      have c5 := (hcell _).symm.trans (key 5 (by omega))
      have c6 := (hcell _).symm.trans (key 6 (by omega))
      have c7 := (hcell _).symm.trans (key 7 (by omega))
      have c8 := (hcell _).symm.trans (key 8 (by omega))
      simp only [S9.cells, List.getElem?_cons_zero, List.getElem?_cons_succ, Nat.add_zero] at c0 c1 c2 c3 c4 c5 c6 c7 c8
      have e0 : aOff o (i : Int) 9 = o + i * 9 := by simp [aOff]
      simp only [pl, slB, slO, e0, Nat.succ_eq_add_one, Nat.add_assoc] at c0 c1 c2 c3 c4 c5 c6 c7 c8 ⊢
      refine ⟨?_, ?_, ?_, ?_, ?_, ?_, ?_, ?_, ?_, ?_, ?_⟩
      · have : Nat.ble len cap = true := Nat.ble_eq_true_of_le hl
        simp [inSl, isSl, slN, this, hi]
      · unfold okL; rw [hg]; simp [okR, c0, c1, c2, c3, c4, c5, c6, c7, c8, okC, isK, isB, Nat.add_assoc]
      · unfold gI mcell; rw [hg]; simp [c0, vI]
      · unfold gI mcell; rw [hg]; simp [c1, vI]
      · unfold gI mcell; rw [hg]; simp [c2, vI]
      · unfold gI mcell; rw [hg]; simp [c3, vI]
      · unfold gI mcell; rw [hg]; simp [c4, vI]
      · unfold gI mcell; rw [hg]; simp [c5, vI]
      · unfold gI mcell; rw [hg]; simp [c6, vI]
      · unfold gI mcell; rw [hg]; simp [c7, vI]
      · unfold gB mcell; rw [hg]; simp [c8, vB]
    · obtain ⟨i, hi, rfl⟩ := List.mem_map.1 hx
      exact (hX i (List.mem_range.1 hi)).2
end
end Go.Proofs.Ytnlohongffpkpaa.T16
end

section
/- Layer 17: GraphOnce: how many nodes there are; what is seen. A text of the session's own. -/
namespace Go.Proofs.Ytnlohongffpkpaa.T16
open Go Go.RowKit Go.Proofs.Ytnlohongffpkpaa.Sx Go.Proofs
set_option linter.unusedVariables false
set_option linter.unusedSimpArgs false

theorem keyed77 : Go.Maps.Keyed Try.prog 77 := Go.Maps.Keyed.of_law (deep_law_laid (by kernel_rfl) (m := 4) (by omega) (of_decide_eq_true (by kernel_rfl)) (by kernel_rfl) (by kernel_rfl))
theorem okKey77 {h : Hn} {n : Int} (h1 : okH h) (h2 : inI n) : okKey Try.prog 77 (kKey h n) :=
  okKey_ks (P := Try.prog) (t := 77) (ks := [.i64, .u64, .i64]) (d := 4) (by kernel_rfl) (of_decide_eq_true (by kernel_rfl)) (by kernel_rfl) (by kernel_rfl) (ls := [(.i64, h.1), (.u64, h.2), (.i64, n)]) rfl (by
    intro x hx
    simp only [List.mem_cons, List.not_mem_nil, or_false] at hx
    rcases hx with rfl | rfl | rfl
    · exact wf_i64 h1.1
    · exact wf_u64 h1.2
    · exact wf_i64 h2)
theorem key77_inv {v : Value} {l : Lit} (h : keyOf Try.prog 77 v = some l) : ∃ (k : Hn) (n : Int), v = kKey k n ∧ okH k ∧ inI n := by
  obtain ⟨fs, hu⟩ : ∃ fs, Try.prog.underlying 77 = some (.struct fs) := ⟨_, Try.underlying77⟩
  unfold Go.keyOf at h
  rw [hu] at h
  simp only at h
  split at h
  · rename_i hf
    rw [Bool.and_eq_true] at hf
    obtain ⟨x, hx, _⟩ := Option.map_eq_some_iff.1 h
    obtain ⟨e, he⟩ : ∃ e, Try.prog.types.size + 1 = 4 + e := ⟨Try.prog.types.size + 1 - 4, by have : 3 ≤ Try.prog.types.size := of_decide_eq_true (by kernel_rfl); omega⟩
    rw [he] at hx
    have hk : kKinds Try.prog 4 77 = some [.i64, .u64, .i64] := by kernel_rfl
    obtain ⟨ls, a1, a2, a3⟩ := keyLits_inv 4 77 _ hk e _ x hx
    match ls, a1 with
    | [(q1, n1), (q2, n2), (q3, n3)], a1 =>
      simp only [List.map_cons, List.map_nil, List.cons.injEq, and_true] at a1
      obtain ⟨rfl, rfl, rfl⟩ := a1
      refine ⟨(n1, n2), n3, ?_, ⟨wf_inI (a2 (.i64, n1) (by simp)), wf_inU (a2 (.u64, n2) (by simp))⟩, wf_inI (a2 (.i64, n3) (by simp))⟩
      have hv : ∃ cs, v = .agg cs := by
        have h2 := hf.2
        unfold Value.formed at h2
        cases v with
        | agg cs => exact ⟨cs, rfl⟩
        | _ => simp [hu] at h2
      obtain ⟨cs, rfl⟩ := hv
      simp only [Value.cells] at a3
      exact congrArg Value.agg (Array.ext' a3)
  · cases h
theorem kSmp_k (h : Hn) (n : Int) : kSmp (kKey h n) = true := by simp [kSmp, smp]

/-! how many nodes there are -/
abbrev Itm := Hn × Int
def sumL (f : Pl → Nat) : List Pl → Nat
  | [] => 0
  | p :: r => f p + sumL f r
def itAtP (G : GG) (p : Pl) (x : Itm) : Bool := decide (G.I x.1 x.2 = some p)
def amid (G : GG) (L : List Pl) (x : Itm) : Bool := match G.I x.1 x.2 with | some p => decide (p ∈ L) | none => false
theorem countP_or {α : Type} {p q r : α → Bool} : ∀ (l : List α), (∀ x ∈ l, r x = (p x || q x)) → (∀ x ∈ l, p x = true → q x = false) → l.countP r = l.countP p + l.countP q
  | [], _, _ => rfl
  | x :: l, h, hd => by
    have ih := countP_or l (fun y hy => h y (by simp [hy])) (fun y hy => hd y (by simp [hy]))
    have h1 := h x (by simp)
    have h2 := hd x (by simp)
    rw [List.countP_cons, List.countP_cons, List.countP_cons, ih, h1]
    cases hp : p x with
    | true => rw [h2 hp]; simp; omega
    | false => cases q x <;> simp <;> omega
theorem count_at {G : GG} {m : Mem} (h : G.is m) {K : List Itm} (hK : K.Nodup) (hc : ∀ k n, (G.I k n).isSome = true → (k, n) ∈ K) (p : Pl) : K.countP (itAtP G p) = (hsO (G.R p)).length := by
  rw [List.countP_eq_length_filter]
  have hnd : (hsO (G.R p)).Nodup := by
    cases hX : G.R p with
    | none => exact List.nodup_nil
    | some X => exact (h.st _ X hX).1.nodup
  have hm : ((K.filter (itAtP G p)).map (·.1)).Perm (hsO (G.R p)) := by
    have hn1 : ((K.filter (itAtP G p)).map (·.1)).Nodup := by
      refine List.pairwise_map.2 (List.Pairwise.imp_of_mem (fun {x y} hx hy hne e => hne ?_) (hK.sublist List.filter_sublist))
      have hx := (List.mem_filter.1 hx).2
      have hy := (List.mem_filter.1 hy).2
      simp only [itAtP, decide_eq_true_eq] at hx hy
      have n1 := (h.nu _ _ _).1 hx
      have n2 := (h.nu _ _ _).1 hy
      rw [e, n2] at n1
      exact Prod.ext e (Option.some.inj n1).symm
    refine (List.perm_ext_iff_of_nodup hn1 hnd).2 fun k => ?_
    rw [← h.nhs, List.mem_map]
    constructor
    · rintro ⟨x, hx, rfl⟩
      have hx := (List.mem_filter.1 hx).2
      simp only [itAtP, decide_eq_true_eq] at hx
      rw [(h.nu _ _ _).1 hx]; rfl
    · intro hk
      obtain ⟨n, hn⟩ := Option.isSome_iff_exists.1 hk
      have hI := (h.nu k n p).2 hn
      exact ⟨(k, n), List.mem_filter.2 ⟨hc k n (by rw [hI]; rfl), by simp [itAtP, hI]⟩, rfl⟩
  have := hm.length_eq
  simpa using this
theorem count_amid {G : GG} {m : Mem} (h : G.is m) {K : List Itm} (hK : K.Nodup) (hc : ∀ k n, (G.I k n).isSome = true → (k, n) ∈ K) : ∀ (L : List Pl), L.Nodup → K.countP (amid G L) = sumL (fun p => (hsO (G.R p)).length) L
  | [], _ => by
    rw [List.countP_eq_zero.2 (fun x _ => by unfold amid; split <;> simp)]; rfl
  | p :: L, hn => by
    rw [List.nodup_cons] at hn
    have ih := count_amid h hK hc L hn.2
    rw [countP_or (p := itAtP G p) (q := amid G L) K (fun x _ => ?_) (fun x _ hx => ?_), ih, count_at h hK hc]
    · rfl
    · unfold amid itAtP
      cases G.I x.1 x.2 with
      | none => simp
      | some r => by_cases e : r = p <;> simp [e]
    · simp only [itAtP, decide_eq_true_eq] at hx
      unfold amid
      rw [hx]
      simp [hn.1]
theorem count_all {G : GG} {m : Mem} (h : G.is m) {K : List Itm} (hK : K.Nodup) (hc : ∀ k n, (G.I k n).isSome = true → (k, n) ∈ K) {ps : List Pl} (hn : ps.Nodup) (hp : ∀ p, p ∈ ps ↔ (G.R p).isSome = true) :
    K.countP (fun x => (G.I x.1 x.2).isSome) = sumL (fun p => (hsO (G.R p)).length) ps := by
  rw [← count_amid h hK hc ps hn]
  refine List.countP_congr fun x _ => ?_
  unfold amid
  cases hI : G.I x.1 x.2 with
  | none => simp
  | some p =>
    have hN := (h.nu _ _ _).1 hI
    obtain ⟨X, hX, _⟩ := (h.nh p x.1).1 (by rw [hN]; rfl)
    have := (hp p).2 (by rw [hX]; rfl)
    simp [this]

/-! the graph, and what was seen -/
structure OnB (m0 : Mem) (q ci li : Nat) (E : Hn → Int → Prop) (G : GG) (m : Mem) : Prop where
  is : G.is m
  fg : ∀ a, G.dom a → m0 a = none
  nq : ¬ G.dom q
  q0 : m0 q = none
  kp : ∀ a, m0 a ≠ none → m a = m0 a
  mp : isMap 77 m q
  vals : ∀ h n v, mlook m (.map (some q)) (kKey h n) = some v → v = .int .i64 1
  clk : ∃ es c, m q = some (.map es c) ∧ c ≤ ci
  sn : ∀ h n, (G.I h n).isSome = true → (mlook m (.map (some q)) (kKey h n)).isSome = true ∨ E h n
  len : ∀ p, (hsO (G.R p)).length ≤ li
section
variable {m0 m m' : Mem} {q ci li : Nat} {E : Hn → Int → Prop} {G G' : GG}
theorem OnB.more (b : OnB m0 q ci li E G m) (hm : ∀ a, m a ≠ none → m' a = m a) : OnB m0 q ci li E G m' := by
  have hq : m' q = m q := hm q b.mp.there
  obtain ⟨es, c, c1, c2⟩ := b.clk
  exact ⟨b.is.congr fun a ha => hm a (b.is.there ha), b.fg, b.nq, b.q0, fun a ha => (hm a (by rw [b.kp a ha]; exact ha)).trans (b.kp a ha), b.mp.congr hq, fun h n v hv => b.vals h n v (by rw [← mlook_congr hq]; exact hv), ⟨es, c, hq.trans c1, c2⟩,
    fun h n hI => by rw [mlook_congr hq]; exact b.sn h n hI, b.len⟩
theorem OnB.step (b : OnB m0 q ci li (fun _ _ => False) G m) (t : G.to G' m m') (hI : ∀ h n, (G'.I h n).isSome = true → (G.I h n).isSome = true ∨ E h n) (hl : ∀ p, (hsO (G'.R p)).length ≤ li + 1) : OnB m0 q ci (li + 1) E G' m' := by
  have hq : m' q = m q := t.keep q b.mp.there b.nq
  obtain ⟨es, c, c1, c2⟩ := b.clk
  have old : ∀ a, m0 a ≠ none → ¬ G.dom a := fun a ha hd => ha (b.fg a hd)
  refine ⟨t.is', fun a ha => ?_, fun hd => ?_, b.q0, fun a ha => ?_, b.mp.congr hq, fun h n v hv => b.vals h n v (by rw [← mlook_congr hq]; exact hv), ⟨es, c, hq.trans c1, c2⟩, fun h n hn => ?_, hl⟩
  · rcases t.dom a ha with h | h
    · exact b.fg a h
    · cases e : m0 a with
      | none => rfl
      | some x => have := b.kp a (by rw [e]; simp); rw [h, e] at this; cases this
  · rcases t.dom q hd with h | h
    · exact b.nq h
    · exact b.mp.there h
  · exact (t.keep a (by rw [b.kp a ha]; exact ha) (old a ha)).trans (b.kp a ha)
  · rw [mlook_congr hq]
    rcases hI h n hn with h1 | h1
    · rcases b.sn h n h1 with h2 | h2
      · exact .inl h2
      · exact h2.elim
    · exact .inr h1
theorem OnB.same (E : Hn → Int → Prop) (b : OnB m0 q ci li (fun _ _ => False) G m) : OnB m0 q ci (li + 1) E G m :=
  ⟨b.is, b.fg, b.nq, b.q0, b.kp, b.mp, b.vals, b.clk, fun h n hI => .inl ((b.sn h n hI).elim id (fun h => h.elim)), fun p => Nat.le_succ_of_le (b.len p)⟩
theorem OnB.put {k : Hn} {nn : Int} (b : OnB m0 q ci li (fun h n => h = k ∧ n = nn) G m) (hk : okH k) (hn : inI nn) : OnB m0 q (ci + 1) li (fun _ _ => False) G (mput m (.map (some q)) (kKey k nn) (.int .i64 1)) := by
  obtain ⟨p1, p2, p3⟩ := b.mp.put (okKey77 hk hn) (.int .i64 1)
  have hoth : ∀ a, a ≠ q → mput m (.map (some q)) (kKey k nn) (.int .i64 1) a = m a := fun a ha => mput_oth _ ha
  obtain ⟨es, c, c1, c2⟩ := b.clk
  have look : ∀ h n, (h = k ∧ n = nn) ∨ mlook (mput m (.map (some q)) (kKey k nn) (.int .i64 1)) (.map (some q)) (kKey h n) = mlook m (.map (some q)) (kKey h n) := fun h n => by
    by_cases e : kKey h n = kKey k nn
    · exact .inl (kKey_inj e)
    · exact .inr (p3 _ (kSmp_k h n) e)
  refine ⟨b.is.congr fun a ha => hoth a fun e => b.nq (e ▸ ha), b.fg, b.nq, b.q0, fun a ha => (hoth a fun e => ha (e ▸ b.q0)).trans (b.kp a ha), p1, fun h n v hv => ?_, ?_, fun h n hI => .inl ?_, b.len⟩
  · rcases look h n with ⟨rfl, rfl⟩ | e
    · rw [p2] at hv; exact (Option.some.inj hv).symm
    · rw [e] at hv; exact b.vals h n v hv
  · have hat : mput m (.map (some q)) (kKey k nn) (.int .i64 1) q = some (esPut (kKey k nn) (.int .i64 1) c es) := by simp only [mput, mchg, if_true, c1]
    unfold esPut at hat
    split at hat
    · exact ⟨_, _, hat, by omega⟩
    · exact ⟨_, _, hat, by omega⟩
  · rcases look h n with ⟨rfl, rfl⟩ | e
    · rw [p2]; rfl
    · rw [e]
      rcases b.sn h n hI with h1 | ⟨rfl, rfl⟩
      · exact h1
      · rw [← e, p2]; rfl
theorem hs_put {p r : Pl} {X' : Str} {v : Option Str} (hv : v = some X' ∨ v = goneR X') {n : Nat} (hl : X'.hs.length ≤ n) (ho : (hsO (G.R r)).length ≤ n) : (hsO (upd1 G.R p v r)).length ≤ n := by
  unfold upd1
  split
  · rcases hv with rfl | rfl
    · exact hl
    · unfold goneR
      cases he : X'.hs with
      | nil => simp [hsO]
      | cons x s => simp only [hsO]; rw [he]; rw [he] at hl; exact hl
  · exact ho
theorem OnB.come {p : Pl} {k : Hn} {nn : Int} {X' : Str} (b : OnB m0 q ci li (fun _ _ => False) G m) (hto : G.to (G.come p k nn X') m m') (hl : X'.hs.length ≤ (hsO (G.R p)).length + 1) : OnB m0 q ci (li + 1) (fun h n => h = k ∧ n = nn) (G.come p k nn X') m' := by
  refine b.step hto (fun h n hI => ?_) fun r => hs_put (.inl rfl) (by have := b.len p; omega) (by have := b.len r; omega)
  have hI : (updI G.I k nn (some p) h n).isSome = true := hI
  unfold updI at hI
  split at hI
  · rename_i e; exact .inr e
  · exact .inl hI
theorem OnB.go {p : Pl} {j : Hn} {n : Int} {X' : Str} (E : Hn → Int → Prop) (b : OnB m0 q ci li (fun _ _ => False) G m) (hto : G.to (G.go p j n X') m m') (hl : X'.hs.length ≤ (hsO (G.R p)).length) : OnB m0 q ci (li + 1) E (G.go p j n X') m' := by
  refine b.step hto (fun h n' hI => ?_) fun r => hs_put (.inr rfl) (by have := b.len p; omega) (by have := b.len r; omega)
  have hI : (updI G.I j n none h n').isSome = true := hI
  unfold updI at hI
  split at hI
  · cases hI
  · exact .inl hI
theorem OnB.drain {p : Pl} {y : Vars} (E : Hn → Int → Prop) (b : OnB m0 q ci li (fun _ _ => False) G m) (h : gdrainPost m G p y) : ∃ G', G'.g = G.g ∧ OnB m0 q ci (li + 1) E G' y.m := by
  obtain ⟨G', d1, d2, d3, d4, _⟩ := h
  refine ⟨G', d1.g, b.step d1 (fun h n hI => .inl ?_) fun r => ?_⟩
  · rw [d4] at hI
    split at hI
    · cases hI
    · exact hI
  · rw [d2]
    split
    · simp [hsO]
    · have := b.len r; omega
end
def T_onK (m6 : Mem) (tg : Int) (l v1 : Value) (i c it h0 h1 h2 q0 q1 q2 : Int) : Tr := (.lp (.mk [0, 0] [] [] m6) (fun y7 j7 => (.req (glenOK y7.4 tg q0 q1 q2) (.br (iLt (hdI (tlI y7.1)) (glenV y7.4 tg q0 q1 q2)) (.req (gatP y7.4 tg q0 q1 q2 (hdI (tlI y7.1))) (.any (gatQ y7.4 tg q0 q1 q2 (hdI (tlI y7.1))) (fun y8 => (.br (bAnd (iEq (hdI y8.1) h0) (iEq (hdI (tlI y8.1)) h1)) (.req ((([(0, (.u (.c (.sv l)))), (3, (.u (.c (.np tg 0)))), (4, (.u (.c (.sv v1)))), (5, (.u (.c (.si .i64 i)))), (7, (.u (.c (.si .i64 (iAdd .i64 c 1))))), (8, (.u (.c (.ptr 1 0)))), (9, (.u (.c (.ptr 2 0)))), (90, (.u (.c (.np it 0))))] : List (Nat × V)) = [(0, (.u (.c (.sv l)))), (3, (.u (.c (.np tg 0)))), (4, (.u (.c (.sv v1)))), (5, (.u (.c (.si .i64 i)))), (7, (.u (.c (.si .i64 (iAdd .i64 c 1))))), (8, (.u (.c (.ptr 1 0)))), (9, (.u (.c (.ptr 2 0)))), (90, (.u (.c (.np it 0))))]) ∧ (([(1, ([(.si .i64 h0), (.si .u64 h1), (.si .i64 h2)], 77)), (2, ([(.si .i64 q0), (.si .i64 q1), (.si .i64 q2)], 59))] : List (Nat × Blk)) = [(1, ([(.si .i64 h0), (.si .u64 h1), (.si .i64 h2)], 77)), (2, ([(.si .i64 q0), (.si .i64 q1), (.si .i64 q2)], 59))])) (.leaf (.again (.mk [(iAdd .i64 (hdI y7.1) 1), (iAdd .i64 (hdI (tlI y7.1)) 1)] [] [] y8.4)))) (.req ((([(0, (.u (.c (.sv l)))), (3, (.u (.c (.np tg 0)))), (4, (.u (.c (.sv v1)))), (5, (.u (.c (.si .i64 i)))), (7, (.u (.c (.si .i64 (iAdd .i64 c 1))))), (8, (.u (.c (.ptr 1 0)))), (9, (.u (.c (.ptr 2 0)))), (90, (.u (.c (.np it 0))))] : List (Nat × V)) = [(0, (.u (.c (.sv l)))), (3, (.u (.c (.np tg 0)))), (4, (.u (.c (.sv v1)))), (5, (.u (.c (.si .i64 i)))), (7, (.u (.c (.si .i64 (iAdd .i64 c 1))))), (8, (.u (.c (.ptr 1 0)))), (9, (.u (.c (.ptr 2 0)))), (90, (.u (.c (.np it 0))))]) ∧ (([(1, ([(.si .i64 h0), (.si .u64 h1), (.si .i64 h2)], 77)), (2, ([(.si .i64 q0), (.si .i64 q1), (.si .i64 q2)], 59))] : List (Nat × Blk)) = [(1, ([(.si .i64 h0), (.si .u64 h1), (.si .i64 h2)], 77)), (2, ([(.si .i64 q0), (.si .i64 q1), (.si .i64 q2)], 59))])) (.leaf (.again (.mk [(hdI y7.1), (iAdd .i64 (hdI (tlI y7.1)) 1)] [] [] y8.4)))))))) (.br (iNe (hdI y7.1) 1) (.leaf (.up (.up (.up (.up (.memo (.u (.c (.lb false))) y7.4)))))) (.req ((([(0, (.u (.c (.sv l)))), (3, (.u (.c (.np tg 0)))), (4, (.u (.c (.sv v1)))), (5, (.u (.c (.si .i64 i)))), (90, (.u (.c (.np it 0))))] : List (Nat × V)) = [(0, (.u (.c (.sv l)))), (3, (.u (.c (.np tg 0)))), (4, (.u (.c (.sv v1)))), (5, (.u (.c (.si .i64 i)))), (90, (.u (.c (.np it 0))))]) ∧ (([] : List (Nat × Blk)) = [])) (.leaf (.up (.again (.mk [(iAdd .i64 c 1)] [] [] y7.4))))))))))
def T_onP (m6 : Mem) (tg : Int) (l v1 : Value) (i c : Int) : Tr := (.req (placesP m6 tg) (.any (placesQ m6 tg) (fun y7 => (.lp (.mk [c, 0] [] [] y7.4) (fun y8 j8 => (.br (isSlV (pl (hdV y7.3))) (.br (iLt (hdI (tlI y8.1)) (slN (pl (hdV y7.3)))) (.br (inSl (pl (hdV y7.3)) (hdI (tlI y8.1))) (.br (okL y8.4 (slB (pl (hdV y7.3))) (aOff (slO (pl (hdV y7.3))) (hdI (tlI y8.1)) 3) [(.li .i64 0), (.li .i64 0), (.li .i64 0)]) (.req (glenOK y8.4 tg (gI y8.4 (slB (pl (hdV y7.3))) (aOff (slO (pl (hdV y7.3))) (hdI (tlI y8.1)) 3)) (gI y8.4 (slB (pl (hdV y7.3))) (.succ (aOff (slO (pl (hdV y7.3))) (hdI (tlI y8.1)) 3))) (gI y8.4 (slB (pl (hdV y7.3))) (.succ (.succ (aOff (slO (pl (hdV y7.3))) (hdI (tlI y8.1)) 3))))) (.req ((([(0, (.u (.c (.sv l)))), (3, (.u (.c (.np tg 0)))), (4, (.u (.c (.sv v1)))), (5, (.u (.c (.si .i64 i)))), (15, (.u (.c (.sv (hdV y7.3)))))] : List (Nat × V)) = [(0, (.u (.c (.sv l)))), (3, (.u (.c (.np tg 0)))), (4, (.u (.c (.sv v1)))), (5, (.u (.c (.si .i64 i)))), (15, (.u (.c (.sv (hdV y7.3)))))]) ∧ (([] : List (Nat × Blk)) = [])) (.leaf (.again (.mk [(iSub .i64 (hdI y8.1) (glenV y8.4 tg (gI y8.4 (slB (pl (hdV y7.3))) (aOff (slO (pl (hdV y7.3))) (hdI (tlI y8.1)) 3)) (gI y8.4 (slB (pl (hdV y7.3))) (.succ (aOff (slO (pl (hdV y7.3))) (hdI (tlI y8.1)) 3))) (gI y8.4 (slB (pl (hdV y7.3))) (.succ (.succ (aOff (slO (pl (hdV y7.3))) (hdI (tlI y8.1)) 3)))))), (iAdd .i64 (hdI (tlI y8.1)) 1)] [] [] y8.4))))) (.no 70)) (.no 104)) (.br (iNe (hdI y8.1) 0) (.leaf (.up (.up (.up (.up (.memo (.u (.c (.lb false))) y8.4)))))) (.req ((([(0, (.u (.c (.sv l)))), (3, (.u (.c (.np tg 0)))), (4, (.u (.c (.sv v1))))] : List (Nat × V)) = [(0, (.u (.c (.sv l)))), (3, (.u (.c (.np tg 0)))), (4, (.u (.c (.sv v1))))]) ∧ (([] : List (Nat × Blk)) = [])) (.leaf (.up (.up (.up (.again (.mk [(iAdd .i64 i 1)] [] [] y8.4))))))))) (.no 123)))))))
def T_onR (m4 : Mem) (tg : Int) (l v1 : Value) (i it : Int) : Tr := (.lp (.mk [0] [] [] m4) (fun y5 j5 => (.req (nxtOK (.agg [(.li .i64 0), (.li .u64 0), (.li .i64 0)]) (.c (.li .i64 0)) y5.4 it) (.any (nxtQ y5.4 it) (fun y6 => (.br (hdB y6.2) (.req (entOK (.agg [(.li .i64 0), (.li .u64 0), (.li .i64 0)]) (.c (.li .i64 0)) y6.4 it) (.req (ginOK y6.4 tg (vI (cellAt (entK y6.4 it) 0)) (vI (cellAt (entK y6.4 it) 1)) (vI (cellAt (entK y6.4 it) 2))) (.br (bNot (ginV y6.4 tg (vI (cellAt (entK y6.4 it) 0)) (vI (cellAt (entK y6.4 it) 1)) (vI (cellAt (entK y6.4 it) 2))).2.2.2) (.req ((([(0, (.u (.c (.sv l)))), (3, (.u (.c (.np tg 0)))), (4, (.u (.c (.sv v1)))), (5, (.u (.c (.si .i64 i)))), (90, (.u (.c (.np it 0))))] : List (Nat × V)) = [(0, (.u (.c (.sv l)))), (3, (.u (.c (.np tg 0)))), (4, (.u (.c (.sv v1)))), (5, (.u (.c (.si .i64 i)))), (90, (.u (.c (.np it 0))))]) ∧ (([] : List (Nat × Blk)) = [])) (.leaf (.again (.mk [(hdI y5.1)] [] [] y6.4)))) (T_onK y6.4 tg l v1 i (hdI y5.1) it (vI (cellAt (entK y6.4 it) 0)) (vI (cellAt (entK y6.4 it) 1)) (vI (cellAt (entK y6.4 it) 2)) (ginV y6.4 tg (vI (cellAt (entK y6.4 it) 0)) (vI (cellAt (entK y6.4 it) 1)) (vI (cellAt (entK y6.4 it) 2))).1 (ginV y6.4 tg (vI (cellAt (entK y6.4 it) 0)) (vI (cellAt (entK y6.4 it) 1)) (vI (cellAt (entK y6.4 it) 2))).2.1 (ginV y6.4 tg (vI (cellAt (entK y6.4 it) 0)) (vI (cellAt (entK y6.4 it) 1)) (vI (cellAt (entK y6.4 it) 2))).2.2.1)))) (T_onP y6.4 tg l v1 i (hdI y5.1))))))))
def T_onS (m2 : Mem) (tg : Int) (l v1 : Value) (i dd at' nn pm ps pa k1 k2 : Int) (fr : Bool) : Tr := (.br (iEq dd 0) (.req (gpushP m2 tg pm ps pa k1 k2 nn fr) (.any (gpushQ m2 tg pm ps pa k1 k2 nn fr) (fun y4 => (.req ((([(0, (.u (.c (.sv l)))), (3, (.u (.c (.np tg 0)))), (4, (.u (.c (.sv v1)))), (5, (.u (.c (.si .i64 i)))), (6, (.u (.c (.ptr 0 0))))] : List (Nat × V)) = [(0, (.u (.c (.sv l)))), (3, (.u (.c (.np tg 0)))), (4, (.u (.c (.sv v1)))), (5, (.u (.c (.si .i64 i)))), (6, (.u (.c (.ptr 0 0))))]) ∧ (([(0, ([(.si .i64 dd), (.si .i64 at'), (.si .i64 nn), (.si .i64 pm), (.si .i64 ps), (.si .i64 pa), (.si .i64 k1), (.si .u64 k2), (.sb fr)], 63))] : List (Nat × Blk)) = [(0, ([(.si .i64 dd), (.si .i64 at'), (.si .i64 nn), (.si .i64 pm), (.si .i64 ps), (.si .i64 pa), (.si .i64 k1), (.si .u64 k2), (.sb fr)], 63))])) (.leaf (.again (.mk [1] [] [] y4.4))))))) (.br (iEq dd 2) (.req (ginsertP m2 tg pm ps pa at' k1 k2 nn) (.any (ginsertQ m2 tg pm ps pa at' k1 k2 nn) (fun y4 => (.req ((([(0, (.u (.c (.sv l)))), (3, (.u (.c (.np tg 0)))), (4, (.u (.c (.sv v1)))), (5, (.u (.c (.si .i64 i)))), (6, (.u (.c (.ptr 0 0))))] : List (Nat × V)) = [(0, (.u (.c (.sv l)))), (3, (.u (.c (.np tg 0)))), (4, (.u (.c (.sv v1)))), (5, (.u (.c (.si .i64 i)))), (6, (.u (.c (.ptr 0 0))))]) ∧ (([(0, ([(.si .i64 dd), (.si .i64 at'), (.si .i64 nn), (.si .i64 pm), (.si .i64 ps), (.si .i64 pa), (.si .i64 k1), (.si .u64 k2), (.sb fr)], 63))] : List (Nat × Blk)) = [(0, ([(.si .i64 dd), (.si .i64 at'), (.si .i64 nn), (.si .i64 pm), (.si .i64 ps), (.si .i64 pa), (.si .i64 k1), (.si .u64 k2), (.sb fr)], 63))])) (.leaf (.again (.mk [1] [] [] y4.4))))))) (.br (iEq dd 1) (.req (gpopP m2 tg pm ps pa fr) (.any (gpopQ m2 tg pm ps pa fr) (fun y4 => (.req ((([(0, (.u (.c (.sv l)))), (3, (.u (.c (.np tg 0)))), (4, (.u (.c (.sv v1)))), (5, (.u (.c (.si .i64 i)))), (6, (.u (.c (.ptr 0 0))))] : List (Nat × V)) = [(0, (.u (.c (.sv l)))), (3, (.u (.c (.np tg 0)))), (4, (.u (.c (.sv v1)))), (5, (.u (.c (.si .i64 i)))), (6, (.u (.c (.ptr 0 0))))]) ∧ (([(0, ([(.si .i64 dd), (.si .i64 at'), (.si .i64 nn), (.si .i64 pm), (.si .i64 ps), (.si .i64 pa), (.si .i64 k1), (.si .u64 k2), (.sb fr)], 63))] : List (Nat × Blk)) = [(0, ([(.si .i64 dd), (.si .i64 at'), (.si .i64 nn), (.si .i64 pm), (.si .i64 ps), (.si .i64 pa), (.si .i64 k1), (.si .u64 k2), (.sb fr)], 63))])) (.leaf (.again (.mk [1] [] [] y4.4))))))) (.br (iEq dd 3) (.req (gremoveP m2 tg pm ps pa k1 k2 nn) (.any (gremoveQ m2 tg pm ps pa k1 k2 nn) (fun y4 => (.req ((([(0, (.u (.c (.sv l)))), (3, (.u (.c (.np tg 0)))), (4, (.u (.c (.sv v1)))), (5, (.u (.c (.si .i64 i)))), (6, (.u (.c (.ptr 0 0))))] : List (Nat × V)) = [(0, (.u (.c (.sv l)))), (3, (.u (.c (.np tg 0)))), (4, (.u (.c (.sv v1)))), (5, (.u (.c (.si .i64 i)))), (6, (.u (.c (.ptr 0 0))))]) ∧ (([(0, ([(.si .i64 dd), (.si .i64 at'), (.si .i64 nn), (.si .i64 pm), (.si .i64 ps), (.si .i64 pa), (.si .i64 k1), (.si .u64 k2), (.sb fr)], 63))] : List (Nat × Blk)) = [(0, ([(.si .i64 dd), (.si .i64 at'), (.si .i64 nn), (.si .i64 pm), (.si .i64 ps), (.si .i64 pa), (.si .i64 k1), (.si .u64 k2), (.sb fr)], 63))])) (.leaf (.again (.mk [1] [] [] y4.4))))))) (.br (iEq dd 4) (.req (gdrainP m2 tg pm ps pa) (.any (gdrainQ m2 tg pm ps pa) (fun y4 => (.req ((([(0, (.u (.c (.sv l)))), (3, (.u (.c (.np tg 0)))), (4, (.u (.c (.sv v1)))), (5, (.u (.c (.si .i64 i)))), (6, (.u (.c (.ptr 0 0))))] : List (Nat × V)) = [(0, (.u (.c (.sv l)))), (3, (.u (.c (.np tg 0)))), (4, (.u (.c (.sv v1)))), (5, (.u (.c (.si .i64 i)))), (6, (.u (.c (.ptr 0 0))))]) ∧ (([(0, ([(.si .i64 dd), (.si .i64 at'), (.si .i64 nn), (.si .i64 pm), (.si .i64 ps), (.si .i64 pa), (.si .i64 k1), (.si .u64 k2), (.sb fr)], 63))] : List (Nat × Blk)) = [(0, ([(.si .i64 dd), (.si .i64 at'), (.si .i64 nn), (.si .i64 pm), (.si .i64 ps), (.si .i64 pa), (.si .i64 k1), (.si .u64 k2), (.sb fr)], 63))])) (.leaf (.again (.mk [1] [] [] y4.4))))))) (.req ((([(0, (.u (.c (.sv l)))), (3, (.u (.c (.np tg 0)))), (4, (.u (.c (.sv v1)))), (5, (.u (.c (.si .i64 i)))), (6, (.u (.c (.ptr 0 0))))] : List (Nat × V)) = [(0, (.u (.c (.sv l)))), (3, (.u (.c (.np tg 0)))), (4, (.u (.c (.sv v1)))), (5, (.u (.c (.si .i64 i)))), (6, (.u (.c (.ptr 0 0))))]) ∧ (([(0, ([(.si .i64 dd), (.si .i64 at'), (.si .i64 nn), (.si .i64 pm), (.si .i64 ps), (.si .i64 pa), (.si .i64 k1), (.si .u64 k2), (.sb fr)], 63))] : List (Nat × Blk)) = [(0, ([(.si .i64 dd), (.si .i64 at'), (.si .i64 nn), (.si .i64 pm), (.si .i64 ps), (.si .i64 pa), (.si .i64 k1), (.si .u64 k2), (.sb fr)], 63))])) (.leaf (.again (.mk [1] [] [] m2)))))))))
def T_once (m : Mem) (l : Value) : Tr := (.br (isSlV (pl l)) (.br (iGt (slN (pl l)) 200) (.leaf (.memo (.u (.c (.lb true))) m)) (.req (gnewP m) (.any (gnewQ m) (fun y0 => (.any (newMQ y0.4) (fun y1 => (.lp (.mk [0] [] [] y1.4) (fun y2 j2 => (.br (isSlV (pl l)) (.br (iLt (hdI y2.1) (slN (pl l))) (.br (inSl (pl l) (hdI y2.1)) (.br (okL y2.4 (slB (pl l)) (aOff (slO (pl l)) (hdI y2.1) 9) [(.li .i64 0), (.li .i64 0), (.li .i64 0), (.li .i64 0), (.li .i64 0), (.li .i64 0), (.li .i64 0), (.li .u64 0), (.lb false)]) (.lp (.mk [0] [] [] y2.4) (fun y3 j3 => (.br (iZero? (hdI y3.1)) (T_onS y2.4 (hdI y0.1) l (hdV y1.3) (hdI y2.1) (gI y2.4 (slB (pl l)) (aOff (slO (pl l)) (hdI y2.1) 9)) (gI y2.4 (slB (pl l)) (.succ (aOff (slO (pl l)) (hdI y2.1) 9))) (gI y2.4 (slB (pl l)) (.succ (.succ (aOff (slO (pl l)) (hdI y2.1) 9)))) (gI y2.4 (slB (pl l)) (.succ (.succ (.succ (aOff (slO (pl l)) (hdI y2.1) 9))))) (gI y2.4 (slB (pl l)) (.succ (.succ (.succ (.succ (aOff (slO (pl l)) (hdI y2.1) 9)))))) (gI y2.4 (slB (pl l)) (.succ (.succ (.succ (.succ (.succ (aOff (slO (pl l)) (hdI y2.1) 9))))))) (gI y2.4 (slB (pl l)) (.succ (.succ (.succ (.succ (.succ (.succ (aOff (slO (pl l)) (hdI y2.1) 9)))))))) (gI y2.4 (slB (pl l)) (.succ (.succ (.succ (.succ (.succ (.succ (.succ (aOff (slO (pl l)) (hdI y2.1) 9))))))))) (gB y2.4 (slB (pl l)) (.succ (.succ (.succ (.succ (.succ (.succ (.succ (.succ (aOff (slO (pl l)) (hdI y2.1) 9))))))))))) (.req ((Go.Maps.Keyed Try.prog 77) ∧ ((okM Try.prog 77 y3.4 (pl (hdV y1.3))) ∧ ((((isNilM (pl (hdV y1.3))) : Bool) = false) ∧ (okKey Try.prog 77 (.agg (.mk [(.int .i64 (gI y2.4 (slB (pl l)) (.succ (.succ (.succ (.succ (.succ (.succ (aOff (slO (pl l)) (hdI y2.1) 9))))))))), (.int .u64 (gI y2.4 (slB (pl l)) (.succ (.succ (.succ (.succ (.succ (.succ (.succ (aOff (slO (pl l)) (hdI y2.1) 9)))))))))), (.int .i64 (gI y2.4 (slB (pl l)) (.succ (.succ (aOff (slO (pl l)) (hdI y2.1) 9)))))])))))) (.letm (mput y3.4 (pl (hdV y1.3)) (.agg (.mk [(.int .i64 (gI y2.4 (slB (pl l)) (.succ (.succ (.succ (.succ (.succ (.succ (aOff (slO (pl l)) (hdI y2.1) 9))))))))), (.int .u64 (gI y2.4 (slB (pl l)) (.succ (.succ (.succ (.succ (.succ (.succ (.succ (aOff (slO (pl l)) (hdI y2.1) 9)))))))))), (.int .i64 (gI y2.4 (slB (pl l)) (.succ (.succ (aOff (slO (pl l)) (hdI y2.1) 9)))))])) (.int .i64 1)) (fun m1 => (.req (rngOK m1 (pl (hdV y1.3))) (.any (newIQ m1 (pl (hdV y1.3))) (fun y4 => (T_onR y4.4 (hdI y0.1) l (hdV y1.3) (hdI y2.1) (pI y4.1))))))))))) (.no 70)) (.no 104)) (.leaf (.up (.memo (.u (.c (.lb true))) y2.4)))) (.no 123)))))))))) (.no 123))
end Go.Proofs.Ytnlohongffpkpaa.T16
end

section
/- Layer 17: GraphOnce's walk. A text of the session's own. -/
namespace Go.Proofs.Ytnlohongffpkpaa.T16
open Go Go.RowKit Go.Proofs.Ytnlohongffpkpaa.Sx Go.Proofs
set_option linter.unusedVariables false
set_option linter.unusedSimpArgs false

section
variable {m0 m2 m6 : Mem} {q ci li : Nat} {G : GG} {tg : Int} {l v1 : Value}
theorem onS_walk {i dd at' nn pm ps pa k1 k2 : Int} {fr : Bool} (b : OnB m0 q ci li (fun _ _ => False) G m2) (hg : tg = (G.g : Int) + 1) (hli : li < 1000) (hp : okP' (pm, ps, pa)) (hk : okH (k1, k2)) (hn : inI nn) {R : Leaf → Prop}
    (hR : ∀ m, (∃ G' : GG, G'.g = G.g ∧ OnB m0 q ci (li + 1) (fun h n => h = (k1, k2) ∧ n = nn) G' m) → R (.again ⟨[1], [], [], m⟩)) : (T_onS m2 tg l v1 i dd at' nn pm ps pa k1 k2 fr).sat R := by
  subst hg
  have gpre : gpushPre G m2 ((G.g : Int) + 1) pm ps pa k1 k2 nn := ⟨rfl, b.is, hp, hk, hn⟩
  have hlen := b.len (pm, ps, pa)
  unfold T_onS
  by_cases d0 : dd = 0
  · rw [brT (by simpa [iEq] using d0), sat_req]
    refine ⟨⟨G, gpre⟩, ?_⟩
    rw [sat_any]
    intro y hy
    rw [sat_req]
    refine ⟨⟨rfl, rfl⟩, hR _ ?_⟩
    rcases hy G gpre with ⟨_, _, h3⟩ | ⟨_, _, X', _, h4, h5⟩
    · exact ⟨G, rfl, by rw [h3]; exact b.same _⟩
    · exact ⟨G.come _ _ _ X', rfl, b.come h5 (by rw [h4]; cases fr <;> simp [putE])⟩
  rw [brF (by simpa [iEq] using d0)]
  by_cases d2 : dd = 2
  · have ipre : ginsertPre G m2 ((G.g : Int) + 1) pm ps pa k1 k2 nn := ⟨gpre, by omega⟩
    rw [brT (by simpa [iEq] using d2), sat_req]
    refine ⟨⟨G, ipre⟩, ?_⟩
    rw [sat_any]
    intro y hy
    rw [sat_req]
    refine ⟨⟨rfl, rfl⟩, hR _ ?_⟩
    rcases hy G ipre with ⟨_, _, h3⟩ | ⟨_, _, _, h3⟩ | ⟨_, h1, h2, _, X', _, h4, h5⟩
    · exact ⟨G, rfl, by rw [h3]; exact b.same _⟩
    · exact ⟨G, rfl, (b.more h3).same _⟩
    · exact ⟨G.come _ _ _ X', rfl, b.come h5 (by rw [h4, List.length_append, List.length_cons, List.length_take, List.length_drop]; omega)⟩
  rw [brF (by simpa [iEq] using d2)]
  by_cases d1 : dd = 1
  · have ppre : gpopPre G m2 ((G.g : Int) + 1) pm ps pa := ⟨rfl, b.is, hp⟩
    rw [brT (by simpa [iEq] using d1), sat_req]
    refine ⟨⟨G, ppre⟩, ?_⟩
    rw [sat_any]
    intro y hy
    rw [sat_req]
    refine ⟨⟨rfl, rfl⟩, hR _ ?_⟩
    rcases hy G ppre with ⟨_, _, _, h3⟩ | ⟨k, n, X', _, _, _, _, _, _, h7, h8⟩
    · exact ⟨G, rfl, by rw [h3]; exact b.same _⟩
    · exact ⟨G.go _ _ _ X', rfl, b.go _ h8 (by rw [h7]; exact List.length_erase_le)⟩
  rw [brF (by simpa [iEq] using d1)]
  by_cases d3 : dd = 3
  · rw [brT (by simpa [iEq] using d3), sat_req]
    refine ⟨⟨G, gpre⟩, ?_⟩
    rw [sat_any]
    intro y hy
    rw [sat_req]
    refine ⟨⟨rfl, rfl⟩, hR _ ?_⟩
    rcases hy G gpre with ⟨_, _, h3⟩ | ⟨_, _, X, X', h4, _, h6, h7⟩
    · exact ⟨G, rfl, by rw [h3]; exact b.same _⟩
    · exact ⟨G.go _ _ _ X', rfl, b.go _ h7 (by rw [h6, h4]; exact List.length_erase_le)⟩
  rw [brF (by simpa [iEq] using d3)]
  by_cases d4 : dd = 4
  · have apre : gatPre G m2 ((G.g : Int) + 1) pm ps pa := ⟨⟨rfl, b.is, hp⟩, by omega⟩
    rw [brT (by simpa [iEq] using d4), sat_req]
    refine ⟨⟨G, apre⟩, ?_⟩
    rw [sat_any]
    intro y hy
    rw [sat_req]
    exact ⟨⟨rfl, rfl⟩, hR _ (b.drain _ (hy G apre))⟩
  rw [brF (by simpa [iEq] using d4), sat_req]
  exact ⟨⟨rfl, rfl⟩, hR _ ⟨G, rfl, b.same _⟩⟩
theorem nodup_count {α : Type} [BEq α] [LawfulBEq α] {k : α} : ∀ {l : List α}, l.Nodup → k ∈ l → l.count k = 1
  | [], _, h => by cases h
  | x :: l, hn, h => by
    rw [List.nodup_cons] at hn
    rw [List.count_cons]
    rcases List.mem_cons.1 h with rfl | h
    · rw [List.count_eq_zero.2 hn.1]; simp
    · have : x ≠ k := fun e => hn.1 (e ▸ h)
      rw [nodup_count hn.2 h]; simp [this]
theorem onK_walk {E : Hn → Int → Prop} {i c it h0 h1 h2 q0 q1 q2 : Int} (b : OnB m0 q ci li E G m6) (hg : tg = (G.g : Int) + 1) (hli : li < 1000) (hI : G.I (h0, h1) h2 = some (q0, q1, q2)) {R : Leaf → Prop}
    (hR : ∀ m, (∀ a, m6 a ≠ none → m a = m6 a) → R (.again ⟨[iAdd .i64 c 1], [], [], m⟩)) : (T_onK m6 tg l v1 i c it h0 h1 h2 q0 q1 q2).sat R := by
  subst hg
  have hN := (b.is.nu _ _ _).1 hI
  obtain ⟨X, hX, hXk⟩ := (b.is.nh _ _).1 (by rw [hN]; rfl)
  have hp := (b.is.st _ X hX).2.2
  have hlen := b.len (q0, q1, q2)
  have hnd : X.hs.Nodup := (b.is.st _ X hX).1.nodup
  have hs : hsO (G.R (q0, q1, q2)) = X.hs := by rw [hX]; rfl
  rw [hs] at hlen
  unfold T_onK
  let J : Nat → Vars → Prop := fun N y => ∃ k : Nat, k + N = X.hs.length ∧ y.i = [(((X.hs.take k).count (h0, h1) : Nat) : Int), (k : Int)] ∧ ∀ a, m6 a ≠ none → y.m a = m6 a
  refine lp_idx J (n0 := X.hs.length) ⟨0, by omega, by simp, fun _ _ => rfl⟩ ?_
  rintro N ⟨ui, ub, uv, um⟩ _ ⟨k, hk, rfl, hm⟩
  simp only at hk hm
  simp only [hdI, tlI]
  have bu := b.more hm
  obtain ⟨n1, n2⟩ := glen_spec bu.is hp
  rw [sat_req, n2, hs]
  refine ⟨n1, ?_⟩
  by_cases hlt : k < X.hs.length
  · have apre : gatPre G um ((G.g : Int) + 1) q0 q1 q2 := ⟨⟨rfl, bu.is, hp⟩, by rw [hs]; omega⟩
    rw [brT (by simp [iLt]; omega), sat_req]
    refine ⟨⟨G, apre⟩, ?_⟩
    rw [sat_any]
    rintro ⟨yi, yb, yv, ym⟩ hy
    rcases hy G apre with ⟨j, kk, ej, hj, e1, _, e3⟩ | ⟨h, _⟩
    · simp only at e1 e3
      subst e1
      obtain rfl : j = k := by omega
      rw [hs] at hj
      have htake : X.hs.take (j + 1) = X.hs.take j ++ [kk] := by rw [List.take_add_one, hj]; rfl
      have hin : iAdd .i64 (j : Int) 1 = ((j + 1 : Nat) : Int) := by rw [iadd_i (by omega)]; omega
      have hm' : ∀ a, m6 a ≠ none → ym a = m6 a := fun a ha => (e3 a (by rw [hm a ha]; exact ha)).trans (hm a ha)
      simp only [hdI, tlI]
      by_cases he : kk = (h0, h1)
      · subst he
        rw [brT (by simp [bAnd, iEq]), sat_req]
        refine ⟨⟨trivial, trivial⟩, N - 1, by omega, j + 1, by omega, ?_, hm'⟩
        have hc : (X.hs.take (j + 1)).count (h0, h1) = (X.hs.take j).count (h0, h1) + 1 := by rw [htake, List.count_append]; simp
        have hcl : (X.hs.take j).count (h0, h1) ≤ j := Nat.le_trans (List.count_le_length) (by rw [List.length_take]; omega)
        rw [hin, hc, iadd_i (by omega)]
        simp
      · rw [brF (by
          simp only [bAnd, iEq, Bool.and_eq_false_iff, beq_eq_false_iff_ne]
          by_cases e1 : kk.1 = h0
          · exact .inr fun e2 => he (Prod.ext e1 e2)
          · exact .inl e1), sat_req]
        refine ⟨⟨trivial, trivial⟩, N - 1, by omega, j + 1, by omega, ?_, hm'⟩
        have hc : (X.hs.take (j + 1)).count (h0, h1) = (X.hs.take j).count (h0, h1) := by rw [htake, List.count_append]; simp [he]
        rw [hin, hc]
    · rw [hs] at h; omega
  · rw [brF (by simp [iLt]; omega)]
    have hke : k = X.hs.length := by omega
    have hcount : (X.hs.take k).count (h0, h1) = 1 := by rw [hke, List.take_length]; exact nodup_count hnd hXk
    rw [hcount, brF (by rfl), sat_req]
    exact ⟨⟨trivial, trivial⟩, hR _ hm⟩
theorem sum_take {f : Pl → Nat} : ∀ (ps : List Pl) (k : Nat) (p : Pl), ps[k]? = some p → sumL f (ps.take (k + 1)) = sumL f (ps.take k) + f p
  | [], k, p, h => by simp at h
  | x :: ps, 0, p, h => by
    simp only [List.getElem?_cons_zero, Option.some.injEq] at h
    subst h
    simp [sumL]
  | x :: ps, k + 1, p, h => by
    simp only [List.getElem?_cons_succ] at h
    have := sum_take (f := f) ps k p h
    rw [List.take_succ_cons, List.take_succ_cons]
    simp only [sumL, this]; omega
theorem sum_le {f : Pl → Nat} : ∀ (ps : List Pl) (k : Nat), sumL f (ps.take k) ≤ sumL f ps
  | [], k => by simp
  | x :: ps, 0 => by simp [sumL]
  | x :: ps, k + 1 => by
    rw [List.take_succ_cons]
    simp only [sumL]
    have := sum_le (f := f) ps k
    omega
theorem onP_walk {E : Hn → Int → Prop} {i : Int} {c : Nat} (b : OnB m0 q ci li E G m6) (hg : tg = (G.g : Int) + 1) (hli : li < 1000) (hc : c < 100000) (hN : ∀ L : List Pl, L.Nodup → (∀ p ∈ L, (G.R p).isSome = true) → L.length < 100000)
    (hcount : ∀ ps : List Pl, ps.Nodup → (∀ p, p ∈ ps ↔ (G.R p).isSome = true) → c = sumL (fun p => (hsO (G.R p)).length) ps) {R : Leaf → Prop}
    (hR : ∀ m, (∀ a, m6 a ≠ none → m a = m6 a) → R (.up (.up (.again ⟨[iAdd .i64 i 1], [], [], m⟩)))) : (T_onP m6 tg l v1 i c).sat R := by
  subst hg
  unfold T_onP
  have ppre : placesPre G m6 ((G.g : Int) + 1) := ⟨rfl, b.is, fun L h1 h2 => by have := hN L h1 h2; omega⟩
  rw [sat_req]
  refine ⟨⟨G, ppre⟩, ?_⟩
  rw [sat_any]
  rintro ⟨yi, yb, yv, ym⟩ hy
  obtain ⟨ps, r1, r2, r3, r4, r5, r6⟩ := hy G ppre
  have r1 : RowP ym (hdV yv) ps := r1
  have r5 : ∀ a, m6 a ≠ none → ym a = m6 a := r5
  obtain ⟨e1, e2, e3⟩ := r1.sl
  have hps := hN ps r2 fun p hp => (r3 p).1 hp
  have hcs := hcount ps r2 r3
  have by' := b.more r5
  generalize hf : (fun p => (hsO (G.R p)).length) = f at hcs
  let J : Nat → Vars → Prop := fun N y => ∃ k : Nat, k + N = ps.length ∧ y.i = [(c : Int) - (sumL f (ps.take k) : Nat), (k : Int)] ∧ y.m = ym
  refine lp_idx J (n0 := ps.length) ⟨0, by omega, by simp [sumL], rfl⟩ ?_
  rintro N ⟨ui, ub, uv, um⟩ _ ⟨k, hk, rfl, rfl⟩
  simp only [hdI, tlI, e1, e3]
  rw [brT e2]
  have hle := sum_le (f := f) ps k
  by_cases hlt : k < ps.length
  · obtain ⟨p, hp⟩ : ∃ p, ps[k]? = some p := ⟨_, List.getElem?_eq_getElem hlt⟩
    obtain ⟨g1, g2, g3, g4, g5⟩ := r1.get hp
    have hpm := (r3 p).1 (List.mem_of_getElem? hp)
    obtain ⟨X, hX⟩ := Option.isSome_iff_exists.1 hpm
    have hok := (b.is.st p X hX).2.2
    obtain ⟨n1, n2⟩ := glen_spec (a := p.1) (b := p.2.1) (c := p.2.2) by'.is hok
    have hst := sum_take (f := f) ps k p hp
    have hle2 := sum_le (f := f) ps (k + 1)
    have hfp : f p = (hsO (G.R p)).length := by rw [← hf]
    have hl := b.len p
    rw [brT (by simp [iLt]; omega), brT g1, brT g2, g3, g4, g5, sat_req, n2]
    refine ⟨n1, ?_⟩
    rw [sat_req]
    refine ⟨⟨trivial, trivial⟩, N - 1, by omega, k + 1, by omega, ?_, rfl⟩
    have hl' : (hsO (G.R (p.1, p.2.1, p.2.2))).length = (hsO (G.R p)).length := rfl
    rw [hfp] at hst
    rw [hl', isub_i (by omega), iadd_i (by omega)]
    have x1 : (c : Int) - (sumL f (ps.take k) : Nat) - ((hsO (G.R p)).length : Nat) = (c : Int) - (sumL f (ps.take (k + 1)) : Nat) := by omega
    have x2 : (k : Int) + 1 = ((k + 1 : Nat) : Int) := by omega
    rw [x1, x2]
  · rw [brF (by simp [iLt]; omega)]
    have hke : k = ps.length := by omega
    rw [hke, List.take_length, ← hcs]
    rw [brF (by simp [iNe]), sat_req]
    exact ⟨⟨trivial, trivial⟩, hR _ r5⟩
end
end Go.Proofs.Ytnlohongffpkpaa.T16
end

section
/- Layer 17: GraphOnce's walk: the range. A text of the session's own. -/
namespace Go.Proofs.Ytnlohongffpkpaa.T16
open Go Go.RowKit Go.Proofs.Ytnlohongffpkpaa.Sx Go.Proofs
set_option linter.unusedVariables false
set_option linter.unusedSimpArgs false

theorem entAt_of {m : Mem} {a q c : Nat} {since : Nat} {seen : Array Nat} {es : Array MapEntry} {e : MapEntry} (h1 : m a = some (.mapIter (some q) since (seen.push e.born) c)) (h2 : m q = some (.map es c)) (he : e ∈ es.toList) (hn : (es.toList.map (·.born)).Nodup) : entAt m ((a : Int) + 1) = some e := by
  have hf : es.find? (·.born == e.born) = some e := by rw [← Array.find?_toList]; exact find_born e es.toList hn he
  unfold entAt
  rw [show (((a : Int) + 1).toNat) = a + 1 by omega]
  simp only [h1, h2, Array.back?_push, Nat.beq_refl, hf]
theorem entries_le {es : Array MapEntry} {c : Nat} (h : MapKept.Stamped es c) : es.size ≤ c := by
  obtain ⟨s1, s2, s3⟩ := (MapKept.stamped_iff es c).1 h
  have := nodup_le (l' := List.range c) s2 fun x hx => by
    obtain ⟨e, he, rfl⟩ := List.mem_map.1 hx
    exact List.mem_range.2 (s1 e he)
  simpa using this
theorem len_sum {G : GG} {m : Mem} (h : G.is m) : ∀ (L : List Pl), (∀ p ∈ L, (G.R p).isSome = true) → L.length ≤ sumL (fun p => (hsO (G.R p)).length) L
  | [], _ => Nat.le_refl _
  | p :: L, hp => by
    have ih := len_sum h L fun r hr => hp r (by simp [hr])
    obtain ⟨X, hX⟩ := Option.isSome_iff_exists.1 (hp p (by simp))
    have hne := (h.st p X hX).2.1
    have : 1 ≤ (hsO (G.R p)).length := by
      rw [hX]
      show 1 ≤ X.hs.length
      cases he : X.hs with
      | nil => exact absurd he hne
      | cons x r => simp
    simp only [sumL, List.length_cons]; omega
section
variable {m0 m1 : Mem} {q ci li : Nat} {G : GG} {tg : Int} {l v1 : Value}
theorem onR_walk {i : Int} {a c : Nat} {es : Array MapEntry} (b : OnB m0 q ci li (fun _ _ => False) G m1) (hg : tg = (G.g : Int) + 1) (hli : li < 1000) (hci : ci < 1000) (hq : m1 q = some (.map es c)) (hc : c ≤ ci) (ha : m1 a = none) {R : Leaf → Prop}
    (hR : ∀ m, (∀ x, m1 x ≠ none → m x = m1 x) → R (.up (.again ⟨[iAdd .i64 i 1], [], [], m⟩))) : (T_onR (alO m1 a (.mapIter (some q) c #[] c)) tg l v1 i ((a : Int) + 1)).sat R := by
  obtain ⟨es', c', k1, k2, k3, k4⟩ := id b.mp
  rw [hq] at k1; cases k1
  obtain ⟨s1, s2, s3⟩ := (MapKept.stamped_iff es c).1 k4
  have hkq : ∃ kq : MapEntry → Itm, ∀ e ∈ es.toList, e.key = kKey (kq e).1 (kq e).2 ∧ okH (kq e).1 ∧ inI (kq e).2 := by
    classical
    refine ⟨fun e => if h : ∃ x : Itm, e.key = kKey x.1 x.2 ∧ okH x.1 ∧ inI x.2 then Classical.choose h else ((0, 0), 0), fun e he => ?_⟩
    obtain ⟨lt, hl⟩ := k2 e he
    obtain ⟨k, n, h1, h2, h3⟩ := key77_inv hl
    have hex : ∃ x : Itm, e.key = kKey x.1 x.2 ∧ okH x.1 ∧ inI x.2 := ⟨(k, n), h1, h2, h3⟩
    simp only [dif_pos hex]
    exact Classical.choose_spec hex
  obtain ⟨kq, hkq⟩ := hkq
  have hnd : (es.toList.map kq).Nodup := by
    refine List.pairwise_map.2 (List.Pairwise.imp_of_mem (fun {x y} hx hy hne e => hne ?_) k3)
    rw [(hkq x hx).1, (hkq y hy).1, e]
  have hval : ∀ e ∈ es.toList, e.val = .int .i64 1 := fun e he => by
    have := (b.mp.look (kSmp_k (kq e).1 (kq e).2) e.val).2 ⟨es, c, hq, e, he, (hkq e he).1, rfl⟩
    exact b.vals _ _ _ this
  have hmem : ∀ k n, (G.I k n).isSome = true → (k, n) ∈ es.toList.map kq := fun k n hI => by
    rcases b.sn k n hI with h | h
    · obtain ⟨v, hv⟩ := Option.isSome_iff_exists.1 h
      obtain ⟨es', c', e1, e, he, ek, _⟩ := (b.mp.look (kSmp_k k n) v).1 hv
      rw [hq] at e1; cases e1
      obtain ⟨x1, x2⟩ := kKey_inj ((hkq e he).1.symm.trans ek)
      exact List.mem_map.2 ⟨e, he, Prod.ext x1 x2⟩
    · exact h.elim
  have hsz := entries_le k4
  have hcount : ∀ ps : List Pl, ps.Nodup → (∀ p, p ∈ ps ↔ (G.R p).isSome = true) → (es.toList.map kq).countP (fun x => (G.I x.1 x.2).isSome) = sumL (fun p => (hsO (G.R p)).length) ps := fun ps h1 h2 => count_all b.is hnd hmem h1 h2
  have hN : ∀ L : List Pl, L.Nodup → (∀ p ∈ L, (G.R p).isSome = true) → L.length < 100000 := fun L h1 h2 => by
    have e1 := len_sum b.is L h2
    rw [← count_amid b.is hnd hmem L h1] at e1
    have e2 := List.countP_le_length (p := amid G L) (l := es.toList.map kq)
    rw [List.length_map, Array.length_toList] at e2
    omega
  have haq : a ≠ q := by rintro rfl; rw [ha] at hq; cases hq
  unfold T_onR
  let J : Nat → Vars → Prop := fun N y => ∃ (seen : Array Nat) (last : Nat) (pre : List Itm), pre.length + N = es.size ∧ Told es kq seen pre ∧ y.i = [((pre.countP (fun x => (G.I x.1 x.2).isSome) : Nat) : Int)] ∧ y.m a = some (.mapIter (some q) c seen last) ∧ c ≤ last ∧ ∀ x, m1 x ≠ none → y.m x = m1 x
  refine lp_idx J (n0 := es.size) ⟨#[], c, [], by simp, Told.start _ _, by simp, alO_self _ _ _, Nat.le_refl _, fun x hx => alO_ne _ (by rintro rfl; exact hx ha)⟩ ?_
  rintro N ⟨ui, ub, uv, um⟩ _ ⟨seen, last, pre, hlen, hT, rfl, hit, hcl, hm⟩
  simp only at hit hm
  simp only [hdI]
  have bu := b.more hm
  have huq : um q = some (.map es c) := (hm q (by rw [hq]; simp)).trans hq
  have hat : itAt um ((a : Int) + 1) q c seen last es c := ⟨a, rfl, hit, huq⟩
  have kok : ∀ e ∈ es.toList, okU (.agg [.li .i64 0, .li .u64 0, .li .i64 0]) e.key = true ∧ okU (.c (.li .i64 0)) e.val = true := fun e he => by
    rw [(hkq e he).1, hval e he]
    exact ⟨rfl, rfl⟩
  rw [sat_req]
  refine ⟨⟨q, c, seen, last, es, c, hat, hcl, fun e he => ⟨s1 e he, kok e he⟩⟩, ?_⟩
  rw [sat_any]
  rintro ⟨yi, yb, yv, ym⟩ hy
  rcases hy q c seen last es c hat with ⟨e1, e2, h0⟩ | ⟨e, he, e1, e2, e3⟩
  · simp only at e1 e2
    subst e1 e2
    rw [brF (by rfl)]
    have hperm := hT.all h0 s2
    have hcp : pre.countP (fun x => (G.I x.1 x.2).isSome) = (es.toList.map kq).countP (fun x => (G.I x.1 x.2).isSome) := hperm.countP_eq _
    have hcl' := List.countP_le_length (p := fun x : Itm => (G.I x.1 x.2).isSome) (l := pre)
    refine onP_walk bu hg hli (by omega) hN (fun ps h1 h2 => by rw [hcp]; exact hcount ps h1 h2) fun m hm' => ?_
    exact hR m fun x hx => (hm' x (by rw [hm x hx]; exact hx)).trans (hm x hx)
  · simp only at e1 e2 e3
    subst e1 e2
    rw [show ((a : Int) + 1).toNat - 1 = a by omega] at e3
    subst e3
    obtain ⟨hem, hes⟩ := mem_left he
    have hlt := hT.len he s2
    have hT' := hT.step he
    have hm' : ∀ x, m1 x ≠ none → alO um a (.mapIter (some q) c (seen.push e.born) c) x = m1 x := fun x hx => (alO_ne _ (by rintro rfl; exact hx ha)).trans (hm x hx)
    have by' := b.more hm'
    have hen : entAt (alO um a (.mapIter (some q) c (seen.push e.born) c)) ((a : Int) + 1) = some e := entAt_of (alO_self _ _ _) ((alO_ne _ (Ne.symm haq)).trans huq) hem s2
    have hek : entK (alO um a (.mapIter (some q) c (seen.push e.born) c)) ((a : Int) + 1) = kKey (kq e).1 (kq e).2 := by unfold entK; rw [hen]; exact (hkq e hem).1
    have hev : entV (alO um a (.mapIter (some q) c (seen.push e.born) c)) ((a : Int) + 1) = .int .i64 1 := by unfold entV; rw [hen]; exact hval e hem
    have hkk := hkq e hem
    have hit' : alO um a (.mapIter (some q) c (seen.push e.born) c) a = some (.mapIter (some q) c (seen.push e.born) c) := alO_self _ _ _
    generalize alO um a (.mapIter (some q) c (seen.push e.born) c) = m5 at hm' by' hen hek hev hit' ⊢
    rw [brT (by rfl), sat_req]
    refine ⟨⟨by rw [hen]; rfl, by rw [hek]; rfl, by rw [hev]; rfl⟩, ?_⟩
    have c0 : vI (cellAt (entK m5 ((a : Int) + 1)) 0) = (kq e).1.1 := by rw [hek]; rfl
    have c1 : vI (cellAt (entK m5 ((a : Int) + 1)) 1) = (kq e).1.2 := by rw [hek]; rfl
    have c2 : vI (cellAt (entK m5 ((a : Int) + 1)) 2) = (kq e).2 := by rw [hek]; rfl
    obtain ⟨i1, i2⟩ := gin_spec (k := (kq e).1.1) (l := (kq e).1.2) by'.is.toGM hkk.2.1 hkk.2.2
    have ep : (((kq e).1.1, (kq e).1.2) : Hn) = (kq e).1 := rfl
    rw [ep] at i2
    subst hg
    simp only [c0, c1, c2, i2]
    rw [sat_req]
    refine ⟨i1, ?_⟩
    have hcp : (pre ++ [kq e]).countP (fun x => (G.I x.1 x.2).isSome) = pre.countP (fun x => (G.I x.1 x.2).isSome) + (if (G.I (kq e).1 (kq e).2).isSome then 1 else 0) := by
      rw [List.countP_append]; simp [List.countP_cons]
    have hcl' := List.countP_le_length (p := fun x : Itm => (G.I x.1 x.2).isSome) (l := pre)
    cases hI : G.I (kq e).1 (kq e).2 with
    | none =>
      rw [hI] at hcp
      simp only [Option.isSome_none, Bool.false_eq_true, if_false, Nat.add_zero] at hcp
      rw [brT (by rfl), sat_req]
      exact ⟨⟨trivial, trivial⟩, N - 1, by omega, seen.push e.born, c, pre ++ [kq e], by simp; omega, hT', by rw [hcp], hit', Nat.le_refl _, hm'⟩
    | some p =>
      rw [hI] at hcp
      simp only [Option.isSome_some, if_true] at hcp
      rw [brF (by rfl)]
      refine onK_walk by' rfl hli (by rw [ep, hI]; rfl) fun m hm6 => ?_
      refine ⟨N - 1, by omega, seen.push e.born, c, pre ++ [kq e], by simp; omega, hT', ?_, ?_, Nat.le_refl _, fun x hx => ?_⟩
      · rw [hcp, iadd_i (by omega)]; simp
      · exact (hm6 a (by rw [hit']; simp)).trans hit'
      · exact (hm6 x (by rw [hm' x hx]; exact hx)).trans (hm' x hx)
end
end Go.Proofs.Ytnlohongffpkpaa.T16
end

section
/- Layer 17: GraphOnce's walk, whole. A text of the session's own. -/
namespace Go.Proofs.Ytnlohongffpkpaa.T16
open Go Go.RowKit Go.Proofs.Ytnlohongffpkpaa.Sx Go.Proofs
set_option linter.unusedVariables false
set_option linter.unusedSimpArgs false

theorem once_walk {m0 : Mem} {l : Value} {xs : List S9} (hA : Arg9 l xs m0) : (T_once m0 l).sat (isMemo fun v x => v = tru ∧ ∀ a, m0 a ≠ none → x a = m0 a) := by
  unfold T_once
  rw [brT hA.sl, hA.n]
  by_cases hl : (200 : Int) < xs.length
  · rw [brT (by simp only [iGt, decide_eq_true_eq]; omega)]
    exact ⟨rfl, fun _ _ => rfl⟩
  rw [brF (by simp only [iGt, decide_eq_false_iff_not]; omega), sat_req]
  refine ⟨⟨(), trivial⟩, ?_⟩
  rw [sat_any]
  rintro ⟨yi, yb, yv, ym⟩ hy
  obtain ⟨G, g1, g2, g3, g4, g5, g6, g7⟩ := hy () trivial
  simp only at g1 g2 g7
  subst g1
  rw [sat_any]
  rintro ⟨zi, zb, zv, zm⟩ ⟨q, z1, z2, z3⟩
  simp only at z1 z2 z3
  subst z2 z3
  have hpl : pl (hdV [Value.map (some q)]) = .map (some q) := rfl
  simp only [hdI, hpl]
  have q0 : m0 q = none := by
    cases e : m0 q with
    | none => rfl
    | some o => have := g7 q (by rw [e]; simp); rw [z1, e] at this; cases this
  have hnq : ¬ G.dom q := fun hd => g2.there hd z1
  have hal : ∀ a, ym a ≠ none → alO ym q (.map #[] 0) a = ym a := fun a ha => alO_ne _ (by rintro rfl; exact ha z1)
  obtain ⟨n1, n2⟩ := isMap_new (kt := 77) (m := alO ym q (.map #[] 0)) (q := q) (alO_self _ _ _)
  have b0 : OnB m0 q 0 0 (fun _ _ => False) G (alO ym q (.map #[] 0)) := by
    refine ⟨g2.congr fun a ha => hal a (g2.there ha), g6, hnq, q0, fun a ha => ?_, n1, fun h n v hv => ?_, ⟨#[], 0, alO_self _ _ _, Nat.le_refl _⟩, fun h n hI => ?_, fun p => ?_⟩
    · have h1 := g7 a ha
      exact (hal a (by rw [h1]; exact ha)).trans h1
    · rw [n2] at hv; cases hv
    · rw [g5] at hI; cases hI
    · rw [g3]; simp [hsO]
  let J : Nat → Vars → Prop := fun N y => ∃ (i : Nat) (G' : GG), i + N = xs.length ∧ y.i = [(i : Int)] ∧ G'.g = G.g ∧ OnB m0 q i i (fun _ _ => False) G' y.m
  refine lp_idx J (n0 := xs.length) ⟨0, G, by omega, rfl, rfl, b0⟩ ?_
  rintro N ⟨ui, ub, uv, um⟩ _ ⟨i, G1, hi, rfl, eg, b⟩
  simp only at hi b
  simp only [hdI]
  rw [brT hA.sl]
  by_cases hlt : i < xs.length
  rotate_left
  · rw [brF (by simp [iLt]; omega)]
    exact ⟨rfl, b.kp⟩
  obtain ⟨x, hx⟩ : ∃ x, xs[i]? = some x := ⟨_, List.getElem?_eq_getElem hlt⟩
  have hA' := hA.more b.kp
  obtain ⟨c0, c1, d0, d1, d2, d3, d4, d5, d6, d7, d8⟩ := hA'.at' i x hx
  obtain ⟨r1, r2, r3, r4⟩ := hA.rng x (List.mem_of_getElem? hx)
  simp only [d0, d1, d2, d3, d4, d5, d6, d7, d8]
  rw [brT (by simp [iLt]; omega), brT c0, brT c1]
  have hin : iAdd .i64 (i : Int) 1 = ((i + 1 : Nat) : Int) := by rw [iadd_i (by omega)]; omega
  refine sat_jn (fun v => ∃ G' : GG, G'.g = G.g ∧ OnB m0 q i (i + 1) (fun h n => h = (x.h.1, x.h.2) ∧ n = x.n) G' v.m) ?_ ?_
  · exact onS_walk b (by rw [eg]) (by omega) r3 r4 r2 fun m ⟨G', e1, e2⟩ => ⟨rfl, G', e1.trans eg, e2⟩
  rintro v j _ ⟨G2, eg2, b2⟩
  simp only at b2
  have b3 := b2.put r4 r2
  rw [sat_req]
  refine ⟨⟨keyed77, b2.mp.okM, rfl, okKey77 r4 r2⟩, ?_⟩
  rw [sat_letm]
  have ek : (Value.agg (.mk [(.int .i64 x.h.1), (.int .u64 x.h.2), (.int .i64 x.n)])) = kKey (x.h.1, x.h.2) x.n := rfl
  rw [ek]
  generalize mput v.m (.map (some q)) (kKey (x.h.1, x.h.2) x.n) (.int .i64 1) = m1 at b3 ⊢
  obtain ⟨es, c, k1, k2⟩ := b3.clk
  rw [sat_req]
  refine ⟨⟨q, es, c, rfl, k1⟩, ?_⟩
  rw [sat_any]
  rintro ⟨wi, wb, wv, wm⟩ ⟨a, w1, w2, w3⟩
  simp only at w2 w3
  subst w2 w3
  have hin2 : itNew m1 (.map (some q)) = .mapIter (some q) c #[] c := by simp only [itNew, k1]
  simp only [hin2]
  refine onR_walk b3 (by rw [eg2]) (by omega) (by omega) k1 (by omega) w1 fun m hm => ?_
  rw [hin]
  exact ⟨N - 1, by omega, i + 1, G2, by omega, rfl, eg2, b3.more hm⟩
theorem t_once (m : Mem) (l : Value) : runm Try.prog [s_gnew, s_gpush, s_ginsert, s_gpop, s_gremove, s_glen, s_gkind, s_gin, s_gat, s_gdrain, s_gone1, s_gworks, s_places] (drawh Try.prog [s_gnew, s_gpush, s_ginsert, s_gpop, s_gremove, s_glen, s_gkind, s_gin, s_gat, s_gdrain, s_gone1, s_gworks, s_places] (fun _ k => match Nat.beq k 6 with | true => some ⟨[5], [], [0, 3, 4], []⟩ | false => match Nat.beq k 23 with | true => some ⟨[7], [], [0, 3, 4, 5, 90], []⟩ | false => match Nat.beq k 30 with | true => some ⟨[11, 12], [], [0, 3, 4, 5, 7, 8, 9, 90], [1, 2]⟩ | false => match Nat.beq k 39 with | true => some ⟨[7, 16], [], [0, 3, 4, 5, 15], []⟩ | false => none) (fun _ k _ => match Nat.beq k 20 with | true => some ⟨0, [], [], [0, 3, 4, 5, 6], [0]⟩ | false => none)) 300 10 [.u (.c (.sv l))] m [98, 92, 95, 142, 140, 137, 111, 107, 108, 109, 142, 140, 137, 98, 92, 95, 35, 75, 1000075] = T_once m l := by kernel_rfl
theorem once_calls {W : World} {v : Value} {xs : List S9} {m : Mem} (hm : ∀ a o, m a = some o → W.heap[a]? = some o) (hA : Arg9 v xs m) (hv : pl v = v) : Calls Try.prog 10 #[v] W fun e W' => e = .returned (.bool true) ∧ Below W.heap.size W W' := by
  have hS : ∀ q ∈ [s_gnew, s_gpush, s_ginsert, s_gpop, s_gremove, s_glen, s_gkind, s_gin, s_gat, s_gdrain, s_gone1, s_gworks, s_places], SumOK Try.prog q := okc s_gnew_ok (okc s_gpush_ok (okc s_ginsert_ok (okc s_gpop_ok (okc s_gremove_ok (okc s_glen_ok (okc s_gkind_ok (okc s_gin_ok (okc s_gat_ok (okc s_gdrain_ok (okc s_gone1_ok (okc s_gworks_ok (okc s_places_ok okn))))))))))))
  have := memo_sound nameOK hS (drawh_sound nameOK hS (by kernel_rfl) _ _) 300 _ m _ (t_once m v) (once_walk hA) (fun _ => 0) W hm
  have hvs : (List.map (V.den fun _ => 0) [V.u (U.c (C.sv v))]).toArray = #[v] := by
    show #[pl v] = #[v]
    rw [hv]
  rw [hvs] at this
  refine this.mono ?_
  rintro e w' ⟨v', x, ⟨rfl, hk⟩, rfl, g⟩
  exact ⟨rfl, below_of hm g hk⟩
end Go.Proofs.Ytnlohongffpkpaa.T16
end
