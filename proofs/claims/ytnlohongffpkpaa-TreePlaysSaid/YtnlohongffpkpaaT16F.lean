/- Layer 16: a tree with a hole, in memory: moves, colours, turns; red and black. A text of the session's own. -/
import Derived.Test.YtnlohongffpkpaaT16E
namespace Go.Proofs.Ytnlohongffpkpaa.T16
open Go Go.RowKit Go.Proofs.Ytnlohongffpkpaa.Sx
set_option linter.unusedVariables false
set_option linter.unusedSimpArgs false

/-- Two states of one tree. -/
structure TS.like (S S' : TS) : Prop where
  t : S'.t = S.t
  q : S'.q = S.q
  es : S'.es = S.es
  k : S'.k = S.k
  dom : ∀ p, S'.H p = none ↔ S.H p = none
theorem like_p {S S' : TS} (h : S.like S') : S'.p = S.p := by unfold TS.p; rw [h.t]
theorem TS.like.refl (S : TS) : S.like S := ⟨rfl, rfl, rfl, rfl, fun _ => Iff.rfl⟩
theorem TS.like.trans {S S' S'' : TS} (h : S.like S') (h' : S'.like S'') : S.like S'' := ⟨h'.t.trans h.t, h'.q.trans h.q, h'.es.trans h.es, h'.k.trans h.k, fun p => (h'.dom p).trans (h.dom p)⟩
theorem like_set {S : TS} {p : Int} {d d0 : Nd} (hp : S.H p = some d0) : S.like (S.set p d) := ⟨rfl, rfl, rfl, rfl, fun q => by
  by_cases e : q = p
  · subst e; rw [set_H, upd_self, hp]; simp
  · rw [set_H, upd_ne _ e]⟩

/-- A memory has a tree, with what is around it. -/
structure At (S : TS) (t : T) (k : Ctx) : Prop where
  ok : S.ok
  rep : Rep S.H (topP k) t
  ctx : RepC S.H S.root t.ptr t.size k
  dj : Dj t k
  sm : t.size + csize k < 1152921504606846976
theorem At.out {S : TS} {t : T} {f : Fr} {k : Ctx} (h : At S t (f :: k)) : At S (f.mk' t) k := by
  obtain ⟨k1, k2, k3⟩ := h.ctx
  refine ⟨h.ok, Rep.mk.2 ⟨k1, h.rep, k2⟩, ?_, fun q => ?_, ?_⟩
  · rw [Fr.mk', ptr_mk, size_mk]; exact k3
  · have := h.dj q
    simp only [ccnt] at this
    rw [Fr.mk', cnt_mk]; omega
  · have := h.sm
    simp only [csize] at this
    rw [Fr.mk', size_mk]; omega
theorem At.into {S : TS} {t : T} {f : Fr} {k : Ctx} (h : At S (f.mk' t) k) : At S t (f :: k) := by
  obtain ⟨k1, k2, k3⟩ := Rep.mk.1 h.rep
  refine ⟨h.ok, k2, ⟨k1, k3, ?_⟩, fun q => ?_, ?_⟩
  · have := h.ctx; rw [Fr.mk', ptr_mk, size_mk] at this; exact this
  · have := h.dj q
    rw [Fr.mk', cnt_mk] at this
    simp only [ccnt]; omega
  · have := h.sm
    rw [Fr.mk', size_mk] at this
    simp only [csize]; omega
theorem At.outs {S : TS} : ∀ {k : Ctx} {t : T}, At S t k → At S (plug t k) []
  | [], t, h => h
  | f :: k, t, h => At.outs (k := k) h.out
theorem At.ins {S : TS} : ∀ {k : Ctx} {t : T}, At S (plug t k) [] → At S t k
  | [], t, h => h
  | f :: k, t, h => (At.ins (k := k) (t := f.mk' t) h).into
theorem mk_flip (i : Bool) (p s g : Int) (c : Bool) (x y : T) : mkT i p s g c x y = mkT (!i) p s g c y x := by cases i <;> rfl
/-- the node at the focus -/
theorem At.get {S : TS} {i : Bool} {p s g : Int} {c : Bool} {x y : T} {k : Ctx} (h : At S (mkT i p s g c x y) k) : S.H p = some ((Fr.mk i p s g c y).node x.ptr (topP k) x.size) := (Rep.mk.1 h.rep).1
theorem At.getf {S : TS} {t : T} {f : Fr} {k : Ctx} (h : At S t (f :: k)) : S.H f.p = some (f.node t.ptr (topP k) t.size) := h.ctx.1
theorem node_c (f : Fr) (q u : Int) (n : Nat) : (f.node q u n).c = f.c := by unfold Fr.node; split <;> rfl
theorem node_u (f : Fr) (q u : Int) (n : Nat) : (f.node q u n).u = u := by unfold Fr.node; split <;> rfl
theorem node_ch (f : Fr) (q u : Int) (n : Nat) : (f.node q u n).ch f.i = q := by unfold Fr.node; split <;> (rename_i e; rw [e]; rfl)
theorem node_ch' (f : Fr) (q u : Int) (n : Nat) : (f.node q u n).ch (!f.i) = f.o.ptr := by unfold Fr.node; split <;> (rename_i e; rw [e]; rfl)
theorem node_s (f : Fr) (q u : Int) (n : Nat) : (f.node q u n).s = f.s := by unfold Fr.node; split <;> rfl
theorem node_g (f : Fr) (q u : Int) (n : Nat) : (f.node q u n).g = f.g := by unfold Fr.node; split <;> rfl
theorem node_n (f : Fr) (q u : Int) (n : Nat) : (f.node q u n).n = ((n + f.o.size + 1 : Nat) : Int) := by unfold Fr.node; split <;> rfl
theorem At.ptr_ne {S : TS} {t : T} {f : Fr} {k : Ctx} (h : At S t (f :: k)) : t.ptr ≠ f.p ∧ f.o.ptr ≠ f.p ∧ topP k ≠ f.p ∧ (t.ptr = f.o.ptr → t.ptr = 0) := by
  have f0 : f.p ≠ 0 := p_ne0 h.ok h.getf
  have key : ∀ (t' : T), cnt f.p t' = 0 → t'.ptr ≠ f.p := by
    intro t' hc e
    rcases cnt_ptr t' with rfl | h
    · exact f0 e.symm
    · rw [e, hc] at h; omega
  have hd := h.dj f.p
  simp only [ccnt, if_true] at hd
  refine ⟨key t (by omega), key f.o (by omega), ?_, fun e => ?_⟩
  · intro e
    cases k with
    | nil => exact f0 e.symm
    | cons g k => have e : f.p = g.p := e.symm; simp only [ccnt, if_pos e] at hd; omega
  · rcases cnt_ptr t with rfl | h1
    · rfl
    · rcases cnt_ptr f.o with h2 | h2
      · rw [h2] at e; rw [e]; rfl
      · have := h.dj t.ptr
        rw [← e] at h2
        simp only [ccnt] at this
        omega
/-- a colour is changed -/
theorem At.setc {S : TS} {i : Bool} {p s g : Int} {c : Bool} {x y : T} {k : Ctx} (h : At S (mkT i p s g c x y) k) (v : Bool) :
    At (S.set p { (Fr.mk i p s g c y).node x.ptr (topP k) x.size with c := v }) (mkT i p s g v x y) k := by
  obtain ⟨k1, k2, k3⟩ := Rep.mk.1 h.rep
  have hd := h.dj
  have hdp := hd p
  rw [cnt_mk, if_pos rfl] at hdp
  have oth : ∀ q, 0 < cnt q x + cnt q y + ccnt q k → (S.set p { (Fr.mk i p s g c y).node x.ptr (topP k) x.size with c := v }).H q = S.H q := by
    intro q hq
    rw [set_H, upd_ne]
    intro e; subst e; omega
  refine ⟨h.ok.wc k1 v, Rep.mk.2 ⟨?_, rep_congr (fun q hq => oth q (by omega)) k2, rep_congr (fun q hq => oth q (by omega)) k3⟩, ?_, fun q => ?_, ?_⟩
  · rw [set_H, upd_self]; cases i <;> rfl
  · have := h.ctx
    rw [ptr_mk, size_mk] at this ⊢
    exact repC_congr (fun q hq => oth q (by omega)) this
  · have := hd q; rw [cnt_mk] at this ⊢; exact this
  · have := h.sm; rw [size_mk] at this ⊢; exact this
theorem At.turn {S : TS} {b : Mem} {k : Ctx} {i : Bool} {xp xs xg yp ys yg : Int} {xc yc : Bool} {a m c : T} (h : At S (mkT i xp xs xg xc a (mkT i yp ys yg yc m c)) k) :
    turnOK (S.mem b) S.p xp (bi i) ∧ ∃ S' : TS, turnM (S.mem b) S.p xp (bi i) = S'.mem b ∧ S.like S' ∧ At S' (mkT i yp ys yg yc (mkT i xp xs xg xc a m) c) k := by
  have hs := h.sm
  rw [size_mk, size_mk] at hs
  have hc := h.ctx
  rw [ptr_mk] at hc
  obtain ⟨t1, S', t2, t3, t4, t5, t6, t7, td, t8, t9⟩ := turnT (b := b) h.ok h.rep hc h.dj (by omega)
  refine ⟨t1, S', t2, ⟨t4, t5, t6, t7, td⟩, t3, t8, ?_, fun q => ?_, ?_⟩
  · rw [ptr_mk]; exact t9
  · have := h.dj q; rw [cnt_mk, cnt_mk] at this; rw [cnt_mk, cnt_mk]; omega
  · rw [size_mk, size_mk]; omega

/-! red and black -/
def red : T → Bool
  | .nil => false
  | .nd _ _ _ c _ _ => c
def RB : T → Nat → Prop
  | .nil, n => n = 0
  | .nd _ _ _ true l r, n => RB l n ∧ RB r n ∧ red l = false ∧ red r = false
  | .nd _ _ _ false l r, n => ∃ m, n = m + 1 ∧ RB l m ∧ RB r m
/-- may a red one hang there? -/
def mayR : Ctx → Bool
  | [] => false
  | f :: _ => !f.c
def RBC : Ctx → Nat → Prop
  | [], _ => True
  | f :: k, n => RB f.o n ∧ match f.c with
    | true => red f.o = false ∧ mayR k = true ∧ RBC k n
    | false => RBC k (n + 1)
theorem red_mk (i : Bool) (p s g : Int) (c : Bool) (x y : T) : red (mkT i p s g c x y) = c := by cases i <;> rfl
theorem RB_red {i : Bool} {p s g : Int} {x y : T} {n : Nat} : RB (mkT i p s g true x y) n ↔ RB x n ∧ RB y n ∧ red x = false ∧ red y = false := by
  cases i
  · exact Iff.rfl
  · constructor
    · rintro ⟨h1, h2, h3, h4⟩; exact ⟨h2, h1, h4, h3⟩
    · rintro ⟨h1, h2, h3, h4⟩; exact ⟨h2, h1, h4, h3⟩
theorem RB_blk {i : Bool} {p s g : Int} {x y : T} {n : Nat} : RB (mkT i p s g false x y) (n + 1) ↔ RB x n ∧ RB y n := by
  cases i
  · constructor
    · rintro ⟨m, h0, h1, h2⟩; cases h0; exact ⟨h1, h2⟩
    · rintro ⟨h1, h2⟩; exact ⟨n, rfl, h1, h2⟩
  · constructor
    · rintro ⟨m, h0, h1, h2⟩; cases h0; exact ⟨h2, h1⟩
    · rintro ⟨h1, h2⟩; exact ⟨n, rfl, h2, h1⟩
theorem RBC_red {f : Fr} {k : Ctx} {n : Nat} (hc : f.c = true) : RBC (f :: k) n ↔ RB f.o n ∧ red f.o = false ∧ mayR k = true ∧ RBC k n := by simp only [RBC, hc]
theorem RBC_blk {f : Fr} {k : Ctx} {n : Nat} (hc : f.c = false) : RBC (f :: k) n ↔ RB f.o n ∧ RBC k (n + 1) := by simp only [RBC, hc]
theorem plug_RB : ∀ {k : Ctx} {t : T} {n : Nat}, RB t n → (red t = true → mayR k = true) → RBC k n → ∃ m, RB (plug t k) m ∧ red (plug t k) = false
  | [], t, n, h1, h2, _ => ⟨n, h1, by cases h : red t with | false => exact h | true => exact absurd (h2 h) (by decide)⟩
  | f :: k, t, n, h1, h2, h3 => by
    cases hc : f.c with
    | true =>
      rw [RBC_red hc] at h3
      have ht : red t = false := by
        cases h : red t with
        | false => rfl
        | true => have := h2 h; simp [mayR, hc] at this
      refine plug_RB (k := k) (t := f.mk' t) (n := n) ?_ (fun _ => h3.2.2.1) h3.2.2.2
      rw [Fr.mk', hc]
      exact RB_red.2 ⟨h1, h3.1, ht, h3.2.1⟩
    | false =>
      rw [RBC_blk hc] at h3
      refine plug_RB (k := k) (t := f.mk' t) (n := n + 1) ?_ (fun h => ?_) h3.2
      · rw [Fr.mk', hc]
        exact RB_blk.2 ⟨h1, h3.1⟩
      · rw [Fr.mk', red_mk, hc] at h; cases h
/-- handles in order, with their nodes -/
def nodes : T → List (Int × Int × Int)
  | .nil => []
  | .nd p s g _ l r => nodes l ++ (p, s, g) :: nodes r
def cl : Ctx → List (Int × Int × Int)
  | [] => []
  | f :: k => match f.i with | false => cl k | true => cl k ++ (nodes f.o ++ [(f.p, f.s, f.g)])
def cr : Ctx → List (Int × Int × Int)
  | [] => []
  | f :: k => match f.i with | false => (f.p, f.s, f.g) :: nodes f.o ++ cr k | true => cr k
theorem nodes_plug : ∀ (k : Ctx) (t : T), nodes (plug t k) = cl k ++ nodes t ++ cr k
  | [], t => by simp [plug, cl, cr]
  | f :: k, t => by
    rw [plug, nodes_plug k, Fr.mk']
    cases hf : f.i <;> simp [mkT, nodes, cl, cr, hf]
theorem nodes_turn (i : Bool) (xp xs xg yp ys yg : Int) (xc yc xc' yc' : Bool) (a m c : T) : nodes (mkT i yp ys yg yc' (mkT i xp xs xg xc' a m) c) = nodes (mkT i xp xs xg xc a (mkT i yp ys yg yc m c)) := by
  cases i <;> simp [mkT, nodes]
theorem nodes_c (i : Bool) (p s g : Int) (c c' : Bool) (x y : T) : nodes (mkT i p s g c x y) = nodes (mkT i p s g c' x y) := by cases i <;> rfl
theorem nodes_mk (i : Bool) (p s g : Int) (c c' : Bool) {x y x' y' : T} (hx : nodes x = nodes x') (hy : nodes y = nodes y') : nodes (mkT i p s g c x y) = nodes (mkT i p s g c' x' y') := by cases i <;> simp [mkT, nodes, hx, hy]
theorem nodes_plug_congr (k : Ctx) {t t' : T} (h : nodes t = nodes t') : nodes (plug t k) = nodes (plug t' k) := by rw [nodes_plug, nodes_plug, h]
theorem len_nodes : ∀ t : T, (nodes t).length = t.size
  | .nil => rfl
  | .nd p s g c l r => by simp [nodes, T.size, len_nodes l, len_nodes r]; omega
/-- every tree with a node has a form with either side told first -/
theorem mk_of (i : Bool) (p s g : Int) (c : Bool) (l r : T) : ∃ x y, T.nd p s g c l r = mkT i p s g c x y := by
  cases i
  · exact ⟨l, r, rfl⟩
  · exact ⟨r, l, rfl⟩
end Go.Proofs.Ytnlohongffpkpaa.T16
