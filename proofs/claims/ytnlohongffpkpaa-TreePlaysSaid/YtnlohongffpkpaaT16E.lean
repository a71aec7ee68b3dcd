/- Layer 16: trees, and trees with a hole, in the nodes; a turn of one. A text of the session's own. -/
import Derived.Test.YtnlohongffpkpaaT16D
namespace Go.Proofs.Ytnlohongffpkpaa.T16
open Go Go.RowKit Go.Proofs.Ytnlohongffpkpaa.Sx
set_option linter.unusedVariables false
set_option linter.unusedSimpArgs false

inductive T where
  | nil
  | nd (p s g : Int) (c : Bool) (l r : T)
def T.ptr : T → Int
  | .nil => 0
  | .nd p _ _ _ _ _ => p
def T.size : T → Nat
  | .nil => 0
  | .nd _ _ _ _ l r => l.size + r.size + 1
/-- how often an address is there -/
def cnt (q : Int) : T → Nat
  | .nil => 0
  | .nd p _ _ _ l r => (if q = p then 1 else 0) + cnt q l + cnt q r
def Rep (H : Int → Option Nd) : Int → T → Prop
  | _, .nil => True
  | u, .nd p s g c l r => H p = some ⟨s, g, l.ptr, r.ptr, u, ((l.size + r.size + 1 : Nat) : Int), c⟩ ∧ Rep H p l ∧ Rep H p r
/-- A node around a hole: on which side the hole is; the node; its other side. -/
structure Fr where
  i : Bool
  p : Int
  s : Int
  g : Int
  c : Bool
  o : T
def mkT (i : Bool) (p s g : Int) (c : Bool) (near far : T) : T := match i with | false => .nd p s g c near far | true => .nd p s g c far near
def Fr.mk' (f : Fr) (t : T) : T := mkT f.i f.p f.s f.g f.c t f.o
def Fr.node (f : Fr) (q u : Int) (n : Nat) : Nd := match f.i with
  | false => ⟨f.s, f.g, q, f.o.ptr, u, ((n + f.o.size + 1 : Nat) : Int), f.c⟩
  | true => ⟨f.s, f.g, f.o.ptr, q, u, ((n + f.o.size + 1 : Nat) : Int), f.c⟩
abbrev Ctx := List Fr
def topP : Ctx → Int
  | [] => 0
  | f :: _ => f.p
def RepC (H : Int → Option Nd) (root : Int) : Int → Nat → Ctx → Prop
  | q, _, [] => root = q
  | q, n, f :: k => H f.p = some (f.node q (topP k) n) ∧ Rep H f.p f.o ∧ RepC H root f.p (n + f.o.size + 1) k
def ccnt (q : Int) : Ctx → Nat
  | [] => 0
  | f :: k => (if q = f.p then 1 else 0) + cnt q f.o + ccnt q k
def csize : Ctx → Nat
  | [] => 0
  | f :: k => f.o.size + 1 + csize k
def plug : T → Ctx → T
  | t, [] => t
  | t, f :: k => plug (f.mk' t) k
/-- no address twice -/
def Dj (t : T) (k : Ctx) : Prop := ∀ q, cnt q t + ccnt q k ≤ 1

theorem size_mk (i : Bool) (p s g : Int) (c : Bool) (x y : T) : (mkT i p s g c x y).size = x.size + y.size + 1 := by cases i <;> simp [mkT, T.size]; omega
theorem ptr_mk (i : Bool) (p s g : Int) (c : Bool) (x y : T) : (mkT i p s g c x y).ptr = p := by cases i <;> rfl
theorem cnt_mk (q : Int) (i : Bool) (p s g : Int) (c : Bool) (x y : T) : cnt q (mkT i p s g c x y) = (if q = p then 1 else 0) + cnt q x + cnt q y := by cases i <;> simp [mkT, cnt]; omega
theorem cnt_ptr (t : T) : t = .nil ∨ 0 < cnt t.ptr t := by
  cases t with
  | nil => exact .inl rfl
  | nd p s g c l r => right; simp [T.ptr, cnt]; omega
theorem size_plug : ∀ (k : Ctx) (t : T), (plug t k).size = t.size + csize k
  | [], t => by simp [plug, csize]
  | f :: k, t => by rw [plug, size_plug k, Fr.mk', size_mk, csize]; omega
theorem cnt_plug (q : Int) : ∀ (k : Ctx) (t : T), cnt q (plug t k) = cnt q t + ccnt q k
  | [], t => by simp [plug, ccnt]
  | f :: k, t => by rw [plug, cnt_plug q k, Fr.mk', cnt_mk, ccnt]; omega
theorem Rep.mk {H : Int → Option Nd} {u : Int} {i : Bool} {p s g : Int} {c : Bool} {x y : T} : Rep H u (mkT i p s g c x y) ↔ H p = some ((Fr.mk i p s g c y).node x.ptr u x.size) ∧ Rep H p x ∧ Rep H p y := by
  cases i
  · exact Iff.rfl
  · simp only [mkT, Rep, Fr.node]
    rw [Nat.add_comm y.size x.size, and_comm (a := Rep H p y)]
theorem rep_congr {H H' : Int → Option Nd} : ∀ {t : T} {u : Int}, (∀ q, 0 < cnt q t → H' q = H q) → Rep H u t → Rep H' u t
  | .nil, _, _, _ => trivial
  | .nd p s g c l r, u, hc, h => by
    obtain ⟨h1, h2, h3⟩ := h
    refine ⟨?_, rep_congr (fun q hq => hc q (by simp only [cnt]; omega)) h2, rep_congr (fun q hq => hc q (by simp only [cnt]; omega)) h3⟩
    rw [hc p (by simp [cnt]; omega)]; exact h1
theorem repC_congr {H H' : Int → Option Nd} {root : Int} : ∀ {k : Ctx} {q : Int} {n : Nat}, (∀ q, 0 < ccnt q k → H' q = H q) → RepC H root q n k → RepC H' root q n k
  | [], _, _, _, h => h
  | f :: k, q, n, hc, h => by
    obtain ⟨h1, h2, h3⟩ := h
    refine ⟨?_, rep_congr (fun q hq => hc q (by simp only [ccnt]; omega)) h2, repC_congr (fun q hq => hc q (by simp only [ccnt]; omega)) h3⟩
    rw [hc f.p (by simp [ccnt]; omega)]; exact h1
/-- only what stands above a tree is told otherwise -/
theorem rep_up {H H' : Int → Option Nd} {t : T} {u v : Int} (hd : ∀ q, cnt q t ≤ 1) (h : Rep H u t) (hp : ∀ d, H t.ptr = some d → H' t.ptr = some { d with u := v }) (hc : ∀ q, 0 < cnt q t → q ≠ t.ptr → H' q = H q) : Rep H' v t := by
  cases t with
  | nil => trivial
  | nd p s g c l r =>
    obtain ⟨h1, h2, h3⟩ := h
    have hp0 := hd p
    simp only [cnt, if_true] at hp0
    refine ⟨hp _ h1, rep_congr (fun q hq => hc q (by simp only [cnt]; omega) ?_) h2, rep_congr (fun q hq => hc q (by simp only [cnt]; omega) ?_) h3⟩
    · intro e
      have e : q = p := e
      subst e
      omega
    · intro e
      have e : q = p := e
      subst e
      omega
theorem rep_plug {H : Int → Option Nd} {root : Int} : ∀ {k : Ctx} {t : T}, Rep H (topP k) t → RepC H root t.ptr t.size k → Rep H 0 (plug t k) ∧ root = (plug t k).ptr
  | [], t, h1, h2 => ⟨h1, h2⟩
  | f :: k, t, h1, h2 => by
    obtain ⟨g1, g2, g3⟩ := h2
    refine rep_plug (k := k) (t := f.mk' t) (Rep.mk.2 ⟨g1, h1, g2⟩) ?_
    rw [Fr.mk', ptr_mk, size_mk]
    exact g3
theorem plug_rep {H : Int → Option Nd} {root : Int} : ∀ {k : Ctx} {t : T}, Rep H 0 (plug t k) → root = (plug t k).ptr → Rep H (topP k) t ∧ RepC H root t.ptr t.size k
  | [], t, h1, h2 => ⟨h1, h2⟩
  | f :: k, t, h1, h2 => by
    obtain ⟨g1, g2⟩ := plug_rep (k := k) (t := f.mk' t) h1 h2
    obtain ⟨e1, e2, e3⟩ := Rep.mk.1 g1
    rw [Fr.mk', ptr_mk, size_mk] at g2
    exact ⟨e2, e1, e3, g2⟩
theorem rep_has {S : TS} {u : Int} {t : T} (h : Rep S.H u t) : S.has t.ptr := by
  cases t with
  | nil => exact .inl rfl
  | nd p s g c l r => exact .inr ⟨_, h.1⟩
theorem rep_sz {S : TS} (hS : S.ok) {u : Int} {t : T} (h : Rep S.H u t) : S.sz t.ptr = t.size := by
  cases t with
  | nil => unfold TS.sz; rw [show T.nil.ptr = 0 from rfl, H_zero hS]; rfl
  | nd p s g c l r => unfold TS.sz; rw [show (T.nd p s g c l r).ptr = p from rfl, h.1]; rfl
theorem repC_up {S : TS} {root q : Int} {n : Nat} : ∀ {k : Ctx}, RepC S.H root q n k → topP k = 0 ∨ ∃ d, S.H (topP k) = some d
  | [], _ => .inl rfl
  | f :: k, h => .inr ⟨_, h.1⟩
theorem repC_root {H : Int → Option Nd} {root root' q q' : Int} {n n' : Nat} : ∀ {k : Ctx}, k ≠ [] → RepC H root q n k → root' = root → RepC H root' q n k
  | [], h, _, _ => absurd rfl h
  | f :: k, _, h, e => by subst e; exact h
theorem ptr_ne0 {S : TS} (hS : S.ok) {p : Int} {d : Nd} (h : S.H p = some d) : p ≠ 0 := p_ne0 hS h

theorem turnT {S : TS} {b : Mem} (hS : S.ok) {k : Ctx} {i : Bool} {xp xs xg yp ys yg : Int} {xc yc : Bool} {a m c : T}
    (hr : Rep S.H (topP k) (mkT i xp xs xg xc a (mkT i yp ys yg yc m c) )) (hk : RepC S.H S.root xp (mkT i xp xs xg xc a (mkT i yp ys yg yc m c)).size k)
    (hd : Dj (mkT i xp xs xg xc a (mkT i yp ys yg yc m c)) k) (hb : a.size + m.size + c.size < 2305843009213693952) :
    turnOK (S.mem b) S.p xp (bi i) ∧ ∃ S' : TS, turnM (S.mem b) S.p xp (bi i) = S'.mem b ∧ S'.ok ∧ S'.t = S.t ∧ S'.q = S.q ∧ S'.es = S.es ∧ S'.k = S.k ∧ (∀ q, S'.H q = none ↔ S.H q = none) ∧
      Rep S'.H (topP k) (mkT i yp ys yg yc (mkT i xp xs xg xc a m) c) ∧ RepC S'.H S'.root yp (mkT i yp ys yg yc (mkT i xp xs xg xc a m) c).size k := by
  obtain ⟨x1, x2, x3⟩ := Rep.mk.1 hr
  obtain ⟨y1, y2, y3⟩ := Rep.mk.1 x3
  have hd' : ∀ q, (if q = xp then 1 else 0) + cnt q a + ((if q = yp then 1 else 0) + cnt q m + cnt q c) + ccnt q k ≤ 1 := fun q => by have := hd q; rw [cnt_mk, cnt_mk] at this; exact this
  have xp0 : xp ≠ 0 := p_ne0 hS x1
  have yp0 : yp ≠ 0 := p_ne0 hS y1
  -- who is who
  have dxp := hd' xp
  have dyp := hd' yp
  simp only [if_true] at dxp dyp
  have nxy : xp ≠ yp := by intro e; rw [if_pos e] at dxp; omega
  have ptrne : ∀ (t : T) (q : Int), q ≠ 0 → cnt q t = 0 → t.ptr ≠ q := by
    intro t q hq hc e
    rcases cnt_ptr t with rfl | h
    · exact hq e.symm
    · rw [e, hc] at h; omega
  have cm : cnt xp m = 0 ∧ cnt yp m = 0 ∧ cnt xp a = 0 ∧ cnt yp a = 0 ∧ cnt xp c = 0 ∧ cnt yp c = 0 ∧ ccnt xp k = 0 ∧ ccnt yp k = 0 := by
    rw [if_neg nxy] at dxp
    rw [if_neg (Ne.symm nxy)] at dyp
    omega
  obtain ⟨c1, c2, c3, c4, c5, c6, c7, c8⟩ := cm
  have topne : ∀ q, q ≠ 0 → ccnt q k = 0 → topP k ≠ q := by
    intro q hq hc e
    cases k with
    | nil => exact hq e.symm
    | cons f k => have e : f.p = q := e; simp [ccnt, ← e] at hc
  have num : topP k ≠ 0 → m.ptr ≠ topP k := by
    intro h0 e
    rcases cnt_ptr m with rfl | h
    · exact h0 e.symm
    · have := hd' m.ptr
      cases k with
      | nil => exact h0 rfl
      | cons f k => have e : m.ptr = f.p := e; simp only [ccnt, if_pos e] at this; omega
  let dx : Nd := (Fr.mk i xp xs xg xc (mkT i yp ys yg yc m c)).node a.ptr (topP k) a.size
  let dy : Nd := (Fr.mk i yp ys yg yc c).node m.ptr xp m.size
  have hdx : dx.ch i = a.ptr ∧ dx.ch (!i) = yp ∧ dx.u = topP k ∧ dx.s = xs ∧ dx.g = xg ∧ dx.c = xc := by cases i <;> exact ⟨rfl, rfl, rfl, rfl, rfl, rfl⟩
  have hdy : dy.ch i = m.ptr ∧ dy.ch (!i) = c.ptr ∧ dy.u = xp ∧ dy.s = ys ∧ dy.g = yg ∧ dy.c = yc := by cases i <;> exact ⟨rfl, rfl, rfl, rfl, rfl, rfl⟩
  obtain ⟨dx1, dx2, dx3, dx4, dx5, dx6⟩ := hdx
  obtain ⟨dy1, dy2, dy3, dy4, dy5, dy6⟩ := hdy
  have hx : S.H xp = some dx := x1
  have hy : S.H (dx.ch (!i)) = some dy := by rw [dx2]; exact y1
  have huh : dx.u = 0 ∨ ∃ du, S.H dx.u = some du ∧ S.has du.r := by
    rw [dx3]
    cases k with
    | nil => exact .inl rfl
    | cons f k =>
      obtain ⟨k1, k2, k3⟩ := hk
      refine .inr ⟨_, k1, ?_⟩
      cases hf : f.i
      · simp only [Fr.node, hf]; exact rep_has k2
      · simp only [Fr.node, hf]; exact .inr ⟨_, x1⟩
  have sza : S.sz a.ptr = a.size := rep_sz hS x2
  have szm : S.sz m.ptr = m.size := rep_sz hS y2
  have szc : S.sz c.ptr = c.size := rep_sz hS y3
  obtain ⟨t1, S', t2, t3, t4, t5, t6, t7, t8, t9, t10, t11, t12, t13⟩ := turn_spec (b := b) hS i hx hy (by rw [dy1]; exact rep_has y2) huh (by rw [dx1]; exact rep_has x2) (by rw [dy2]; exact rep_has y3)
    (by rw [dx2]; exact nxy) (by rw [dy1]; exact ptrne m xp xp0 c1) (by rw [dy1, dx2]; exact ptrne m yp yp0 c2) (by rw [dx3]; exact topne xp xp0 c7) (by rw [dx3, dx2]; exact topne yp yp0 c8)
    (by rw [dx3, dy1]; exact num) (by rw [dy2]; exact ptrne c xp xp0 c5) (by rw [dx1, sza]; omega) (by rw [dy1, szm]; omega) (by rw [dy2, szc]; omega) (by rw [dx1, dy1, dy2, sza, szm, szc]; omega)
  simp only [dx1, dx2, dx3, dy1, dy2, sza, szm, szc] at t8 t9 t10 t11 t12 t13
  have oth : ∀ q, 0 < cnt q a + cnt q c + ccnt q k → q ≠ topP k → S'.H q = S.H q := by
    intro q hq ht
    have dq := hd' q
    refine t13 q ?_ ?_ ?_ ht
    · intro e; rw [if_pos e] at dq; omega
    · intro e; rw [if_pos e] at dq; omega
    · intro e
      rcases cnt_ptr m with rfl | h
      · rw [show T.nil.ptr = 0 from rfl] at e
        subst e
        -- nobody stands at nil
        have : S.H 0 = none := H_zero hS
        have : S'.H 0 = none := H_zero t3
        have z : ∀ {u : Int} {t : T}, Rep S.H u t → cnt 0 t = 0 := by
          intro u t
          induction t generalizing u with
          | nil => intro _; rfl
          | nd p s g c l r ih1 ih2 =>
            intro hh
            have hp := p_ne0 hS hh.1
            simp only [cnt, ih1 hh.2.1, ih2 hh.2.2]
            rw [if_neg (Ne.symm hp)]
        have zc : ∀ {k : Ctx} {q : Int} {n : Nat}, RepC S.H S.root q n k → ccnt 0 k = 0 := by
          intro k
          induction k with
          | nil => intro _ _ _; rfl
          | cons f k ih =>
            intro q n hh
            have hp := p_ne0 hS hh.1
            simp only [ccnt, z hh.2.1, ih hh.2.2]
            rw [if_neg (Ne.symm hp)]
        rw [z x2, z y3, zc hk] at hq
        omega
      · rw [e] at dq hq
        omega
  have top0 : ∀ q, 0 < cnt q a + cnt q m + cnt q c → q ≠ topP k ∨ topP k = 0 := by
    intro q hq
    cases k with
    | nil => exact .inr rfl
    | cons f k =>
      left
      intro e
      have e : q = f.p := e
      have := hd' q
      simp only [ccnt, if_pos e] at this
      omega
  have oth2 : ∀ q, 0 < cnt q a + cnt q c → S'.H q = S.H q := by
    intro q hq
    rcases top0 q (by omega) with h | h
    · exact oth q (by omega) h
    · by_cases e : q = topP k
      · rw [e, h, H_zero hS, H_zero t3]
      · exact oth q (by omega) e
  have ra : Rep S'.H xp a := rep_congr (fun q hq => oth2 q (by omega)) x2
  have rc : Rep S'.H yp c := rep_congr (fun q hq => oth2 q (by omega)) y3
  have rm : Rep S'.H xp m := by
    refine rep_up (fun q => by have := hd' q; omega) y2 (fun d hd => t11 d hd) fun q hq hne => ?_
    have dq := hd' q
    have hqk : q ≠ topP k := by
      rcases top0 q (by omega) with h | h
      · exact h
      · intro e
        rw [e, h] at hq
        have z : ∀ {u : Int} {t : T}, Rep S.H u t → cnt 0 t = 0 := by
          intro u t
          induction t generalizing u with
          | nil => intro _; rfl
          | nd p s g c l r ih1 ih2 =>
            intro hh
            have hp := p_ne0 hS hh.1
            simp only [cnt, ih1 hh.2.1, ih2 hh.2.2]
            rw [if_neg (Ne.symm hp)]
        rw [z y2] at hq
        omega
    refine t13 q ?_ ?_ hne hqk
    · intro e; rw [if_pos e] at dq; omega
    · intro e; rw [if_pos e] at dq; omega
  have rx : Rep S'.H yp (mkT i xp xs xg xc a m) := by
    refine Rep.mk.2 ⟨?_, ra, rm⟩
    rw [t9]
    cases i
    · simp only [Fr.node, Nd.wch, dx, mkT]; simp; omega
    · simp only [Fr.node, Nd.wch, dx, mkT]; simp; omega
  have ry : Rep S'.H (topP k) (mkT i yp ys yg yc (mkT i xp xs xg xc a m) c) := by
    refine Rep.mk.2 ⟨?_, rx, rc⟩
    rw [t10, ptr_mk, size_mk]
    cases i
    · simp only [Fr.node, Nd.wch, dy]; simp; omega
    · simp only [Fr.node, Nd.wch, dy]; simp; omega
  have td : ∀ q, S'.H q = none ↔ S.H q = none := by
    intro q
    by_cases e1 : q = xp
    · subst e1; rw [t9, x1]; simp
    · by_cases e2 : q = yp
      · subst e2; rw [t10, y1]; simp
      · by_cases e3 : q = m.ptr
        · subst e3
          rcases rep_has y2 with h0 | ⟨d, h0⟩
          · rw [h0, H_zero hS, H_zero t3]
          · rw [t11 _ h0, h0]; simp
        · by_cases e4 : q = topP k
          · subst e4
            rcases repC_up hk with h0 | ⟨d, h0⟩
            · rw [h0, H_zero hS, H_zero t3]
            · rw [t12 _ h0, h0]; simp
          · rw [t13 q e1 e2 e3 e4]
  refine ⟨t1, S', t2, t3, t4, t5, t6, t7, td, ry, ?_⟩
  have esz : (mkT i yp ys yg yc (mkT i xp xs xg xc a m) c).size = (mkT i xp xs xg xc a (mkT i yp ys yg yc m c)).size := by rw [size_mk, size_mk, size_mk, size_mk]; omega
  rw [esz]
  cases k with
  | nil => rw [t8, if_pos (show topP [] = 0 from rfl)]; rfl
  | cons f k =>
    obtain ⟨k1, k2, k3⟩ := hk
    have fp0 : f.p ≠ 0 := p_ne0 hS k1
    rw [if_neg (show topP (f :: k) ≠ 0 from fp0)] at t8
    have df : ∀ q, 0 < cnt q f.o + ccnt q k → q ≠ f.p := by
      intro q hq e
      have := hd' q
      simp only [ccnt, if_pos e] at this
      omega
    refine ⟨?_, rep_congr (fun q hq => oth q (by simp only [ccnt]; omega) (df q (by omega))) k2, ?_⟩
    · have := t12 _ k1
      have e : topP (f :: k) = f.p := rfl
      rw [e] at this
      rw [this]
      cases hf : f.i
      · have hne : f.o.ptr ≠ xp := ptrne f.o xp xp0 (by simp only [ccnt] at c7; omega)
        simp [Fr.node, hf, Nd.wch, hne]
      · simp [Fr.node, hf, Nd.wch]
    · rw [t8]
      exact repC_congr (fun q hq => oth q (by simp only [ccnt]; omega) (df q (by omega))) k3
end Go.Proofs.Ytnlohongffpkpaa.T16
