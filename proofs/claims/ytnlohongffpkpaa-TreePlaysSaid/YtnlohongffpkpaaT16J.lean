/- Layer 16: a tree's map; Index, At. A text of the session's own. -/
import Derived.Test.YtnlohongffpkpaaT16I
import Derived.DeepKeys4
namespace Go.Proofs.Ytnlohongffpkpaa.T16
open Go Go.RowKit Go.Proofs.Ytnlohongffpkpaa.Sx
set_option linter.unusedVariables false
set_option linter.unusedSimpArgs false

/-! handles as keys -/
def hTy (P : Program) (t : Nat) : Bool := match P.underlying t with
  | some (.struct fs) => (match fs.toList with
    | [f, g] => f.name != "_" && g.name != "_" && Nat.beq f.offset 0 && Nat.beq g.offset 1 && Nat.beq (P.cellsOf f.type) 1 && Nat.beq (P.cellsOf g.type) 1 && Nat.beq (P.cellsOf t) 2 && (match P.underlying f.type with | some (.int .i64) => true | _ => false) && (match P.underlying g.type with | some (.int .u64) => true | _ => false)
    | _ => false)
  | _ => false
def inI (s : Int) : Prop := -9223372036854775808 ≤ s ∧ s < 9223372036854775808
def inU (g : Int) : Prop := 0 ≤ g ∧ g < 18446744073709551616
abbrev hKey (s g : Int) : Value := .agg (.mk [(.int .i64 s), (.int .u64 g)])
theorem okKey_h {P : Program} {t : Nat} (h : hTy P t = true) (hk : P.keyType t = true) (hs : 0 < P.types.size) {s g : Int} (h1 : inI s) (h2 : inU g) : okKey P t (hKey s g) := by
  unfold hTy at h
  split at h
  · rename_i fs hu
    split at h
    · rename_i f g' hfs
      simp only [Bool.and_eq_true, Nat.beq_eq_true_eq] at h
      obtain ⟨⟨⟨⟨⟨⟨⟨⟨a1, a2⟩, a3⟩, a4⟩, a5⟩, a6⟩, a7⟩, a8⟩, a9⟩ := h
      replace a3 := Nat.eq_of_beq_eq_true a3
      replace a4 := Nat.eq_of_beq_eq_true a4
      replace a5 := Nat.eq_of_beq_eq_true a5
      replace a6 := Nat.eq_of_beq_eq_true a6
      replace a7 := Nat.eq_of_beq_eq_true a7
      have hf : fs = #[f, g'] := by rw [← Array.toArray_toList (xs := fs), hfs]
      subst hf
      have u1 : P.underlying f.type = some (.int .i64) := by revert a8; split <;> simp_all
      have u2 : P.underlying g'.type = some (.int .u64) := by revert a9; split <;> simp_all
      refine ⟨?_, rfl⟩
      unfold Go.keyOf
      rw [hu]
      simp only
      have hfm : (hKey s g).formed P t = true := by
        unfold hKey
        simp [Value.formed, hu, a7]
      rw [if_pos (by simp [hk, hfm])]
      obtain ⟨n, hn⟩ : ∃ n, P.types.size = n + 1 := ⟨P.types.size - 1, by omega⟩
      have w1 : (Lit.int .i64 s).wf = true := by unfold inI at h1; have e1 : IntKind.min .i64 = -9223372036854775808 := rfl; have e2 : IntKind.max .i64 = 9223372036854775807 := rfl; simp only [Lit.wf, e1, e2, Bool.and_eq_true, decide_eq_true_eq]; omega
      have w2 : (Lit.int .u64 g).wf = true := by unfold inU at h2; have e1 : IntKind.min .u64 = 0 := rfl; have e2 : IntKind.max .u64 = 18446744073709551615 := rfl; simp only [Lit.wf, e1, e2, Bool.and_eq_true, decide_eq_true_eq]; omega
      rw [hn]
      have k1 : P.keyLits (n + 1) f.type [.int .i64 s] = some [.int .i64 s] := by unfold Program.keyLits; simp [u1, w1]
      have k2 : P.keyLits (n + 1) g'.type [.int .u64 g] = some [.int .u64 g] := by unfold Program.keyLits; simp [u2, w2]
      unfold Program.keyLits
      simp [hu, hKey, Value.cells, a7, a3, a4, a5, a6, k1, k2, bne_iff_ne.1 a1, bne_iff_ne.1 a2]
    · cases h
  · cases h
theorem keyed29 : Go.Maps.Keyed Try.prog 29 := Go.Maps.Keyed.of_law (deep_law_laid (by kernel_rfl) (m := 2) (by omega) (of_decide_eq_true (by kernel_rfl)) (by kernel_rfl) (by kernel_rfl))
theorem okKey29 {s g : Int} (h1 : inI s) (h2 : inU g) : okKey Try.prog 29 (hKey s g) := okKey_h (by kernel_rfl) (by kernel_rfl) (of_decide_eq_true (by kernel_rfl)) h1 h2
theorem hKey_inj {s g s' g' : Int} (h : hKey s g = hKey s' g') : s = s' ∧ g = g' := by
  unfold hKey at h
  simpa using h

/-- the map's entries: each node's handle, with the node -/
structure Ents (es : List MapEntry) (L : List (Int × Int × Int)) : Prop where
  ap : es.Pairwise (fun a b => a.key ≠ b.key)
  to : ∀ e ∈ es, ∃ x ∈ L, e.key = hKey x.2.1 x.2.2 ∧ e.val = pv x.1 0
  fro : ∀ x ∈ L, ∃ e ∈ es, e.key = hKey x.2.1 x.2.2 ∧ e.val = pv x.1 0
  rng : ∀ x ∈ L, inI x.2.1 ∧ inU x.2.2
theorem Ents.find {es : List MapEntry} {L : List (Int × Int × Int)} (h : Ents es L) {p s g : Int} (hx : (p, s, g) ∈ L) : ∃ j, efind (hKey s g) es 0 = some (j, pv p 0) := by
  obtain ⟨e, he, hk, hv⟩ := h.fro _ hx
  obtain ⟨j, hj⟩ := List.getElem?_of_mem he
  exact ⟨0 + j, by rw [efind_some rfl h.ap hj hk, hv]⟩
theorem Ents.miss {es : List MapEntry} {L : List (Int × Int × Int)} (h : Ents es L) {s g : Int} (hx : ∀ x ∈ L, ¬ (x.2.1 = s ∧ x.2.2 = g)) : efind (hKey s g) es 0 = none := by
  refine efind_none rfl fun e he hk => ?_
  obtain ⟨x, h1, h2, h3⟩ := h.to e he
  exact hx x h1 (hKey_inj (h2.symm.trans hk))

structure Tre (S : TS) (t : T) (n : Nat) : Prop where
  at' : At S t []
  rb : RB t n
  blk : red t = false
  en : Ents S.es.toList (nodes t)

section
variable {S : TS} {b : Mem} {t : T} {n : Nat}
theorem mem_q (h : S.ok) : S.mem b S.q = some (.map S.es S.k) := by simp [TS.mem, Ne.symm h.ne]
theorem cell_q : pl (mcell (S.mem b) S.p 1) = .map (some S.q) := by rw [cell_m]; rfl
theorem mpE_q (h : S.ok) : mpE (S.mem b) (.map (some S.q)) = S.es.toList := by simp [mpE, mem_q h]
theorem okM29 (h : S.ok) {L : List (Int × Int × Int)} (he : Ents S.es.toList L) : okM Try.prog 29 (S.mem b) (.map (some S.q)) := by
  refine .inr ⟨S.q, S.es, S.k, rfl, mem_q h, fun e hE => ?_, he.ap⟩
  obtain ⟨x, h1, h2, h3⟩ := he.to e hE
  rw [h2]
  exact (okKey29 (he.rng x h1).1 (he.rng x h1).2).1
theorem lk_hit (h : S.ok) {L : List (Int × Int × Int)} (he : Ents S.es.toList L) {p s g : Int} (hx : (p, s, g) ∈ L) : lkZ (S.mem b) (.map (some S.q)) (.agg (.mk [(.int .i64 s), (.int .u64 g)])) (.pointer .none) = pv p 0 := by
  obtain ⟨j, hj⟩ := he.find hx
  simp only [lkZ, mlook, mpE_q h]
  rw [show efind (.agg (.mk [(.int .i64 s), (.int .u64 g)])) S.es.toList 0 = some (j, pv p 0) from hj]; rfl
theorem lk_miss (h : S.ok) {L : List (Int × Int × Int)} (he : Ents S.es.toList L) {s g : Int} (hx : ∀ x ∈ L, ¬ (x.2.1 = s ∧ x.2.2 = g)) : lkZ (S.mem b) (.map (some S.q)) (.agg (.mk [(.int .i64 s), (.int .u64 g)])) (.pointer .none) = pv 0 0 := by
  simp only [lkZ, mlook, mpE_q h]
  rw [show efind (.agg (.mk [(.int .i64 s), (.int .u64 g)])) S.es.toList 0 = none from he.miss hx]; rfl
theorem peq_t : peq S.p 0 = false := by
  have := S.p_pos
  rw [peq_zero (by omega)]; simp; omega
theorem peq_n (h : S.ok) {p : Int} {d : Nd} (hp : S.H p = some d) : peq p 0 = false := by
  rw [peq_zero (Int.le_of_lt (h.nd p _ hp).1)]; simp [p_ne0 h hp]
theorem split_at : ∀ {t : T} {p s g : Int} {j : Nat}, (nodes t)[j]? = some (p, s, g) → ∃ c l r k, plug (.nd p s g c l r) k = t ∧ (cl k).length + l.size = j
  | .nil, _, _, _, _, h => by simp [nodes] at h
  | .nd q s' g' c l r, p, s, g, j, h => by
    simp only [nodes] at h
    rcases Nat.lt_trichotomy j l.size with hj | hj | hj
    · rw [List.getElem?_append_left (by rw [len_nodes]; exact hj)] at h
      obtain ⟨c', l', r', k, hk, hl⟩ := split_at h
      refine ⟨c', l', r', k ++ [⟨false, q, s', g', c, r⟩], ?_, ?_⟩
      · have : ∀ (k : Ctx) (t : T) (f : Fr), plug t (k ++ [f]) = f.mk' (plug t k) := by
          intro k; induction k with
          | nil => intros; rfl
          | cons a k ih => intro t f; exact ih _ _
        rw [this, hk]; rfl
      · have : ∀ (k : Ctx) (f : Fr), f.i = false → cl (k ++ [f]) = cl k := by
          intro k f hf
          induction k with
          | nil => simp [cl, hf]
          | cons a k ih => simp only [List.cons_append, cl, ih]
        rw [this _ _ rfl]; exact hl
    · subst hj
      rw [List.getElem?_append_right (by rw [len_nodes]; exact Nat.le_refl _), len_nodes, Nat.sub_self] at h
      simp only [List.getElem?_cons_zero, Option.some.injEq, Prod.mk.injEq] at h
      obtain ⟨rfl, rfl, rfl⟩ := h
      exact ⟨c, l, r, [], rfl, by simp [cl]⟩
    · rw [List.getElem?_append_right (by rw [len_nodes]; omega), len_nodes] at h
      obtain ⟨m, hm⟩ : ∃ m, j - l.size = m + 1 := ⟨j - l.size - 1, by omega⟩
      rw [hm, List.getElem?_cons_succ] at h
      obtain ⟨c', l', r', k, hk, hl⟩ := split_at h
      refine ⟨c', l', r', k ++ [⟨true, q, s', g', c, l⟩], ?_, ?_⟩
      · have : ∀ (k : Ctx) (t : T) (f : Fr), plug t (k ++ [f]) = f.mk' (plug t k) := by
          intro k; induction k with
          | nil => intros; rfl
          | cons a k ih => intro t f; exact ih _ _
        rw [this, hk]; rfl
      · have : ∀ (k : Ctx) (f : Fr), f.i = true → (cl (k ++ [f])).length = (cl k).length + (f.o.size + 1) := by
          intro k f hf
          induction k with
          | nil => simp [cl, hf, len_nodes]
          | cons a k ih =>
            simp only [List.cons_append, cl]
            cases a.i <;> simp [ih]
            omega
        rw [this _ _ rfl]
        show (cl k).length + (l.size + 1) + l'.size = j
        omega
theorem cl_le : ∀ (k : Ctx), (cl k).length ≤ csize k
  | [] => Nat.le_refl _
  | f :: k => by
    have := cl_le k
    simp only [cl, csize]
    cases f.i <;> simp [len_nodes] <;> omega

/-! what is told -/
def cI : C → Int
  | .li _ n => n
  | .si _ n => n
  | .np n _ => n
  | _ => 0
def cB : C → Bool
  | .lb n => n
  | .sb n => n
  | _ => false
def yOf (v : V) (m : Mem) : Vars :=
  match v with
  | .tup [.c a, .c b] => ⟨[cI a], [cB b], [], m⟩
  | .tup [.agg [a, b], .c c] => ⟨[cI a, cI b], [cB c], [], m⟩
  | .u (.c a) => ⟨[cI a], [], [], m⟩
  | _ => ⟨[], [], [], m⟩
def idxPost (L : List (Int × Int × Int)) (s g : Int) (y : Vars) : Prop :=
  (∃ (j : Nat) (p : Int), L[j]? = some (p, s, g) ∧ y.i = [(j : Int)] ∧ y.b = [true]) ∨ ((∀ x ∈ L, ¬ (x.2.1 = s ∧ x.2.2 = g)) ∧ y.i = [0] ∧ y.b = [false])
def retIB (y : Vars) : V := .tup [.c (.si .i64 (hdI y.i)), .c (.sb (hdB y.b))]
end
def T_index (m : Mem) (t : Int) (hs hg : Int) : Tr := (.br (cmpOK m t 0) (.br (peq t 0) (.leaf (.memo (.tup [(.c (.li .i64 0)), (.c (.lb false))]) m)) (.br (nzp t) (.br (nzp t) (.br (okL m t 1 [(.raw (.map (.none)))]) (.req ((Go.Maps.Keyed Try.prog 29) ∧ ((okM Try.prog 29 m (pl (mcell m t 1))) ∧ ((okKey Try.prog 29 (.agg (.mk [(.int .i64 hs), (.int .u64 hg)]))) ∧ (((okU (.c .nilp) (lkZ m (pl (mcell m t 1)) (.agg (.mk [(.int .i64 hs), (.int .u64 hg)])) (.pointer (.none)))) : Bool) = true)))) (.br (cmpOK m (vP (lkZ m (pl (mcell m t 1)) (.agg (.mk [(.int .i64 hs), (.int .u64 hg)])) (.pointer (.none)))) 0) (.br (peq (vP (lkZ m (pl (mcell m t 1)) (.agg (.mk [(.int .i64 hs), (.int .u64 hg)])) (.pointer (.none)))) 0) (.leaf (.memo (.tup [(.c (.li .i64 0)), (.c (.lb false))]) m)) (.br (nzp t) (.br (nzp t) (.br (okL m t 1 [(.raw (.map (.none)))]) (.req ((Go.Maps.Keyed Try.prog 29) ∧ ((okM Try.prog 29 m (pl (mcell m t 1))) ∧ ((okKey Try.prog 29 (.agg (.mk [(.int .i64 hs), (.int .u64 hg)]))) ∧ (((okU (.c .nilp) (lkZ m (pl (mcell m t 1)) (.agg (.mk [(.int .i64 hs), (.int .u64 hg)])) (.pointer (.none)))) : Bool) = true)))) (.br (nzp (vP (lkZ m (pl (mcell m t 1)) (.agg (.mk [(.int .i64 hs), (.int .u64 hg)])) (.pointer (.none))))) (.br (nzp (vP (lkZ m (pl (mcell m t 1)) (.agg (.mk [(.int .i64 hs), (.int .u64 hg)])) (.pointer (.none))))) (.br (nzp (vP (lkZ m (pl (mcell m t 1)) (.agg (.mk [(.int .i64 hs), (.int .u64 hg)])) (.pointer (.none))))) (.br (okL m (vP (lkZ m (pl (mcell m t 1)) (.agg (.mk [(.int .i64 hs), (.int .u64 hg)])) (.pointer (.none)))) 2 [.nilp]) (.req (sizeOK m (gP m (vP (lkZ m (pl (mcell m t 1)) (.agg (.mk [(.int .i64 hs), (.int .u64 hg)])) (.pointer (.none)))) 2)) (.lp (.mk [(vP (lkZ m (pl (mcell m t 1)) (.agg (.mk [(.int .i64 hs), (.int .u64 hg)])) (.pointer (.none)))), (sizeV m (gP m (vP (lkZ m (pl (mcell m t 1)) (.agg (.mk [(.int .i64 hs), (.int .u64 hg)])) (.pointer (.none)))) 2))] [] [] m) (fun y0 j0 => (.br (nzp (hdI y0.1)) (.br (nzp (hdI y0.1)) (.br (okL y0.4 (hdI y0.1) 4 [.nilp]) (.br (cmpOK y0.4 (gP y0.4 (hdI y0.1) 4) 0) (.br (bNot (peq (gP y0.4 (hdI y0.1) 4) 0)) (.req (whichOK y0.4 (hdI y0.1)) (.br (iEq (whichV y0.4 (hdI y0.1)) 1) (.br (nzp (hdI y0.1)) (.br (nzp (hdI y0.1)) (.br (okL y0.4 (hdI y0.1) 4 [.nilp]) (.br (nzp (gP y0.4 (hdI y0.1) 4)) (.br (nzp (gP y0.4 (hdI y0.1) 4)) (.br (nzp (gP y0.4 (hdI y0.1) 4)) (.br (okL y0.4 (gP y0.4 (hdI y0.1) 4) 2 [.nilp]) (.req (sizeOK y0.4 (gP y0.4 (gP y0.4 (hdI y0.1) 4) 2)) (.br (nzp (hdI y0.1)) (.br (nzp (hdI y0.1)) (.br (okL y0.4 (hdI y0.1) 4 [.nilp]) (.req ((([] : List (Nat × V)) = []) ∧ (([] : List (Nat × Blk)) = [])) (.leaf (.again (.mk [(gP y0.4 (hdI y0.1) 4), (iAdd .i64 (hdI (tlI y0.1)) (iAdd .i64 (sizeV y0.4 (gP y0.4 (gP y0.4 (hdI y0.1) 4) 2)) 1))] [] [] y0.4)))) (.no 70)) (.no 76)) (.no 75))) (.no 70)) (.no 81)) (.no 76)) (.no 75)) (.no 70)) (.no 76)) (.no 75)) (.br (nzp (hdI y0.1)) (.br (nzp (hdI y0.1)) (.br (okL y0.4 (hdI y0.1) 4 [.nilp]) (.req ((([] : List (Nat × V)) = []) ∧ (([] : List (Nat × Blk)) = [])) (.leaf (.again (.mk [(gP y0.4 (hdI y0.1) 4), (hdI (tlI y0.1))] [] [] y0.4)))) (.no 70)) (.no 76)) (.no 75)))) (.leaf (.up (.memo (.tup [(.c (.si .i64 (hdI (tlI y0.1)))), (.c (.lb true))]) y0.4)))) (.no 78)) (.no 70)) (.no 76)) (.no 75))))) (.no 70)) (.no 81)) (.no 76)) (.no 75))) (.no 70)) (.no 76)) (.no 75))) (.no 78))) (.no 70)) (.no 76)) (.no 75))) (.no 78))
def T_at (m : Mem) (t : Int) (i : Int) : Tr := (.br (cmpOK m t 0) (.br (peq t 0) (.leaf (.memo (.tup [(.agg [(.li .i64 0), (.li .u64 0)]), (.c (.lb false))]) m)) (.br (iLt i 0) (.leaf (.memo (.tup [(.agg [(.li .i64 0), (.li .u64 0)]), (.c (.lb false))]) m)) (.req (lenOK m t) (.br (iGe i (lenV m t)) (.leaf (.memo (.tup [(.agg [(.li .i64 0), (.li .u64 0)]), (.c (.lb false))]) m)) (.br (nzp t) (.br (nzp t) (.br (okL m t 0 [.nilp]) (.lp (.mk [i, (gP m t 0)] [] [] m) (fun y0 j0 => (.br (nzp (hdI (tlI y0.1))) (.br (nzp (hdI (tlI y0.1))) (.br (nzp (hdI (tlI y0.1))) (.br (okL y0.4 (hdI (tlI y0.1)) 2 [.nilp]) (.req (sizeOK y0.4 (gP y0.4 (hdI (tlI y0.1)) 2)) (.br (iEq (hdI y0.1) (sizeV y0.4 (gP y0.4 (hdI (tlI y0.1)) 2))) (.br (nzp (hdI (tlI y0.1))) (.br (nzp (hdI (tlI y0.1))) (.br (okL y0.4 (hdI (tlI y0.1)) 0 [(.li .i64 0), (.li .u64 0)]) (.leaf (.up (.memo (.tup [(.agg [(.si .i64 (gI y0.4 (hdI (tlI y0.1)) 0)), (.si .u64 (gI y0.4 (hdI (tlI y0.1)) 1))]), (.c (.lb true))]) y0.4))) (.no 70)) (.no 76)) (.no 75)) (.br (iLt (hdI y0.1) (sizeV y0.4 (gP y0.4 (hdI (tlI y0.1)) 2))) (.br (nzp (hdI (tlI y0.1))) (.br (nzp (hdI (tlI y0.1))) (.br (nzp (hdI (tlI y0.1))) (.br (okL y0.4 (hdI (tlI y0.1)) 2 [.nilp]) (.req ((([(4, (.u (.c (.ptr 0 0))))] : List (Nat × V)) = [(4, (.u (.c (.ptr 0 0))))]) ∧ (([(0, ([(.li .i64 0), (.li .u64 0)], 29))] : List (Nat × Blk)) = [(0, ([(.li .i64 0), (.li .u64 0)], 29))])) (.leaf (.again (.mk [(hdI y0.1), (gP y0.4 (hdI (tlI y0.1)) 2)] [] [] y0.4)))) (.no 70)) (.no 81)) (.no 76)) (.no 75)) (.br (nzp (hdI (tlI y0.1))) (.br (nzp (hdI (tlI y0.1))) (.br (nzp (hdI (tlI y0.1))) (.br (okL y0.4 (hdI (tlI y0.1)) 3 [.nilp]) (.req ((([(4, (.u (.c (.ptr 0 0))))] : List (Nat × V)) = [(4, (.u (.c (.ptr 0 0))))]) ∧ (([(0, ([(.li .i64 0), (.li .u64 0)], 29))] : List (Nat × Blk)) = [(0, ([(.li .i64 0), (.li .u64 0)], 29))])) (.leaf (.again (.mk [(iSub .i64 (hdI y0.1) (iAdd .i64 (sizeV y0.4 (gP y0.4 (hdI (tlI y0.1)) 2)) 1)), (gP y0.4 (hdI (tlI y0.1)) 3)] [] [] y0.4)))) (.no 70)) (.no 81)) (.no 76)) (.no 75))))) (.no 70)) (.no 81)) (.no 76)) (.no 75)))) (.no 70)) (.no 76)) (.no 75)))))) (.no 78))
section
variable {S : TS} {b : Mem} {t : T} {n : Nat}
theorem iadd_i {x y : Int} (h : -9223372036854775808 ≤ x + y ∧ x + y < 9223372036854775808) : iAdd .i64 x y = x + y := by rw [add_i]; omega
theorem isub_i {x y : Int} (h : -9223372036854775808 ≤ x - y ∧ x - y < 9223372036854775808) : iSub .i64 x y = x - y := by rw [sub_i]; omega
/-- a side's size, read -/
theorem At.side_sz {i : Bool} {p s g : Int} {c : Bool} {x y : T} {k : Ctx} (h : At S (mkT i p s g c x y) k) :
    gP (S.mem b) p (bOff i) = x.ptr ∧ gP (S.mem b) p (bOff (!i)) = y.ptr ∧ sizeOK (S.mem b) x.ptr ∧ sizeV (S.mem b) x.ptr = x.size ∧ sizeOK (S.mem b) y.ptr ∧ sizeV (S.mem b) y.ptr = y.size := by
  obtain ⟨_, hx, hy⟩ := Rep.mk.1 h.rep
  obtain ⟨a1, a2⟩ := size_spec (b := b) h.ok (rep_has hx)
  obtain ⟨a3, a4⟩ := size_spec (b := b) h.ok (rep_has hy)
  exact ⟨(gP_ch h.ok h.get i).trans (node_ch _ _ _ _), (gP_ch h.ok h.get (!i)).trans (node_ch' _ _ _ _), a1, a2.trans (rep_sz h.ok hx), a3, a4.trans (rep_sz h.ok hy)⟩
theorem index_walk (h : Tre S t n) {s g : Int} (h1 : inI s) (h2 : inU g) :
    (T_index (S.mem b) S.p s g).sat (isMemo fun v m => idxPost (nodes t) s g (yOf v m) ∧ m = S.mem b ∧ ∀ ρ, v.den ρ = (retIB (yOf v m)).den ρ) := by
  have hS := h.at'.ok
  unfold T_index
  rw [brT (cmp_zero _ _), brF peq_t, brT nz_t, brT nz_t, brT okL_m]
  simp only [cell_q]
  by_cases hf : ∃ x ∈ nodes t, x.2.1 = s ∧ x.2.2 = g
  · obtain ⟨⟨p, s', g'⟩, hx, rfl, rfl⟩ := hf
    simp only [lk_hit hS h.en hx]
    obtain ⟨i0, hi0⟩ := List.getElem?_of_mem hx
    obtain ⟨c, l, r, k, hk, hl⟩ := split_at hi0
    have hA : At S (mkT false p s' g' c l r) k := At.ins (by rw [show plug (mkT false p s' g' c l r) k = t from hk]; exact h.at')
    have hp := hA.get
    have hpn : 0 ≤ p := Int.le_of_lt (hS.nd p _ hp).1
    have hreq : Go.Maps.Keyed Try.prog 29 ∧ okM Try.prog 29 (S.mem b) (.map (some S.q)) ∧ okKey Try.prog 29 (.agg (.mk [(.int .i64 s'), (.int .u64 g')])) ∧ (okU (.c .nilp) (pv p 0) : Bool) = true := ⟨keyed29, okM29 hS h.en, okKey29 h1 h2, isP_pv p⟩
    obtain ⟨z1, z2, z3, z4, z5, z6⟩ := hA.side_sz (b := b)
    rw [sat_req]
    refine ⟨hreq, ?_⟩
    simp only [vP_pv hpn]
    rw [brT (cmp_zero _ _), brF (peq_n hS hp), brT nz_t, brT nz_t, brT okL_m, sat_req]
    refine ⟨hreq, ?_⟩
    simp only [show gP (S.mem b) p 2 = l.ptr from z1, z4]
    rw [brT (nz_n hS hp), brT (nz_n hS hp), brT (nz_n hS hp), brT (okL_2 hS hp), sat_req]
    refine ⟨z3, ?_⟩
    have hsm := h.at'.sm
    let J : Nat → Vars → Prop := fun N y => ∃ (i : Bool) (p s g : Int) (c : Bool) (x z : T) (k : Ctx) (j : Nat), N = k.length ∧ y = ⟨[p, (j : Int)], [], [], S.mem b⟩ ∧ At S (mkT i p s g c x z) k ∧ plug (mkT i p s g c x z) k = t ∧ j < (mkT i p s g c x z).size ∧ (cl k).length + j = i0
    refine lp_idx J (n0 := k.length) ⟨false, p, s', g', c, l, r, k, l.size, rfl, rfl, hA, hk, by rw [size_mk]; omega, hl⟩ ?_
    clear hA hp hpn z1 z2 z3 z4 z5 z6 hk hl hreq c l r k
    rintro N y _ ⟨i, q, qs, qg, c, x, z, k, j, rfl, rfl, hA, hk, hjs, hl⟩
    have hq := hA.get
    have hu : gP (S.mem b) q 4 = topP k := (gP_u hS hq).trans (node_u _ _ _ _)
    simp only [hdI, tlI, hu]
    rw [brT (nz_n hS hq), brT (nz_n hS hq), brT (okL_4 hS hq), brT (cmp_zero _ _)]
    cases k with
    | nil =>
      rw [brF (by rfl)]
      have : j = i0 := by simp only [cl, List.length_nil] at hl; omega
      subst this
      exact ⟨.inl ⟨j, p, hi0, rfl, rfl⟩, rfl, fun ρ => rfl⟩
    | cons f k =>
      have hf := hA.getf
      have hpz : peq (topP (f :: k)) 0 = false := peq_n hS hf
      obtain ⟨w1, w2⟩ := At.which (b := b) hA
      have hsz := size_plug (f :: k) (mkT i q qs qg c x z)
      rw [hk] at hsz
      rw [brT (by rw [hpz]; rfl), sat_req, w2, show topP (f :: k) = f.p from rfl]
      refine ⟨w1, ?_⟩
      have ho := hA.out
      have hok : ∀ d : Nat, d = (match f.i with | true => f.o.size + 1 | false => 0) → inLoopJ J (f :: k).length (isMemo fun v m => idxPost (nodes t) s' g' (yOf v m) ∧ m = S.mem b ∧ ∀ ρ, v.den ρ = (retIB (yOf v m)).den ρ) (.again ⟨[f.p, ((j + d : Nat) : Int)], [], [], S.mem b⟩) := by
        rintro d rfl
        refine ⟨k.length, by simp, f.i, f.p, f.s, f.g, f.c, _, f.o, k, _, rfl, rfl, ho, hk, ?_, ?_⟩
        · rw [size_mk]; cases f.i <;> simp only <;> omega
        · simp only [cl] at hl ⊢
          cases hfi : f.i <;> simp only [hfi] at hl ⊢
          · exact hl
          · simp only [List.length_append, len_nodes, List.length_cons, List.length_nil] at hl
            omega
      cases hfi : f.i with
      | false =>
        rw [brF (by rfl), brT (nz_n hS hq), brT (nz_n hS hq), brT (okL_4 hS hq), sat_req]
        refine ⟨by simp, ?_⟩
        exact hok 0 (by rw [hfi])
      | true =>
        have hF : At S (mkT true f.p f.s f.g f.c (mkT i q qs qg c x z) f.o) k := by rw [← hfi]; exact ho
        obtain ⟨z1, z2, z3, z4, z5, z6⟩ := hF.side_sz (b := b)
        simp only [csize] at hsz
        rw [show gP (S.mem b) f.p 2 = f.o.ptr from z2, z6, brT (by rfl), brT (nz_n hS hq), brT (nz_n hS hq), brT (okL_4 hS hq), brT (nz_n hS hf), brT (nz_n hS hf), brT (nz_n hS hf), brT (okL_2 hS hf), sat_req]
        refine ⟨z5, ?_⟩
        simp only [csize] at hsm
        rw [brT (nz_n hS hq), brT (nz_n hS hq), brT (okL_4 hS hq), sat_req]
        refine ⟨by simp, ?_⟩
        rw [iadd_i (x := ((f.o.size : Nat) : Int)) (by omega), iadd_i (by omega)]
        have := hok (f.o.size + 1) (by rw [hfi])
        rw [show ((j + (f.o.size + 1) : Nat) : Int) = (j : Int) + ((f.o.size : Int) + 1) by omega] at this
        exact this
  · have hf' : ∀ x ∈ nodes t, ¬ (x.2.1 = s ∧ x.2.2 = g) := fun x hx he => hf ⟨x, hx, he⟩
    simp only [lk_miss hS h.en hf']
    rw [sat_req]
    refine ⟨⟨keyed29, okM29 hS h.en, okKey29 h1 h2, rfl⟩, ?_⟩
    rw [brT (by rfl), brT (by rfl)]
    exact ⟨.inr ⟨hf', rfl, rfl⟩, rfl, fun ρ => rfl⟩

theorem len_spec (h : At S t []) : lenOK (S.mem b) S.p ∧ lenV (S.mem b) S.p = t.size := by
  have hroot : S.root = t.ptr := h.ctx
  obtain ⟨a1, a2⟩ := size_spec (b := b) h.ok (rep_has h.rep)
  have hz := a2.trans (rep_sz h.ok h.rep)
  simp [lenOK, lenV, T_len, okP, outV, cmp_zero, peq_t, vInt, intOf, nz_t, okL_t, gP_t h.ok, hroot, a1, hz]
def atPost (L : List (Int × Int × Int)) (i : Int) (y : Vars) : Prop :=
  (∃ (j : Nat) (p s g : Int), i = j ∧ L[j]? = some (p, s, g) ∧ y.i = [s, g] ∧ y.b = [true]) ∨ ((i < 0 ∨ (L.length : Int) ≤ i) ∧ y.i = [0, 0] ∧ y.b = [false])
def retHB (y : Vars) : V := .tup [.agg [.si .i64 (hdI y.i), .si .u64 (hdI (tlI y.i))], .c (.sb (hdB y.b))]
theorem at_walk (h : At S t []) {i : Int} :
    (T_at (S.mem b) S.p i).sat (isMemo fun v m => atPost (nodes t) i (yOf v m) ∧ m = S.mem b ∧ ∀ ρ, v.den ρ = (retHB (yOf v m)).den ρ) := by
  have hS := h.ok
  unfold T_at
  obtain ⟨l1, l2⟩ := len_spec (b := b) h
  rw [brT (cmp_zero _ _), brF peq_t]
  by_cases hi : i < 0
  · rw [brT (by simp [iLt, hi])]
    exact ⟨.inr ⟨.inl hi, rfl, rfl⟩, rfl, fun ρ => rfl⟩
  rw [brF (by simp [iLt, hi]), sat_req, l2]
  refine ⟨l1, ?_⟩
  by_cases hj : (t.size : Int) ≤ i
  · rw [brT (by simp [iGe, hj])]
    exact ⟨.inr ⟨.inr (by rw [len_nodes]; exact hj), rfl, rfl⟩, rfl, fun ρ => rfl⟩
  rw [brF (by simp [iGe]; omega), brT nz_t, brT nz_t, brT okL_t, gP_t hS, show S.root = t.ptr from h.ctx]
  obtain ⟨i0, rfl⟩ : ∃ i0 : Nat, i = i0 := ⟨i.toNat, by omega⟩
  have hsm := h.sm
  let J : Nat → Vars → Prop := fun N y => ∃ (t' : T) (k : Ctx) (j : Nat), N = t'.size ∧ y = ⟨[(j : Int), t'.ptr], [], [], S.mem b⟩ ∧ At S t' k ∧ j < t'.size ∧ (nodes t')[j]? = (nodes t)[i0]?
  refine lp_idx J (n0 := t.size) ⟨t, [], i0, rfl, rfl, h, by omega, rfl⟩ ?_
  rintro N y _ ⟨t', k, j, rfl, rfl, hA, hjs, hl⟩
  have hne : t' ≠ .nil := by rintro rfl; simp [T.size] at hjs
  obtain ⟨p, s, g, c, l, r, rfl⟩ := form_of false hne
  have hq := hA.get
  obtain ⟨z1, z2, z3, z4, z5, z6⟩ := hA.side_sz (b := b)
  have hsm2 := hA.sm
  rw [size_mk] at hjs hsm2
  have hnd : nodes (mkT false p s g c l r) = nodes l ++ (p, s, g) :: nodes r := rfl
  rw [hnd] at hl
  simp only [hdI, tlI, ptr_mk, show gP (S.mem b) p 2 = l.ptr from z1, show gP (S.mem b) p 3 = r.ptr from z2, z4]
  rw [brT (nz_n hS hq), brT (nz_n hS hq), brT (nz_n hS hq), brT (okL_2 hS hq), sat_req]
  refine ⟨z3, ?_⟩
  by_cases h3 : j = l.size
  · subst h3
    rw [brT (by simp [iEq]), brT (nz_n hS hq), brT (nz_n hS hq), brT (okL_0 hS hq), gI_s hS hq, gI_g hS hq, node_s, node_g]
    rw [List.getElem?_append_right (by rw [len_nodes]; exact Nat.le_refl _), len_nodes, Nat.sub_self, List.getElem?_cons_zero] at hl
    exact ⟨.inl ⟨i0, p, s, g, rfl, hl.symm, rfl, rfl⟩, rfl, fun ρ => rfl⟩
  rw [brF (by simp [iEq]; omega)]
  by_cases h4 : j < l.size
  · rw [brT (by simp [iLt, h4]), brT (nz_n hS hq), brT (nz_n hS hq), brT (nz_n hS hq), brT (okL_2 hS hq), sat_req]
    refine ⟨by simp, l.size, by rw [size_mk]; omega, l, _, j, rfl, rfl, hA.near, h4, ?_⟩
    rw [List.getElem?_append_left (by rw [len_nodes]; exact h4)] at hl
    exact hl
  · rw [brF (by simp [iLt]; omega), brT (nz_n hS hq), brT (nz_n hS hq), brT (nz_n hS hq), brT (okL_3 hS hq), sat_req]
    refine ⟨by simp, ?_⟩
    rw [iadd_i (by omega), isub_i (by omega), show (j : Int) - ((l.size : Int) + 1) = ((j - (l.size + 1) : Nat) : Int) by omega]
    refine ⟨r.size, by rw [size_mk]; omega, r, _, _, rfl, rfl, hA.far, by omega, ?_⟩
    rw [List.getElem?_append_right (by rw [len_nodes]; omega), len_nodes, show j - l.size = (j - (l.size + 1)) + 1 by omega, List.getElem?_cons_succ] at hl
    exact hl
end

/-- a relation's proof, out of a walk at each state unsaid -/
theorem mm_ghost {P : Program} {S : List Sum} (hN : NameOK P) (hS : ∀ q ∈ S, SumOK P q) {D : DrawX} (hD : DSnd P D) (fuel : Nat) {f : Nat} (args : List V) (m : Mem) (mt : List Nat) {T : Tr} (hT : runm P S D fuel f args m mt = T)
    {G : Type} {pre : G → Prop} {post : G → Vars → Prop} {ret : Vars → V} (hp : ∃ g, pre g) (hw : ∀ g, pre g → T.sat (isMemo fun v x => post g (yOf v x) ∧ (yOf v x).m = x ∧ ∀ ρ, v.den ρ = (ret (yOf v x)).den ρ))
    (ρ : Nat → Nat) (w : World) (hm : ∀ a o, m a = some o → w.heap[a]? = some o) {vs : Array Value} (he : vs = (args.map (V.den ρ)).toArray) :
    Calls P f vs w fun e w' => ∃ y, (∀ g, pre g → post g y) ∧ e = .returned ((ret y).den ρ) ∧ MemTo m y.m w w' := by
  refine mm_calls hN hS hD fuel args m mt hT ρ ?_ w hm he
  obtain ⟨g0, h0⟩ := hp
  have key := sat_ghost (G := { g : G // pre g }) ⟨⟨g0, h0⟩⟩ (T := T) (p := fun g v x => post g.1 (yOf v x) ∧ (yOf v x).m = x ∧ ∀ ρ, v.den ρ = (ret (yOf v x)).den ρ) fun ⟨g, hg⟩ => hw g hg
  refine sat_mono (fun l hl => ?_) key
  cases l with
  | memo v x => exact ⟨yOf v x, fun g hg => (hl ⟨g, hg⟩).1, (hl ⟨g0, h0⟩).2.2 ρ, (hl ⟨g0, h0⟩).2.1⟩
  | _ => exact hl.elim
/-- a tree, and what is around it -/
structure TG where
  S : TS
  b : Mem
  t : T
  n : Nat
def TG.is (G : TG) (m : Mem) (p : Int) : Prop := m = G.S.mem G.b ∧ p = G.S.p ∧ Tre G.S G.t G.n
def indexP (m : Mem) (t hs hg : Int) : Prop := ∃ G : TG, G.is m t ∧ inI hs ∧ inU hg
def indexQ (m : Mem) (t hs hg : Int) (y : Vars) : Prop := ∀ G : TG, (G.is m t ∧ inI hs ∧ inU hg) → idxPost (nodes G.t) hs hg y ∧ y.m = m
def atP (m : Mem) (t i : Int) : Prop := ∃ G : TG, G.is m t
def atQ (m : Mem) (t i : Int) (y : Vars) : Prop := ∀ G : TG, G.is m t → atPost (nodes G.t) i y ∧ y.m = m
theorem yOf_m (v : V) (m : Mem) : (yOf v m).m = m := by unfold yOf; split <;> rfl
def s_index : Sum := memSum 24 fun m a => match a with | [a0, a1] => (match ptrOf a0, hanOf a1 with | some t, some (hs, hg) => some ⟨indexP m t hs hg, indexQ m t hs hg, fun y => .tup [.c (.si .i64 (hdI y.i)), .c (.sb (hdB y.b))]⟩ | _, _ => none) | _ => none
theorem t_index (m : Mem) (t : Int) (hs hg : Int) : runm Try.prog [s_size, s_which] (drawl Try.prog [s_size, s_which] (fun _ _ => some ⟨[6, 7], [], [], []⟩)) 300 24 [.u (.c (.np t 0)), .u (.agg [.si .i64 hs, .si .u64 hg])] m [98] = T_index m t hs hg := by kernel_rfl
theorem s_index_ok : SumOK Try.prog s_index := by
  refine memSum_ok ⟨_, Try.func24, by kernel_rfl⟩ fun m args ms h hp hw ρ w hm => ?_
  split at h
  · split at h
    · rename_i a0 a1 _ _ t hs hg h0 h1
      cases h
      have hS : ∀ q ∈ [s_size, s_which], SumOK Try.prog q := okc s_size_ok (okc s_which_ok okn)
      refine mm_ghost nameOK hS (drawl_sound nameOK hS (by kernel_rfl) _) 300 _ m _ (t_index m t hs hg) hp (fun G hG => ?_) ρ w hm (by simp only [List.map_cons, List.map_nil, ptrOf_den h0, hanOf_den h1])
      obtain ⟨⟨rfl, rfl, g1⟩, g2, g3⟩ := hG
      refine sat_mono (fun l hl => ?_) (index_walk g1 g2 g3)
      cases l with
      | memo v x => exact ⟨⟨hl.1, (yOf_m _ _).trans hl.2.1⟩, yOf_m _ _, hl.2.2⟩
      | _ => exact hl.elim
    · cases h
  · cases h
def s_at : Sum := memSum 16 fun m a => match a with | [a0, a1] => (match ptrOf a0, intOf a1 with | some t, some i => some ⟨atP m t i, atQ m t i, fun y => .tup [.agg [.si .i64 (hdI y.i), .si .u64 (hdI (tlI y.i))], .c (.sb (hdB y.b))]⟩ | _, _ => none) | _ => none
theorem t_at (m : Mem) (t : Int) (i : Int) : runm Try.prog [s_size, s_len] (drawl Try.prog [s_size, s_len] (fun _ _ => some ⟨[1, 6], [], [4], [0]⟩)) 300 16 [.u (.c (.np t 0)), .u (.c (.si .i64 i))] m [98] = T_at m t i := by kernel_rfl
theorem s_at_ok : SumOK Try.prog s_at := by
  refine memSum_ok ⟨_, Try.func16, by kernel_rfl⟩ fun m args ms h hp hw ρ w hm => ?_
  split at h
  · split at h
    · rename_i a0 a1 _ _ t i h0 h1
      cases h
      have hS : ∀ q ∈ [s_size, s_len], SumOK Try.prog q := okc s_size_ok (okc s_len_ok okn)
      refine mm_ghost nameOK hS (drawl_sound nameOK hS (by kernel_rfl) _) 300 _ m _ (t_at m t i) hp (fun G hG => ?_) ρ w hm (by simp only [List.map_cons, List.map_nil, ptrOf_den h0, intOf_den h1])
      obtain ⟨rfl, rfl, g1⟩ := hG
      refine sat_mono (fun l hl => ?_) (at_walk g1.at')
      cases l with
      | memo v x => exact ⟨⟨hl.1, (yOf_m _ _).trans hl.2.1⟩, yOf_m _ _, hl.2.2⟩
      | _ => exact hl.elim
    · cases h
  · cases h
end Go.Proofs.Ytnlohongffpkpaa.T16
