/- Layer 16: a node goes: the way up, the hanging of what was under it, the filling. A text of the session's own. -/
import Derived.Test.YtnlohongffpkpaaT16K
namespace Go.Proofs.Ytnlohongffpkpaa.T16
open Go Go.RowKit Go.Proofs.Ytnlohongffpkpaa.Sx
set_option linter.unusedVariables false
set_option linter.unusedSimpArgs false

def T_remH (m : Mem) (t x c i : Int) (W : Leaf → Leaf) : Tr := (.br (nzp x) (.br (nzp x) (.br (okL m x 4 [.nilp]) (.req (whichOK m x) (.req (hangOK m t x c) (.letm (hangM m t x c) (fun n1 => (.br (cmpOK n1 c 0) (.br (bNot (peq c 0)) (.br (nzp c) (.br (nzp c) (.br (okS n1 c 6 1) (.letm (wrL n1 c 6 [(.bool false)]) (fun n2 => (.leaf (.up (W (.memo (.tup [(.c (.si .i64 i)), (.c (.lb true))]) n2)))))) (.no 72)) (.no 76)) (.no 75)) (.br (nzp x) (.br (nzp x) (.br (okL n1 x 6 [(.lb false)]) (.br (bNot (gB n1 x 6)) (.br (cmpOK n1 (gP m x 4) 0) (.br (bNot (peq (gP m x 4) 0)) (.req (fillsP n1 t (gP m x 4) (whichV m x)) (.any (fillsQ n1 t (gP m x 4) (whichV m x)) (fun z2 => (.leaf (.up (W (.memo (.tup [(.c (.si .i64 i)), (.c (.lb true))]) z2.4))))))) (.leaf (.up (W (.memo (.tup [(.c (.si .i64 i)), (.c (.lb true))]) n1))))) (.no 78)) (.leaf (.up (W (.memo (.tup [(.c (.si .i64 i)), (.c (.lb true))]) n1))))) (.no 70)) (.no 76)) (.no 75))) (.no 78)))))) (.no 70)) (.no 76)) (.no 75))
def T_remL (m : Mem) (t x i : Int) (W : Leaf → Leaf) : Tr := (.lp (.mk [(gP m x 4)] [] [] m) (fun z1 k1 => (.br (cmpOK z1.4 (hdI z1.1) 0) (.br (bNot (peq (hdI z1.1) 0)) (.br (nzp (hdI z1.1)) (.br (nzp (hdI z1.1)) (.br (okL z1.4 (hdI z1.1) 5 [(.li .i64 0)]) (.br (nzp (hdI z1.1)) (.br (nzp (hdI z1.1)) (.br (okS z1.4 (hdI z1.1) 5 1) (.letm (wrL z1.4 (hdI z1.1) 5 [(.int .i64 (iSub .i64 (gI z1.4 (hdI z1.1) 5) 1))]) (fun n1 => (.br (nzp (hdI z1.1)) (.br (nzp (hdI z1.1)) (.br (okL n1 (hdI z1.1) 4 [.nilp]) (.req ((([(0, (.u (.c (.np t 0)))), (6, (.u (.c (.si .i64 i)))), (8, (.u (.c (.np x 0))))] : List (Nat × V)) = [(0, (.u (.c (.np t 0)))), (6, (.u (.c (.si .i64 i)))), (8, (.u (.c (.np x 0))))]) ∧ (([] : List (Nat × Blk)) = [])) (.leaf (.again (.mk [(gP n1 (hdI z1.1) 4)] [] [] n1)))) (.no 70)) (.no 76)) (.no 75)))) (.no 72)) (.no 76)) (.no 75)) (.no 70)) (.no 76)) (.no 75)) (.br (nzp x) (.br (nzp x) (.br (nzp x) (.br (okL z1.4 x 2 [.nilp]) (.br (cmpOK z1.4 (gP z1.4 x 2) 0) (.br (peq (gP z1.4 x 2) 0) (.br (nzp x) (.br (nzp x) (.br (nzp x) (.br (okL z1.4 x 3 [.nilp]) (T_remH z1.4 t x (gP z1.4 x 3) i W) (.no 70)) (.no 81)) (.no 76)) (.no 75)) (T_remH z1.4 t x (gP z1.4 x 2) i W)) (.no 78)) (.no 70)) (.no 81)) (.no 76)) (.no 75))) (.no 78))))
def T_remove (m : Mem) (t : Int) (hs hg : Int) : Tr := (.req (indexP m t hs hg) (.any (indexQ m t hs hg) (fun y0 => (.br (bNot (hdB y0.2)) (.leaf (.memo (.tup [(.c (.li .i64 0)), (.c (.lb false))]) y0.4)) (.br (nzp t) (.br (nzp t) (.br (okL y0.4 t 1 [(.raw (.map (.none)))]) (.req ((Go.Maps.Keyed Try.prog 29) ∧ ((okM Try.prog 29 y0.4 (pl (mcell y0.4 t 1))) ∧ ((okKey Try.prog 29 (.agg (.mk [(.int .i64 hs), (.int .u64 hg)]))) ∧ (((okU (.c .nilp) (lkZ y0.4 (pl (mcell y0.4 t 1)) (.agg (.mk [(.int .i64 hs), (.int .u64 hg)])) (.pointer (.none)))) : Bool) = true)))) (.br (nzp t) (.br (nzp t) (.br (okL y0.4 t 1 [(.raw (.map (.none)))]) (.req ((Go.Maps.Keyed Try.prog 29) ∧ ((okM Try.prog 29 y0.4 (pl (mcell y0.4 t 1))) ∧ (okKey Try.prog 29 (.agg (.mk [(.int .i64 hs), (.int .u64 hg)]))))) (.letm (mdel y0.4 (pl (mcell y0.4 t 1)) (.agg (.mk [(.int .i64 hs), (.int .u64 hg)]))) (fun m1 => (.br (nzp (vP (lkZ y0.4 (pl (mcell y0.4 t 1)) (.agg (.mk [(.int .i64 hs), (.int .u64 hg)])) (.pointer (.none))))) (.br (nzp (vP (lkZ y0.4 (pl (mcell y0.4 t 1)) (.agg (.mk [(.int .i64 hs), (.int .u64 hg)])) (.pointer (.none))))) (.br (nzp (vP (lkZ y0.4 (pl (mcell y0.4 t 1)) (.agg (.mk [(.int .i64 hs), (.int .u64 hg)])) (.pointer (.none))))) (.br (okL m1 (vP (lkZ y0.4 (pl (mcell y0.4 t 1)) (.agg (.mk [(.int .i64 hs), (.int .u64 hg)])) (.pointer (.none)))) 2 [.nilp]) (.br (cmpOK m1 (gP m1 (vP (lkZ y0.4 (pl (mcell y0.4 t 1)) (.agg (.mk [(.int .i64 hs), (.int .u64 hg)])) (.pointer (.none)))) 2) 0) (.br (bNot (peq (gP m1 (vP (lkZ y0.4 (pl (mcell y0.4 t 1)) (.agg (.mk [(.int .i64 hs), (.int .u64 hg)])) (.pointer (.none)))) 2) 0)) (.br (nzp (vP (lkZ y0.4 (pl (mcell y0.4 t 1)) (.agg (.mk [(.int .i64 hs), (.int .u64 hg)])) (.pointer (.none))))) (.br (nzp (vP (lkZ y0.4 (pl (mcell y0.4 t 1)) (.agg (.mk [(.int .i64 hs), (.int .u64 hg)])) (.pointer (.none))))) (.br (nzp (vP (lkZ y0.4 (pl (mcell y0.4 t 1)) (.agg (.mk [(.int .i64 hs), (.int .u64 hg)])) (.pointer (.none))))) (.br (okL m1 (vP (lkZ y0.4 (pl (mcell y0.4 t 1)) (.agg (.mk [(.int .i64 hs), (.int .u64 hg)])) (.pointer (.none)))) 3 [.nilp]) (.br (cmpOK m1 (gP m1 (vP (lkZ y0.4 (pl (mcell y0.4 t 1)) (.agg (.mk [(.int .i64 hs), (.int .u64 hg)])) (.pointer (.none)))) 3) 0) (.br (bNot (peq (gP m1 (vP (lkZ y0.4 (pl (mcell y0.4 t 1)) (.agg (.mk [(.int .i64 hs), (.int .u64 hg)])) (.pointer (.none)))) 3) 0)) (.br (nzp (vP (lkZ y0.4 (pl (mcell y0.4 t 1)) (.agg (.mk [(.int .i64 hs), (.int .u64 hg)])) (.pointer (.none))))) (.br (nzp (vP (lkZ y0.4 (pl (mcell y0.4 t 1)) (.agg (.mk [(.int .i64 hs), (.int .u64 hg)])) (.pointer (.none))))) (.br (nzp (vP (lkZ y0.4 (pl (mcell y0.4 t 1)) (.agg (.mk [(.int .i64 hs), (.int .u64 hg)])) (.pointer (.none))))) (.br (okL m1 (vP (lkZ y0.4 (pl (mcell y0.4 t 1)) (.agg (.mk [(.int .i64 hs), (.int .u64 hg)])) (.pointer (.none)))) 3 [.nilp]) (.lp (.mk [(gP m1 (vP (lkZ y0.4 (pl (mcell y0.4 t 1)) (.agg (.mk [(.int .i64 hs), (.int .u64 hg)])) (.pointer (.none)))) 3)] [] [] m1) (fun y1 j1 => (.br (nzp (hdI y1.1)) (.br (nzp (hdI y1.1)) (.br (nzp (hdI y1.1)) (.br (okL y1.4 (hdI y1.1) 2 [.nilp]) (.br (cmpOK y1.4 (gP y1.4 (hdI y1.1) 2) 0) (.br (bNot (peq (gP y1.4 (hdI y1.1) 2) 0)) (.br (nzp (hdI y1.1)) (.br (nzp (hdI y1.1)) (.br (nzp (hdI y1.1)) (.br (okL y1.4 (hdI y1.1) 2 [.nilp]) (.req ((([(0, (.u (.c (.np t 0)))), (6, (.u (.c (.si .i64 (hdI y0.1))))), (8, (.u (.c (.np (vP (lkZ y0.4 (pl (mcell y0.4 t 1)) (.agg (.mk [(.int .i64 hs), (.int .u64 hg)])) (.pointer (.none)))) 0))))] : List (Nat × V)) = [(0, (.u (.c (.np t 0)))), (6, (.u (.c (.si .i64 (hdI y0.1))))), (8, (.u (.c (.np (vP (lkZ y0.4 (pl (mcell y0.4 t 1)) (.agg (.mk [(.int .i64 hs), (.int .u64 hg)])) (.pointer (.none)))) 0))))]) ∧ (([] : List (Nat × Blk)) = [])) (.leaf (.again (.mk [(gP y1.4 (hdI y1.1) 2)] [] [] y1.4)))) (.no 70)) (.no 81)) (.no 76)) (.no 75)) (.br (nzp (hdI y1.1)) (.br (nzp (hdI y1.1)) (.br (okL y1.4 (hdI y1.1) 0 [(.li .i64 0), (.li .u64 0)]) (.br (nzp (vP (lkZ y0.4 (pl (mcell y0.4 t 1)) (.agg (.mk [(.int .i64 hs), (.int .u64 hg)])) (.pointer (.none))))) (.br (nzp (vP (lkZ y0.4 (pl (mcell y0.4 t 1)) (.agg (.mk [(.int .i64 hs), (.int .u64 hg)])) (.pointer (.none))))) (.br (okL y1.4 (vP (lkZ y0.4 (pl (mcell y0.4 t 1)) (.agg (.mk [(.int .i64 hs), (.int .u64 hg)])) (.pointer (.none)))) 0 [(.li .i64 0), (.li .u64 0)]) (.br (nzp (vP (lkZ y0.4 (pl (mcell y0.4 t 1)) (.agg (.mk [(.int .i64 hs), (.int .u64 hg)])) (.pointer (.none))))) (.br (nzp (vP (lkZ y0.4 (pl (mcell y0.4 t 1)) (.agg (.mk [(.int .i64 hs), (.int .u64 hg)])) (.pointer (.none))))) (.br (okS y1.4 (vP (lkZ y0.4 (pl (mcell y0.4 t 1)) (.agg (.mk [(.int .i64 hs), (.int .u64 hg)])) (.pointer (.none)))) 0 2) (.letm (wrL y1.4 (vP (lkZ y0.4 (pl (mcell y0.4 t 1)) (.agg (.mk [(.int .i64 hs), (.int .u64 hg)])) (.pointer (.none)))) 0 [(.int .i64 (gI y1.4 (hdI y1.1) 0)), (.int .u64 (gI y1.4 (hdI y1.1) 1))]) (fun m2 => (.br (nzp (hdI y1.1)) (.br (nzp (hdI y1.1)) (.br (okS m2 (hdI y1.1) 0 2) (.letm (wrL m2 (hdI y1.1) 0 [(.int .i64 (gI y1.4 (vP (lkZ y0.4 (pl (mcell y0.4 t 1)) (.agg (.mk [(.int .i64 hs), (.int .u64 hg)])) (.pointer (.none)))) 0)), (.int .u64 (gI y1.4 (vP (lkZ y0.4 (pl (mcell y0.4 t 1)) (.agg (.mk [(.int .i64 hs), (.int .u64 hg)])) (.pointer (.none)))) 1))]) (fun m3 => (.br (nzp t) (.br (nzp t) (.br (okL m3 t 1 [(.raw (.map (.none)))]) (.br (nzp (vP (lkZ y0.4 (pl (mcell y0.4 t 1)) (.agg (.mk [(.int .i64 hs), (.int .u64 hg)])) (.pointer (.none))))) (.br (nzp (vP (lkZ y0.4 (pl (mcell y0.4 t 1)) (.agg (.mk [(.int .i64 hs), (.int .u64 hg)])) (.pointer (.none))))) (.br (okL m3 (vP (lkZ y0.4 (pl (mcell y0.4 t 1)) (.agg (.mk [(.int .i64 hs), (.int .u64 hg)])) (.pointer (.none)))) 0 [(.li .i64 0), (.li .u64 0)]) (.req ((Go.Maps.Keyed Try.prog 29) ∧ ((okM Try.prog 29 m3 (pl (mcell m3 t 1))) ∧ ((((isNilM (pl (mcell m3 t 1))) : Bool) = false) ∧ (okKey Try.prog 29 (.agg (.mk [(.int .i64 (gI m3 (vP (lkZ y0.4 (pl (mcell y0.4 t 1)) (.agg (.mk [(.int .i64 hs), (.int .u64 hg)])) (.pointer (.none)))) 0)), (.int .u64 (gI m3 (vP (lkZ y0.4 (pl (mcell y0.4 t 1)) (.agg (.mk [(.int .i64 hs), (.int .u64 hg)])) (.pointer (.none)))) 1))])))))) (.letm (mput m3 (pl (mcell m3 t 1)) (.agg (.mk [(.int .i64 (gI m3 (vP (lkZ y0.4 (pl (mcell y0.4 t 1)) (.agg (.mk [(.int .i64 hs), (.int .u64 hg)])) (.pointer (.none)))) 0)), (.int .u64 (gI m3 (vP (lkZ y0.4 (pl (mcell y0.4 t 1)) (.agg (.mk [(.int .i64 hs), (.int .u64 hg)])) (.pointer (.none)))) 1))])) (pv (vP (lkZ y0.4 (pl (mcell y0.4 t 1)) (.agg (.mk [(.int .i64 hs), (.int .u64 hg)])) (.pointer (.none)))) 0)) (fun m4 => (.br (nzp (hdI y1.1)) (.br (nzp (hdI y1.1)) (.br (okL m4 (hdI y1.1) 4 [.nilp]) (T_remL m4 t (hdI y1.1) (hdI y0.1) .up) (.no 70)) (.no 76)) (.no 75))))) (.no 70)) (.no 76)) (.no 75)) (.no 70)) (.no 76)) (.no 75)))) (.no 72)) (.no 76)) (.no 75)))) (.no 72)) (.no 76)) (.no 75)) (.no 70)) (.no 76)) (.no 75)) (.no 70)) (.no 76)) (.no 75))) (.no 78)) (.no 70)) (.no 81)) (.no 76)) (.no 75)))) (.no 70)) (.no 81)) (.no 76)) (.no 75)) (.br (nzp (vP (lkZ y0.4 (pl (mcell y0.4 t 1)) (.agg (.mk [(.int .i64 hs), (.int .u64 hg)])) (.pointer (.none))))) (.br (nzp (vP (lkZ y0.4 (pl (mcell y0.4 t 1)) (.agg (.mk [(.int .i64 hs), (.int .u64 hg)])) (.pointer (.none))))) (.br (okL m1 (vP (lkZ y0.4 (pl (mcell y0.4 t 1)) (.agg (.mk [(.int .i64 hs), (.int .u64 hg)])) (.pointer (.none)))) 4 [.nilp]) (T_remL m1 t (vP (lkZ y0.4 (pl (mcell y0.4 t 1)) (.agg (.mk [(.int .i64 hs), (.int .u64 hg)])) (.pointer (.none)))) (hdI y0.1) (fun l => l)) (.no 70)) (.no 76)) (.no 75))) (.no 78)) (.no 70)) (.no 81)) (.no 76)) (.no 75)) (.br (nzp (vP (lkZ y0.4 (pl (mcell y0.4 t 1)) (.agg (.mk [(.int .i64 hs), (.int .u64 hg)])) (.pointer (.none))))) (.br (nzp (vP (lkZ y0.4 (pl (mcell y0.4 t 1)) (.agg (.mk [(.int .i64 hs), (.int .u64 hg)])) (.pointer (.none))))) (.br (okL m1 (vP (lkZ y0.4 (pl (mcell y0.4 t 1)) (.agg (.mk [(.int .i64 hs), (.int .u64 hg)])) (.pointer (.none)))) 4 [.nilp]) (T_remL m1 t (vP (lkZ y0.4 (pl (mcell y0.4 t 1)) (.agg (.mk [(.int .i64 hs), (.int .u64 hg)])) (.pointer (.none)))) (hdI y0.1) (fun l => l)) (.no 70)) (.no 76)) (.no 75))) (.no 78)) (.no 70)) (.no 81)) (.no 76)) (.no 75))))) (.no 70)) (.no 76)) (.no 75))) (.no 70)) (.no 76)) (.no 75))))))

/-- a context whose first part is counted without one -/
def RepU (H : Int → Option Nd) (root : Int) : Int → Nat → Ctx → Ctx → Prop
  | q, n, [], ku => RepC H root q n ku
  | q, n, f :: kd, ku => H f.p = some (f.node q (topP (kd ++ ku)) (n - 1)) ∧ Rep H f.p f.o ∧ RepU H root f.p (n + f.o.size + 1) kd ku
theorem repU_end {H : Int → Option Nd} {root : Int} : ∀ {kd : Ctx} {q : Int} {n : Nat}, 1 ≤ n → RepU H root q n kd [] → RepC H root q (n - 1) kd
  | [], q, n, _, h => h
  | f :: kd, q, n, hn, ⟨h1, h2, h3⟩ => by
    rw [List.append_nil] at h1
    refine ⟨h1, h2, ?_⟩
    have := repU_end (by omega) h3
    rwa [show n - 1 + f.o.size + 1 = n + f.o.size + 1 - 1 by omega]
theorem topP_app : ∀ (kd : Ctx) (f : Fr) (ku : Ctx), topP (kd ++ [f] ++ ku) = topP (kd ++ f :: ku)
  | [], _, _ => rfl
  | _ :: _, _, _ => rfl
theorem ccnt_app (q : Int) : ∀ (k k' : Ctx), ccnt q (k ++ k') = ccnt q k + ccnt q k'
  | [], k' => by simp [ccnt]
  | f :: k, k' => by simp only [List.cons_append, ccnt, ccnt_app q k k']; omega
theorem csize_app : ∀ (k k' : Ctx), csize (k ++ k') = csize k + csize k'
  | [], k' => by simp [csize]
  | f :: k, k' => by simp only [List.cons_append, csize, csize_app k k']; omega
theorem node_n' (f : Fr) (q u : Int) (n : Nat) (v : Int) (h : v = ((n + f.o.size + 1 : Nat) : Int)) (m : Nat) : { f.node q u m with n := v } = f.node q u n := by
  unfold Fr.node
  cases f.i <;> simp [h]
/-- one step up -/
theorem repU_step {S : TS} {f : Fr} {ku : Ctx} : ∀ {kd : Ctx} {q : Int} {n : Nat}, 1 ≤ n → (∀ p, ccnt p (kd ++ f :: ku) ≤ 1) → RepU S.H S.root q n kd (f :: ku) →
    ∃ d, S.H f.p = some d ∧ 1 ≤ d.n ∧ d.u = topP ku ∧ (d.n ≤ ((n + csize (kd ++ f :: ku) : Nat) : Int)) ∧ RepU (S.set f.p { d with n := d.n - 1 }).H S.root q n (kd ++ [f]) ku
  | [], q, n, hn, hd, ⟨h1, h2, h3⟩ => by
    have hdf := hd f.p
    simp only [List.nil_append, ccnt, if_true] at hdf
    refine ⟨_, h1, by rw [node_n]; omega, node_u _ _ _ _, by rw [node_n]; simp only [List.nil_append, csize]; omega, ?_⟩
    have oth : ∀ p, 0 < cnt p f.o + ccnt p ku → (S.set f.p { f.node q (topP ku) n with n := (f.node q (topP ku) n).n - 1 }).H p = S.H p := by
      intro p hp
      rw [set_H, upd_ne]
      rintro rfl; omega
    refine ⟨?_, rep_congr (fun p hp => oth p (by omega)) h2, repC_congr (fun p hp => oth p (by omega)) h3⟩
    rw [set_H, upd_self]
    exact congrArg some (node_n' f q (topP ku) (n - 1) _ (by rw [node_n]; omega) n)
  | g :: kd, q, n, hn, hd, ⟨h1, h2, h3⟩ => by
    obtain ⟨d, g1, g2, g3, g4, g5⟩ := repU_step (kd := kd) (q := g.p) (n := n + g.o.size + 1) (by omega) (fun p => by have := hd p; simp only [List.cons_append, ccnt] at this; omega) h3
    have hdf := hd f.p
    simp only [List.cons_append, ccnt, ccnt_app, if_true] at hdf
    refine ⟨d, g1, g2, g3, by simp only [List.cons_append, csize] at g4 ⊢; omega, ?_, ?_, g5⟩
    · rw [set_H, upd_ne, show topP (kd.append [f] ++ ku) = topP (kd ++ f :: ku) from topP_app kd f ku]
      · exact h1
      · intro e; rw [if_pos e.symm] at hdf; omega
    · refine rep_congr (fun p hp => ?_) h2
      rw [set_H, upd_ne]
      rintro rfl; omega
/-- a tree whose context counts one less -/
structure Dec (S : TS) (t : T) (k : Ctx) : Prop where
  ok : S.ok
  rep : Rep S.H (topP k) t
  ctx : RepC S.H S.root t.ptr (t.size - 1) k
  dj : Dj t k
  sm : t.size + csize k < 1152921504606846976
section
variable {S : TS} {b : Mem}
theorem repU_rep {S : TS} {t : T} {u : Int} {p : Int} {d : Nd} (h : Rep S.H u t) (hc : cnt p t = 0) : Rep (S.set p d).H u t := rep_congr (fun q hq => by rw [set_H, upd_ne]; rintro rfl; omega) h
set_option maxHeartbeats 2000000 in
theorem remL_walk {x xs xg : Int} {xc : Bool} {l r : T} {k : Ctx} {i : Int} {W : Leaf → Leaf} {Q : Leaf → Prop} (h : At S (.nd x xs xg xc l r) k) (hj : l = .nil ∨ r = .nil)
    (hR : ∀ S1 c j, S.like S1 → T.nd x xs xg xc l r = mkT j x xs xg xc .nil c → Dec S1 (mkT j x xs xg xc .nil c) k → (T_remH (S1.mem b) S.p x c.ptr i W).sat (fun l => match l with | .up l => Q l | _ => False)) :
    (T_remL (S.mem b) S.p x i W).sat Q := by
  unfold T_remL
  have hx := h.rep.1
  have hu : gP (S.mem b) x 4 = topP k := gP_u h.ok hx
  rw [hu]
  have hd := h.dj
  have hsm := h.sm
  have hdx := hd x
  simp only [cnt, if_true] at hdx
  let J : Nat → Vars → Prop := fun N y => ∃ (S1 : TS) (kd ku : Ctx), N = ku.length ∧ y = ⟨[topP ku], [], [], S1.mem b⟩ ∧ kd ++ ku = k ∧ S.like S1 ∧ S1.ok ∧ Rep S1.H (topP k) (.nd x xs xg xc l r) ∧ RepU S1.H S1.root x (T.nd x xs xg xc l r).size kd ku
  refine lp_idx J (n0 := k.length) ⟨S, [], k, rfl, rfl, rfl, TS.like.refl S, h.ok, h.rep, h.ctx⟩ ?_
  rintro N y _ ⟨S1, kd, ku, rfl, rfl, hk, hl, hok, hrep, hU⟩
  simp only [hdI]
  rw [brT (cmp_zero _ _)]
  cases ku with
  | nil =>
    rw [List.append_nil] at hk
    subst hk
    have hx1 := hrep.1
    have hD : Dec S1 (.nd x xs xg xc l r) kd := ⟨hok, hrep, repU_end (by simp only [T.size]; omega) hU, hd, hsm⟩
    have hgo : ∀ {T' : Tr} {N' : Nat}, T'.sat (fun l => match l with | .up l => Q l | _ => False) → T'.sat (inLoopJ J N' Q) := fun hh => sat_mono (fun l hl => by cases l <;> first | exact hl | exact hl.elim) hh
    rw [brF (by rfl), brT (nz_n hok hx1), brT (nz_n hok hx1), brT (nz_n hok hx1), brT (okL_2 hok hx1), brT (cmp_zero _ _), gP_l hok hx1, gP_r hok hx1]
    cases l with
    | nil =>
      rw [brT (by rfl), brT (nz_n hok hx1), brT (nz_n hok hx1), brT (nz_n hok hx1), brT (okL_3 hok hx1)]
      exact hgo (hR S1 r false hl rfl hD)
    | nd lp ls lg lc ll lr =>
      rcases hj with hj | hj
      · cases hj
      · subst hj
        rw [brF (show peq (T.nd lp ls lg lc ll lr).ptr 0 = false from peq_n hok hrep.2.1.1)]
        exact hgo (hR S1 _ true hl rfl hD)
  | cons f ku =>
    have hdc : ∀ p : Int, ccnt p k ≤ 1 := fun p => Nat.le_trans (Nat.le_add_left _ _) (hd p)
    rw [← hk] at hdc
    have hsz1 : 1 ≤ (T.nd x xs xg xc l r).size := by simp only [T.size]; omega
    obtain ⟨d, g1, g2, g3, g4, g5⟩ := repU_step hsz1 hdc hU
    rw [hk] at g4
    have hcf : cnt f.p (.nd x xs xg xc l r) = 0 := by
      have := hd f.p
      rw [← hk, ccnt_app] at this
      simp only [ccnt, if_true] at this
      omega
    have ok2 : (S1.set f.p { d with n := d.n - 1 }).ok := hok.wn g1 _
    have h2 : (S1.set f.p { d with n := d.n - 1 }).H f.p = some { d with n := d.n - 1 } := by rw [set_H, upd_self]
    have hu2 : gP ((S1.set f.p { d with n := d.n - 1 }).mem b) f.p 4 = topP ku := (gP_u ok2 h2).trans g3
    have g6 : RepU (S1.set f.p { d with n := d.n - 1 }).H (S1.set f.p { d with n := d.n - 1 }).root x (T.nd x xs xg xc l r).size (kd ++ [f]) ku := g5
    rw [show topP (f :: ku) = f.p from rfl, brT (by rw [peq_n hok g1]; rfl), brT (nz_n hok g1), brT (nz_n hok g1), brT (okL_5 hok g1), brT (nz_n hok g1), brT (nz_n hok g1), brT (okS_n hok g1 rfl), sat_letm, gI_n hok g1, isub_i (by omega), wr_sz hok g1,
      brT (nz_n ok2 h2), brT (nz_n ok2 h2), brT (okL_4 ok2 h2), hu2, sat_req]
    have hl2 : S.like (S1.set f.p { d with n := d.n - 1 }) := hl.trans (like_set g1)
    have hr2 := repU_rep (p := f.p) (d := { d with n := d.n - 1 }) hrep hcf
    generalize S1.set f.p { d with n := d.n - 1 } = S2 at ok2 h2 hl2 hr2 g6
    refine ⟨by simp, ku.length, Nat.lt_succ_self _, S2, kd ++ [f], ku, rfl, rfl, ?_, hl2, ok2, hr2, g6⟩
    rw [← hk, List.append_assoc]; rfl

/-- what was under a node that goes hangs in its place -/
theorem Dec.hang {S : TS} {b : Mem} {j : Bool} {x xs xg : Int} {xc : Bool} {c : T} {k : Ctx} (h : Dec S (mkT j x xs xg xc .nil c) k) :
    hangOK (S.mem b) S.p x c.ptr ∧ ∃ S' : TS, hangM (S.mem b) S.p x c.ptr = S'.mem b ∧ S.like S' ∧ At S' c k ∧ (∃ d, S'.H x = some d ∧ d.c = xc) := by
  obtain ⟨hx, _, hc⟩ := Rep.mk.1 h.rep
  have hS := h.ok
  have hd := h.dj
  have x0 := p_ne0 hS hx
  have hdx := hd x
  rw [cnt_mk, if_pos rfl] at hdx
  have hctx := h.ctx
  rw [ptr_mk, size_mk, show T.nil.size = 0 from rfl, show 0 + c.size + 1 - 1 = c.size by omega] at hctx
  have du : ((Fr.mk j x xs xg xc c).node T.nil.ptr (topP k) T.nil.size).u = topP k := node_u _ _ _ _
  have dc : ((Fr.mk j x xs xg xc c).node T.nil.ptr (topP k) T.nil.size).c = xc := node_c _ _ _ _
  generalize (Fr.mk j x xs xg xc c).node T.nil.ptr (topP k) T.nil.size = d at hx du dc
  have hch := rep_has hc
  have ptrne : ∀ (t : T) (q : Int), q ≠ 0 → cnt q t = 0 → t.ptr ≠ q := by
    intro t q hq hc e
    rcases cnt_ptr t with rfl | h
    · exact hq e.symm
    · rw [e, hc] at h; omega
  have hcx : c.ptr ≠ x := ptrne c x x0 (by omega)
  have hux : topP k ≠ x := by
    intro e
    cases k with
    | nil => exact x0 e.symm
    | cons f k => have e : f.p = x := e; simp only [ccnt, if_pos e.symm] at hdx; omega
  have hcu : topP k ≠ 0 → c.ptr ≠ topP k := by
    intro h0 e
    rcases cnt_ptr c with rfl | hh
    · exact h0 e.symm
    · have := hd c.ptr
      rw [cnt_mk] at this
      cases k with
      | nil => exact h0 rfl
      | cons f k => have e : c.ptr = f.p := e; simp only [ccnt, if_pos e] at this; omega
  have hu : d.u = 0 ∨ ∃ du, S.H d.u = some du ∧ S.has du.r := by
    rw [du]
    cases k with
    | nil => exact .inl rfl
    | cons f k =>
      obtain ⟨k1, k2, k3⟩ := hctx
      refine .inr ⟨_, k1, ?_⟩
      unfold Fr.node
      cases f.i
      · exact rep_has k2
      · exact .inr ⟨_, hx⟩
  obtain ⟨g1, g2, g3⟩ := hang_spec (b := b) hS hx hch hu (by rw [du]; exact hux)
  obtain ⟨f1, f2, f3, f4, f5, f6, f7, f8, f9, f10⟩ := hang_at hS hx hch hu (by rw [du]; exact hux) (by rw [du]; exact hcu)
  generalize S.hang x d c.ptr = S' at g2 g3 f1 f2 f3 f4 f5 f6 f7 f8 f9 f10
  rw [du] at f5 f6 f7 f8
  have oth : ∀ q, q ≠ c.ptr → q ≠ topP k → S'.H q = S.H q := f8
  have dom : ∀ q, S'.H q = none ↔ S.H q = none := by
    intro q
    by_cases e1 : q = c.ptr
    · subst e1
      rcases hch with h0 | ⟨e, h0⟩
      · rw [h0, H_zero hS, H_zero g3]
      · rw [f6 _ h0, h0]; simp
    · by_cases e2 : q = topP k
      · subst e2
        rcases repC_up hctx with h0 | ⟨e, h0⟩
        · rw [h0, H_zero hS, H_zero g3]
        · rw [f7 _ h0, h0]; simp
      · rw [oth q e1 e2]
  refine ⟨g1, S', g2, ⟨f1, f2, f3, f4, dom⟩, ⟨g3, ?_, ?_, fun q => ?_, ?_⟩, d, ?_, dc⟩
  · refine rep_up (fun q => by have := hd q; rw [cnt_mk] at this; omega) hc (fun e he => f6 e he) fun q hq hne => oth q hne ?_
    intro e
    have := hd q
    rw [cnt_mk] at this
    cases k with
    | nil =>
      have e : q = 0 := e
      subst e
      have z : ∀ {u : Int} {t : T}, Rep S.H u t → cnt 0 t = 0 := fun hr => cnt_of_none (H_zero hS) hr
      rw [z hc] at hq; omega
    | cons f k => have e : q = f.p := e; simp only [ccnt, if_pos e] at this; omega
  · cases k with
    | nil => rw [f5, if_pos (show topP [] = 0 from rfl)]; rfl
    | cons f k =>
      obtain ⟨k1, k2, k3⟩ := hctx
      have fp0 : f.p ≠ 0 := p_ne0 hS k1
      have e0 : topP (f :: k) = f.p := rfl
      rw [e0] at f5 f7 f8 oth
      rw [if_neg fp0] at f5
      have hdf : ∀ q, 0 < cnt q f.o + ccnt q k → q ≠ f.p ∧ (q ≠ c.ptr ∨ q = 0) := by
        intro q hq
        have := hd q
        rw [cnt_mk] at this
        simp only [ccnt] at this
        refine ⟨fun e => by rw [if_pos e] at this; omega, ?_⟩
        rcases cnt_ptr c with rfl | hh
        · by_cases e : q = 0
          · exact .inr e
          · exact .inl e
        · refine .inl ?_
          rintro rfl; omega
      have oth2 : ∀ q, 0 < cnt q f.o + ccnt q k → S'.H q = S.H q := by
        intro q hq
        obtain ⟨h1, h2⟩ := hdf q hq
        rcases h2 with h2 | h2
        · exact oth q h2 h1
        · rw [h2, H_zero hS, H_zero g3]
      refine ⟨?_, rep_congr (fun q hq => oth2 q (by omega)) k2, ?_⟩
      · rw [f7 _ k1]
        cases hf : f.i
        · have hne : f.o.ptr ≠ x := ptrne f.o x x0 (by simp only [ccnt] at hdx; omega)
          simp [Fr.node, hf, Nd.wch, hne]
        · simp [Fr.node, hf, Nd.wch]
      · rw [f5]
        exact repC_congr (fun q hq => oth2 q (by omega)) k3
  · have := hd q; rw [cnt_mk] at this; omega
  · have := h.sm; rw [size_mk] at this; simp only [T.size] at this; omega
  · rw [oth x (Ne.symm hcx) (Ne.symm hux)]; exact hx
end
end Go.Proofs.Ytnlohongffpkpaa.T16
