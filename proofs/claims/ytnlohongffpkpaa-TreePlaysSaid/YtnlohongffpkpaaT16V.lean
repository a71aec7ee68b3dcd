/- Layer 16: Remove. A text of the session's own. -/
import Derived.Test.YtnlohongffpkpaaT16O
import Derived.Test.YtnlohongffpkpaaT16U
namespace Go.Proofs.Ytnlohongffpkpaa.T16
open Go Go.RowKit Go.Proofs.Ytnlohongffpkpaa.Sx
set_option linter.unusedVariables false
set_option linter.unusedSimpArgs false

section
variable {S : TS} {b : Mem} {t : T} {n : Nat}
theorem cl_app : ∀ (kd K : Ctx), cl (kd ++ K) = cl K ++ cl kd
  | [], K => by simp [cl]
  | f :: kd, K => by
    simp only [List.cons_append, cl]
    cases f.i <;> simp [cl_app kd K]
theorem cr_app : ∀ (kd K : Ctx), cr (kd ++ K) = cr kd ++ cr K
  | [], K => by simp [cr]
  | f :: kd, K => by
    simp only [List.cons_append, cr]
    cases f.i <;> simp [cr_app kd K]
theorem cl_left : ∀ {kd : Ctx}, (∀ f ∈ kd, f.i = false) → cl kd = []
  | [], _ => rfl
  | f :: kd, h => by
    simp only [cl, h f (by simp)]
    exact cl_left fun g hg => h g (by simp [hg])
theorem RBC_hg {i : Bool} {p s g s' g' : Int} {c : Bool} {o : T} {k : Ctx} : ∀ {kd : Ctx} {m : Nat}, RBC (kd ++ Fr.mk i p s g c o :: k) m → RBC (kd ++ Fr.mk i p s' g' c o :: k) m
  | [], m, h => h
  | f :: kd, m, h => by
    cases hc : f.c with
    | true =>
      have h := (RBC_red hc).1 h
      refine (RBC_red hc).2 ⟨h.1, h.2.1, ?_, RBC_hg (kd := kd) h.2.2.2⟩
      have := h.2.2.1
      cases kd <;> exact this
    | false =>
      have h := (RBC_blk hc).1 h
      exact (RBC_blk hc).2 ⟨h.1, RBC_hg (kd := kd) h.2⟩
theorem plug_app : ∀ (kd K : Ctx) (t : T), plug t (kd ++ K) = plug (plug t kd) K
  | [], K, t => rfl
  | f :: kd, K, t => plug_app kd K (f.mk' t)
def remPost (S : TS) (b : Mem) (t : T) (s g : Int) (y : Vars) : Prop :=
  (∃ j : Nat, (hans t)[j]? = some (s, g) ∧ y.i = [(j : Int)] ∧ y.b = [true] ∧ ∃ (S' : TS) (t' : T) (n' : Nat), y.m = S'.mem b ∧ S'.t = S.t ∧ S'.q = S.q ∧ Tre S' t' n' ∧ hans t' = (hans t).eraseIdx j ∧ ∀ q, S'.H q = none ↔ S.H q = none) ∨
  ((∀ h ∈ hans t, h ≠ (s, g)) ∧ y.i = [0] ∧ y.b = [false] ∧ y.m = S.mem b)
theorem hans_get' {t : T} {j : Nat} {p s g : Int} (h : (nodes t)[j]? = some (p, s, g)) : (hans t)[j]? = some (s, g) := by simp [hans, h]
theorem hans_erase {t t' : T} {j : Nat} (h : (nodes t').map (fun x => (x.2.1, x.2.2)) = ((nodes t).eraseIdx j).map (fun x => (x.2.1, x.2.2))) : hans t' = (hans t).eraseIdx j := by
  unfold hans
  rw [h, List.eraseIdx_eq_take_drop_succ, List.eraseIdx_eq_take_drop_succ]
  simp [List.map_take, List.map_drop]
set_option maxHeartbeats 4000000 in
theorem remove_walk (h : Tre S t n) {s g : Int} (h1 : inI s) (h2 : inU g) :
    (T_remove (S.mem b) S.p s g).sat (isMemo fun v m => remPost S b t s g (yOf v m) ∧ ∀ ρ, v.den ρ = (retIB (yOf v m)).den ρ) := by
  have hS := h.at'.ok
  unfold T_remove
  rw [sat_req]
  refine ⟨⟨⟨S, b, t, n⟩, ⟨rfl, rfl, h⟩, h1, h2⟩, ?_⟩
  rw [sat_any]
  rintro ⟨yi, yb, yv, ym⟩ hy
  obtain ⟨hy, hm⟩ := hy ⟨S, b, t, n⟩ ⟨⟨rfl, rfl, h⟩, h1, h2⟩
  simp only at hm hy
  subst hm
  rcases hy with ⟨j, p, hj, e1, e2⟩ | ⟨hno, e1, e2⟩
  rotate_left
  · simp only at e1 e2
    subst e1 e2
    rw [brT (by rfl)]
    refine ⟨.inr ⟨fun x hx e => ?_, rfl, rfl, rfl⟩, fun ρ => rfl⟩
    obtain ⟨y, hmem, hye⟩ := List.mem_map.1 hx
    rw [e] at hye
    simp only [Prod.mk.injEq] at hye
    exact hno y hmem hye
  simp only at e1 e2
  subst e1 e2
  rw [brF (by rfl), brT nz_t, brT nz_t, brT okL_m]
  simp only [cell_q, lk_hit hS h.en (List.mem_of_getElem? hj), hdI]
  obtain ⟨c, l, r, k, hk, hl⟩ := split_at hj
  have hA : At S (.nd p s g c l r) k := At.ins (by rw [hk]; exact h.at')
  have hpn : 0 ≤ p := Int.le_of_lt (hS.nd p _ hA.rep.1).1
  rw [sat_req]
  refine ⟨⟨keyed29, okM29 hS h.en, okKey29 h1 h2, isP_pv p⟩, ?_⟩
  simp only [vP_pv hpn]
  rw [brT nz_t, brT nz_t, brT okL_m, sat_req]
  refine ⟨⟨keyed29, okM29 hS h.en, okKey29 h1 h2⟩, ?_⟩
  obtain ⟨ix, hf, hEn⟩ := h.en.del (nodes_nodup h.at') (nodes_nn h.at') hj
  rw [sat_letm, del_mem hS hf]
  have hA1 := hA.put (es := S.es.eraseIdxIfInBounds ix) (kk := S.k)
  have hEn1 : Ents (S.put (S.es.eraseIdxIfInBounds ix) S.k).es.toList ((nodes t).eraseIdx j) := by
    show Ents (S.es.eraseIdxIfInBounds ix).toList _
    rw [Array.toList_eraseIdxIfInBounds]; exact hEn
  have et : (S.put (S.es.eraseIdxIfInBounds ix) S.k).t = S.t := rfl
  have eq : (S.put (S.es.eraseIdxIfInBounds ix) S.k).q = S.q := rfl
  have ed : ∀ q, (S.put (S.es.eraseIdxIfInBounds ix) S.k).H q = none ↔ S.H q = none := fun _ => Iff.rfl
  have ep : (S.put (S.es.eraseIdxIfInBounds ix) S.k).p = S.p := rfl
  generalize S.put (S.es.eraseIdxIfInBounds ix) S.k = S1 at hA1 hEn1 et eq ed ep
  have hp1 := hA1.rep.1
  have ok1 := hA1.ok
  obtain ⟨m, b1, b2, b3⟩ := RB_ins (k := k) (t := .nd p s g c l r) (by rw [hk]; exact h.rb) (by rw [hk]; exact h.blk)
  have hnt : nodes t = (cl k ++ nodes l) ++ (p, s, g) :: (nodes r ++ cr k) := by rw [← hk, nodes_plug]; simp [nodes]
  have hle : (cl k ++ nodes l).length = j := by rw [List.length_append, len_nodes]; exact hl
  have hne : (nodes t).eraseIdx j = cl k ++ nodes l ++ (nodes r ++ cr k) := by
    rw [hnt, List.eraseIdx_append_of_length_le (by omega), hle, Nat.sub_self, List.eraseIdx_cons_zero]
  have hfin : ∀ (S' : TS) (t' : T) (m' : Nat), S'.t = S1.t → S'.q = S1.q → (∀ q, S'.H q = none ↔ S1.H q = none) → Tre S' t' m' → (nodes t').map (fun x => (x.2.1, x.2.2)) = ((nodes t).eraseIdx j).map (fun x => (x.2.1, x.2.2)) →
      remPost S b t s g (yOf (.tup [(.c (.si .i64 (j : Int))), (.c (.lb true))]) (S'.mem b)) ∧ ∀ ρ, V.den ρ (.tup [(.c (.si .i64 (j : Int))), (.c (.lb true))]) = V.den ρ (retIB (yOf (.tup [(.c (.si .i64 (j : Int))), (.c (.lb true))]) (S'.mem b))) :=
    fun S' t' m' a1 a2 a3 a4 a5 => ⟨.inl ⟨j, hans_get' hj, rfl, rfl, S', t', m', rfl, a1.trans et, a2.trans eq, a4, hans_erase a5, fun q => (a3 q).trans (ed q)⟩, fun ρ => rfl⟩
  have hone : l = .nil ∨ r = .nil → (T_remL (S1.mem b) S.p p (j : Int) (fun l => l)).sat (isMemo fun v m => remPost S b t s g (yOf v m) ∧ ∀ ρ, v.den ρ = (retIB (yOf v m)).den ρ) := by
    intro hlr
    rw [← ep]
    refine remT_walk hA1 hlr b1 b2 b3 fun S' hs => ?_
    obtain ⟨hlike, t', m', g1, g2, g3, g4⟩ := hs
    refine hfin S' t' m' hlike.t hlike.q hlike.dom ⟨g1, g3, g4, ?_⟩ ?_
    · rw [hlike.es, g2]
      rw [hne] at hEn1
      simpa using hEn1
    · rw [g2, hne]; simp
  rw [brT (nz_n ok1 hp1), brT (nz_n ok1 hp1), brT (nz_n ok1 hp1), brT (okL_2 ok1 hp1), brT (cmp_zero _ _), gP_l ok1 hp1, gP_r ok1 hp1]
  cases l with
  | nil =>
    rw [brF (by rfl), brT (nz_n ok1 hp1), brT (nz_n ok1 hp1), brT (okL_4 ok1 hp1)]
    exact hone (.inl rfl)
  | nd lp ls lg lc ll lr =>
    rw [brT (show bNot (peq (T.nd lp ls lg lc ll lr).ptr 0) = true by rw [show (T.nd lp ls lg lc ll lr).ptr = lp from rfl, peq_n ok1 hA1.rep.2.1.1]; rfl), brT (nz_n ok1 hp1), brT (nz_n ok1 hp1), brT (nz_n ok1 hp1), brT (okL_3 ok1 hp1), brT (cmp_zero _ _)]
    generalize hll : T.nd lp ls lg lc ll lr = l at *
    by_cases hr0 : r = .nil
    · rw [hr0, brF (by rfl), brT (nz_n ok1 hp1), brT (nz_n ok1 hp1), brT (okL_4 ok1 hp1)]
      exact hone (.inr hr0)
    · obtain ⟨rp, rs, rg, rc, rl, rr, hrf⟩ := form_of false hr0
      have hrp : ∃ d, S1.H r.ptr = some d := by rw [hrf]; exact ⟨_, (hrf ▸ hA1.rep.2.2 : Rep S1.H p (mkT false rp rs rg rc rl rr)).1⟩
      obtain ⟨dr, hrp⟩ := hrp
      rw [brT (by rw [peq_n ok1 hrp]; rfl), brT (nz_n ok1 hp1), brT (nz_n ok1 hp1), brT (nz_n ok1 hp1), brT (okL_3 ok1 hp1)]
      let J : Nat → Vars → Prop := fun N y => ∃ (t2 : T) (kd : Ctx), N = t2.size ∧ y = ⟨[t2.ptr], [], [], S1.mem b⟩ ∧ t2 ≠ .nil ∧ At S1 t2 (kd ++ Fr.mk true p s g c l :: k) ∧ (∀ f ∈ kd, f.i = false) ∧ plug t2 kd = r
      refine lp_idx J (n0 := r.size) ⟨r, [], rfl, rfl, hr0, At.far (i := false) (hA1 : At S1 (mkT false p s g c l r) k), by simp, rfl⟩ ?_
      rintro N y _ ⟨t2, kd, rfl, rfl, ht2, hB, hkd, hpl⟩
      cases t2 with
      | nil => exact absurd rfl ht2
      | nd q qs qg qc l2 r2 =>
        have hq := hB.rep.1
        simp only [hdI, show (T.nd q qs qg qc l2 r2).ptr = q from rfl]
        rw [gP_l ok1 hq, brT (nz_n ok1 hq), brT (nz_n ok1 hq), brT (nz_n ok1 hq), brT (okL_2 ok1 hq), brT (cmp_zero _ _)]
        by_cases hl2 : l2 = .nil
        · subst hl2
          have hC : At S1 (mkT true p s g c r l) k := by
            have := hB.outK
            rw [hpl] at this
            exact this.out
          have hpC := hC.get
          have hD := hC.seth qs qg
          rw [brF (by rfl), brT (nz_n ok1 hq), brT (nz_n ok1 hq), brT (okL_0 ok1 hq), brT (nz_n ok1 hp1), brT (nz_n ok1 hp1), brT (okL_0 ok1 hp1), brT (nz_n ok1 hp1), brT (nz_n ok1 hp1), brT (okS_n ok1 hp1 rfl), sat_letm]
          rw [gI_s ok1 hq, gI_g ok1 hq, gI_s ok1 hp1, gI_g ok1 hp1, wr_h ok1 hpC]
          have l2' := like_set (d := { (Fr.mk true p s g c l).node r.ptr (topP k) r.size with s := qs, g := qg }) hpC
          generalize S1.set p { (Fr.mk true p s g c l).node r.ptr (topP k) r.size with s := qs, g := qg } = S2 at hD l2'
          have hE : At S2 (.nd q qs qg qc .nil r2) (kd ++ Fr.mk true p qs qg c l :: k) := by
            refine At.inK ?_
            rw [hpl]
            exact At.into (f := Fr.mk true p qs qg c l) hD
          have hqE := At.get (i := false) hE
          have hF := At.seth (i := false) hE s g
          rw [brT (nz_n hE.ok hqE), brT (nz_n hE.ok hqE), brT (okS_n hE.ok hqE rfl), sat_letm, wr_h hE.ok hqE]
          have l3' := l2'.trans (like_set (d := { (Fr.mk false q qs qg qc r2).node T.nil.ptr (topP (kd ++ Fr.mk true p qs qg c l :: k)) T.nil.size with s := s, g := g }) hqE)
          generalize S2.set q { (Fr.mk false q qs qg qc r2).node T.nil.ptr (topP (kd ++ Fr.mk true p qs qg c l :: k)) T.nil.size with s := s, g := g } = S3 at hF l3'
          have hpF := hF.outK.getf
          have ok3 := hF.ok
          rw [← ep, ← like_p l3', brT nz_t, brT nz_t, brT okL_m, brT (nz_n ok3 hpF), brT (nz_n ok3 hpF), brT (okL_0 ok3 hpF), cell_q, gI_s ok3 hpF, gI_g ok3 hpF, node_s, node_g, sat_req]
          have hnr : nodes r = (q, qs, qg) :: nodes r2 ++ cr kd := by rw [← hpl, nodes_plug, cl_left hkd]; simp [nodes]
          have hne2 : (nodes t).eraseIdx j = (cl k ++ nodes l) ++ (q, qs, qg) :: (nodes r2 ++ cr kd ++ cr k) := by rw [hne, hnr]; simp
          have hj2 : ((nodes t).eraseIdx j)[j]? = some (q, qs, qg) := by
            rw [hne2, List.getElem?_append_right (by omega), hle, Nat.sub_self]; rfl
          have hsub : ((nodes t).eraseIdx j).Sublist (nodes t) := List.eraseIdx_sublist _ _
          have hEn3 : Ents S3.es.toList ((nodes t).eraseIdx j) := by rw [l3'.es]; exact hEn1
          have hrq := hEn3.rng _ (List.mem_of_getElem? hj2)
          obtain ⟨iy, hfy, hEn4⟩ := hEn3.swap ((nodes_nodup h.at').sublist (hsub.map _)) (fun x hx => nodes_nn h.at' x (hsub.mem hx)) hj2 p
          refine ⟨⟨keyed29, okM29 ok3 hEn3, rfl, okKey29 hrq.1 hrq.2⟩, ?_⟩
          rw [sat_letm, swap_mem ok3 hfy]
          have hG := hF.put (es := S3.es.modify iy fun e => { e with key := hKey qs qg, val := pv p 0 }) (kk := S3.k)
          have hEn5 : Ents (S3.put (S3.es.modify iy fun e => { e with key := hKey qs qg, val := pv p 0 }) S3.k).es.toList (((nodes t).eraseIdx j).set j (p, qs, qg)) := by
            show Ents (S3.es.modify iy _).toList _
            rw [Array.toList_modify]; exact hEn4
          have ep4 : (S3.put (S3.es.modify iy fun e => { e with key := hKey qs qg, val := pv p 0 }) S3.k).p = S3.p := rfl
          have l4t : (S3.put (S3.es.modify iy fun e => { e with key := hKey qs qg, val := pv p 0 }) S3.k).t = S1.t := l3'.t
          have l4q : (S3.put (S3.es.modify iy fun e => { e with key := hKey qs qg, val := pv p 0 }) S3.k).q = S1.q := l3'.q
          have l4d : ∀ q, (S3.put (S3.es.modify iy fun e => { e with key := hKey qs qg, val := pv p 0 }) S3.k).H q = none ↔ S1.H q = none := l3'.dom
          rw [← ep4]
          generalize S3.put (S3.es.modify iy fun e => { e with key := hKey qs qg, val := pv p 0 }) S3.k = S4 at hG hEn5 l4t l4q l4d
          have hqG := hG.get
          obtain ⟨m2, d1, d2, d3⟩ := RB_ins (k := kd ++ Fr.mk true p s g c l :: k) (t := .nd q qs qg qc .nil r2) (n := n) (by
            rw [plug_app, hpl, show plug r (Fr.mk true p s g c l :: k) = plug (.nd p s g c l r) k from rfl, hk]; exact h.rb) (by
            rw [plug_app, hpl, show plug r (Fr.mk true p s g c l :: k) = plug (.nd p s g c l r) k from rfl, hk]; exact h.blk)
          rw [brT (nz_n hG.ok hqG), brT (nz_n hG.ok hqG), brT (okL_4 hG.ok hqG)]
          refine remT_walk (W := .up) (hG : At S4 (.nd q s g qc .nil r2) _) (.inl rfl) (n := m2) (by cases qc <;> exact d1) (fun e => ?_) (RBC_hg d3) fun S' hs => ?_
          · have := d2 e
            cases kd <;> exact this
          · obtain ⟨hlike, t', m', g1, g2, g3, g4⟩ := hs
            have hnn : nodes t' = ((nodes t).eraseIdx j).set j (p, qs, qg) := by
              rw [g2, cl_app, cr_app, cl_left hkd, hne2, List.set_append_right _ _ (by omega), hle, Nat.sub_self]
              simp [cl, cr, nodes]
            refine hfin S' t' m' (hlike.t.trans l4t) (hlike.q.trans l4q) (fun q => (hlike.dom q).trans (l4d q)) ⟨g1, g3, g4, ?_⟩ ?_
            · rw [hlike.es, hnn]; exact hEn5
            · rw [hnn, hne2, List.set_append_right _ _ (by omega), hle, Nat.sub_self]; simp
        · obtain ⟨a_p, a_s, ag, ac, al, ar, haf⟩ := form_of false hl2
          have hlp : ∃ d, S1.H l2.ptr = some d := by rw [haf]; exact ⟨_, (haf ▸ hB.rep.2.1 : Rep S1.H q (mkT false a_p a_s ag ac al ar)).1⟩
          obtain ⟨dl, hlp⟩ := hlp
          rw [brT (by rw [peq_n ok1 hlp]; rfl), brT (nz_n ok1 hq), brT (nz_n ok1 hq), brT (nz_n ok1 hq), brT (okL_2 ok1 hq), sat_req]
          refine ⟨by simp, l2.size, by simp only [T.size]; omega, l2, Fr.mk false q qs qg qc r2 :: kd, rfl, rfl, hl2, At.near (i := false) (hB : At S1 (mkT false q qs qg qc l2 r2) _), ?_, hpl⟩
          intro f hf
          rcases List.mem_cons.1 hf with rfl | hf
          · rfl
          · exact hkd f hf
end
def removeP (m : Mem) (t hs hg : Int) : Prop := ∃ G : TG, G.is m t ∧ inI hs ∧ inU hg
def removeQ (m : Mem) (t hs hg : Int) (y : Vars) : Prop := ∀ G : TG, (G.is m t ∧ inI hs ∧ inU hg) → remPost G.S G.b G.t hs hg y
def s_remove : Sum := memSum 20 fun m a => match a with | [a0, a1] => (match ptrOf a0, hanOf a1 with | some t, some (hs, hg) => some ⟨removeP m t hs hg, removeQ m t hs hg, fun y => .tup [.c (.si .i64 (hdI y.i)), .c (.sb (hdB y.b))]⟩ | _, _ => none) | _ => none
theorem t_remove (m : Mem) (t : Int) (hs hg : Int) : runm Try.prog [s_index, s_which, s_hang, s_fills] (drawl Try.prog [s_index, s_which, s_hang, s_fills] (fun _ k => match Nat.beq k 8 with | true => some ⟨[9], [], [0, 6, 8], []⟩ | false => some ⟨[10], [], [0, 6, 8], []⟩)) 300 20 [.u (.c (.np t 0)), .u (.agg [.si .i64 hs, .si .u64 hg])] m [98] = T_remove m t hs hg := by kernel_rfl
theorem s_remove_ok : SumOK Try.prog s_remove := by
  refine memSum_ok ⟨_, Try.func20, by kernel_rfl⟩ fun m args ms h hp hw ρ w hm => ?_
  split at h
  · split at h
    · rename_i a0 a1 _ _ t hs hg h0 h1
      cases h
      have hS : ∀ q ∈ [s_index, s_which, s_hang, s_fills], SumOK Try.prog q := okc s_index_ok (okc s_which_ok (okc s_hang_ok (okc s_fills_ok okn)))
      refine mm_ghost nameOK hS (drawl_sound nameOK hS (by kernel_rfl) _) 300 _ m _ (t_remove m t hs hg) hp (fun G hG => ?_) ρ w hm (by simp only [List.map_cons, List.map_nil, ptrOf_den h0, hanOf_den h1])
      obtain ⟨⟨rfl, rfl, g1⟩, g2, g3⟩ := hG
      refine sat_mono (fun l hl => ?_) (remove_walk g1 g2 g3)
      cases l with
      | memo v x => exact ⟨hl.1, yOf_m _ _, hl.2⟩
      | _ => exact hl.elim
    · cases h
  · cases h
end Go.Proofs.Ytnlohongffpkpaa.T16
