/- Layer 16: TreePlays' contract. A text of the session's own. -/
import Derived.Test.YtnlohongffpkpaaT16AE
import Derived.Deep.Slices
namespace Go.Proofs.Ytnlohongffpkpaa.T16
open Go Go.RowKit Go.Proofs.Ytnlohongffpkpaa.Sx Go.Proofs Go.WideShapes Go.ChangeShapes
set_option linter.unusedVariables false
set_option linter.unusedSimpArgs false

/-- a bool, a number, a handle -/
def stTy (P : Program) (t : Nat) : Bool := match P.underlying t with
  | some (.struct fs) => (match fs.toList with
    | [f0, f1, f2] => Nat.beq f0.offset 0 && Nat.beq f1.offset 1 && Nat.beq f2.offset 2 && Nat.beq (P.cellsOf f0.type) 1 && Nat.beq (P.cellsOf f1.type) 1 && Nat.beq (P.cellsOf f2.type) 2 && Nat.beq (P.cellsOf t) 4 && (match P.underlying f0.type with | some .bool => true | _ => false) && (match P.underlying f1.type with | some (.int .i64) => true | _ => false) && hTy P f2.type
    | _ => false)
  | _ => false
theorem wf_inI {n : Int} (h : (Lit.int .i64 n).wf = true) : inI n := by
  have e1 : IntKind.min .i64 = -9223372036854775808 := rfl
  have e2 : IntKind.max .i64 = 9223372036854775807 := rfl
  simp only [Lit.wf, e1, e2, Bool.and_eq_true, decide_eq_true_eq] at h
  unfold inI; omega
theorem wf_inU {n : Int} (h : (Lit.int .u64 n).wf = true) : inU n := by
  have e1 : IntKind.min .u64 = 0 := rfl
  have e2 : IntKind.max .u64 = 18446744073709551615 := rfl
  simp only [Lit.wf, e1, e2, Bool.and_eq_true, decide_eq_true_eq] at h
  unfold inU; omega
section
variable {H : Type} {enc : TypeId × Value → H} {P : Program} {W : World} {base : Nat} {sp : Nat → Bool} {held : Bool}
theorem han_cells {t n : Nat} {cs : List Value} {x : DataW H × List MemPlace} (ht : hTy P t = true) (h : DataW.trod enc P W base sp held n t cs = some x) : ∃ s g, cs = [.int .i64 s, .int .u64 g] ∧ inI s ∧ inU g := by
  unfold hTy at ht
  split at ht
  · rename_i fs hu
    split at ht
    · rename_i f g hfs
      simp only [Bool.and_eq_true] at ht
      obtain ⟨⟨⟨⟨⟨⟨⟨⟨a1, a2⟩, a3⟩, a4⟩, a5⟩, a6⟩, a7⟩, a8⟩, a9⟩ := ht
      replace a3 := Nat.eq_of_beq_eq_true a3
      replace a4 := Nat.eq_of_beq_eq_true a4
      replace a5 := Nat.eq_of_beq_eq_true a5
      replace a6 := Nat.eq_of_beq_eq_true a6
      replace a7 := Nat.eq_of_beq_eq_true a7
      have hf : fs = #[f, g] := by rw [← Array.toArray_toList (xs := fs), hfs]
      subst hf
      have u1 : P.underlying f.type = some (.int .i64) := by revert a8; split <;> simp_all
      have u2 : P.underlying g.type = some (.int .u64) := by revert a9; split <;> simp_all
      obtain ⟨xs, k, _, _, hl, hxl, hall⟩ := DataW.trod_struct hu h
      rw [a7] at hl
      match cs, hl with
      | [v0, v1], _ =>
        match xs, hxl with
        | [y0, y1], _ =>
          have g0 := hall 0 f rfl
          have g1 := hall 1 g rfl
          simp [a3, a4, a5, a6] at g0 g1
          obtain ⟨s, e0, _, w0⟩ := DataW.trod_int u1 g0
          obtain ⟨q, e1, _, w1⟩ := DataW.trod_int u2 g1
          simp only [List.cons.injEq, and_true] at e0 e1
          subst e0 e1
          exact ⟨s, q, rfl, wf_inI w0, wf_inU w1⟩
    · cases ht
  · cases ht
theorem stp_cells {t n : Nat} {cs : List Value} {x : DataW H × List MemPlace} (ht : stTy P t = true) (h : DataW.trod enc P W base sp held n t cs = some x) : ∃ r a s g, cs = [.bool r, .int .i64 a, .int .i64 s, .int .u64 g] ∧ inI s ∧ inU g := by
  unfold stTy at ht
  split at ht
  · rename_i fs hu
    split at ht
    · rename_i f0 f1 f2 hfs
      simp only [Bool.and_eq_true] at ht
      obtain ⟨⟨⟨⟨⟨⟨⟨⟨⟨a1, a2⟩, a3⟩, a4⟩, a5⟩, a6⟩, a7⟩, a8⟩, a9⟩, a10⟩ := ht
      replace a1 := Nat.eq_of_beq_eq_true a1
      replace a2 := Nat.eq_of_beq_eq_true a2
      replace a3 := Nat.eq_of_beq_eq_true a3
      replace a4 := Nat.eq_of_beq_eq_true a4
      replace a5 := Nat.eq_of_beq_eq_true a5
      replace a6 := Nat.eq_of_beq_eq_true a6
      replace a7 := Nat.eq_of_beq_eq_true a7
      have hf : fs = #[f0, f1, f2] := by rw [← Array.toArray_toList (xs := fs), hfs]
      subst hf
      have u0 : P.underlying f0.type = some .bool := by revert a8; split <;> simp_all
      have u1 : P.underlying f1.type = some (.int .i64) := by revert a9; split <;> simp_all
      obtain ⟨xs, k, _, _, hl, hxl, hall⟩ := DataW.trod_struct hu h
      rw [a7] at hl
      match cs, hl with
      | [v0, v1, v2, v3], _ =>
        match xs, hxl with
        | [y0, y1, y2], _ =>
          have g0 := hall 0 f0 rfl
          have g1 := hall 1 f1 rfl
          have g2 := hall 2 f2 rfl
          simp [a1, a2, a3, a4, a5, a6] at g0 g1 g2
          obtain ⟨r, e0, _⟩ := DataW.trod_bool u0 g0
          obtain ⟨a, e1, _, w1⟩ := DataW.trod_int u1 g1
          obtain ⟨s, g, e2, i1, i2⟩ := han_cells a10 g2
          simp only [List.cons.injEq, and_true] at e0 e1 e2
          obtain ⟨e2, e3⟩ := e2
          subst e0 e1 e2 e3
          exact ⟨r, a, s, g, rfl, i1, i2⟩
    · cases ht
  · cases ht
instance : Inhabited Stp := ⟨⟨false, 0, 0, 0⟩⟩
theorem arg_steps {b0 : Nat} {r : Reach} {t e : TypeId} {v : Value} {d : DataW H} {ps : List MemPlace} (hst : stTy P e = true) (ht : P.underlying t = some (.slice e)) {q : Prop} (hq : q) (hc : P.cellsOf e = 4)
    (hval : Value.okWide P W r b0 t v) (h : DataW.Trod enc P W base sp held t v d ps) : ∃ xs m, (∀ a o, m a = some o → W.heap[a]? = some o) ∧ ArgS v xs m ∧ pl v = v := by
  obtain ⟨a, len, cap, rfl⟩ := okWide_slice ht hval
  obtain ⟨fuel, hf⟩ := h
  rcases Go.Deep.open_slice ht hf with ⟨hcs, hx⟩ | ⟨a', len', cap', m', n, D, Pl, hcs, _, hl, _, hm, _, hel⟩
  · simp [Value.cells] at hcs
    obtain ⟨rfl, rfl, rfl⟩ := hcs
    exact ⟨[], fun _ => none, (fun _ _ h => by cases h), ⟨rfl, rfl, fun i x h => (by simp at h), by simp⟩, rfl⟩
  · simp [Value.cells] at hcs
    obtain ⟨rfl, rfl, rfl⟩ := hcs
    have hlm : len ≤ m' := by rw [hm]; split <;> omega
    obtain ⟨X, hX⟩ := Go.Deep.choose_lt (n := len) (p := fun i (x : Stp) => W.cells? base (a'.add (i * 4)) 4 = some [.bool x.rm, .int .i64 x.at', .int .i64 x.s, .int .u64 x.g] ∧ inI x.s ∧ inU x.g) (fun i hi => by
      obtain ⟨cs', h1, h2⟩ := hel i (by omega)
      rw [hc] at h1
      obtain ⟨r, at', s, g, rfl, i1, i2⟩ := stp_cells hst h2
      exact ⟨⟨r, at', s, g⟩, h1, i1, i2⟩)
    refine ⟨(List.range len).map X, fun c => if c = a'.block then W.heap[c]? else none, fun c o h => ?_, ⟨rfl, ?_, fun i x hx => ?_, fun x hx => ?_⟩, rfl⟩
    · simp only at h
      split at h
      · exact h
      · cases h
    · simp [slN, pl]
    · have hi : i < len := by
        have := (List.getElem?_eq_some_iff.1 hx).1
        simpa using this
      have hxe : x = X i := by
        rw [List.getElem?_map, List.getElem?_range hi] at hx
        simpa using hx.symm
      subst hxe
      obtain ⟨h1, _, _⟩ := hX i hi
      obtain ⟨_, _, hci⟩ := World.cells?_some h1
      obtain ⟨b, o, spt⟩ := a'
      have hsp : spt = none := by
        obtain ⟨h1', _⟩ := hX 0 (by omega)
        obtain ⟨_, _, hci'⟩ := World.cells?_some h1'
        have h0 := hci' 0 (by omega)
        rw [show ((⟨b, o, spt⟩ : Addr).add (0 * 4)).add 0 = (⟨b, o, spt⟩ : Addr) by simp [Addr.add]] at h0
        exact World.cell?_spot (h0.trans (by rfl : _ = some (Value.bool (X 0).rm)))
      subst hsp
      have key : ∀ k, k < 4 → W.cell? ⟨b, o + i * 4 + k, none⟩ = [Value.bool (X i).rm, .int .i64 (X i).at', .int .i64 (X i).s, .int .u64 (X i).g][k]? := fun k hk => by
        have := hci k hk
        rw [add_at, add_at] at this
        exact this
      obtain ⟨cs, ty, fz, hb, hcell⟩ : ∃ cs ty fz, W.heap[b]? = some (.cells cs ty fz) ∧ ∀ k, W.cell? ⟨b, k, none⟩ = cs[k]? := by
        have h0 := key 0 (by omega)
        unfold World.cell? at h0
        split at h0
        · rename_i cs ty fz hcs
          simp only at hcs
          exact ⟨cs, ty, fz, hcs, fun k => by simp [World.cell?, hcs]⟩
        · cases h0
      have hg : mget (fun c => if c = b then W.heap[c]? else none) ((b : Int) + 1) = some cs := mget_of (ty := ty) (q := fz) (by simp [hb])
      have c0 := (hcell _).symm.trans (key 0 (by omega))
      have c1 := (hcell _).symm.trans (key 1 (by omega))
      have c2 := (hcell _).symm.trans (key 2 (by omega))
      have c3 := (hcell _).symm.trans (key 3 (by omega))
      simp only [List.getElem?_cons_zero, List.getElem?_cons_succ, Nat.add_zero] at c0 c1 c2 c3
      have e0 : aOff o (i : Int) 4 = o + i * 4 := by simp [aOff]
      simp only [pl, slB, slO, e0, Nat.succ_eq_add_one, Nat.add_assoc] at c0 c1 c2 c3 ⊢
      refine ⟨?_, ?_, ?_, ?_, ?_, ?_⟩
      · have : Nat.ble len cap = true := Nat.ble_eq_true_of_le hl
        simp [inSl, isSl, slN, this, hi]
      · unfold okL; rw [hg]; simp [okR, c0, c1, c2, c3, okC, isK, isB, Nat.add_assoc]
      · unfold gB mcell; rw [hg]; simp [c0, vB]
      · unfold gI mcell; rw [hg]; simp [c1, vI]
      · unfold gI mcell; rw [hg]; simp [c2, vI]
      · unfold gI mcell; rw [hg]; simp [c3, vI]
    · obtain ⟨i, hi, rfl⟩ := List.mem_map.1 hx
      exact (hX i (List.mem_range.1 hi)).2
end
theorem t_plays (m : Mem) (l : Value) : runm Try.prog [s_len, s_fresh, s_at, s_index, s_insert, s_remove, s_ratk, s_rcut, s_rins, s_alike, s_works] (drawh Try.prog [s_len, s_fresh, s_at, s_index, s_insert, s_remove, s_ratk, s_rcut, s_rins, s_alike, s_works] (fun _ _ => some ⟨[5], [], [0, 3, 4], []⟩) (fun _ k _ => match Nat.beq k 7 with | true => some ⟨0, [], [], [0, 3, 4, 5], []⟩ | false => match Nat.beq k 14 with | true => some ⟨0, [], [], [0, 3, 4, 5, 6, 7, 8, 9], [0]⟩ | false => match Nat.beq k 18 with | true => some ⟨0, [], [], [0, 3, 4, 5, 6], [0]⟩ | false => match Nat.beq k 20 with | true => some ⟨0, [.t 12 false], [[.sb false]], [0, 3, 4, 5, 6, 10, 11], [0, 1]⟩ | false => none)) 300 5 [.u (.c (.sv l))] m [98, 92, 95, 48] = T_plays m l := by kernel_rfl
theorem plays_calls {W : World} {v : Value} {xs : List Stp} {m : Mem} (hm : ∀ a o, m a = some o → W.heap[a]? = some o) (hA : ArgS v xs m) (hv : pl v = v) : Calls Try.prog 5 #[v] W fun e W' => e = .returned (.bool true) ∧ Below W.heap.size W W' := by
  have hS : ∀ q ∈ [s_len, s_fresh, s_at, s_index, s_insert, s_remove, s_ratk, s_rcut, s_rins, s_alike, s_works], SumOK Try.prog q := okc s_len_ok (okc s_fresh_ok (okc s_at_ok (okc s_index_ok (okc s_insert_ok (okc s_remove_ok (okc s_ratk_ok (okc s_rcut_ok (okc s_rins_ok (okc s_alike_ok (okc s_works_ok okn))))))))))
  have := memo_sound nameOK hS (drawh_sound nameOK hS (by kernel_rfl) _ _) 300 _ m _ (t_plays m v) (plays_walk hA) (fun _ => 0) W hm
  have hvs : (List.map (V.den fun _ => 0) [V.u (U.c (C.sv v))]).toArray = #[v] := by
    show #[pl v] = #[v]
    rw [hv]
  rw [hvs] at this
  refine this.mono ?_
  rintro e w' ⟨v', x, ⟨rfl, hk⟩, rfl, g⟩
  exact ⟨rfl, below_of hm g hk⟩
end Go.Proofs.Ytnlohongffpkpaa.T16
