/- Layer 16: slices of handles in the memory: parts, appends; the document's list behind a pointer; a tree held against it. A text of the session's own. -/
import Derived.Test.YtnlohongffpkpaaT16Z
import Derived.Laws.AppendOwn
namespace Go.Proofs.Ytnlohongffpkpaa.T16
open Go Go.RowKit Go.Proofs.Ytnlohongffpkpaa.Sx Go.Proofs
set_option linter.unusedVariables false
set_option linter.unusedSimpArgs false

theorem hCells_nil : hCells [] = [] := rfl
theorem hCells_cons (x : Int × Int) (l : List (Int × Int)) : hCells (x :: l) = .int .i64 x.1 :: .int .u64 x.2 :: hCells l := rfl
theorem hCells_app (l k : List (Int × Int)) : hCells (l ++ k) = hCells l ++ hCells k := by simp [hCells]
theorem hCells_len : ∀ l : List (Int × Int), (hCells l).length = l.length * 2
  | [] => rfl
  | x :: l => by rw [hCells_cons, List.length_cons, List.length_cons, List.length_cons, hCells_len l]; omega
theorem hCells_take : ∀ (l : List (Int × Int)) (k : Nat), (hCells l).take (k * 2) = hCells (l.take k)
  | [], k => by simp [hCells_nil]
  | x :: l, 0 => by simp [hCells_nil]
  | x :: l, k + 1 => by
    rw [show (k + 1) * 2 = k * 2 + 1 + 1 by omega, hCells_cons, List.take_succ_cons, List.take_succ_cons, hCells_take l k]; rfl
theorem hCells_drop : ∀ (l : List (Int × Int)) (k : Nat), (hCells l).drop (k * 2) = hCells (l.drop k)
  | [], k => by simp [hCells_nil]
  | x :: l, 0 => by simp
  | x :: l, k + 1 => by
    rw [show (k + 1) * 2 = k * 2 + 1 + 1 by omega, hCells_cons, List.drop_succ_cons, List.drop_succ_cons, hCells_drop l k]; rfl
theorem hCells_plain : ∀ l : List (Int × Int), (hCells l).all isPlain = true
  | [] => rfl
  | x :: l => by rw [hCells_cons]; simp [isPlain, hCells_plain l]

structure SlH (m : Mem) (v : Value) (hs : List (Int × Int)) : Prop where
  ok : okSl m v 2 = true
  n : slN v = hs.length
  row : rowL m v 2 = hCells hs
theorem mgetW_of {m : Mem} {a : Nat} {cs : Array Value} {ty : Nat} (h : m a = some (.cells cs ty (0, 0))) : mgetW m ((a : Int) + 1) = some cs := by
  unfold mgetW; rw [show ((a : Int) + 1).toNat = a + 1 by omega]; simp [h]
theorem mget_of {m : Mem} {a : Nat} {cs : Array Value} {ty : Nat} {q : Nat × Nat} (h : m a = some (.cells cs ty q)) : mget m ((a : Int) + 1) = some cs := by
  unfold mget; rw [show ((a : Int) + 1).toNat = a + 1 by omega]; simp [h]
theorem SlH.inv {m : Mem} {v : Value} {hs : List (Int × Int)} (h : SlH m v hs) : (v = .slice none 0 0 ∧ hs = []) ∨
    ∃ (a o c : Nat) (cs : Array Value) (ty : Nat), v = .slice (some ⟨a, o, none⟩) hs.length c ∧ hs.length ≤ c ∧ m a = some (.cells cs ty (0, 0)) ∧ o + c * 2 ≤ cs.size ∧ cs.toList.all isPlain = true ∧ (cs.toList.drop o).take (hs.length * 2) = hCells hs := by
  obtain ⟨h1, h2, h3⟩ := h
  unfold okSl at h1
  split at h1
  · simp only [Bool.and_eq_true] at h1
    have e1 := Nat.eq_of_beq_eq_true h1.1
    have e2 := Nat.eq_of_beq_eq_true h1.2
    subst e1 e2
    left
    refine ⟨rfl, ?_⟩
    simp only [slN] at h2
    exact List.length_eq_zero_iff.1 h2.symm
  · rename_i a o n c
    right
    simp only [Bool.and_eq_true] at h1
    obtain ⟨h1, h4⟩ := h1
    simp only [slN] at h2
    subst h2
    split at h4
    · rename_i cs hcs
      simp only [Bool.and_eq_true] at h4
      obtain ⟨b, ty, e1, e2⟩ := mgetW_at hcs
      have : b = a := by omega
      subst this
      refine ⟨b, o, c, cs, ty, rfl, Nat.le_of_ble_eq_true h1, e2, Nat.le_of_ble_eq_true h4.1, h4.2, ?_⟩
      simp only [rowL, slB, slO, slN, mgetW_get hcs] at h3
      exact h3
    · cases h4
  · cases h1
theorem SlH.of {m : Mem} {a o c : Nat} {cs : Array Value} {ty : Nat} {hs : List (Int × Int)} (h1 : hs.length ≤ c) (h2 : m a = some (.cells cs ty (0, 0))) (h3 : o + c * 2 ≤ cs.size) (h4 : cs.toList.all isPlain = true) (h5 : (cs.toList.drop o).take (hs.length * 2) = hCells hs) :
    SlH m (.slice (some ⟨a, o, none⟩) hs.length c) hs := by
  refine ⟨?_, rfl, ?_⟩
  · simp only [okSl, mgetW_of h2, Bool.and_eq_true]
    exact ⟨Nat.ble_eq_true_of_le h1, Nat.ble_eq_true_of_le h3, h4⟩
  · simp only [rowL, slB, slO, slN, mget_of h2]; exact h5
theorem SlH.nil0 (m : Mem) : SlH m (.slice none 0 0) [] := ⟨rfl, rfl, rfl⟩
theorem SlH.pl {m : Mem} {v : Value} {hs : List (Int × Int)} (h : SlH m v hs) : pl v = v := by
  rcases h.inv with ⟨rfl, _⟩ | ⟨_, _, _, _, _, rfl, _⟩ <;> rfl
theorem SlH.isv {m : Mem} {v : Value} {hs : List (Int × Int)} (h : SlH m v hs) : isSlV v = true := by
  rcases h.inv with ⟨rfl, _⟩ | ⟨_, _, _, _, _, rfl, _⟩ <;> rfl
theorem SlH.more {m m' : Mem} {v : Value} {hs : List (Int × Int)} (h : SlH m v hs) (hm : ∀ a : Nat, slB v = (a : Int) + 1 → m a ≠ none → m' a = m a) : SlH m' v hs := by
  rcases h.inv with ⟨rfl, rfl⟩ | ⟨a, o, c, cs, ty, rfl, h1, h2, h3, h4, h5⟩
  · exact SlH.nil0 m'
  · exact SlH.of h1 (by rw [hm a rfl (by rw [h2]; simp)]; exact h2) h3 h4 h5
/-- an element, read -/
theorem SlH.get {m : Mem} {v : Value} {hs : List (Int × Int)} (h : SlH m v hs) {i : Nat} {x : Int × Int} (hx : hs[i]? = some x) :
    inSl v (i : Int) = true ∧ okL m (slB v) (aOff (slO v) i 2) [.li .i64 0, .li .u64 0] = true ∧ gI m (slB v) (aOff (slO v) i 2) = x.1 ∧ gI m (slB v) (.succ (aOff (slO v) i 2)) = x.2 := by
  have hlt : i < hs.length := (List.getElem?_eq_some_iff.1 hx).1
  rcases h.inv with ⟨rfl, rfl⟩ | ⟨a, o, c, cs, ty, rfl, h1, h2, h3, h4, h5⟩
  · simp at hlt
  obtain ⟨c1, c2⟩ := hCells_get hs i x hx
  have k1 : cs[o + 2 * i]? = some (.int .i64 x.1) := by
    have : (cs.toList.drop o)[2 * i]? = some (.int .i64 x.1) := by rw [← c1, ← h5, List.getElem?_take_of_lt (by omega)]
    simpa using this
  have k2 : cs[o + (2 * i + 1)]? = some (.int .u64 x.2) := by
    have : (cs.toList.drop o)[2 * i + 1]? = some (.int .u64 x.2) := by rw [← c2, ← h5, List.getElem?_take_of_lt (by omega)]
    simpa using this
  have ea : aOff o (i : Int) 2 = o + 2 * i := by simp [aOff]; omega
  have eb : (o + 2 * i).succ = o + (2 * i + 1) := by omega
  simp only [slB, slO, ea, eb]
  refine ⟨?_, ?_, ?_, ?_⟩
  · have : Nat.ble hs.length c = true := Nat.ble_eq_true_of_le h1
    simp [inSl, isSl, slN, this, hlt]
  · unfold okL; rw [mget_of h2]
    simp only [okR, k1, show o + 2 * i + 1 = o + (2 * i + 1) by omega, k2, okC, isK, decide_true, Bool.and_self]
  · unfold gI mcell; rw [mget_of h2]; simp [k1, vI]
  · unfold gI mcell; rw [mget_of h2]; simp [k2, vI]
/-- a part -/
theorem SlH.cut {m : Mem} {v : Value} {hs : List (Int × Int)} (h : SlH m v hs) {l r : Nat} (hl : l ≤ r) (hr : r ≤ hs.length) :
    cutSl v (l : Int) (r : Int) = true ∧ SlH m (cutV v 2 l r) ((hs.drop l).take (r - l)) := by
  rcases h.inv with ⟨rfl, rfl⟩ | ⟨a, o, c, cs, ty, rfl, h1, h2, h3, h4, h5⟩
  · have : r = 0 := by simpa using hr
    subst this
    have : l = 0 := by omega
    subst this
    exact ⟨by decide, SlH.nil0 m⟩
  · have hlen : ((hs.drop l).take (r - l)).length = r - l := by rw [List.length_take, List.length_drop]; omega
    refine ⟨?_, ?_⟩
    · have : Nat.ble hs.length c = true := Nat.ble_eq_true_of_le h1
      simp [cutSl, isSl, this, slK]
      omega
    · have ev : cutV (.slice (some ⟨a, o, none⟩) hs.length c) 2 (l : Int) (r : Int) = .slice (some ⟨a, if c = l then o else o + l * 2, none⟩) ((hs.drop l).take (r - l)).length (c - l) := by
        rw [hlen]; simp only [cutV, Int.toNat_natCast]
      rw [ev]
      refine SlH.of (by rw [hlen]; omega) h2 ?_ h4 ?_
      · split <;> omega
      · rw [hlen]
        by_cases e : c = l
        · rw [if_pos e]
          have : r - l = 0 := by omega
          rw [this]; simp [hCells_nil]
        · rw [if_neg e]
          have e1 : (cs.toList.drop (o + l * 2)).take ((r - l) * 2) = (((cs.toList.drop o).take (hs.length * 2)).drop (l * 2)).take ((r - l) * 2) := by
            rw [List.drop_take, List.drop_drop, List.take_take]
            congr 1
            omega
          rw [e1, h5, hCells_drop, hCells_take]
theorem putV_size : ∀ (vs : List Value) (cs : Array Value) (k : Nat), (putV cs k vs).size = cs.size
  | [], cs, k => rfl
  | v :: r, cs, k => by rw [putV, putV_size r]; simp
theorem putV_list : ∀ (vs : List Value) (cs : Array Value) (k : Nat), k + vs.length ≤ cs.size → (putV cs k vs).toList = cs.toList.take k ++ vs ++ cs.toList.drop (k + vs.length)
  | [], cs, k, h => by simp [putV]
  | v :: r, cs, k, h => by
    simp only [List.length_cons] at h
    rw [putV, putV_list r _ _ (by simp; omega)]
    have e : (cs.setIfInBounds k v).toList = cs.toList.take k ++ v :: cs.toList.drop (k + 1) := by
      rw [Array.toList_setIfInBounds, List.set_eq_take_append_cons_drop, if_pos (by simp; omega)]
    have hk : (cs.toList.take k).length = k := by rw [List.length_take, show cs.toList.length = cs.size from Array.length_toList]; omega
    rw [e, List.take_append, hk, List.drop_append, hk]
    have e2 : List.take (k + 1) (cs.toList.take k) = cs.toList.take k := List.take_of_length_le (by rw [hk]; omega)
    have e3 : List.drop (k + 1 + r.length) (cs.toList.take k) = [] := List.drop_of_length_le (by rw [hk]; omega)
    rw [e2, e3, show k + 1 - k = 1 by omega, show k + 1 + r.length - k = r.length + 1 by omega]
    simp only [List.take_succ_cons, List.take_zero, List.drop_succ_cons, List.drop_drop, List.length_cons, List.append_assoc, List.cons_append, List.nil_append]
    rw [show k + 1 + r.length = k + (r.length + 1) by omega]
theorem wrL_at {m : Mem} {a : Nat} {cs : Array Value} {ty : Nat} {q : Nat × Nat} (h : m a = some (.cells cs ty q)) (k : Nat) (vs : List Value) : wrL m ((a : Int) + 1) k vs = fun x => if x = a then some (.cells (putV cs k vs) ty q) else m x := by
  funext x
  unfold wrL
  rw [show ((a : Int) + 1).toNat = a + 1 by omega]
  by_cases e : x = a
  · subst e; simp [h]
  · simp [e]
theorem zero_plain {z : Array Value} (hz : z.toList.all isPlain = true) (n : Nat) : (Builtin.zeroCells z n).toList.all isPlain = true := by
  unfold Builtin.zeroCells
  rw [List.all_eq_true]
  intro x hx
  simp only [Array.toList_map, List.mem_map, Array.toList_range, List.mem_range] at hx
  obtain ⟨i, hi, rfl⟩ := hx
  have hp : 0 < z.size := by
    rcases Nat.eq_zero_or_pos z.size with h | h
    · rw [h] at hi; simp at hi
    · exact h
  have := Nat.mod_lt i hp
  rw [getElem!_pos z (i % z.size) this]
  exact List.all_eq_true.1 hz _ (by simp)
/-- an append, in a frame -/
theorem SlH.app {m0 m : Mem} {v : Value} {hs xs : List (Int × Int)} {y : Vars} {e : TypeId} (h : SlH m v hs) (hk : ∀ a, m0 a ≠ none → m a = m0 a) (ho : ∀ a : Nat, slB v = (a : Int) + 1 → m0 a = none)
    (hq : appQ m v 2 [.int .i64 0, .int .u64 0] e xs.length (hCells xs) y) : SlH y.m (hdV y.v) (hs ++ xs) ∧ (∀ a, m0 a ≠ none → y.m a = m0 a) ∧ ∀ a : Nat, slB (hdV y.v) = (a : Int) + 1 → m0 a = none := by
  obtain ⟨yi, yb, yv, ym⟩ := y
  simp only [appQ] at hq
  have hl : (hs ++ xs).length = hs.length + xs.length := List.length_append
  rcases hq with ⟨q1, rfl, rfl⟩ | ⟨q1, a, c, q2, q3, rfl, rfl⟩
  · have q1 := Nat.le_of_ble_eq_true q1
    rw [h.n] at q1
    rcases h.inv with ⟨rfl, rfl⟩ | ⟨a, o, c, cs, ty, rfl, h1, h2, h3, h4, h5⟩
    · have : xs = [] := List.length_eq_zero_iff.1 (by simpa [slK] using q1)
      subst this
      have ew : wrL m 0 (slO (Value.slice Option.none 0 0) + slN (Value.slice Option.none 0 0) * 2) (hCells []) = m := by
        funext b; simp [wrL]
      refine ⟨?_, fun a ha => ?_, fun a ha => ho a ha⟩
      · exact SlH.nil0 _
      · exact (congrFun ew a).trans (hk a ha)
    · simp only [slK] at q1
      have hp : o + hs.length * 2 + (hCells xs).length ≤ cs.size := by rw [hCells_len]; omega
      have ew := wrL_at h2 (o + hs.length * 2) (hCells xs)
      refine ⟨?_, fun b hb => ?_, fun b hb => ho b hb⟩
      · show SlH (wrL m ((a : Int) + 1) (o + hs.length * 2) (hCells xs)) (.slice (some ⟨a, o, Option.none⟩) (hs.length + xs.length) c) (hs ++ xs)
        rw [ew, ← hl]
        refine SlH.of (by omega) (if_pos rfl) (by rw [putV_size]; exact h3) ?_ ?_
        · rw [putV_list _ _ _ hp, List.all_append, List.all_append, hCells_plain]
          rw [List.all_eq_true] at h4
          simp only [Bool.and_eq_true, Bool.and_true, List.all_eq_true]
          exact ⟨fun x hx => h4 x (List.mem_of_mem_take hx), fun x hx => h4 x (List.mem_of_mem_drop hx)⟩
        · have hk1 : (cs.toList.take (o + hs.length * 2)).length = o + hs.length * 2 := by rw [List.length_take, show cs.toList.length = cs.size from Array.length_toList]; omega
          rw [putV_list _ _ _ hp, List.append_assoc, List.drop_append_of_le_length (by rw [hk1]; exact Nat.le_add_right _ _), hl, hCells_app]
          have e1 : (cs.toList.take (o + hs.length * 2)).drop o = hCells hs := by rw [List.drop_take, ← h5]; congr 1; omega
          rw [e1, ← List.append_assoc, List.take_append_of_le_length (by rw [List.length_append, hCells_len, hCells_len]; omega), List.take_of_length_le (by rw [List.length_append, hCells_len, hCells_len]; omega)]
      · have hne : b ≠ a := by rintro rfl; exact hb (ho b rfl)
        exact (congrFun ew b).trans ((if_neg hne).trans (hk b hb))
  · rw [h.n] at q3
    have hne : ∀ b, m0 b ≠ Option.none → b ≠ a := by rintro b hb rfl; rw [hk b hb] at q2; exact hb q2
    have hg : alM m ((a : Int) + 1) ((rowL m v 2 ++ hCells xs).toArray ++ Builtin.zeroCells [Value.int .i64 0, Value.int .u64 0].toArray (c - (slN v + xs.length))) e a =
        some (.cells ((rowL m v 2 ++ hCells xs).toArray ++ Builtin.zeroCells [Value.int .i64 0, Value.int .u64 0].toArray (c - (slN v + xs.length))) e (0, 0)) := by
      unfold alM; rw [if_pos (by omega)]
    refine ⟨?_, fun b hb => ?_, fun b hb => ?_⟩
    · show SlH _ (.slice (some ⟨a, 0, Option.none⟩) (slN v + xs.length) c) _
      rw [h.n, ← hl]
      rw [h.n, h.row, ← hl] at hg
      rw [h.row]
      refine SlH.of (by omega) hg ?_ ?_ ?_
      · rw [Array.size_append, size_zeroCells]
        simp only [List.size_toArray, List.length_append, hCells_len, List.length_cons, List.length_nil]; omega
      · rw [Array.toList_append, List.all_append, zero_plain (by rfl), List.all_append, hCells_plain, hCells_plain]; rfl
      · rw [Array.toList_append, List.drop_zero, List.take_append_of_le_length (by simp [hCells_len]; omega), ← hCells_app, hl, List.take_of_length_le (by rw [hCells_len]; simp)]
    · have := hne b hb
      show alM m ((a : Int) + 1) _ e b = m0 b
      unfold alM; rw [if_neg (by omega)]; exact hk b hb
    · have : b = a := by simp only [hdV, slB] at hb; omega
      subst this
      cases hm : m0 b with
      | none => rfl
      | some o => rw [hk b (by rw [hm]; simp), hm] at q2; cases q2
theorem app_ok {m : Mem} {v : Value} {hs xs : List (Int × Int)} (h : SlH m v hs) (hb : hs.length + xs.length < 1048576) : appOK m v 2 16 xs.length (hCells xs) = true := by
  have e := h.n
  simp only [appOK, h.ok, hCells_len, hCells_plain, e, Bool.true_and, Bool.and_eq_true, decide_eq_true_eq]
  refine ⟨⟨⟨trivial, trivial⟩, ?_⟩, ?_⟩ <;> omega


theorem mm_ghostY {P : Program} {S : List Sum} (hN : NameOK P) (hS : ∀ q ∈ S, SumOK P q) {D : DrawX} (hD : DSnd P D) (fuel : Nat) {f : Nat} (args : List V) (m : Mem) (mt : List Nat) {T : Tr} (hT : runm P S D fuel f args m mt = T)
    {G : Type} {pre : G → Prop} {post : G → Vars → Prop} {ret : Vars → V} (yo : V → Mem → Vars) (hp : ∃ g, pre g) (hw : ∀ g, pre g → T.sat (isMemo fun v x => post g (yo v x) ∧ (yo v x).m = x ∧ ∀ ρ, v.den ρ = (ret (yo v x)).den ρ))
    (ρ : Nat → Nat) (w : World) (hm : ∀ a o, m a = some o → w.heap[a]? = some o) {vs : Array Value} (he : vs = (args.map (V.den ρ)).toArray) :
    Calls P f vs w fun e w' => ∃ y, (∀ g, pre g → post g y) ∧ e = .returned ((ret y).den ρ) ∧ MemTo m y.m w w' := by
  refine mm_calls hN hS hD fuel args m mt hT ρ ?_ w hm he
  obtain ⟨g0, h0⟩ := hp
  have key := sat_ghost (G := { g : G // pre g }) ⟨⟨g0, h0⟩⟩ (T := T) (p := fun g v x => post g.1 (yo v x) ∧ (yo v x).m = x ∧ ∀ ρ, v.den ρ = (ret (yo v x)).den ρ) fun ⟨g, hg⟩ => hw g hg
  refine sat_mono (fun l hl => ?_) key
  cases l with
  | memo v x => exact ⟨yo v x, fun g hg => (hl ⟨g, hg⟩).1, (hl ⟨g0, h0⟩).2.2 ρ, (hl ⟨g0, h0⟩).2.1⟩
  | _ => exact hl.elim

/-- a list behind a pointer -/
structure Lst (m : Mem) (p : Int) (v : Value) (hs : List (Int × Int)) : Prop where
  hd : ∃ a : Nat, p = (a : Int) + 1 ∧ m a = some (.cells #[v] 48 (0, 0))
  sl : SlH m v hs
section
variable {m : Mem} {p : Int} {v : Value} {hs : List (Int × Int)}
theorem Lst.nz (h : Lst m p v hs) : nzp p = true := by
  obtain ⟨a, rfl, _⟩ := h.hd
  exact nzp_of (by omega)
theorem Lst.cell (h : Lst m p v hs) : mcell m p 0 = v := by
  obtain ⟨a, rfl, h1⟩ := h.hd
  unfold mcell; rw [mget_of h1]; rfl
theorem Lst.pc (h : Lst m p v hs) : pl (mcell m p 0) = v := by rw [h.cell, h.sl.pl]
theorem SlH.plain (h : SlH m v hs) : isPlain v = true := by
  rcases h.inv with ⟨rfl, _⟩ | ⟨_, _, _, _, _, rfl, _⟩ <;> rfl
theorem Lst.ok (h : Lst m p v hs) : okL m p 0 [.raw (.slice .none 0 0)] = true := by
  obtain ⟨a, rfl, h1⟩ := h.hd
  unfold okL; rw [mget_of h1]
  simp [okR, okC, h.sl.plain]
theorem Lst.more {m' : Mem} (h : Lst m p v hs) (hm : ∀ a, m a ≠ none → m' a = m a) : Lst m' p v hs := by
  obtain ⟨⟨a, rfl, h1⟩, h2⟩ := h
  exact ⟨⟨a, rfl, by rw [hm a (by rw [h1]; simp)]; exact h1⟩, h2.more fun b _ hb => hm b hb⟩
theorem Lst.wr {m1 : Mem} {u : Value} {ks : List (Int × Int)} (h : Lst m p v hs) (hk : ∀ a, m a ≠ none → m1 a = m a) (hu : SlH m1 u ks) (ho : ∀ a : Nat, slB u = (a : Int) + 1 → m a = none) :
    okS m1 p 0 1 = true ∧ Lst (wrL m1 p 0 [u]) p u ks ∧ ∀ a : Nat, m a ≠ none → (a : Int) + 1 ≠ p → wrL m1 p 0 [u] a = m a := by
  obtain ⟨⟨a, rfl, h1⟩, h2⟩ := h
  have h3 : m1 a = some (.cells #[v] 48 (0, 0)) := by rw [hk a (by rw [h1]; simp)]; exact h1
  have e := wrL_at h3 0 [u]
  refine ⟨?_, ⟨⟨a, rfl, ?_⟩, ?_⟩, fun b hb hne => ?_⟩
  · unfold okS; rw [mgetW_of h3]; rfl
  · rw [e]; simp [putV]
  · rw [e]
    refine hu.more fun b hb _ => ?_
    have : b ≠ a := by rintro rfl; have := ho b hb; rw [h1] at this; cases this
    exact if_neg this
  · rw [e]
    have : b ≠ a := by omega
    exact (if_neg this).trans (hk b hb)
end
/-- what becomes of a list that is changed -/
def lstPost (m : Mem) (p : Int) (ks : List (Int × Int)) (y : Vars) : Prop := ∃ u, Lst y.m p u ks ∧ (∀ a : Nat, m a ≠ none → (a : Int) + 1 ≠ p → y.m a = m a) ∧ ∀ a : Nat, slB u = (a : Int) + 1 → m a = none
def lG (m : Mem) (p : Int) (G : Value × List (Int × Int)) : Prop := Lst m p G.1 G.2 ∧ G.2.length < 1000
/-! one put -/
def T_rput (m : Mem) (p : Int) (i : Int) (hs hg : Int) : Tr := (.br (nzp p) (.br (nzp p) (.br (okL m p 0 [(.raw (.slice (.none) 0 0))]) (.br (cutSl (pl (mcell m p 0)) 0 i) (.br (okSl m (pl (cutV (pl (mcell m p 0)) 2 0 i)) 2) (.br (appOK m (.slice (.none) 0 0) 2 16 (slN (pl (cutV (pl (mcell m p 0)) 2 0 i))) (rowL m (pl (cutV (pl (mcell m p 0)) 2 0 i)) 2)) (.any (appQ m (.slice (.none) 0 0) 2 [(.int .i64 0), (.int .u64 0)] 29 (slN (pl (cutV (pl (mcell m p 0)) 2 0 i))) (rowL m (pl (cutV (pl (mcell m p 0)) 2 0 i)) 2)) (fun y0 => (.br true (.br (appOK y0.4 (pl (hdV y0.3)) 2 16 1 [(.int .i64 hs), (.int .u64 hg)]) (.any (appQ y0.4 (pl (hdV y0.3)) 2 [(.int .i64 0), (.int .u64 0)] 29 1 [(.int .i64 hs), (.int .u64 hg)]) (fun y1 => (.br (nzp p) (.br (nzp p) (.br (okL y1.4 p 0 [(.raw (.slice (.none) 0 0))]) (.br (cutSl (pl (mcell y1.4 p 0)) i (slN (pl (mcell y1.4 p 0)))) (.br (okSl y1.4 (pl (cutV (pl (mcell y1.4 p 0)) 2 i (slN (pl (mcell y1.4 p 0))))) 2) (.br (appOK y1.4 (pl (hdV y1.3)) 2 16 (slN (pl (cutV (pl (mcell y1.4 p 0)) 2 i (slN (pl (mcell y1.4 p 0)))))) (rowL y1.4 (pl (cutV (pl (mcell y1.4 p 0)) 2 i (slN (pl (mcell y1.4 p 0))))) 2)) (.any (appQ y1.4 (pl (hdV y1.3)) 2 [(.int .i64 0), (.int .u64 0)] 29 (slN (pl (cutV (pl (mcell y1.4 p 0)) 2 i (slN (pl (mcell y1.4 p 0)))))) (rowL y1.4 (pl (cutV (pl (mcell y1.4 p 0)) 2 i (slN (pl (mcell y1.4 p 0))))) 2)) (fun y2 => (.br (nzp p) (.br (nzp p) (.br (okS y2.4 p 0 1) (.letm (wrL y2.4 p 0 [(pl (hdV y2.3))]) (fun m1 => (.leaf (.memo (.tup []) m1)))) (.no 72)) (.no 76)) (.no 75)))) (.no 120)) (.no 121)) (.no 107)) (.no 70)) (.no 76)) (.no 75)))) (.no 120)) (.no 121)))) (.no 120)) (.no 121)) (.no 107)) (.no 70)) (.no 76)) (.no 75))
theorem rput_walk {m : Mem} {p : Int} {v : Value} {hs : List (Int × Int)} (h : Lst m p v hs) (hl : hs.length < 1000) {i : Nat} (hi : i ≤ hs.length) {s g : Int} :
    (T_rput m p i s g).sat (isMemo fun w x => lstPost m p (hs.take i ++ (s, g) :: hs.drop i) ⟨[], [], [], x⟩ ∧ w = .tup []) := by
  unfold T_rput
  obtain ⟨k1, k2⟩ := h.sl.cut (l := 0) (r := i) (Nat.zero_le _) hi
  have k1 : cutSl v 0 (i : Int) = true := k1
  have k2 : SlH m (cutV v 2 0 i) ((hs.drop 0).take (i - 0)) := k2
  simp only [h.pc, k2.pl, k2.n, k2.row]
  have hxl : ((hs.drop 0).take (i - 0)).length ≤ hs.length := by rw [List.length_take, List.length_drop]; omega
  rw [brT h.nz, brT h.nz, brT h.ok, brT k1, brT k2.ok, brT (app_ok (SlH.nil0 m) (by simp only [List.length_nil]; omega)), sat_any]
  intro y0 hq0
  obtain ⟨s0, s1, s2⟩ := SlH.app (m0 := m) (SlH.nil0 m) (fun _ _ => rfl) (fun a ha => by simp only [slB] at ha; omega) hq0
  rw [List.nil_append] at s0
  simp only [s0.pl]
  have ka : appOK y0.m (hdV y0.v) 2 16 1 [Value.int .i64 s, Value.int .u64 g] = true := app_ok (xs := [(s, g)]) s0 (by simp only [List.length_cons, List.length_nil]; omega)
  rw [brT rfl, brT ka, sat_any]
  intro y1 hq1
  obtain ⟨t0, t1, t2⟩ := SlH.app (m0 := m) (xs := [(s, g)]) s0 s1 s2 hq1
  have h1 := h.more t1
  obtain ⟨k3, k4⟩ := h1.sl.cut (l := i) (r := hs.length) hi (Nat.le_refl _)
  simp only [h1.pc, h.sl.n, t0.pl, k4.pl, k4.n, k4.row]
  have hxl2 : ((hs.drop i).take (hs.length - i)).length ≤ hs.length := by rw [List.length_take, List.length_drop]; omega
  rw [brT h.nz, brT h.nz, brT h1.ok, brT k3, brT k4.ok, brT (app_ok t0 (by simp only [List.length_append, List.length_cons, List.length_nil]; omega)), sat_any]
  intro y2 hq2
  obtain ⟨u0, u1, u2⟩ := SlH.app (m0 := m) t0 t1 t2 hq2
  simp only [u0.pl]
  obtain ⟨w1, w2, w3⟩ := h.wr u1 u0 u2
  rw [brT h.nz, brT h.nz, brT w1, sat_letm]
  refine ⟨⟨_, ?_, w3, u2⟩, rfl⟩
  have e : (List.take (i - 0) (List.drop 0 hs) ++ [(s, g)] ++ List.take (hs.length - i) (List.drop i hs)) = hs.take i ++ (s, g) :: hs.drop i := by
    rw [List.drop_zero, Nat.sub_zero, List.append_assoc, List.take_of_length_le (l := hs.drop i) (by rw [List.length_drop]; exact Nat.le_refl _)]; rfl
  rw [e] at w2
  exact w2
def rputP (m : Mem) (p i hs hg : Int) : Prop := ∃ G : Value × List (Int × Int), lG m p G ∧ 0 ≤ i ∧ i ≤ G.2.length
def rputQ (m : Mem) (p i hs hg : Int) (y : Vars) : Prop := ∀ G : Value × List (Int × Int), (lG m p G ∧ 0 ≤ i ∧ i ≤ G.2.length) → lstPost m p (G.2.take i.toNat ++ (hs, hg) :: G.2.drop i.toNat) y
def s_rput : Sum := memSum 54 fun m a => match a with | [a0, a1, a2] => (match ptrOf a0, intOf a1, hanOf a2 with | some p, some i, some (hs, hg) => some ⟨rputP m p i hs hg, rputQ m p i hs hg, fun y => .tup []⟩ | _, _, _ => none) | _ => none
theorem t_rput (m : Mem) (p : Int) (i : Int) (hs hg : Int) : runm Try.prog [] (drawx Try.prog []) 300 54 [.u (.c (.np p 0)), .u (.c (.si .i64 i)), .u (.agg [.si .i64 hs, .si .u64 hg])] m [98] = T_rput m p i hs hg := by kernel_rfl
theorem s_rput_ok : SumOK Try.prog s_rput := by
  refine memSum_ok ⟨_, Try.func54, by kernel_rfl⟩ fun m args ms h hp hw ρ w hm => ?_
  split at h
  · split at h
    · rename_i a0 a1 a2 _ _ _ p i hs hg h0 h1 h2
      cases h
      refine mm_ghostY nameOK okn (dOK okn) 300 _ m _ (t_rput m p i hs hg) (fun _ x => ⟨[], [], [], x⟩) hp (fun G hG => ?_) ρ w hm (by simp only [List.map_cons, List.map_nil, ptrOf_den h0, intOf_den h1, hanOf_den h2])
      obtain ⟨⟨g1, g2⟩, g3, g4⟩ := hG
      obtain ⟨j, rfl⟩ : ∃ j : Nat, i = j := ⟨i.toNat, by omega⟩
      refine sat_mono (fun l hl => ?_) (rput_walk g1 g2 (i := j) (by omega))
      cases l with
      | memo v x => exact ⟨by rw [Int.toNat_natCast]; exact hl.1, rfl, fun ρ => by rw [hl.2]⟩
      | _ => exact hl.elim
    · cases h
  · cases h
/-! one taken out -/
def T_rcut (m : Mem) (p : Int) (i : Int) : Tr := (.br (nzp p) (.br (nzp p) (.br (okL m p 0 [(.raw (.slice (.none) 0 0))]) (.br (inSl (pl (mcell m p 0)) i) (.br (okL m (slB (pl (mcell m p 0))) (aOff (slO (pl (mcell m p 0))) i 2) [(.li .i64 0), (.li .u64 0)]) (.br (nzp p) (.br (nzp p) (.br (okL m p 0 [(.raw (.slice (.none) 0 0))]) (.br (cutSl (pl (mcell m p 0)) 0 i) (.br (okSl m (pl (cutV (pl (mcell m p 0)) 2 0 i)) 2) (.br (appOK m (.slice (.none) 0 0) 2 16 (slN (pl (cutV (pl (mcell m p 0)) 2 0 i))) (rowL m (pl (cutV (pl (mcell m p 0)) 2 0 i)) 2)) (.any (appQ m (.slice (.none) 0 0) 2 [(.int .i64 0), (.int .u64 0)] 29 (slN (pl (cutV (pl (mcell m p 0)) 2 0 i))) (rowL m (pl (cutV (pl (mcell m p 0)) 2 0 i)) 2)) (fun y0 => (.br (nzp p) (.br (nzp p) (.br (okL y0.4 p 0 [(.raw (.slice (.none) 0 0))]) (.br (cutSl (pl (mcell y0.4 p 0)) (iAdd .i64 i 1) (slN (pl (mcell y0.4 p 0)))) (.br (okSl y0.4 (pl (cutV (pl (mcell y0.4 p 0)) 2 (iAdd .i64 i 1) (slN (pl (mcell y0.4 p 0))))) 2) (.br (appOK y0.4 (pl (hdV y0.3)) 2 16 (slN (pl (cutV (pl (mcell y0.4 p 0)) 2 (iAdd .i64 i 1) (slN (pl (mcell y0.4 p 0)))))) (rowL y0.4 (pl (cutV (pl (mcell y0.4 p 0)) 2 (iAdd .i64 i 1) (slN (pl (mcell y0.4 p 0))))) 2)) (.any (appQ y0.4 (pl (hdV y0.3)) 2 [(.int .i64 0), (.int .u64 0)] 29 (slN (pl (cutV (pl (mcell y0.4 p 0)) 2 (iAdd .i64 i 1) (slN (pl (mcell y0.4 p 0)))))) (rowL y0.4 (pl (cutV (pl (mcell y0.4 p 0)) 2 (iAdd .i64 i 1) (slN (pl (mcell y0.4 p 0))))) 2)) (fun y1 => (.br (nzp p) (.br (nzp p) (.br (okS y1.4 p 0 1) (.letm (wrL y1.4 p 0 [(pl (hdV y1.3))]) (fun m1 => (.leaf (.memo (.u (.agg [(.si .i64 (gI m (slB (pl (mcell m p 0))) (aOff (slO (pl (mcell m p 0))) i 2))), (.si .u64 (gI m (slB (pl (mcell m p 0))) (.succ (aOff (slO (pl (mcell m p 0))) i 2))))])) m1)))) (.no 72)) (.no 76)) (.no 75)))) (.no 120)) (.no 121)) (.no 107)) (.no 70)) (.no 76)) (.no 75)))) (.no 120)) (.no 121)) (.no 107)) (.no 70)) (.no 76)) (.no 75)) (.no 70)) (.no 104)) (.no 70)) (.no 76)) (.no 75))
theorem rcut_walk {m : Mem} {p : Int} {v : Value} {hs : List (Int × Int)} (h : Lst m p v hs) (hl : hs.length < 1000) {i : Nat} (hi : i < hs.length) :
    (T_rcut m p i).sat (isMemo fun w x => lstPost m p (hs.eraseIdx i) ⟨[], [], [], x⟩ ∧ ∃ a b, w = .u (.agg [.si .i64 a, .si .u64 b])) := by
  unfold T_rcut
  obtain ⟨k1, k2⟩ := h.sl.cut (l := 0) (r := i) (Nat.zero_le _) (by omega)
  have k1 : cutSl v 0 (i : Int) = true := k1
  have k2 : SlH m (cutV v 2 0 i) ((hs.drop 0).take (i - 0)) := k2
  have hi1 : iAdd .i64 (i : Int) 1 = ((i + 1 : Nat) : Int) := by rw [iadd_i (by omega)]; omega
  obtain ⟨x, hx⟩ : ∃ x, hs[i]? = some x := ⟨hs[i], by rw [List.getElem?_eq_getElem hi]⟩
  obtain ⟨q1, q2, q3, q4⟩ := h.sl.get hx
  simp only [h.pc, k2.pl, k2.n, k2.row, hi1]
  have hxl : ((hs.drop 0).take (i - 0)).length ≤ hs.length := by rw [List.length_take, List.length_drop]; omega
  rw [brT h.nz, brT h.nz, brT h.ok, brT q1, brT q2, brT h.nz, brT h.nz, brT h.ok, brT k1, brT k2.ok, brT (app_ok (SlH.nil0 m) (by simp only [List.length_nil]; omega)), sat_any]
  intro y0 hq0
  obtain ⟨s0, s1, s2⟩ := SlH.app (m0 := m) (SlH.nil0 m) (fun _ _ => rfl) (fun a ha => by simp only [slB] at ha; omega) hq0
  rw [List.nil_append] at s0
  have h1 := h.more s1
  obtain ⟨k3, k4⟩ := h1.sl.cut (l := i + 1) (r := hs.length) hi (Nat.le_refl _)
  simp only [h1.pc, h.sl.n, s0.pl, k4.pl, k4.n, k4.row]
  have hxl2 : ((hs.drop (i + 1)).take (hs.length - (i + 1))).length ≤ hs.length := by rw [List.length_take, List.length_drop]; omega
  rw [brT h.nz, brT h.nz, brT h1.ok, brT k3, brT k4.ok, brT (app_ok s0 (by omega)), sat_any]
  intro y2 hq2
  obtain ⟨u0, u1, u2⟩ := SlH.app (m0 := m) s0 s1 s2 hq2
  simp only [u0.pl]
  obtain ⟨w1, w2, w3⟩ := h.wr u1 u0 u2
  rw [brT h.nz, brT h.nz, brT w1, sat_letm]
  refine ⟨⟨_, ?_, w3, u2⟩, _, _, rfl⟩
  have e : (List.take (i - 0) (List.drop 0 hs) ++ List.take (hs.length - (i + 1)) (List.drop (i + 1) hs)) = hs.eraseIdx i := by
    rw [List.drop_zero, Nat.sub_zero, List.take_of_length_le (l := hs.drop (i + 1)) (by rw [List.length_drop]; exact Nat.le_refl _), List.eraseIdx_eq_take_drop_succ]
  rw [e] at w2
  exact w2
def rcutP (m : Mem) (p i : Int) : Prop := ∃ G : Value × List (Int × Int), lG m p G ∧ 0 ≤ i ∧ i < G.2.length
def rcutQ (m : Mem) (p i : Int) (y : Vars) : Prop := ∀ G : Value × List (Int × Int), (lG m p G ∧ 0 ≤ i ∧ i < G.2.length) → lstPost m p (G.2.eraseIdx i.toNat) y
def yHan (v : V) (m : Mem) : Vars :=
  match v with
  | .u (.agg [a, b]) => ⟨[cI a, cI b], [], [], m⟩
  | _ => ⟨[], [], [], m⟩
def s_rcut : Sum := memSum 22 fun m a => match a with | [a0, a1] => (match ptrOf a0, intOf a1 with | some p, some i => some ⟨rcutP m p i, rcutQ m p i, fun y => .u (.agg [.si .i64 (hdI y.i), .si .u64 (hdI (tlI y.i))])⟩ | _, _ => none) | _ => none
theorem t_rcut (m : Mem) (p : Int) (i : Int) : runm Try.prog [] (drawx Try.prog []) 300 22 [.u (.c (.np p 0)), .u (.c (.si .i64 i))] m [98] = T_rcut m p i := by kernel_rfl
theorem s_rcut_ok : SumOK Try.prog s_rcut := by
  refine memSum_ok ⟨_, Try.func22, by kernel_rfl⟩ fun m args ms h hp hw ρ w hm => ?_
  split at h
  · split at h
    · rename_i a0 a1 _ _ p i h0 h1
      cases h
      refine mm_ghostY nameOK okn (dOK okn) 300 _ m _ (t_rcut m p i) yHan hp (fun G hG => ?_) ρ w hm (by simp only [List.map_cons, List.map_nil, ptrOf_den h0, intOf_den h1])
      obtain ⟨⟨g1, g2⟩, g3, g4⟩ := hG
      obtain ⟨j, rfl⟩ : ∃ j : Nat, i = j := ⟨i.toNat, by omega⟩
      refine sat_mono (fun l hl => ?_) (rcut_walk g1 g2 (i := j) (by omega))
      cases l with
      | memo v x =>
        obtain ⟨h1, a, b, rfl⟩ := hl
        exact ⟨by rw [Int.toNat_natCast]; exact h1, rfl, fun ρ => rfl⟩
      | _ => exact hl.elim
    · cases h
  · cases h
/-! where one stands -/
def rAt (hs : List (Int × Int)) (x : Int × Int) (r : Int) : Prop := (∃ j : Nat, r = j ∧ hs[j]? = some x) ∨ (r = -1 ∧ ∀ y ∈ hs, y ≠ x)
def T_ratk (m : Mem) (p : Int) (hs hg : Int) : Tr := (.lp (.mk [0] [] [] m) (fun y0 j0 => (.br (nzp p) (.br (nzp p) (.br (okL y0.4 p 0 [(.raw (.slice (.none) 0 0))]) (.br (isSlV (pl (mcell y0.4 p 0))) (.br (iLt (hdI y0.1) (slN (pl (mcell y0.4 p 0)))) (.br (nzp p) (.br (nzp p) (.br (okL y0.4 p 0 [(.raw (.slice (.none) 0 0))]) (.br (inSl (pl (mcell y0.4 p 0)) (hdI y0.1)) (.br (okL y0.4 (slB (pl (mcell y0.4 p 0))) (aOff (slO (pl (mcell y0.4 p 0))) (hdI y0.1) 2) [(.li .i64 0), (.li .u64 0)]) (.br (bAnd (iEq (gI y0.4 (slB (pl (mcell y0.4 p 0))) (aOff (slO (pl (mcell y0.4 p 0))) (hdI y0.1) 2)) hs) (iEq (gI y0.4 (slB (pl (mcell y0.4 p 0))) (.succ (aOff (slO (pl (mcell y0.4 p 0))) (hdI y0.1) 2))) hg)) (.leaf (.up (.memo (.u (.c (.si .i64 (hdI y0.1)))) y0.4))) (.req ((([(0, (.u (.c (.np p 0)))), (3, (.u (.c (.ptr 0 0))))] : List (Nat × V)) = [(0, (.u (.c (.np p 0)))), (3, (.u (.c (.ptr 0 0))))]) ∧ (([(0, ([(.si .i64 hs), (.si .u64 hg)], 29))] : List (Nat × Blk)) = [(0, ([(.si .i64 hs), (.si .u64 hg)], 29))])) (.leaf (.again (.mk [(iAdd .i64 (hdI y0.1) 1)] [] [] y0.4))))) (.no 70)) (.no 104)) (.no 70)) (.no 76)) (.no 75)) (.leaf (.up (.memo (.u (.c (.li .i64 (-1)))) y0.4)))) (.no 123)) (.no 70)) (.no 76)) (.no 75))))
theorem ratk_walk {m : Mem} {p : Int} {v : Value} {hs : List (Int × Int)} (h : Lst m p v hs) (hl : hs.length < 1000) {s g : Int} :
    (T_ratk m p s g).sat (isMemo fun w x => (∃ r, (yOf w x).i = [r] ∧ rAt hs (s, g) r) ∧ x = m ∧ ∀ ρ, w.den ρ = V.den ρ (.u (.c (.si .i64 (hdI (yOf w x).i))))) := by
  unfold T_ratk
  let J : Nat → Vars → Prop := fun N y => ∃ i : Nat, N = hs.length - i ∧ y = ⟨[(i : Int)], [], [], m⟩ ∧ ∀ (k : Nat), k < i → hs[k]? ≠ some (s, g)
  refine lp_idx J (n0 := hs.length) ⟨0, rfl, rfl, fun k hk => absurd hk (Nat.not_lt_zero _)⟩ ?_
  rintro N y _ ⟨i, rfl, rfl, hno⟩
  simp only [hdI, h.pc, h.sl.n]
  rw [brT h.nz, brT h.nz, brT h.ok, brT h.sl.isv]
  by_cases hlt : i < hs.length
  · obtain ⟨x, hx⟩ : ∃ x, hs[i]? = some x := ⟨hs[i], by rw [List.getElem?_eq_getElem hlt]⟩
    obtain ⟨q1, q2, q3, q4⟩ := h.sl.get hx
    rw [brT (by simp only [iLt, decide_eq_true_eq]; omega), brT h.nz, brT h.nz, brT h.ok, brT q1, brT q2, q3, q4]
    by_cases he : x = (s, g)
    · subst he
      rw [brT (by simp [iEq, bAnd])]
      exact ⟨⟨(i : Int), rfl, .inl ⟨i, rfl, hx⟩⟩, rfl, fun ρ => rfl⟩
    · have hb : bAnd (iEq x.1 s) (iEq x.2 g) = false := by
        obtain ⟨x1, x2⟩ := x
        simp only [Prod.mk.injEq] at he
        simp only [bAnd, iEq, Bool.and_eq_false_iff, beq_eq_false_iff_ne]
        rcases Classical.em (x1 = s) with e | e
        · exact .inr fun e2 => he ⟨e, e2⟩
        · exact .inl e
      rw [brF hb, sat_req, iadd_i (by omega), show (i : Int) + 1 = ((i + 1 : Nat) : Int) by omega]
      refine ⟨by simp, hs.length - (i + 1), by omega, i + 1, rfl, rfl, fun k hk => ?_⟩
      rcases Nat.eq_or_lt_of_le (Nat.le_of_lt_succ hk) with e | e
      · subst e; rw [hx]; intro e2; cases e2; exact he rfl
      · exact hno k e
  · rw [brF (by simp only [iLt, decide_eq_false_iff_not]; omega)]
    refine ⟨⟨-1, rfl, .inr ⟨rfl, fun y hy e => ?_⟩⟩, rfl, fun ρ => rfl⟩
    subst e
    obtain ⟨k, hk⟩ := List.getElem?_of_mem hy
    have := (List.getElem?_eq_some_iff.1 hk).1
    exact hno k (by omega) hk
def ratkP (m : Mem) (p hs hg : Int) : Prop := ∃ G : Value × List (Int × Int), lG m p G
def ratkQ (m : Mem) (p hs hg : Int) (y : Vars) : Prop := ∀ G : Value × List (Int × Int), lG m p G → (∃ r, y.i = [r] ∧ rAt G.2 (hs, hg) r) ∧ y.m = m
def s_ratk : Sum := memSum 21 fun m a => match a with | [a0, a1] => (match ptrOf a0, hanOf a1 with | some p, some (hs, hg) => some ⟨ratkP m p hs hg, ratkQ m p hs hg, fun y => .u (.c (.si .i64 (hdI y.i)))⟩ | _, _ => none) | _ => none
theorem t_ratk (m : Mem) (p : Int) (hs hg : Int) : runm Try.prog [] (drawl Try.prog [] (fun _ _ => some ⟨[5], [], [0, 3], [0]⟩)) 300 21 [.u (.c (.np p 0)), .u (.agg [.si .i64 hs, .si .u64 hg])] m [98] = T_ratk m p hs hg := by kernel_rfl
theorem s_ratk_ok : SumOK Try.prog s_ratk := by
  refine memSum_ok ⟨_, Try.func21, by kernel_rfl⟩ fun m args ms h hp hw ρ w hm => ?_
  split at h
  · split at h
    · rename_i a0 a1 _ _ p hs hg h0 h1
      cases h
      refine mm_ghost nameOK okn (drawl_sound nameOK okn (by kernel_rfl) _) 300 _ m _ (t_ratk m p hs hg) hp (fun G hG => ?_) ρ w hm (by simp only [List.map_cons, List.map_nil, ptrOf_den h0, hanOf_den h1])
      obtain ⟨g1, g2⟩ := hG
      refine sat_mono (fun l hl => ?_) (ratk_walk g1 g2)
      cases l with
      | memo v x => exact ⟨⟨hl.1, (yOf_m _ _).trans hl.2.1⟩, yOf_m _ _, hl.2.2⟩
      | _ => exact hl.elim
    · cases h
  · cases h
/-! one put, where it may be -/
def T_rins (m : Mem) (p : Int) (i : Int) (hs hg : Int) : Tr := (.br (iLt i 0) (.leaf (.memo (.u (.c (.li .i64 2))) m)) (.br (nzp p) (.br (nzp p) (.br (nzp p) (.br (okL m p 0 [(.raw (.slice (.none) 0 0))]) (.br (isSlV (pl (mcell m p 0))) (.br (iGt i (slN (pl (mcell m p 0)))) (.leaf (.memo (.u (.c (.li .i64 2))) m)) (.br (nzp p) (.br (nzp p) (.req (ratkP m p hs hg) (.any (ratkQ m p hs hg) (fun y0 => (.br (iGe (hdI y0.1) 0) (.leaf (.memo (.u (.c (.li .i64 7))) y0.4)) (.br (nzp p) (.br (nzp p) (.req (rputP y0.4 p i hs hg) (.any (rputQ y0.4 p i hs hg) (fun y1 => (.leaf (.memo (.u (.c (.li .i64 0))) y1.4))))) (.no 76)) (.no 75)))))) (.no 76)) (.no 75))) (.no 123)) (.no 70)) (.no 76)) (.no 76)) (.no 75)))
def rinsPost (m : Mem) (p : Int) (hs : List (Int × Int)) (i s g : Int) (y : Vars) : Prop :=
  ((i < 0 ∨ (hs.length : Int) < i) ∧ y.i = [2] ∧ y.m = m) ∨ (0 ≤ i ∧ i ≤ hs.length ∧ (s, g) ∈ hs ∧ y.i = [7] ∧ y.m = m) ∨
  (0 ≤ i ∧ i ≤ hs.length ∧ (∀ x ∈ hs, x ≠ (s, g)) ∧ y.i = [0] ∧ lstPost m p (hs.take i.toNat ++ (s, g) :: hs.drop i.toNat) y)
theorem rins_walk {m : Mem} {p : Int} {v : Value} {hs : List (Int × Int)} (h : Lst m p v hs) (hl : hs.length < 1000) {i s g : Int} :
    (T_rins m p i s g).sat (isMemo fun w x => rinsPost m p hs i s g (yOf w x) ∧ ∀ ρ, w.den ρ = V.den ρ (.u (.c (.si .i64 (hdI (yOf w x).i))))) := by
  unfold T_rins
  by_cases h0 : i < 0
  · rw [brT (by simp [iLt, h0])]
    exact ⟨.inl ⟨.inl h0, rfl, rfl⟩, fun ρ => rfl⟩
  rw [brF (by simp [iLt, h0])]
  simp only [h.pc, h.sl.n]
  rw [brT h.nz, brT h.nz, brT h.nz, brT h.ok, brT h.sl.isv]
  by_cases h1 : (hs.length : Int) < i
  · rw [brT (by simp [iGt, h1])]
    exact ⟨.inl ⟨.inr h1, rfl, rfl⟩, fun ρ => rfl⟩
  rw [brF (by simp [iGt]; omega), brT h.nz, brT h.nz, sat_req]
  have hG : lG m p (v, hs) := ⟨h, hl⟩
  refine ⟨⟨_, hG⟩, ?_⟩
  rw [sat_any]
  rintro ⟨yi, yb, yv, ym⟩ hy
  obtain ⟨⟨r, e1, e2⟩, e3⟩ := hy _ hG
  simp only at e1 e2 e3
  subst e1 e3
  simp only [hdI]
  rcases e2 with ⟨j, rfl, hj⟩ | ⟨rfl, hno⟩
  · rw [brT (by simp only [iGe, decide_eq_true_eq, ge_iff_le]; omega)]
    exact ⟨.inr (.inl ⟨by omega, by omega, List.mem_of_getElem? hj, rfl, rfl⟩), fun ρ => rfl⟩
  · rw [brF (by simp [iGe]), brT h.nz, brT h.nz, sat_req]
    have hG2 : lG ym p (v, hs) ∧ 0 ≤ i ∧ i ≤ hs.length := ⟨hG, by omega, by omega⟩
    refine ⟨⟨_, hG2⟩, ?_⟩
    rw [sat_any]
    intro y1 hy1
    exact ⟨.inr (.inr ⟨by omega, by omega, hno, rfl, hy1 _ hG2⟩), fun ρ => rfl⟩
def rinsP (m : Mem) (p i hs hg : Int) : Prop := ∃ G : Value × List (Int × Int), lG m p G
def rinsQ (m : Mem) (p i hs hg : Int) (y : Vars) : Prop := ∀ G : Value × List (Int × Int), lG m p G → rinsPost m p G.2 i hs hg y
def s_rins : Sum := memSum 23 fun m a => match a with | [a0, a1, a2] => (match ptrOf a0, intOf a1, hanOf a2 with | some p, some i, some (hs, hg) => some ⟨rinsP m p i hs hg, rinsQ m p i hs hg, fun y => .u (.c (.si .i64 (hdI y.i)))⟩ | _, _, _ => none) | _ => none
theorem t_rins (m : Mem) (p : Int) (i : Int) (hs hg : Int) : runm Try.prog [s_ratk, s_rput] (drawx Try.prog [s_ratk, s_rput]) 300 23 [.u (.c (.np p 0)), .u (.c (.si .i64 i)), .u (.agg [.si .i64 hs, .si .u64 hg])] m [98] = T_rins m p i hs hg := by kernel_rfl
theorem s_rins_ok : SumOK Try.prog s_rins := by
  refine memSum_ok ⟨_, Try.func23, by kernel_rfl⟩ fun m args ms h hp hw ρ w hm => ?_
  split at h
  · split at h
    · rename_i a0 a1 a2 _ _ _ p i hs hg h0 h1 h2
      cases h
      refine mm_ghost nameOK (okc s_ratk_ok (okc s_rput_ok okn)) (dOK (okc s_ratk_ok (okc s_rput_ok okn))) 300 _ m _ (t_rins m p i hs hg) hp (fun G hG => ?_) ρ w hm (by simp only [List.map_cons, List.map_nil, ptrOf_den h0, intOf_den h1, hanOf_den h2])
      obtain ⟨g1, g2⟩ := hG
      refine sat_mono (fun l hl => ?_) (rins_walk g1 g2)
      cases l with
      | memo v x => exact ⟨hl.1, yOf_m _ _, hl.2⟩
      | _ => exact hl.elim
    · cases h
  · cases h


theorem idx_ok {S : TS} {t : T} {n : Nat} (hT : Tre S t n) {i : Nat} {s g : Int} {y : Vars} (h : idxPost (nodes t) s g y) (hx : (hans t)[i]? = some (s, g)) : y.i = [(i : Int)] ∧ y.b = [true] := by
  rcases h with ⟨j, p, h1, h2, h3⟩ | ⟨h1, _⟩
  · have := hT.inj (hans_get h1) hx
    subst this
    exact ⟨h2, h3⟩
  · obtain ⟨p, hp⟩ := hans_nodes hx
    exact absurd ⟨rfl, rfl⟩ (h1 _ (List.mem_of_getElem? hp))
theorem idx_no {t : T} {s g : Int} {y : Vars} (h : idxPost (nodes t) s g y) (hx : ∀ x ∈ hans t, x ≠ (s, g)) : y.i = [0] ∧ y.b = [false] := by
  rcases h with ⟨j, p, h1, h2, h3⟩ | ⟨_, h2, h3⟩
  · exact absurd rfl (hx _ (List.mem_of_getElem? (hans_get h1)))
  · exact ⟨h2, h3⟩
structure AG where
  S : TS
  b : Mem
  t : T
  n : Nat
  v : Value
def AG.is (G : AG) (m : Mem) (p r : Int) : Prop := (TG.mk G.S G.b G.t G.n).is m p ∧ G.t.size < 1000 ∧ Lst m r G.v (hans G.t)
def AG.post (G : AG) (y : Vars) : Prop := y.b = [true] ∧ ∃ b', y.m = G.S.mem b' ∧ (∀ a, G.b a ≠ none → b' a = G.b a) ∧ (Fre G.S G.b → Fre G.S b')
def T_alike (m : Mem) (t : Int) (r : Int) : Tr := (.req (allP m t) (.any (allQ m t) (fun y0 => (.br (isSlV (pl (hdV y0.3))) (.br (nzp r) (.br (nzp r) (.br (nzp r) (.br (okL y0.4 r 0 [(.raw (.slice (.none) 0 0))]) (.br (isSlV (pl (mcell y0.4 r 0))) (.br (iNe (slN (pl (hdV y0.3))) (slN (pl (mcell y0.4 r 0)))) (.leaf (.memo (.u (.c (.lb false))) y0.4)) (.req (lenOK y0.4 t) (.br (isSlV (pl (hdV y0.3))) (.br (iNe (lenV y0.4 t) (slN (pl (hdV y0.3)))) (.leaf (.memo (.u (.c (.lb false))) y0.4)) (.req (deepsOK y0.4 t) (.br (isSlV (pl (hdV y0.3))) (.req (digitsOK y0.4 (iAdd .i64 (slN (pl (hdV y0.3))) 1)) (.br (iGt (deepsV y0.4 t) (iMul .i64 2 (digitsV y0.4 (iAdd .i64 (slN (pl (hdV y0.3))) 1)))) (.leaf (.memo (.u (.c (.lb false))) y0.4)) (.lp (.mk [0] [] [] y0.4) (fun y1 j1 => (.br (isSlV (pl (hdV y0.3))) (.br (iLt (hdI y1.1) (slN (pl (hdV y0.3)))) (.req (atP y1.4 t (hdI y1.1)) (.any (atQ y1.4 t (hdI y1.1)) (fun y2 => (.br (inSl (pl (hdV y0.3)) (hdI y1.1)) (.br (okL y2.4 (slB (pl (hdV y0.3))) (aOff (slO (pl (hdV y0.3))) (hdI y1.1) 2) [(.li .i64 0), (.li .u64 0)]) (.req (indexP y2.4 t (gI y2.4 (slB (pl (hdV y0.3))) (aOff (slO (pl (hdV y0.3))) (hdI y1.1) 2)) (gI y2.4 (slB (pl (hdV y0.3))) (.succ (aOff (slO (pl (hdV y0.3))) (hdI y1.1) 2)))) (.any (indexQ y2.4 t (gI y2.4 (slB (pl (hdV y0.3))) (aOff (slO (pl (hdV y0.3))) (hdI y1.1) 2)) (gI y2.4 (slB (pl (hdV y0.3))) (.succ (aOff (slO (pl (hdV y0.3))) (hdI y1.1) 2)))) (fun y3 => (.br (inSl (pl (hdV y0.3)) (hdI y1.1)) (.br (okL y3.4 (slB (pl (hdV y0.3))) (aOff (slO (pl (hdV y0.3))) (hdI y1.1) 2) [(.li .i64 0), (.li .u64 0)]) (.br (nzp r) (.br (nzp r) (.br (nzp r) (.br (okL y3.4 r 0 [(.raw (.slice (.none) 0 0))]) (.br (inSl (pl (mcell y3.4 r 0)) (hdI y1.1)) (.br (okL y3.4 (slB (pl (mcell y3.4 r 0))) (aOff (slO (pl (mcell y3.4 r 0))) (hdI y1.1) 2) [(.li .i64 0), (.li .u64 0)]) (.br (bNot (bAnd (iEq (gI y3.4 (slB (pl (hdV y0.3))) (aOff (slO (pl (hdV y0.3))) (hdI y1.1) 2)) (gI y3.4 (slB (pl (mcell y3.4 r 0))) (aOff (slO (pl (mcell y3.4 r 0))) (hdI y1.1) 2))) (iEq (gI y3.4 (slB (pl (hdV y0.3))) (.succ (aOff (slO (pl (hdV y0.3))) (hdI y1.1) 2))) (gI y3.4 (slB (pl (mcell y3.4 r 0))) (.succ (aOff (slO (pl (mcell y3.4 r 0))) (hdI y1.1) 2)))))) (.leaf (.up (.memo (.u (.c (.lb false))) y3.4))) (.br (bNot (hdB y2.2)) (.leaf (.up (.memo (.u (.c (.lb false))) y3.4))) (.br (inSl (pl (hdV y0.3)) (hdI y1.1)) (.br (okL y3.4 (slB (pl (hdV y0.3))) (aOff (slO (pl (hdV y0.3))) (hdI y1.1) 2) [(.li .i64 0), (.li .u64 0)]) (.br (bNot (bAnd (iEq (hdI y2.1) (gI y3.4 (slB (pl (hdV y0.3))) (aOff (slO (pl (hdV y0.3))) (hdI y1.1) 2))) (iEq (hdI (tlI y2.1)) (gI y3.4 (slB (pl (hdV y0.3))) (.succ (aOff (slO (pl (hdV y0.3))) (hdI y1.1) 2)))))) (.leaf (.up (.memo (.u (.c (.lb false))) y3.4))) (.br (bNot (hdB y3.2)) (.leaf (.up (.memo (.u (.c (.lb false))) y3.4))) (.br (iNe (hdI y3.1) (hdI y1.1)) (.leaf (.up (.memo (.u (.c (.lb false))) y3.4))) (.req ((([(0, (.u (.c (.np t 0)))), (1, (.u (.c (.np r 0)))), (5, (.u (.c (.sv (hdV y0.3)))))] : List (Nat × V)) = [(0, (.u (.c (.np t 0)))), (1, (.u (.c (.np r 0)))), (5, (.u (.c (.sv (hdV y0.3)))))]) ∧ (([] : List (Nat × Blk)) = [])) (.leaf (.again (.mk [(iAdd .i64 (hdI y1.1) 1)] [] [] y3.4))))))) (.no 70)) (.no 104)))) (.no 70)) (.no 104)) (.no 70)) (.no 76)) (.no 76)) (.no 75)) (.no 70)) (.no 104))))) (.no 70)) (.no 104))))) (.leaf (.up (.memo (.u (.c (.lb true))) y1.4)))) (.no 123)))))) (.no 123)))) (.no 123)))) (.no 123)) (.no 70)) (.no 76)) (.no 76)) (.no 75)) (.no 123)))))
theorem alike_walk {S : TS} {b : Mem} {t : T} {n : Nat} {r : Int} {v : Value} (hT : Tre S t n) (hs : t.size < 1000) (hL : Lst (S.mem b) r v (hans t)) :
    (T_alike (S.mem b) S.p r).sat (isMemo fun w x => w = .u (.c (.lb true)) ∧ ∃ b', x = S.mem b' ∧ (∀ a, b a ≠ none → b' a = b a) ∧ (Fre S b → Fre S b')) := by
  unfold T_alike
  have hG0 : (TG.mk S b t n).is (S.mem b) S.p ∧ t.size < 1099511627776 := ⟨⟨rfl, rfl, hT⟩, by omega⟩
  rw [sat_req]
  refine ⟨⟨_, hG0⟩, ?_⟩
  rw [sat_any]
  rintro ⟨zi, zb, zv, zm⟩ hz
  have hz' := hz _ hG0
  obtain ⟨hR, hmore⟩ := Row.of hz'
  obtain ⟨b', e1, e2, e3⟩ := row_mem hz'
  simp only at hR hmore e1 ⊢
  subst e1
  have hL' := hL.more hmore
  obtain ⟨l1, l2⟩ := len_spec (b := b') hT.at'
  obtain ⟨⟨d1, d2, d3⟩, d4⟩ := low_spec (b := b') hT hs
  rw [l2] at d3 d4
  have hlen : (hans t).length = t.size := len_hans t
  simp only [hL'.pc, hL'.sl.n, hR.n, hlen, l2]
  rw [brT hR.sl, brT hL'.nz, brT hL'.nz, brT hL'.nz, brT hL'.ok, brT hL'.sl.isv, brF (by simp [iNe]), sat_req]
  refine ⟨l1, ?_⟩
  rw [brT hR.sl, brF (by simp [iNe]), sat_req]
  refine ⟨d1, ?_⟩
  rw [brT hR.sl, sat_req]
  refine ⟨d3, ?_⟩
  rw [brF d4]
  let J : Nat → Vars → Prop := fun N y => ∃ i : Nat, N = t.size - i ∧ y = ⟨[(i : Int)], [], [], S.mem b'⟩
  refine lp_idx J (n0 := t.size) ⟨0, rfl, rfl⟩ ?_
  rintro N y _ ⟨i, rfl, rfl⟩
  simp only [hdI]
  rw [brT hR.sl]
  by_cases hlt : i < t.size
  · obtain ⟨x, hx⟩ : ∃ x, (hans t)[i]? = some x := ⟨(hans t)[i]'(by omega), by rw [List.getElem?_eq_getElem (by omega)]⟩
    obtain ⟨b1, b2, b3, b4, b5, b6⟩ := hR.at' i x hx
    obtain ⟨q1, q2, q3, q4⟩ := hL'.sl.get hx
    obtain ⟨r1, r2⟩ := hT.rng (List.mem_of_getElem? hx)
    rw [brT (by simp only [iLt, decide_eq_true_eq]; omega), sat_req]
    refine ⟨⟨⟨S, b', t, n⟩, rfl, rfl, hT⟩, ?_⟩
    rw [sat_any]
    rintro ⟨ui, ub, uv, um⟩ hu
    obtain ⟨hu, hum⟩ := hu ⟨S, b', t, n⟩ ⟨rfl, rfl, hT⟩
    simp only at hu hum
    subst hum
    obtain ⟨g1, g2⟩ := at_ok hu hx
    simp only at g1 g2
    subst g1 g2
    simp only [b4, b6]
    have hG1 : (TG.mk S b' t n).is (S.mem b') S.p ∧ inI x.1 ∧ inU x.2 := ⟨⟨rfl, rfl, hT⟩, r1, r2⟩
    rw [brT b1, brT (okL_two b3 b5), sat_req]
    refine ⟨⟨_, hG1⟩, ?_⟩
    rw [sat_any]
    rintro ⟨wi, wb, wv, wm⟩ hw
    obtain ⟨hw, hwm⟩ := hw _ hG1
    simp only at hw hwm
    subst hwm
    obtain ⟨k1, k2⟩ := idx_ok hT hw hx
    simp only at k1 k2
    subst k1 k2
    simp only [hL'.pc, b4, b6, q3, q4, hdI, tlI, hdB]
    rw [brT b1, brT (okL_two b3 b5), brT hL'.nz, brT hL'.nz, brT hL'.nz, brT hL'.ok, brT q1, brT q2, brF (by simp [iEq, bAnd, bNot]), brF (by rfl), brT b1, brT (okL_two b3 b5), brF (by simp [iEq, bAnd, bNot]), brF (by rfl), brF (by simp [iNe]), sat_req, iadd_i (by omega), show (i : Int) + 1 = ((i + 1 : Nat) : Int) by omega]
    exact ⟨by simp, t.size - (i + 1), by omega, i + 1, rfl, rfl⟩
  · rw [brF (by simp only [iLt, decide_eq_false_iff_not]; omega)]
    exact ⟨rfl, b', rfl, e2, e3⟩
def alikeP (m : Mem) (t r : Int) : Prop := ∃ G : AG, G.is m t r
def alikeQ (m : Mem) (t r : Int) (y : Vars) : Prop := ∀ G : AG, G.is m t r → G.post y
def yBoo (v : V) (m : Mem) : Vars :=
  match v with
  | .u (.c a) => ⟨[], [cB a], [], m⟩
  | _ => ⟨[], [], [], m⟩
def s_alike : Sum := memSum 25 fun m a => match a with | [a0, a1] => (match ptrOf a0, ptrOf a1 with | some t, some r => some ⟨alikeP m t r, alikeQ m t r, fun y => .u (.c (.sb (hdB y.b)))⟩ | _, _ => none) | _ => none
theorem t_alike (m : Mem) (t : Int) (r : Int) : runm Try.prog [s_len, s_all, s_at, s_index, s_deeps, s_digits] (drawl Try.prog [s_len, s_all, s_at, s_index, s_deeps, s_digits] (fun _ _ => some ⟨[6], [], [0, 1, 5], []⟩)) 300 25 [.u (.c (.np t 0)), .u (.c (.np r 0))] m [98] = T_alike m t r := by kernel_rfl
theorem s_alike_ok : SumOK Try.prog s_alike := by
  refine memSum_ok ⟨_, Try.func25, by kernel_rfl⟩ fun m args ms h hp hw ρ w hm => ?_
  split at h
  · split at h
    · rename_i a0 a1 _ _ t r h0 h1
      cases h
      have hS : ∀ q ∈ [s_len, s_all, s_at, s_index, s_deeps, s_digits], SumOK Try.prog q := okc s_len_ok (okc s_all_ok (okc s_at_ok (okc s_index_ok (okc s_deeps_ok (okc s_digits_ok okn)))))
      refine mm_ghostY nameOK hS (drawl_sound nameOK hS (by kernel_rfl) _) 300 _ m _ (t_alike m t r) yBoo hp (fun G hG => ?_) ρ w hm (by simp only [List.map_cons, List.map_nil, ptrOf_den h0, ptrOf_den h1])
      obtain ⟨⟨rfl, rfl, g1⟩, g2, g3⟩ := hG
      refine sat_mono (fun l hl => ?_) (alike_walk g1 g2 g3)
      cases l with
      | memo v x =>
        obtain ⟨rfl, b', h1, h2, h3⟩ := hl
        exact ⟨⟨rfl, b', h1, h2, h3⟩, rfl, fun ρ => rfl⟩
      | _ => exact hl.elim
    · cases h
  · cases h
end Go.Proofs.Ytnlohongffpkpaa.T16
