/- The symbolic executor: maps and slices that lie in the memory. A text of the session's own. -/
import Derived.Test.YtnlohongffpkpaaSxM1
import Derived.Deep.AppendSrc
import Derived.Maps.Keyed
namespace Go.Proofs.Ytnlohongffpkpaa.Sx
open Go

/-! keys -/
def smp : Value → Bool
  | .int _ _ => true
  | .bool _ => true
  | .string _ => true
  | _ => false
def cEq : Value → Value → Bool
  | .int k a, .int k' b => decide (k = k') && decide (a = b)
  | .bool a, .bool b => decide (a = b)
  | .string a, .string b => decide (a.data.toList = b.data.toList)
  | _, _ => false
def cEqL : List Value → List Value → Bool
  | [], [] => true
  | a :: r, b :: s => cEq a b && cEqL r s
  | _, _ => false
def kEq : Value → Value → Bool
  | .agg xs, .agg ys => cEqL xs.toList ys.toList
  | .agg _, _ => false
  | a, b => cEq a b
def kSmp : Value → Bool
  | .agg xs => xs.toList.all smp
  | v => smp v
theorem cEq_iff {a b : Value} (h : smp a = true) : cEq a b = true ↔ a = b := by
  cases a <;> simp [smp] at h <;> cases b <;> simp [cEq]
  constructor
  · intro e
    rename_i x y
    cases x; cases y
    simp only [ByteArray.mk.injEq] at e ⊢
    exact e
  · intro e; rw [e]
theorem cEqL_iff : ∀ {xs ys : List Value}, xs.all smp = true → (cEqL xs ys = true ↔ xs = ys)
  | [], [], _ => by simp [cEqL]
  | [], _ :: _, _ => by simp [cEqL]
  | _ :: _, [], _ => by simp [cEqL]
  | a :: r, b :: s, h => by
    simp only [List.all_cons, Bool.and_eq_true] at h
    simp [cEqL, cEq_iff h.1, cEqL_iff h.2]
theorem kEq_iff {a b : Value} (h : kSmp a = true) : kEq a b = true ↔ a = b := by
  cases a with
  | agg xs =>
    cases b with
    | agg ys =>
      simp only [kEq, Value.agg.injEq]
      rw [cEqL_iff (by simpa [kSmp] using h)]
      constructor
      · exact fun e => Array.ext' e
      · exact fun e => by rw [e]
    | _ => simp [kEq]
  | int _ _ => exact cEq_iff rfl
  | bool _ => exact cEq_iff rfl
  | string _ => exact cEq_iff rfl
  | _ => cases h

/-! maps -/
/-- The entries of the map behind a value. -/
def mpE (m : Mem) (v : Value) : List MapEntry :=
  match v with
  | .map (some r) => (match m r with | some (.map es _) => es.toList | _ => [])
  | _ => []
def efind (k : Value) : List MapEntry → Nat → Option (Nat × Value)
  | [], _ => none
  | e :: r, i => match kEq k e.key with | true => some (i, e.val) | false => efind k r (i + 1)
/-- What a map has at a key. -/
def mlook (m : Mem) (v k : Value) : Option Value := (efind k (mpE m v) 0).map (·.2)
def mhas (m : Mem) (v k : Value) : Bool := (mlook m v k).isSome
def mlen (m : Mem) (v : Value) : Int := (mpE m v).length
/-- A map's block whose keys are keys, and unlike. -/
def okM (P : Program) (kt : TypeId) (m : Mem) (v : Value) : Prop :=
  v = .map none ∨ ∃ r es c, v = .map (some r) ∧ m r = some (.map es c) ∧ (∀ e ∈ es.toList, ∃ l, keyOf P kt e.key = some l) ∧ es.toList.Pairwise (fun a b => a.key ≠ b.key)
def okKey (P : Program) (kt : TypeId) (k : Value) : Prop := (∃ l, keyOf P kt k = some l) ∧ kSmp k = true
def esPut (k x : Value) (c : Nat) (es : Array MapEntry) : Obj :=
  match efind k es.toList 0 with
  | some q => .map (es.modify q.1 fun e => { e with key := k, val := x }) c
  | none => .map (es.push { key := k, val := x, born := c }) (c + 1)
def esDel (k : Value) (c : Nat) (es : Array MapEntry) : Obj :=
  match efind k es.toList 0 with
  | some q => .map (es.eraseIdxIfInBounds q.1) c
  | none => .map es c
/-- The memory, the map behind a value changed. -/
def mchg (g : Nat → Array MapEntry → Obj) (m : Mem) (v : Value) : Mem :=
  match v with
  | .map (some r) => fun a => if a = r then (match m a with | some (.map es c) => some (g c es) | o => o) else m a
  | _ => m
def mput (m : Mem) (v k x : Value) : Mem := mchg (fun c es => esPut k x c es) m v
def mdel (m : Mem) (v k : Value) : Mem := mchg (fun c es => esDel k c es) m v
def isMpV : Value → Bool
  | .map _ => true
  | _ => false
def isNilM : Value → Bool
  | .map none => true
  | _ => false

theorem efind_none {k : Value} (hk : kSmp k = true) : ∀ {es : List MapEntry} {i : Nat}, (∀ e ∈ es, e.key ≠ k) → efind k es i = none
  | [], _, _ => rfl
  | e :: r, i, h => by
    have : kEq k e.key = false := by
      cases hb : kEq k e.key with
      | false => rfl
      | true => exact absurd ((kEq_iff hk).1 hb).symm (h e (by simp))
    simp only [efind, this]
    exact efind_none hk fun e he => h e (by simp [he])
theorem efind_some {k : Value} (hk : kSmp k = true) : ∀ {es : List MapEntry} {i j : Nat} {e : MapEntry}, es.Pairwise (fun a b => a.key ≠ b.key) → es[j]? = some e → e.key = k → efind k es i = some (i + j, e.val)
  | [], _, _, _, _, h, _ => by cases h
  | a :: r, i, 0, e, _, h, he => by
    cases h
    simp only [efind, (kEq_iff hk).2 he.symm]
    rfl
  | a :: r, i, j + 1, e, hd, h, he => by
    obtain ⟨h1, h2⟩ := List.pairwise_cons.1 hd
    have h' : r[j]? = some e := by simpa using h
    have : kEq k a.key = false := by
      cases hb : kEq k a.key with
      | false => rfl
      | true => exact absurd (((kEq_iff hk).1 hb).symm.trans he.symm) (h1 e (List.mem_of_getElem? h'))
    simp only [efind, this]
    rw [efind_some hk h2 h' he, show i + 1 + j = i + (j + 1) by omega]

section
variable {P : Program} {w : World}

theorem find_run {kt : TypeId} (K : Go.Maps.Keyed P kt) {k : Value} (hk : okKey P kt k) {es : List MapEntry} (hes : ∀ e ∈ es, ∃ l, keyOf P kt e.key = some l) (hd : es.Pairwise (fun a b => a.key ≠ b.key)) :
    (Instr.findKey kt k es).run P w = .ok (efind k es 0) w ∧ ∀ i x, efind k es 0 = some (i, x) → ∃ e, es[i]? = some e ∧ e.key = k ∧ e.val = x := by
  obtain ⟨⟨l, hl⟩, hs⟩ := hk
  rcases K.find w hl es hes with ⟨h1, h2⟩ | ⟨j, e, h1, h2, h3⟩
  · have := efind_none hs (i := 0) h2
    exact ⟨by rw [this]; exact h1, fun i x hx => by rw [this] at hx; cases hx⟩
  · have := efind_some hs (i := 0) hd h2 h3
    rw [Nat.zero_add] at this
    exact ⟨by rw [this]; exact h1, fun i x hx => by rw [this] at hx; cases hx; exact ⟨e, h2, h3, rfl⟩⟩

theorem run_lookupM {kt et t : TypeId} (K : Go.Maps.Keyed P kt) (hu : P.underlying t = some (.map kt et)) {m : Mem} {v k z : Value} (hsub : ∀ a o, m a = some o → w.heap[a]? = some o) (hm : okM P kt m v) (hk : okKey P kt k)
    (hz : (zeroValue et).run P w = .ok z w) (ok : Bool) :
    (Instr.lookup t v k ok).run P w = .ok (if ok then .tuple #[(mlook m v k).getD z, .bool (mhas m v k)] else (mlook m v k).getD z) w := by
  have hck : ∀ em, (Instr.checkKey em 10000 kt k).run P w = .ok () w := fun em => K.check w em hk.1.choose_spec
  rcases hm with rfl | ⟨r, es, c, rfl, hr, hes, hd⟩
  · have : mlook m (.map none) k = none := rfl
    simp only [Instr.lookup, Sem.run_bind, run_underlying hu, Result.andThen_ok, Sem.run_pure, hck, mhas, this]
    have hf : (Instr.findKey kt k (#[] : Array MapEntry).toList).run P w = .ok none w := (find_run K hk (es := []) (fun _ h => by cases h) List.Pairwise.nil).1
    rw [hf]
    simp only [Result.andThen_ok, Sem.run_bind, hz, Sem.run_pure]
    cases ok <;> simp
  · have hE : mpE m (.map (some r)) = es.toList := by simp only [mpE, hr]
    obtain ⟨hf, _⟩ := find_run (w := w) K hk hes hd
    simp only [Instr.lookup, Sem.run_bind, run_underlying hu, Result.andThen_ok, MapKept.run_getObj_map (hsub _ _ hr), Sem.run_pure, hck, hf, mhas, mlook, hE]
    cases he : efind k es.toList 0 with
    | none =>
      simp only [Sem.run_bind, hz, Result.andThen_ok, Sem.run_pure]
      cases ok <;> simp
    | some q =>
      simp only [Sem.run_pure, Result.andThen_ok]
      cases ok <;> simp
end

section
variable {P : Program} {W : World} {n0 : NL} {ρ0 ρ : Nat → Nat} {hp : Hp} {n : Nat} {w : World}

theorem HInv.chg (h : HInv W n0 ρ0 ρ hp n w) (hwr : hp.wr = true) {r : Nat} {es : Array MapEntry} {c : Nat} (hr : hp.x r = some (.map es c)) (g : Nat → Array MapEntry → Obj) :
    HInv W n0 ρ0 ρ { hp with x := mchg g hp.x (.map (some r)) } n { w with heap := w.heap.setIfInBounds r (g c es) } := by
  have hlt := h.mem.lt hr
  refine h.write hr hwr (o' := g c es) (x' := mchg g hp.x (.map (some r))) (w' := { w with heap := w.heap.setIfInBounds r (g c es) }) ⟨rfl, rfl, rfl, by simp, fun k hk hne => ?_⟩ ?_ fun b => ?_
  · show (w.heap.setIfInBounds r _)[k]? = _
    rw [Array.getElem?_setIfInBounds_ne (Ne.symm hne)]
  · show (w.heap.setIfInBounds r _)[r]? = _
    rw [Array.getElem?_setIfInBounds_self_of_lt hlt]
  · show (if b = r then _ else _) = _
    split
    · rename_i e; subst e; rw [hr]
    · rfl

theorem run_updateM {kt et t : TypeId} (K : Go.Maps.Keyed P kt) (hu : P.underlying t = some (.map kt et)) (h : HInv W n0 ρ0 ρ hp n w) (hwr : hp.wr = true) {v k x : Value} (hm : okM P kt hp.x v) (hn : isNilM v = false) (hk : okKey P kt k) :
    ∃ w', (Instr.mapUpdate t v k x).run P w = .ok () w' ∧ HInv W n0 ρ0 ρ { hp with x := mput hp.x v k x } n w' := by
  rcases hm with rfl | ⟨r, es, c, rfl, hr, hes, hd⟩
  · cases hn
  have hb := h.mem.sub _ _ hr
  refine ⟨_, ?_, h.chg hwr hr _⟩
  obtain ⟨l, hl⟩ := hk.1
  obtain ⟨hf, hsp⟩ := find_run (w := w) K hk hes hd
  have hck := K.check w false hl
  simp only [Instr.mapUpdate, Sem.run_bind, run_underlying hu, Result.andThen_ok, MapKept.run_getObj_map hb, hck, hf, esPut]
  cases he : efind k es.toList 0 with
  | none => simp only; rw [MapKept.run_setObj_map _ hb]
  | some q =>
    obtain ⟨i, y⟩ := q
    obtain ⟨e, h1, h2, h3⟩ := hsp i y he
    have hold : ((es[i]?).map (·.key)).getD k = k := by
      rw [← Array.getElem?_toList, h1]
      exact h2
    simp only [Sem.run_bind, hold, K.stays w hl, Result.andThen_ok]
    rw [MapKept.run_setObj_map _ hb]

theorem run_deleteM {kt et t ty : TypeId} {ts : Array TypeId} (ht : ts[0]? = some t) (K : Go.Maps.Keyed P kt) (hu : P.underlying t = some (.map kt et)) (h : HInv W n0 ρ0 ρ hp n w) (hwr : hp.wr = true) {v k : Value} (hm : okM P kt hp.x v) (hk : okKey P kt k) :
    ∃ w', (Builtin.delete_ ts ty #[v, k]).run P w = .ok (.tuple #[]) w' ∧ HInv W n0 ρ0 ρ { hp with x := mdel hp.x v k } n w' := by
  obtain ⟨l, hl⟩ := hk.1
  rcases hm with rfl | ⟨r, es, c, rfl, hr, hes, hd⟩
  · refine ⟨w, ?_, h⟩
    have hck := K.check w true hl
    simp only [Builtin.delete_, ht, List.getElem?_toArray, List.getElem?_cons_zero, List.getElem?_cons_succ, Sem.run_bind, run_underlying hu, Result.andThen_ok, hck, Sem.run_pure]
  have hb := h.mem.sub _ _ hr
  refine ⟨_, ?_, h.chg hwr hr _⟩
  obtain ⟨hf, hsp⟩ := find_run (w := w) K hk hes hd
  have hck := K.check w es.isEmpty hl
  simp only [Builtin.delete_, ht, List.getElem?_toArray, List.getElem?_cons_zero, List.getElem?_cons_succ, Sem.run_bind, run_underlying hu, Result.andThen_ok, MapKept.run_getObj_map hb, hck, hf, esDel]
  cases he : efind k es.toList 0 with
  | none => simp only; rw [Sem.run_bind, MapKept.run_setObj_map _ hb]; simp only [Result.andThen_ok, Sem.run_pure]
  | some q => simp only; rw [Sem.run_bind, MapKept.run_setObj_map _ hb]; simp only [Result.andThen_ok, Sem.run_pure]

theorem run_lenM {t kt et : TypeId} {ty : TypeId} {ts : Array TypeId} (ht : ts[0]? = some t) (hu : P.underlying t = some (.map kt et)) {m : Mem} {v : Value} (hsub : ∀ a o, m a = some o → w.heap[a]? = some o) (hm : okM P kt m v) :
    (Builtin.len_ ts ty #[v]).run P w = .ok (.int .i64 (mlen m v)) w := by
  rcases hm with rfl | ⟨r, es, c, rfl, hr, _⟩
  · simp [Builtin.len_, ht, run_underlying hu, goInt, mlen, mpE]
  · simp [Builtin.len_, ht, run_underlying hu, goInt, mlen, mpE, hr, MapKept.run_getObj_map (hsub _ _ hr)]
end

section
variable {P : Program} {W : World} {n0 : NL} {ρ0 ρ : Nat → Nat} {hp : Hp} {n : Nat} {w : World}
theorem HInv.freshO (h : HInv W n0 ρ0 ρ hp n w) (o : Obj) : HInv W n0 ρ0 ρ { hp with x := fun b => if b = w.heap.size then some o else hp.x b } n (w.alloc o) := by
  have hsz : (w.alloc o).heap.size = w.heap.size + 1 := by rw [heap_alloc, Array.size_push]
  have hget : ∀ k, k < w.heap.size → (w.alloc o).heap[k]? = w.heap[k]? := fun k hk => by rw [heap_alloc, Array.getElem?_push, if_neg (Nat.ne_of_lt hk)]
  refine ⟨fun i hi => by have := h.lt i hi; omega, h.inj, fun i b hb => ?_, h.le, h.old, h.new, h.os, h.tape, h.output, by have := h.size; omega, fun k hk hx hf => ?_, fun i m hm => ?_, h.lim, ⟨fun b q e => ?_, fun b q e i hi => ?_, fun e0 b q e => ?_⟩⟩
  · obtain ⟨g1, g2, g3⟩ := h.blk i b hb
    exact ⟨g1, g2, (hget _ (h.lt i g1)).trans g3⟩
  · have := h.size
    rw [hget k (by omega)]
    exact h.far k hk hx hf
  · obtain ⟨g1, g2, g3⟩ := h.mblk i m hm
    exact ⟨g1, g2, (hget _ (h.lt i g1)).trans g3⟩
  · replace e : (if b = w.heap.size then some o else hp.x b) = some q := e
    split at e
    · rename_i eb; subst eb; cases e
      rw [heap_alloc, Array.getElem?_push, if_pos rfl]
    · exact (hget b (h.mem.lt e)).trans (h.mem.sub b q e)
  · replace e : (if b = w.heap.size then some o else hp.x b) = some q := e
    split at e
    · rename_i eb; subst eb; exact Nat.ne_of_lt (h.lt i hi)
    · exact h.mem.sep b q e i hi
  · replace e : (if b = w.heap.size then some o else hp.x b) = some q := e
    split at e
    · rename_i eb; subst eb; exact .inr h.size
    · exact h.mem.dom e0 b q e
end

/-! slices -/
def slB : Value → Int
  | .slice (some ⟨a, _, none⟩) _ _ => (a : Int) + 1
  | _ => 0
def slO : Value → Nat
  | .slice (some ⟨_, o, none⟩) _ _ => o
  | _ => 0
def slN : Value → Nat
  | .slice _ n _ => n
  | _ => 0
def slK : Value → Nat
  | .slice _ _ c => c
  | _ => 0
def isSl : Value → Bool
  | .slice none n c => Nat.beq n 0 && Nat.beq c 0
  | .slice (some ⟨_, _, none⟩) n c => Nat.ble n c
  | _ => false
def inSl (v : Value) (i : Int) : Bool := isSl v && decide (0 ≤ i ∧ i < (slN v : Int))
def cutSl (v : Value) (l h : Int) : Bool := isSl v && decide (0 ≤ l ∧ l ≤ h ∧ h ≤ (slK v : Int))
/-- v[l:h] -/
def cutV (v : Value) (sz : Nat) (l h : Int) : Value :=
  match v with
  | .slice (some ⟨a, o, none⟩) _ c => .slice (some ⟨a, if c = l.toNat then o else o + l.toNat * sz, none⟩) (h.toNat - l.toNat) (c - l.toNat)
  | v => v
/-- The cells of a slice's elements. -/
def rowL (m : Mem) (v : Value) (sz : Nat) : List Value :=
  match mget m (slB v) with
  | some cs => (cs.toList.drop (slO v)).take (slN v * sz)
  | none => []
/-- A slice's block, with all its room, and cells that are cells. -/
def okSl (m : Mem) (v : Value) (sz : Nat) : Bool :=
  match v with
  | .slice none n c => Nat.beq n 0 && Nat.beq c 0
  | .slice (some ⟨a, o, none⟩) n c => Nat.ble n c && (match mgetW m ((a : Int) + 1) with | some cs => Nat.ble (o + c * sz) cs.size && cs.toList.all isPlain | none => false)
  | _ => false
def fitsN (v : Value) (n : Nat) : Bool := Nat.ble (slN v + n) (slK v)
def moreV (v : Value) (n : Nat) : Value :=
  match v with
  | .slice a l c => .slice a (l + n) c
  | v => v
/-- What an append comes to: in the room that is there, or in a new row. -/
def appQ (m : Mem) (v : Value) (sz : Nat) (zs : List Value) (e : TypeId) (n : Nat) (vs : List Value) (y : Vars) : Prop :=
  (fitsN v n = true ∧ y.v = [moreV v n] ∧ y.m = wrL m (slB v) (slO v + slN v * sz) vs) ∨
  (fitsN v n = false ∧ ∃ a c, m a = none ∧ slN v + n ≤ c ∧ y.v = [.slice (some ⟨a, 0, none⟩) (slN v + n) c] ∧
    y.m = alM m ((a : Int) + 1) ((rowL m v sz ++ vs).toArray ++ Builtin.zeroCells zs.toArray (c - (slN v + n))) e)
def appOK (m : Mem) (v : Value) (sz bytes n : Nat) (vs : List Value) : Bool :=
  okSl m v sz && decide (vs.length = n * sz) && vs.all isPlain && decide ((slN v + n) * bytes ≤ 140737488355328) && decide (slN v + n ≤ 9223372036854775807)

section
variable {P : Program} {W : World} {n0 : NL} {ρ0 ρ : Nat → Nat} {hp : Hp} {n : Nat} {w : World}

theorem slB_at {v : Value} (h : isSl v = true) (h0 : 0 < slN v) : ∃ a o c, v = .slice (some ⟨a, o, none⟩) (slN v) c ∧ slB v = (a : Int) + 1 ∧ slO v = o := by
  unfold isSl at h
  split at h
  · rename_i l c
    simp only [Bool.and_eq_true] at h
    have := Nat.eq_of_beq_eq_true h.1
    simp only [slN] at h0
    omega
  · rename_i a o l c
    exact ⟨a, o, c, rfl, rfl, rfl⟩
  · cases h

theorem oneCell_of {v : Value} (h : isPlain v = true) : v.oneCell' = true := by
  cases v <;> first | rfl | cases h

theorem mget_cell {m : Mem} (hsub : ∀ a o, m a = some o → w.heap[a]? = some o) {a : Nat} {cs : Array Value} (h : mgetW m ((a : Int) + 1) = some cs) (k : Nat) : w.cell? ⟨a, k, none⟩ = cs[k]? ∧ w.frozen? ⟨a, k, none⟩ = false := by
  obtain ⟨b, ty, e1, e2⟩ := mgetW_at h
  have : b = a := by omega
  subst this
  have := hsub _ _ e2
  exact ⟨by simp [World.cell?, this], by simp [World.frozen?, this]⟩

theorem run_append_M {t tx ty e : TypeId} {i : TypeInfo} {z : Value} (ht : P.underlying t = some (.slice e)) (hi : P.info? e = some i) (hz : i.zero = some z) (h : HInv W n0 ρ0 ρ hp n w) (hwr : hp.wr = true)
    {v x : Value} {k : Nat} {vs : List Value} (hok : appOK hp.x v i.size i.bytes k vs = true) (hs : Src P i.size tx x k vs w) :
    ∃ w' y, (Builtin.append_ #[t, tx] ty #[v, x]).run P w = .ok ((y.v.headD undef)) w' ∧ appQ hp.x v i.size z.cells.toList e k vs y ∧ HInv W n0 ρ0 ρ { hp with x := y.m } n w' := by
  simp only [appOK, Bool.and_eq_true, decide_eq_true_eq] at hok
  obtain ⟨⟨⟨⟨h1, h2⟩, h3⟩, h4⟩, h5⟩ := hok
  have hsub := h.mem.sub
  have hgrow : ∀ (base : Option Addr) (sl sc : Nat), v = .slice base sl sc → sc < sl + k → (Builtin.firstCells i.size sl (.slice base sl sc)).run P w.drew = .ok (rowL hp.x v i.size).toArray w.drew →
      ∃ w' y, (Builtin.append_ #[t, tx] ty #[v, x]).run P w = .ok ((y.v.headD undef)) w' ∧ appQ hp.x v i.size z.cells.toList e k vs y ∧ HInv W n0 ρ0 ρ { hp with x := y.m } n w' := by
    intro base sl sc hv hlt hold
    have hn : slN v = sl := by rw [hv]; rfl
    have hK : slK v = sc := by rw [hv]; rfl
    have hr := run_append_grow_src (P := P) w t tx ty e i z ht hi hz base sl sc (rowL hp.x v i.size) hold x k vs hs hlt (by rw [hn] at h5; omega) (growslice_fits hlt (by rw [hn] at h4; exact h4))
    have hD : HInv W n0 ρ0 ρ hp n w.drew := h.drew _
    have hf := hD.fresh (((rowL hp.x v i.size ++ vs).toArray ++ Builtin.zeroCells z.cells (grownCap w (sl + k) sc e - (sl + k)))) e
    refine ⟨_, ⟨[], [], [.slice (some ⟨w.heap.size, 0, none⟩) (sl + k) (grownCap w (sl + k) sc e)], alM hp.x ((w.heap.size : Int) + 1) ((rowL hp.x v i.size ++ vs).toArray ++ Builtin.zeroCells z.cells (grownCap w (sl + k) sc e - (sl + k))) e⟩, by rw [hv]; rw [hv] at hr; exact hr, .inr ⟨?_, w.heap.size, grownCap w (sl + k) sc e, h.mem.fresh, ?_, ?_, ?_⟩, ?_⟩
    · simp only [fitsN, hn, hK]
      cases hb : Nat.ble (sl + k) sc with
      | false => rfl
      | true => have := Nat.le_of_ble_eq_true hb; omega
    · rw [hn]; exact grownCap_ge w _ _ _
    · rw [hn]
    · have e2 : z.cells.toList.toArray = z.cells := by simp
      rw [hn, e2]
    · rw [hv] at hf ⊢; exact hf
  cases v with
  | slice a sl sc =>
    cases a with
    | none =>
      simp only [okSl, Bool.and_eq_true] at h1
      have e1 := Nat.eq_of_beq_eq_true h1.1
      have e2 := Nat.eq_of_beq_eq_true h1.2
      subst e1; subst e2
      by_cases hk : k = 0
      · subst hk
        have hvs : vs = [] := by simpa using h2
        subst hvs
        refine ⟨w, ⟨[], [], [.slice none 0 0], hp.x⟩, ?_, .inl ⟨rfl, rfl, ?_⟩, h⟩
        · rcases hs.kind with ⟨e', hk⟩ | hk <;> simp [Builtin.append_, run_underlying ht, run_underlying hk, sizeOf, typeInfo, hi, hs.len, hs.cells]
        · show hp.x = wrL hp.x 0 _ []
          funext b
          simp [wrL]
      · refine hgrow none 0 0 rfl (by omega) ?_
        have : rowL hp.x (.slice none 0 0) i.size = [] := rfl
        rw [this]
        exact run_firstCells_none w.drew i.size 0 0 0
    | some ad =>
      obtain ⟨b, off, sp⟩ := ad
      cases sp with
      | some _ => cases h1
      | none =>
        simp only [okSl, Bool.and_eq_true] at h1
        obtain ⟨h1, h6⟩ := h1
        have h1 := Nat.le_of_ble_eq_true h1
        split at h6
        rotate_left
        · cases h6
        rename_i cs hcs
        simp only [Bool.and_eq_true] at h6
        have h7 := Nat.le_of_ble_eq_true h6.1
        have h8 := h6.2
        simp only [List.all_eq_true] at h8
        have hcell := mget_cell hsub hcs
        by_cases hfit : sl + k ≤ sc
        · have hsz : (sl + k) * i.size ≤ sc * i.size := Nat.mul_le_mul_right _ hfit
          rw [Nat.add_mul] at hsz
          have hr := run_append_room_src (P := P) w t tx ty e i ht hi b off sl sc x k vs hs hfit (fun j hj => by rw [(hcell _).1, Array.getElem?_eq_getElem (by omega)]; rfl) (fun j hj => (hcell _).2)
          obtain ⟨b', ty', e1, e2⟩ := mgetW_at hcs
          have : b' = b := by omega
          subst this
          have hblk := hsub _ _ e2
          have hset : ∀ (vs : List Value) (o : Nat) (w : World) (cs : Array Value), w.heap[b']? = some (.cells cs ty' (0, 0)) → (w.setCells b' o vs).heap[b']? = some (.cells (putV cs o vs) ty' (0, 0)) ∧ (w.setCells b' o vs).os = w.os ∧ (w.setCells b' o vs).tape = w.tape ∧ (w.setCells b' o vs).output = w.output ∧ (w.setCells b' o vs).heap.size = w.heap.size ∧ ∀ c, c ≠ b' → (w.setCells b' o vs).heap[c]? = w.heap[c]? := by
            intro vs
            induction vs with
            | nil => intro o w cs hw; exact ⟨hw, rfl, rfl, rfl, rfl, fun _ _ => rfl⟩
            | cons u us ih =>
              intro o w cs hw
              have h1 : (w.setCell ⟨b', o, none⟩ u).heap[b']? = some (.cells (cs.setIfInBounds o u) ty' (0, 0)) := by
                simp [World.setCell, Array.getElem?_modify, hw]
              obtain ⟨g1, g2, g3, g4, g5, g6⟩ := ih (o + 1) (w.setCell ⟨b', o, none⟩ u) _ h1
              refine ⟨g1, g2, g3, g4, g5.trans (by simp [World.setCell]), fun c hc => (g6 c hc).trans ?_⟩
              simp only [World.setCell, Array.getElem?_modify]
              rw [if_neg (Ne.symm hc)]
          obtain ⟨g1, g2, g3, g4, g5, g6⟩ := hset vs (off + sl * i.size) w cs hblk
          refine ⟨_, ⟨[], [], [moreV (.slice (some ⟨b', off, none⟩) sl sc) k], wrL hp.x ((b' : Int) + 1) (off + sl * i.size) vs⟩, hr, .inl ⟨Nat.ble_eq_true_of_le hfit, rfl, rfl⟩, ?_⟩
          refine h.write e2 hwr ⟨g2, g3, g4, by omega, fun c _ hc => g6 c hc⟩ g1 fun c => ?_
          show (if c + 1 = ((b' : Int) + 1).toNat then _ else _) = _
          by_cases e : c = b'
          · subst e
            rw [if_pos (by omega), if_pos rfl, e2]
          · rw [if_neg (by omega), if_neg e]
        · refine hgrow (some ⟨b, off, none⟩) sl sc rfl (by omega) ?_
          have hR : rowL hp.x (.slice (some ⟨b, off, none⟩) sl sc) i.size = (cs.toList.drop off).take (sl * i.size) := by
            simp only [rowL, slB, slO, slN, mgetW_get hcs]
          rw [hR]
          have hsz : sl * i.size ≤ sc * i.size := Nat.mul_le_mul_right _ h1
          refine run_firstCells_some (P := P) w.drew i.size sl ⟨b, off, none⟩ sl sc _ ?_ fun j u hu => ?_
          · rw [List.length_take, List.length_drop, Array.length_toList]; omega
          · rw [add_at]
            have := (hcell (off + j)).1
            have hj : j < sl * i.size := by
              have := (List.getElem?_eq_some_iff.1 hu).1
              rw [List.length_take] at this; omega
            rw [List.getElem?_take_of_lt hj, List.getElem?_drop, Array.getElem?_toList] at hu
            simpa using this.trans hu
  | _ => cases h1
end
end Go.Proofs.Ytnlohongffpkpaa.Sx
