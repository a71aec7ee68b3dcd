/- Layer 16: what a tree's memory is: its nodes, its head, its map. A text of the session's own. -/
import Derived.Test.YtnlohongffpkpaaSxS
namespace Go.Proofs.Ytnlohongffpkpaa.T16
open Go Go.RowKit Go.Proofs.Ytnlohongffpkpaa.Sx
set_option linter.unusedVariables false
set_option linter.unusedSimpArgs false

/-! what a tree without loops and news comes to -/
def okP : Tr → Prop
  | .leaf (.memo _ _) => True
  | .br b t e => (b = true → okP t) ∧ (b = false → okP e)
  | .req p t => p ∧ okP t
  | .letm m f => okP (f m)
  | _ => False
def outM : Tr → Mem
  | .leaf (.memo _ m) => m
  | .br b t e => match b with | true => outM t | false => outM e
  | .req _ t => outM t
  | .letm m f => outM (f m)
  | _ => noM
def outV : Tr → V
  | .leaf (.memo v _) => v
  | .br b t e => match b with | true => outV t | false => outV e
  | .req _ t => outV t
  | .letm m f => outV (f m)
  | _ => .tup []
theorem okP_sat : ∀ {T : Tr}, okP T → T.sat (isMemo fun v m => v = outV T ∧ m = outM T)
  | .leaf (.memo _ _), _ => ⟨rfl, rfl⟩
  | .leaf (.ret _ _ _), h => h.elim
  | .leaf (.out _ _), h => h.elim
  | .leaf (.val _), h => h.elim
  | .leaf (.again _), h => h.elim
  | .leaf (.up _), h => h.elim
  | .br b t e, h => by
    refine ⟨fun hb => ?_, fun hb => ?_⟩
    · subst hb; exact okP_sat (h.1 rfl)
    · subst hb; exact okP_sat (h.2 rfl)
  | .req p t, h => ⟨h.1, okP_sat h.2⟩
  | .letm m f, h => okP_sat (T := f m) h
  | .any _ _, h => h.elim
  | .lp _ _, h => h.elim
  | .no _, h => h.elim
theorem okP_br {b : Bool} {t e : Tr} : okP (.br b t e) ↔ (b = true → okP t) ∧ (b = false → okP e) := Iff.rfl
theorem sat_br {R : Leaf → Prop} {b : Bool} {t e : Tr} : (Tr.br b t e).sat R ↔ (b = true → t.sat R) ∧ (b = false → e.sat R) := Iff.rfl
theorem sat_brT {R : Leaf → Prop} {t e : Tr} : (Tr.br true t e).sat R ↔ t.sat R := by simp [Tr.sat]
theorem sat_brF {R : Leaf → Prop} {t e : Tr} : (Tr.br false t e).sat R ↔ e.sat R := by simp [Tr.sat]
theorem sat_req {R : Leaf → Prop} {p : Prop} {t : Tr} : (Tr.req p t).sat R ↔ p ∧ t.sat R := Iff.rfl
theorem sat_letm {R : Leaf → Prop} {m : Mem} {f : Mem → Tr} : (Tr.letm m f).sat R ↔ (f m).sat R := Iff.rfl
theorem sat_any {R : Leaf → Prop} {q : Vars → Prop} {f : Vars → Tr} : (Tr.any q f).sat R ↔ ∀ y, q y → (f y).sat R := Iff.rfl
theorem sat_leaf {R : Leaf → Prop} {l : Leaf} : (Tr.leaf l).sat R ↔ R l := Iff.rfl
theorem sat_memo {p : V → Mem → Prop} {v : V} {m : Mem} : (Tr.leaf (.memo v m)).sat (isMemo p) ↔ p v m := Iff.rfl
def eqM (m : Mem) (y : Vars) : Prop := y.m = m
def ptrOf : V → Option Int
  | .u (.c (.np p 0)) => some p
  | .u (.c .nilp) => some 0
  | _ => none
def intOf : V → Option Int
  | .u (.c (.li .i64 n)) => some n
  | .u (.c (.si .i64 n)) => some n
  | _ => none
def booOf : V → Option Bool
  | .u (.c (.lb n)) => some n
  | .u (.c (.sb n)) => some n
  | _ => none
def hanOf : V → Option (Int × Int)
  | .u (.agg [.si .i64 s, .si .u64 g]) => some (s, g)
  | .u (.agg [.li .i64 s, .li .u64 g]) => some (s, g)
  | .u (.agg [.si .i64 s, .li .u64 g]) => some (s, g)
  | .u (.agg [.li .i64 s, .si .u64 g]) => some (s, g)
  | _ => none
def vInt (v : V) : Int := (intOf v).getD 0
def vBool : V → Bool
  | .u (.c (.lb b)) => b
  | .u (.c (.sb b)) => b
  | _ => false

theorem ptrOf_den {v : V} {p : Int} (h : ptrOf v = some p) (ρ : Nat → Nat) : v.den ρ = V.den ρ (.u (.c (.np p 0))) := by
  unfold ptrOf at h
  split at h
  · cases h; rfl
  · cases h; rfl
  · cases h
theorem intOf_den {v : V} {n : Int} (h : intOf v = some n) (ρ : Nat → Nat) : v.den ρ = V.den ρ (.u (.c (.si .i64 n))) := by
  unfold intOf at h
  split at h
  · cases h; rfl
  · cases h; rfl
  · cases h
theorem booOf_den {v : V} {n : Bool} (h : booOf v = some n) (ρ : Nat → Nat) : v.den ρ = V.den ρ (.u (.c (.sb n))) := by
  unfold booOf at h
  split at h
  · cases h; rfl
  · cases h; rfl
  · cases h
theorem hanOf_den {v : V} {s g : Int} (h : hanOf v = some (s, g)) (ρ : Nat → Nat) : v.den ρ = V.den ρ (.u (.agg [.si .i64 s, .si .u64 g])) := by
  unfold hanOf at h
  split at h
  · cases h; rfl
  · cases h; rfl
  · cases h; rfl
  · cases h; rfl
  · cases h
/-- What holds of all leaves. -/
def allL (p : V → Mem → Prop) : Tr → Prop
  | .leaf (.memo v m) => p v m
  | .br _ t e => allL p t ∧ allL p e
  | .req _ t => allL p t
  | .letm m f => allL p (f m)
  | _ => True
theorem allL_out {p : V → Mem → Prop} : ∀ {T : Tr}, allL p T → okP T → p (outV T) (outM T)
  | .leaf (.memo _ _), h, _ => h
  | .leaf (.ret _ _ _), _, h => h.elim
  | .leaf (.out _ _), _, h => h.elim
  | .leaf (.val _), _, h => h.elim
  | .leaf (.again _), _, h => h.elim
  | .leaf (.up _), _, h => h.elim
  | .br b t e, h, ho => by
    cases b
    · exact allL_out (T := e) h.2 (ho.2 rfl)
    · exact allL_out (T := t) h.1 (ho.1 rfl)
  | .req p t, h, ho => allL_out (T := t) h ho.2
  | .letm m f, h, ho => allL_out (T := f m) h ho
  | .any _ _, _, h => h.elim
  | .lp _ _, _, h => h.elim
  | .no _, _, h => h.elim
theorem dm_calls {P : Program} {S : List Sum} (hN : NameOK P) (hS : ∀ q ∈ S, SumOK P q) {D : DrawX} (hD : DSnd P D) (fuel : Nat) {f : Nat} (args : List V) (m : Mem) (mt : List Nat) {T : Tr} (hT : runm P S D fuel f args m mt = T)
    (ho : okP T) {v : V} {M : Mem} (hm : outM T = M) (ρ : Nat → Nat) (hv : (outV T).den ρ = v.den ρ) (w : World) (hw : ∀ a o, m a = some o → w.heap[a]? = some o) {vs : Array Value} (he : vs = (args.map (V.den ρ)).toArray) :
    Calls P f vs w fun e w' => e = .returned (v.den ρ) ∧ MemTo m M w w' := by
  subst he
  refine (memo_sound hN hS hD fuel args m mt hT (okP_sat ho) ρ w hw).mono ?_
  rintro e w' ⟨v', x, ⟨rfl, rfl⟩, rfl, g⟩
  exact ⟨by rw [hv], hm ▸ g⟩
/-- A relation's call. -/
theorem mm_calls {P : Program} {S : List Sum} (hN : NameOK P) (hS : ∀ q ∈ S, SumOK P q) {D : DrawX} (hD : DSnd P D) (fuel : Nat) {f : Nat} (args : List V) (m : Mem) (mt : List Nat) {T : Tr} (hT : runm P S D fuel f args m mt = T)
    {Q : Vars → Prop} {ret : Vars → V} (ρ : Nat → Nat) (h : T.sat (isMemo fun v x => ∃ y, Q y ∧ v.den ρ = (ret y).den ρ ∧ y.m = x)) (w : World) (hw : ∀ a o, m a = some o → w.heap[a]? = some o) {vs : Array Value} (he : vs = (args.map (V.den ρ)).toArray) :
    Calls P f vs w fun e w' => ∃ y, Q y ∧ e = .returned ((ret y).den ρ) ∧ MemTo m y.m w w' := by
  subst he
  refine (memo_sound hN hS hD fuel args m mt hT h ρ w hw).mono ?_
  rintro e w' ⟨v', x, ⟨y, h1, h2, rfl⟩, rfl, g⟩
  exact ⟨y, h1, by rw [h2], g⟩

/-! pointers -/
theorem pv_zero (off : Nat) : pv 0 off = .pointer none := rfl
theorem vP_pv {p : Int} (h : 0 ≤ p) : vP (pv p 0) = p := by
  obtain ⟨n, rfl⟩ := Int.eq_ofNat_of_zero_le h
  cases n with
  | zero => rfl
  | succ k => show ((k : Int) + 1) = _; rfl
theorem isP_pv (p : Int) : isP (pv p 0) = true := by
  unfold pv; split <;> rfl
theorem nzp_of {p : Int} (h : 0 < p) : nzp p = true := by
  simp [nzp, Nat.blt_eq]; omega
theorem peq_iff {p q : Int} (hp : 0 ≤ p) (hq : 0 ≤ q) : peq p q = true ↔ p = q := by
  unfold peq
  rw [Nat.beq_eq]
  omega
theorem peq_f {p q : Int} (hp : 0 ≤ p) (hq : 0 ≤ q) : peq p q = false ↔ ¬ p = q := by
  rw [← peq_iff hp hq]; simp
theorem peq_zero {p : Int} (hp : 0 ≤ p) : peq p 0 = decide (p = 0) := by
  by_cases h : p = 0
  · subst h; rfl
  · have := (peq_f hp (Int.le_refl 0)).2 h
    rw [this]; simp [h]
theorem peq_dec {p q : Int} (hp : 0 ≤ p) (hq : 0 ≤ q) : peq p q = decide (p = q) := by
  by_cases h : p = q
  · rw [(peq_iff hp hq).2 h]; simp [h]
  · rw [(peq_f hp hq).2 h]; simp [h]
theorem cmp_zero (m : Mem) (p : Int) : cmpOK m p 0 = true := by
  simp [cmpOK]

/-! nodes -/
structure Nd where
  s : Int
  g : Int
  l : Int
  r : Int
  u : Int
  n : Int
  c : Bool
def Nd.cells (d : Nd) : Array Value := #[.int .i64 d.s, .int .u64 d.g, pv d.l 0, pv d.r 0, pv d.u 0, .int .i64 d.n, .bool d.c]
/-- A tree's memory: its head's address, its map's, the root, the entries, the nodes. -/
structure TS where
  t : Nat
  q : Nat
  root : Int
  es : Array MapEntry
  k : Nat
  H : Int → Option Nd
def TS.mem (S : TS) (b : Mem) : Mem := fun a =>
  if a = S.t then some (.cells #[pv S.root 0, .map (some S.q)] 95 (0, 0))
  else if a = S.q then some (.map S.es S.k)
  else match S.H ((a : Int) + 1) with
    | some d => some (.cells d.cells 98 (0, 0))
    | none => b a
structure TS.ok (S : TS) : Prop where
  ne : S.t ≠ S.q
  ht : S.H ((S.t : Int) + 1) = none
  hq : S.H ((S.q : Int) + 1) = none
  root : 0 ≤ S.root
  nd : ∀ p d, S.H p = some d → 0 < p ∧ 0 ≤ d.l ∧ 0 ≤ d.r ∧ 0 ≤ d.u
def upd (H : Int → Option Nd) (p : Int) (d : Nd) : Int → Option Nd := fun q => if q = p then some d else H q
def TS.set (S : TS) (p : Int) (d : Nd) : TS := { S with H := upd S.H p d }
def TS.top (S : TS) (p : Int) : TS := { S with root := p }
/-- the head's pointer -/
def TS.p (S : TS) : Int := (S.t : Int) + 1

theorem upd_self (H : Int → Option Nd) (p : Int) (d : Nd) : upd H p d p = some d := by simp [upd]
theorem upd_ne {H : Int → Option Nd} {p q : Int} (d : Nd) (h : q ≠ p) : upd H p d q = H q := by simp [upd, h]
section
variable {S : TS} {b : Mem} {p : Int} {d : Nd}
@[simp] theorem set_t : (S.set p d).t = S.t := rfl
@[simp] theorem set_q : (S.set p d).q = S.q := rfl
@[simp] theorem set_root : (S.set p d).root = S.root := rfl
@[simp] theorem set_es : (S.set p d).es = S.es := rfl
@[simp] theorem set_k : (S.set p d).k = S.k := rfl
@[simp] theorem set_p : (S.set p d).p = S.p := rfl
@[simp] theorem set_H : (S.set p d).H = upd S.H p d := rfl
@[simp] theorem top_t : (S.top p).t = S.t := rfl
@[simp] theorem top_q : (S.top p).q = S.q := rfl
@[simp] theorem top_root : (S.top p).root = p := rfl
@[simp] theorem top_es : (S.top p).es = S.es := rfl
@[simp] theorem top_k : (S.top p).k = S.k := rfl
@[simp] theorem top_p : (S.top p).p = S.p := rfl
@[simp] theorem top_H : (S.top p).H = S.H := rfl
theorem TS.p_pos : 0 < S.p := by unfold TS.p; omega
theorem TS.ok.set (h : S.ok) {d0 : Nd} (hp : S.H p = some d0) (hl : 0 ≤ d.l) (hr : 0 ≤ d.r) (hu : 0 ≤ d.u) : (S.set p d).ok := by
  have h0 := (h.nd p d0 hp).1
  have ne : ∀ q : Int, S.H q = none → q ≠ p := fun q hq e => by rw [e, hp] at hq; cases hq
  refine ⟨h.ne, ?_, ?_, h.root, fun q e hq => ?_⟩
  · show upd S.H p d ((S.t : Int) + 1) = none
    rw [upd_ne d (ne _ h.ht)]; exact h.ht
  · show upd S.H p d ((S.q : Int) + 1) = none
    rw [upd_ne d (ne _ h.hq)]; exact h.hq
  · by_cases e2 : q = p
    · subst e2; rw [set_H, upd_self] at hq; cases hq; exact ⟨h0, hl, hr, hu⟩
    · rw [set_H, upd_ne d e2] at hq; exact h.nd q e hq
theorem TS.ok.top (h : S.ok) (hp : 0 ≤ p) : (S.top p).ok := ⟨h.ne, h.ht, h.hq, hp, h.nd⟩

theorem mget_t (S : TS) (b : Mem) : mget (S.mem b) S.p = some #[pv S.root 0, .map (some S.q)] := by
  unfold mget TS.p
  rw [show ((S.t : Int) + 1).toNat = S.t + 1 by omega]
  simp [TS.mem]
theorem addr_ne (h : S.ok) (hp : S.H p = some d) : ∃ a : Nat, p = (a : Int) + 1 ∧ a ≠ S.t ∧ a ≠ S.q := by
  obtain ⟨h0, _⟩ := h.nd p d hp
  refine ⟨p.toNat - 1, by omega, fun e => ?_, fun e => ?_⟩
  · have : p = (S.t : Int) + 1 := by omega
    rw [this, h.ht] at hp; cases hp
  · have : p = (S.q : Int) + 1 := by omega
    rw [this, h.hq] at hp; cases hp
theorem mget_n (h : S.ok) (hp : S.H p = some d) : mget (S.mem b) p = some d.cells := by
  obtain ⟨a, rfl, h1, h2⟩ := addr_ne h hp
  unfold mget
  rw [show ((a : Int) + 1).toNat = a + 1 by omega]
  simp [TS.mem, h1, h2, hp]
theorem mgetW_t (S : TS) (b : Mem) : mgetW (S.mem b) S.p = some #[pv S.root 0, .map (some S.q)] := by
  unfold mgetW TS.p
  rw [show ((S.t : Int) + 1).toNat = S.t + 1 by omega]
  simp [TS.mem]
theorem mgetW_n (h : S.ok) (hp : S.H p = some d) : mgetW (S.mem b) p = some d.cells := by
  obtain ⟨a, rfl, h1, h2⟩ := addr_ne h hp
  unfold mgetW
  rw [show ((a : Int) + 1).toNat = a + 1 by omega]
  simp [TS.mem, h1, h2, hp]
theorem nz_n (h : S.ok) (hp : S.H p = some d) : nzp p = true := nzp_of (h.nd p d hp).1
theorem nz_t : nzp S.p = true := nzp_of TS.p_pos
theorem ne_t (h : S.ok) (hp : S.H p = some d) : p ≠ S.p := by
  intro e; rw [e] at hp; rw [show S.p = (S.t : Int) + 1 from rfl, h.ht] at hp; cases hp

/-! what is read -/
theorem cell_n (h : S.ok) (hp : S.H p = some d) (k : Nat) : mcell (S.mem b) p k = (d.cells[k]?).getD undef := by
  unfold mcell; rw [mget_n h hp]
theorem gP_l (h : S.ok) (hp : S.H p = some d) : gP (S.mem b) p 2 = d.l := by
  unfold gP; rw [cell_n h hp]; exact vP_pv (h.nd p d hp).2.1
theorem gP_r (h : S.ok) (hp : S.H p = some d) : gP (S.mem b) p 3 = d.r := by
  unfold gP; rw [cell_n h hp]; exact vP_pv (h.nd p d hp).2.2.1
theorem gP_u (h : S.ok) (hp : S.H p = some d) : gP (S.mem b) p 4 = d.u := by
  unfold gP; rw [cell_n h hp]; exact vP_pv (h.nd p d hp).2.2.2
theorem gI_n (h : S.ok) (hp : S.H p = some d) : gI (S.mem b) p 5 = d.n := by
  unfold gI; rw [cell_n h hp]; rfl
theorem gI_s (h : S.ok) (hp : S.H p = some d) : gI (S.mem b) p 0 = d.s := by
  unfold gI; rw [cell_n h hp]; rfl
theorem gI_g (h : S.ok) (hp : S.H p = some d) : gI (S.mem b) p 1 = d.g := by
  unfold gI; rw [cell_n h hp]; rfl
theorem gB_c (h : S.ok) (hp : S.H p = some d) : gB (S.mem b) p 6 = d.c := by
  unfold gB; rw [cell_n h hp]; rfl
theorem gP_t (h : S.ok) : gP (S.mem b) S.p 0 = S.root := by
  unfold gP mcell; rw [mget_t]; exact vP_pv h.root
theorem cell_m : mcell (S.mem b) S.p 1 = .map (some S.q) := by
  unfold mcell; rw [mget_t]; rfl
theorem okL_n (h : S.ok) (hp : S.H p = some d) {k : Nat} {zs : List C} (hk : okR d.cells k zs = true) : okL (S.mem b) p k zs = true := by
  unfold okL; rw [mget_n h hp]; exact hk
theorem okR_p (d : Nd) : okR d.cells 2 [.nilp] = true ∧ okR d.cells 3 [.nilp] = true ∧ okR d.cells 4 [.nilp] = true ∧ okR d.cells 5 [.li .i64 0] = true ∧ okR d.cells 6 [.lb false] = true ∧ okR d.cells 0 [.li .i64 0, .li .u64 0] = true := by
  refine ⟨?_, ?_, ?_, ?_, ?_, ?_⟩ <;> simp [okR, Nd.cells, okC, isP_pv, isK, isB]
theorem okL_2 (h : S.ok) (hp : S.H p = some d) : okL (S.mem b) p 2 [.nilp] = true := okL_n h hp (okR_p d).1
theorem okL_3 (h : S.ok) (hp : S.H p = some d) : okL (S.mem b) p 3 [.nilp] = true := okL_n h hp (okR_p d).2.1
theorem okL_4 (h : S.ok) (hp : S.H p = some d) : okL (S.mem b) p 4 [.nilp] = true := okL_n h hp (okR_p d).2.2.1
theorem okL_5 (h : S.ok) (hp : S.H p = some d) : okL (S.mem b) p 5 [.li .i64 0] = true := okL_n h hp (okR_p d).2.2.2.1
theorem okL_6 (h : S.ok) (hp : S.H p = some d) : okL (S.mem b) p 6 [.lb false] = true := okL_n h hp (okR_p d).2.2.2.2.1
theorem okL_0 (h : S.ok) (hp : S.H p = some d) : okL (S.mem b) p 0 [.li .i64 0, .li .u64 0] = true := okL_n h hp (okR_p d).2.2.2.2.2
theorem okL_t : okL (S.mem b) S.p 0 [.nilp] = true := by
  unfold okL; rw [mget_t]; simp [okR, okC, isP_pv]
theorem okL_m : okL (S.mem b) S.p 1 [.raw (.map none)] = true := by
  unfold okL; rw [mget_t]; rfl
theorem okS_n (h : S.ok) (hp : S.H p = some d) {k n : Nat} (hk : Nat.ble (k + n) 7 = true) : okS (S.mem b) p k n = true := by
  unfold okS; rw [mgetW_n h hp]; exact hk
theorem okS_t : okS (S.mem b) S.p 0 1 = true := by
  unfold okS; rw [mgetW_t]; rfl
theorem cmp_n (h : S.ok) {p' : Int} {d' : Nd} (hp : S.H p = some d) (hp' : S.H p' = some d') : cmpOK (S.mem b) p p' = true := by
  unfold cmpOK; rw [mgetW_n h hp, mgetW_n h hp']; simp
/-- what a pointer is to a tree: nil, or a node -/
def TS.has (S : TS) (p : Int) : Prop := p = 0 ∨ ∃ d, S.H p = some d
theorem TS.has.nn (h : S.ok) (hp : S.has p) : 0 ≤ p := by
  rcases hp with rfl | ⟨d, hd⟩
  · exact Int.le_refl 0
  · exact Int.le_of_lt (h.nd p d hd).1
theorem cmp_has (h : S.ok) {p' : Int} (hp : S.has p) (hp' : S.has p') : cmpOK (S.mem b) p p' = true := by
  rcases hp with rfl | ⟨d, hd⟩
  · simp [cmpOK]
  · rcases hp' with rfl | ⟨d', hd'⟩
    · exact cmp_zero _ _
    · exact cmp_n h hd hd'

/-! what is written -/
theorem wr_n (h : S.ok) {d' : Nd} (hp : S.H p = some d) {k : Nat} {vs : List Value} (hd : putV d.cells k vs = d'.cells) : wrL (S.mem b) p k vs = (S.set p d').mem b := by
  obtain ⟨a, rfl, h1, h2⟩ := addr_ne h hp
  funext x
  unfold wrL
  rw [show ((a : Int) + 1).toNat = a + 1 by omega]
  by_cases e : x = a
  · subst e
    simp [TS.mem, h1, h2, hp, upd_self, hd]
  · rw [if_neg (by omega)]
    simp only [TS.mem, set_t, set_q, set_root, set_es, set_k, set_H]
    rw [upd_ne d' (show (x : Int) + 1 ≠ (a : Int) + 1 by omega)]
    rfl
theorem wr_l (h : S.ok) (hp : S.H p = some d) (v : Int) : wrL (S.mem b) p 2 [pv v 0] = (S.set p { d with l := v }).mem b := wr_n h hp rfl
theorem wr_r (h : S.ok) (hp : S.H p = some d) (v : Int) : wrL (S.mem b) p 3 [pv v 0] = (S.set p { d with r := v }).mem b := wr_n h hp rfl
theorem wr_u (h : S.ok) (hp : S.H p = some d) (v : Int) : wrL (S.mem b) p 4 [pv v 0] = (S.set p { d with u := v }).mem b := wr_n h hp rfl
theorem wr_sz (h : S.ok) (hp : S.H p = some d) (v : Int) : wrL (S.mem b) p 5 [.int .i64 v] = (S.set p { d with n := v }).mem b := wr_n h hp rfl
theorem wr_c (h : S.ok) (hp : S.H p = some d) (v : Bool) : wrL (S.mem b) p 6 [.bool v] = (S.set p { d with c := v }).mem b := wr_n h hp rfl
theorem wr_h (h : S.ok) (hp : S.H p = some d) (s g : Int) : wrL (S.mem b) p 0 [.int .i64 s, .int .u64 g] = (S.set p { d with s := s, g := g }).mem b := wr_n h hp rfl
theorem wr_t (h : S.ok) (v : Int) : wrL (S.mem b) S.p 0 [pv v 0] = (S.top v).mem b := by
  funext x
  unfold wrL TS.p
  rw [show ((S.t : Int) + 1).toNat = S.t + 1 by omega]
  by_cases e : x = S.t
  · subst e
    simp [TS.mem, putV, TS.top]
  · rw [if_neg (by omega)]
    simp [TS.mem, e, TS.top]
    rfl
end
theorem aOff20 : aOff 2 0 1 = 2 := rfl
theorem aOff21 : aOff 2 1 1 = 3 := rfl
theorem sub10 : iSub .i64 1 0 = 1 := rfl
theorem sub11 : iSub .i64 1 1 = 0 := rfl
theorem inR0 : inR 0 2 = true := rfl
theorem inR1 : inR 1 2 = true := rfl
end Go.Proofs.Ytnlohongffpkpaa.T16
