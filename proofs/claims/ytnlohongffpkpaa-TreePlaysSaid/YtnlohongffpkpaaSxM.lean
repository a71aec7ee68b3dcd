/- The symbolic executor: a region that leaves its order open, whole. A text of the session's own. -/
import Derived.Test.YtnlohongffpkpaaSxL
namespace Go.Proofs.Ytnlohongffpkpaa.Sx
open Go Go.RowKit

/-! what must have come ahead of each operation, as a number's bits -/
def befStep (acc : List Nat) (s : Nat) (e : Edge) : Nat := match Region.binds .any e with | true => s ||| 2 ^ e.on ||| acc.getD e.on 0 | false => s
def befOf (acc : List Nat) (o : Oper) : Nat := o.after.toList.foldl (befStep acc) 0
def befs : List Oper → List Nat → List Nat
  | [], acc => acc
  | o :: r, acc => befs r (acc ++ [befOf acc o])

def covers (b t : Nat) : Bool := Nat.beq (b &&& (2 ^ t - 1)) (2 ^ t - 1)

def Closed (ops : Array Oper) (L : Nat → Prop) : Prop := ∀ (i : Nat) (o : Oper), L i → ops[i]? = some o → ∀ e ∈ o.after, Region.binds .any e = true → L e.on

theorem befStep_bit (acc : List Nat) (j : Nat) : ∀ (es : List Edge) (s : Nat), (es.foldl (befStep acc) s).testBit j = true → s.testBit j = true ∨ ∃ e ∈ es, Region.binds .any e = true ∧ (e.on = j ∨ (acc.getD e.on 0).testBit j = true) := by
  intro es
  induction es with
  | nil => intro s h; exact .inl h
  | cons e es ih =>
    intro s h
    rcases ih _ h with h | ⟨e', h1, h2, h3⟩
    · unfold befStep at h
      split at h
      · rename_i hb
        rw [Nat.testBit_or, Nat.testBit_or, Bool.or_eq_true, Bool.or_eq_true] at h
        rcases h with (h | h) | h
        · exact .inl h
        · rw [Nat.testBit_two_pow] at h
          exact .inr ⟨e, by simp, hb, .inl (of_decide_eq_true h)⟩
        · exact .inr ⟨e, by simp, hb, .inr h⟩
      · exact .inl h
    · exact .inr ⟨e', by simp [h1], h2, h3⟩

theorem befs_spec (ops : Array Oper) : ∀ (r : List Oper) (acc : List Nat), (∀ i o, r[i]? = some o → ops[acc.length + i]? = some o) →
    (∀ i j, (acc.getD i 0).testBit j = true → ∀ L, Closed ops L → (∀ o, ops[i]? = some o → ∀ e ∈ o.after, Region.binds .any e = true → L e.on) → L j) →
    (∀ i j, ((befs r acc).getD i 0).testBit j = true → ∀ L, Closed ops L → (∀ o, ops[i]? = some o → ∀ e ∈ o.after, Region.binds .any e = true → L e.on) → L j) := by
  intro r
  induction r with
  | nil => intro acc _ h; exact h
  | cons o r ih =>
    intro acc hr hacc
    refine ih (acc ++ [befOf acc o]) ?_ ?_
    · intro i o' hi
      have := hr (i + 1) o' (by simpa using hi)
      simp only [List.length_append, List.length_singleton]
      rw [show acc.length + 1 + i = acc.length + (i + 1) by omega]
      exact this
    · intro i j hj L hL hready
      by_cases h1 : i < acc.length
      · have e : (acc ++ [befOf acc o]).getD i 0 = acc.getD i 0 := by simp [List.getElem?_append, h1]
        rw [e] at hj
        exact hacc i j hj L hL hready
      · by_cases h2 : i = acc.length
        · subst h2
          have e : (acc ++ [befOf acc o]).getD acc.length 0 = befOf acc o := by simp
          rw [e] at hj
          have ho := hr 0 o rfl
          rw [Nat.add_zero] at ho
          rcases befStep_bit acc j _ _ hj with h | ⟨e', g1, g2, g3⟩
          · simp at h
          · have hl := hready o ho e' (by simpa using g1) g2
            rcases g3 with rfl | g3
            · exact hl
            · exact hacc e'.on j g3 L hL fun o2 ho2 e2 he2 hb2 => hL e'.on o2 hl ho2 e2 he2 hb2
        · have e : (acc ++ [befOf acc o]).getD i 0 = 0 := by
            simp [List.getElem?_append, h1, show ¬ i - acc.length = 0 by omega]
          rw [e] at hj
          simp at hj

theorem covers_bit {b t j : Nat} (h : covers b t = true) (hj : j < t) : b.testBit j = true := by
  have e := Nat.eq_of_beq_eq_true h
  have := congrArg (fun x => Nat.testBit x j) e
  simp only [Nat.testBit_and, Nat.testBit_two_pow_sub_one, hj, decide_true, Bool.and_true] at this
  exact this

/-- from m on all comes behind all that stands ahead of m, from s on -/
def cutOK (bf : List Nat) (s m : Nat) : Bool := (bf.drop m).all fun b => covers (b ||| (2 ^ s - 1)) m
def segEnd (bf : List Nat) (s : Nat) : Nat → Nat → Nat
  | 0, m => m
  | f + 1, m => match cutOK bf s m with | true => m | false => segEnd bf s f (m + 1)

theorem cutOK_spec {bf : List Nat} {s m t j : Nat} (h : cutOK bf s m = true) (ht : m ≤ t) (htl : t < bf.length) (hs : s ≤ j) (hj : j < m) : (bf.getD t 0).testBit j = true := by
  unfold cutOK at h
  rw [List.all_eq_true] at h
  have key : ∀ b : Nat, (b ||| (2 ^ s - 1)).testBit j = true → b.testBit j = true := by
    intro b hb
    rw [Nat.testBit_or, Nat.testBit_two_pow_sub_one] at hb
    have : decide (j < s) = false := by simp; exact hs
    rw [this, Bool.or_false] at hb
    exact hb
  refine key _ (covers_bit (h _ ?_) hj)
  rw [List.getD_eq_getElem?_getD, List.getElem?_eq_getElem htl, Option.getD_some]
  rw [List.mem_iff_getElem?]
  exact ⟨t - m, by rw [List.getElem?_drop, show m + (t - m) = t by omega, List.getElem?_eq_getElem htl]⟩

theorem befs_length : ∀ (r : List Oper) (acc : List Nat), (befs r acc).length = acc.length + r.length
  | [], acc => rfl
  | o :: r, acc => by
    rw [befs, befs_length r]
    simp
    omega

/-- stands for what has been done already -/
def nopO : Oper := { dst := none, op := .store 0 (.func 0) (.func 0), type := 0, pos := "", after := #[], guard := none }
/-- the operations from s up to m, at their own places -/
def segL (ops : Array Oper) (s m : Nat) : List Oper := List.replicate s nopO ++ (ops.toList.drop s).take (m - s)

theorem segL_length {ops : Array Oper} {s m : Nat} (h : s ≤ m) (hm : m ≤ ops.size) : (segL ops s m).length = m := by
  simp [segL]; omega
theorem segL_get {ops : Array Oper} {s m i : Nat} (h : s ≤ i) (hm : i < m) : (segL ops s m)[i]? = ops[i]? := by
  unfold segL
  rw [List.getElem?_append_right (by simpa using h), List.length_replicate, List.getElem?_take, if_pos (by omega), List.getElem?_drop, show s + (i - s) = i by omega]
  simp
theorem segL_pad {ops : Array Oper} {s m i : Nat} (h : i < s) : (segL ops s m)[i]? = some nopO := by
  unfold segL
  rw [List.getElem?_append_left (by simpa using h), List.getElem?_replicate, if_pos h]

def edgeTo (o : Oper) (j : Nat) : Bool := o.after.toList.any fun e => Region.binds .any e && Nat.beq e.on j

def depOK (ops : Array Oper) (front : List Oper) (i : Nat) (o : Oper) : Bool :=
  (o.looksAt ops).all fun t => match srcIdx front t with
    | none => true
    | some j => Nat.blt j i && edgeTo o j && (match front[j]? with | some p => !allocOp p.op || isAddr o t | none => false)

def depsOK (ops : Array Oper) (front : List Oper) : List Oper → Nat → Bool
  | [], _ => true
  | o :: r, i => depOK ops front i o && depsOK ops front r (i + 1)

def edgesOK : List Oper → Nat → Bool
  | [], _ => true
  | o :: r, i => (o.after.toList.all fun e => !Region.binds .any e || Nat.blt e.on i) && edgesOK r (i + 1)

/-- No tmp is stored at twice. -/
def storeTmp (o : Oper) : Option Tmp := match o.op with | .store _ (.tmp d) _ => some d | _ => none
def storesOnce : List Oper → Bool
  | [] => true
  | o :: l => (match storeTmp o with | some d => l.all (fun p => match storeTmp p with | some e => !Nat.beq e d | none => true) | none => true) && storesOnce l

def lateOK (ops : Array Oper) (front : List Oper) (o : Oper) : Bool :=
  (o.looksAt ops).all fun t => match srcIdx front t with
    | none => true
    | some j => edgeTo o j && (match front[j]? with | some p => !allocOp p.op | none => false)
/-- where the front's stores into what was there stand -/
def lateIdx (front : List Oper) (s : Nat) : List Nat := (List.range front.length).filter fun i => Nat.ble s i && match front[i]? with | some o => isLate front o | none => false
def chainB (front : List Oper) : List Nat → Bool
  | [] => true
  | a :: r => (match r with | [] => true | b :: _ => (match front[b]? with | some o => edgeTo o a | none => false)) && chainB front r
def latesOK (ops : Array Oper) (front : List Oper) (li : List Nat) : Bool := chainB front li && li.all fun i => match front[i]? with | some o => lateOK ops front o | none => false

/-- the block into which it is stored -/
def lateId (σ : St) (front : List Oper) : Nat → Operand → Option Nat
  | 0, _ => none
  | f + 1, .tmp t => match srcIdx front t with
    | none => (match look σ.tm t with | .u (.c (.ptr id _)) => some id | _ => none)
    | some j => match front[j]? with
      | some p => (match p.op with
        | .fieldAddr _ y _ => lateId σ front f y
        | .indexAddr _ y _ => lateId σ front f y
        | .nilCheck y => lateId σ front f y
        | .move y => lateId σ front f y
        | .assign y => lateId σ front f y
        | _ => none)
      | none => none
  | _, _ => none
def lateIds (σ : St) (front : List Oper) : List Oper → Option (List Nat)
  | [] => some []
  | o :: r => match o.op with
    | .store _ x _ => (match lateId σ front 50 x, lateIds σ front r with | some i, some l => some (i :: l) | _, _ => none)
    | _ => none
def eraseAll : List Nat → Hp → Hp
  | [], h => h
  | i :: r, h => eraseAll r (eraseH i h)

def laterx (P : Program) (hpE : Hp) : List Oper → St → (St → Tr) → Tr
  | [], σ, k => k σ
  | o :: r, σ, k => match stx P σ o.op with
    | some q => (match lookH hpE q.1 with | none => laterx P hpE r q.2 k | some _ => .no 72)
    | none => .no 73

def drawOK (ops : Array Oper) (N s m : Nat) (l : List Oper) (bf : List Nat) : Bool :=
  Nat.blt s m && Nat.ble m ops.size && cutOK bf s m && distinctB l && depsOK ops l l 0 && storesOnce l && (l.all fun o => o.dst.isSome || storeOp o.op && o.guard.isNone) && (l.all fun o => okDst N o.dst) && latesOK ops l (lateIdx l s)

def adopt (σ : St) : Al → St
  | [] => σ
  | (d, b) :: r => adopt { tm := (d, .u (.c (.ptr σ.n 0))) :: σ.tm, hp := hcons (σ.n, b) σ.hp, n := σ.n + 1 } r

def clusx (P : Program) (S : List Sum) (ih : Nat → Code → St → K → Tr) (N : Nat) (ops : Array Oper) (s m : Nat) (l : List Oper) (bf : List Nat) (σ : St) (k : St → Tr) : Tr :=
  match drawOK ops N s m l bf with
  | true => match lateIds σ l ((lateIdx l s).filterMap fun i => l[i]?) with
    | some ids => frontx P S ih N ops l l [] { σ with hp := eraseAll ids σ.hp } fun al σ' =>
        laterx P (eraseAll ids σ.hp) ((lateIdx l s).filterMap fun i => l[i]?) { σ' with hp := σ.hp } fun σ2 => k (adopt σ2 al)
    | none => .no 74
  | false => .no 71

/-- May it be done first, whatever the order? -/
def takeOK (N : Nat) (ops : Array Oper) (s : Nat) (o : Oper) : Option Operand :=
  match o.op, o.guard with
  | .move x, none => (match okDst N o.dst && (ops.toList.drop (s + 1)).all fun p => edgeTo p s || o.apart ops p with | true => some x | false => none)
  | _, _ => none
def segx (P : Program) (S : List Sum) (ih : Nat → Code → St → K → Tr) (N : Nat) (ops : Array Oper) (bf : List Nat) : Nat → Nat → St → (St → Tr) → Tr
  | 0, _, _, _ => .no 70
  | f + 1, s, σ, k => match Nat.ble ops.size s with
    | true => k σ
    | false => match ops[s]? with
      | none => .no 75
      | some o => match cutOK bf s (s + 1) with
        | true => opsx P S ih N ops [o] σ fun σ' => segx P S ih N ops bf f (s + 1) σ' k
        | false => match takeOK N ops s o with
          | some x => segx P S ih N ops bf f (s + 1) (σ.put o.dst (ev σ x)) k
          | none => clusx P S ih N ops s (segEnd bf s ops.size (s + 2)) (segL ops s (segEnd bf s ops.size (s + 2))) bf σ fun σ' => segx P S ih N ops bf f (segEnd bf s ops.size (s + 2)) σ' k

def drawf (P : Program) (S : List Sum) (ih : Nat → Code → St → K → Tr) (N : Nat) (ops : Array Oper) (σ : St) (k : St → Tr) : Tr :=
  match edgesOK ops.toList 0 && Region.noSelect ops with
  | true => segx P S ih N ops (befs ops.toList []) (ops.size + 1) 0 σ k
  | false => .no 71

def drawx (P : Program) (S : List Sum) : DrawX := ⟨drawf P S, fun _ _ => none, fun _ _ _ => none⟩
/-- Loops' rounds are taken at once, where the tmps that are alive at their heads are told. -/
def drawl (P : Program) (S : List Sum) (lv : Nat → Nat → Option LT) : DrawX := ⟨drawf P S, lv, fun _ _ _ => none⟩
/-- .. and paths meet where it is told. -/
def drawc (P : Program) (S : List Sum) (lv : Nat → Nat → Option LT) (ct : Nat → Nat → Nat → Option CT) : DrawX := ⟨drawf P S, lv, ct⟩

section
variable {P : Program} {W : World} {n0 : NL} {ρ0 : Nat → Nat} {N : Nat} {ρ : Nat → Nat} {ops : Array Oper} {L : List Oper} {hp : Hp} {n : Nat}

theorem edgesOK_spec : ∀ (r : List Oper) (i : Nat), edgesOK r i = true → ∀ k o, r[k]? = some o → ∀ e ∈ o.after, Region.binds .any e = true → e.on < i + k := by
  intro r
  induction r with
  | nil => intro i _ k o h; cases h
  | cons p r ih =>
    intro i h k o hk e he hb
    simp only [edgesOK, Bool.and_eq_true, List.all_eq_true] at h
    cases k with
    | zero =>
      simp only [List.getElem?_cons_zero, Option.some.injEq] at hk
      subst hk
      have := h.1 e (by simpa using he)
      simpa [hb] using this
    | succ k =>
      have := ih (i + 1) h.2 k o (by simpa using hk) e he hb
      omega

theorem depsOK_spec (front : List Oper) : ∀ (r : List Oper) (i : Nat), depsOK ops front r i = true → ∀ k o, r[k]? = some o → depOK ops front (i + k) o = true := by
  intro r
  induction r with
  | nil => intro i _ k o h; cases h
  | cons p r ih =>
    intro i h k o hk
    simp only [depsOK, Bool.and_eq_true] at h
    cases k with
    | zero => simp only [List.getElem?_cons_zero, Option.some.injEq] at hk; subst hk; exact h.1
    | succ k =>
      have := ih (i + 1) h.2 k o (by simpa using hk)
      rwa [show i + 1 + k = i + (k + 1) by omega] at this

theorem storesOnce_spec : ∀ (l : List Oper), storesOnce l = true → ∀ (i j : Nat) (o p : Oper) (d : Tmp), l[i]? = some o → l[j]? = some p → storeTmp o = some d → storeTmp p = some d → i = j := by
  intro l
  induction l with
  | nil => intro _ i j o p d h; cases h
  | cons q l ih =>
    intro h i j o p d hi hj ho hp
    simp only [storesOnce, Bool.and_eq_true] at h
    obtain ⟨h1, h2⟩ := h
    have key : ∀ (k : Nat) (x : Oper), storeTmp q = some d → l[k]? = some x → storeTmp x = some d → False := by
      intro k x hq hk hx
      rw [hq] at h1
      simp only [List.all_eq_true] at h1
      have := h1 x (List.mem_of_getElem? hk)
      rw [hx] at this
      simp at this
    cases i with
    | zero =>
      simp only [List.getElem?_cons_zero, Option.some.injEq] at hi
      subst hi
      cases j with
      | zero => rfl
      | succ j => exact (key j p ho (by simpa using hj) hp).elim
    | succ i =>
      cases j with
      | zero =>
        simp only [List.getElem?_cons_zero, Option.some.injEq] at hj
        subst hj
        exact (key i o hp (by simpa using hi) ho).elim
      | succ j => rw [ih h2 i j o p d (by simpa using hi) (by simpa using hj) ho hp]

/-- Where a store's block was made. -/
theorem path_st {l : List Oper} {σ σ' : St} {fs : List Ent} {al' : Al} (hpath : PathP P ops L W n0 ρ0 N ρ hp n l [] σ fs al' σ') (hdist : distinctB l = true) {i q : Nat} {u : U} (hf : fs[i]? = some (.st q u)) :
    ∃ o t d y j, l[i]? = some o ∧ o.op = .store t (.tmp d) y ∧ srcIdx l d = some j ∧ fs[j]? = some (.al q) ∧ j < i ∧ d ∈ o.looksAt ops ∧ ∃ c, al'[q]? = some (d, c) := by
  obtain ⟨_, _, _, _, hlen, _, hal7⟩ := path_al l [] σ fs al' σ' hpath
  have hilt : i < l.length := by rw [← hlen]; exact (List.getElem?_eq_some_iff.1 hf).1
  have hi : l[i]? = some l[i] := List.getElem?_eq_getElem hilt
  obtain ⟨f, al_i, σ_i, al1, σ1, hf', hpi, hstep⟩ := path_get l [] σ fs al' σ' hpath i _ hi
  rw [hf] at hf'
  cases hf'
  obtain ⟨⟨d, cs0, ty0, hq0, _, _, t, y, hop, _, _⟩, _⟩ := hstep
  obtain ⟨_, hpl2, _, hpl4, hpl5, _, _⟩ := path_al (l.take i) [] σ (fs.take i) al_i σ_i hpi
  have hqlt : q < al_i.length := (List.getElem?_eq_some_iff.1 hq0).1
  obtain ⟨j, hj⟩ := hpl4 q (by simp) hqlt
  have hjlt : j < (l.take i).length := by rw [← hpl5]; exact (List.getElem?_eq_some_iff.1 hj).1
  have hji : j < i := by simp at hjlt; omega
  obtain ⟨_, d1, cs1, ty1, cs1', k1, k2, _⟩ := hpl2 j (l.take i)[j] q (List.getElem?_eq_getElem hjlt) hj
  rw [hq0] at k1
  cases k1
  have hlj : l[j]? = some (l.take i)[j] := by
    have := List.getElem?_eq_getElem hjlt
    rw [List.getElem?_take, if_pos hji] at this
    exact this
  obtain ⟨d3, ty3, cs3', m1, _, _, _, ⟨t3, y3, m5, _⟩, _⟩ := hal7 i _ q u hi hf
  rw [hop] at m5
  cases m5
  refine ⟨_, t, d, y, j, hi, hop, srcIdx_of hdist hlj k2, ?_, hji, ?_, _, m1⟩
  · rw [List.getElem?_take, if_pos hji] at hj; exact hj
  · unfold Oper.looksAt
    refine List.mem_append_left _ (List.mem_filterMap.2 ⟨.tmp d, ?_, rfl⟩)
    rw [hop]
    simp [Op.operands]

theorem done_any {Q : Exit → Act → World → Prop} {fuel : Nat} {listed : Array Bool} {a : Act} {w : World} (hls : listed.size = ops.size) (hl : ∀ i, i < ops.size → listed.getD i false = true) (h : Q .normal a w) : wpAny P .any ops Q fuel listed a w := by
  have hnil : Region.ready .any ops listed = [] := by
    cases hr : Region.ready .any ops listed with
    | nil => rfl
    | cons i r =>
      have hi : i ∈ Region.ready .any ops listed := by rw [hr]; simp
      obtain ⟨h1, o, ho, _⟩ := mem_ready.1 hi
      have hlt := (Array.getElem?_eq_some_iff.1 ho).1
      have := hl i hlt
      simp only [Array.getD_eq_getD_getElem?, Array.getElem?_eq_getElem (show i < listed.size by omega), Option.getD_some] at h1 this
      rw [h1] at this
      cases this
  exact wpAny_done hnil h fuel

/-- An operation behind which all the rest comes. -/
theorem one_any {Q : Exit → Act → World → Prop} {t : Nat} (hcov : ∀ u j, t + 1 ≤ u → u < ops.size → t ≤ j → j < t + 1 → ∀ L, Closed ops L → (∀ o, ops[u]? = some o → ∀ e ∈ o.after, Region.binds .any e = true → L e.on) → L j)
    (hedge : ∀ (i : Nat) (o : Oper), ops[i]? = some o → ∀ e ∈ o.after, Region.binds .any e = true → e.on < i) {Kc : Act → World → Prop} {o0 : Oper} (hot : ops[t]? = some o0)
    {fuel : Nat} {listed : Array Bool} {a : Act} {w : World} (hls : listed.size = ops.size) (hl : ∀ i, i < ops.size → (listed.getD i false = true ↔ i < t)) (hf : ops.size - t ≤ fuel)
    (h : wpSeq P ops Q Kc [o0] a w) (hK : ∀ (fuel : Nat) (listed : Array Bool) a w, listed.size = ops.size → (∀ i, i < ops.size → (listed.getD i false = true ↔ i < t + 1)) → ops.size - (t + 1) ≤ fuel → Kc a w → wpAny P .any ops Q fuel listed a w) : wpAny P .any ops Q fuel listed a w := by
  have htlt : t < ops.size := (Array.getElem?_eq_some_iff.1 hot).1
  obtain ⟨fuel, rfl⟩ : ∃ f, fuel = f + 1 := ⟨fuel - 1, by omega⟩
  have hun : listed.getD t true = false := by
    have : ¬ listed.getD t false = true := fun h => Nat.lt_irrefl t ((hl t htlt).1 h)
    simp only [Array.getD_eq_getD_getElem?, Array.getElem?_eq_getElem (show t < listed.size by omega), Option.getD_some] at this ⊢
    simpa using this
  have hready : t ∈ Region.ready .any ops listed := by
    rw [mem_ready]
    refine ⟨hun, o0, hot, fun e he hb => ?_⟩
    have := hedge t _ hot e he hb
    exact (hl e.on (by omega)).2 this
  refine ⟨(fun hn => by rw [hn] at hready; cases hready), fun i hi => ?_⟩
  obtain ⟨hiu, o, ho, hall⟩ := mem_ready.1 hi
  have hilt := (Array.getElem?_eq_some_iff.1 ho).1
  have hit : ¬ i < t := by
    intro hlt
    have := (hl i hilt).2 hlt
    simp only [Array.getD_eq_getD_getElem?, Array.getElem?_eq_getElem (show i < listed.size by omega), Option.getD_some] at hiu this
    rw [hiu] at this
    cases this
  have hie : i = t := by
    by_cases e : i = t
    · exact e
    · exfalso
      have hL : Closed ops (fun j => listed.getD j false = true) := by
        intro j oj hj hoj e he hb
        have hjlt := (Array.getElem?_eq_some_iff.1 hoj).1
        have h1 := (hl j hjlt).1 hj
        have h2 := hedge j oj hoj e he hb
        exact (hl e.on (by omega)).2 (by omega)
      have := hcov i t (by omega) hilt (Nat.le_refl _) (by omega) _ hL (fun o' ho' e he hb => by rw [ho] at ho'; cases ho'; exact hall e he hb)
      have := (hl t htlt).1 this
      omega
  subst hie
  unfold wpOp
  rw [hot]
  simp only
  simp only [wpSeq] at h
  have next : ∀ a' w', Kc a' w' → wpAny P .any ops Q fuel (listed.setIfInBounds i true) a' w' := by
    intro a' w' h'
    refine hK fuel _ a' w' (by simp [hls]) ?_ (by omega) h'
    intro j hj
    by_cases e : i = j
    · subst e
      simp [show i < listed.size by omega]
    · rw [getD_set_ne false e, hl j hj]
      omega
  split
  · rename_i hw
    rw [if_pos hw] at h
    exact h.imp (Oper.wp_mono next) id
  · rename_i hw
    rw [if_neg hw] at h
    exact next _ _ h

theorem nodup_le : ∀ (l U : List Nat), l.Nodup → (∀ i ∈ l, i ∈ U) → l.length ≤ U.length := by
  intro l
  induction l with
  | nil => intro U _ _; simp
  | cons x l ih =>
    intro U hn hs
    rw [List.nodup_cons] at hn
    have hx := hs x (by simp)
    have := ih (U.erase x) hn.2 fun i hi => by
      have hne : i ≠ x := fun e => hn.1 (e ▸ hi)
      exact (List.mem_erase_of_ne hne).2 (hs i (by simp [hi]))
    rw [List.length_erase_of_mem hx] at this
    have := List.length_pos_of_mem hx
    simp
    omega

theorem Agree.congr {l : List Oper} {fs : List Ent} {base : Tmp → Value} {E E' : Nat → Bool} {β : Nat → Nat} {a : Act} (h : Agree l fs base N ρ E β a) (he : ∀ j, j < l.length → E j = E' j) : Agree l fs base N ρ E' β a := by
  refine ⟨h.defers, h.sz, fun t => ?_⟩
  rw [h.tm t]
  cases hj : srcIdx l t with
  | none => rfl
  | some j =>
    obtain ⟨o, h1, _⟩ := srcIdx_get hj
    simp only [he j (List.getElem?_eq_some_iff.1 h1).1]

theorem SW.congr {fs : List Ent} {al' : Al} {E E' : Nat → Bool} {β : Nat → Nat} {w : World} (h : SW W n0 ρ0 ρ hp n fs al' E β w) (he : ∀ j, j < fs.length → E' j = E j) : SW W n0 ρ0 ρ hp n fs al' E' β w := by
  refine ⟨h.H, fun i q hi hf => ?_, fun i j q r hi hj hf hg => h.inj i j q r ?_ ?_ hf hg⟩
  · obtain ⟨d, cs, ty, cs', g1, g2, g3, g4, g5, g6, g7, g8⟩ := h.blk i q (by rw [← he i (List.getElem?_eq_some_iff.1 hf).1]; exact hi) hf
    exact ⟨d, cs, ty, cs', g1, g2, g3, g4, g5, g6, g7, fun hall => g8 fun j u hj => by rw [← he j (List.getElem?_eq_some_iff.1 hj).1]; exact hall j u hj⟩
  · rw [← he i (List.getElem?_eq_some_iff.1 hf).1]; exact hi
  · rw [← he j (List.getElem?_eq_some_iff.1 hg).1]; exact hj

/-- The stores that stand last in the front, one behind another. -/
def LatesP (P : Program) (hpE : Hp) : List Oper → St → St → Prop
  | [], σ, σ' => σ' = σ
  | o :: r, σ, σ' => ∃ id σ1, stx P σ o.op = some (id, σ1) ∧ lookH hpE id = none ∧ LatesP P hpE r σ1 σ'

theorem laterx_path {S : List Sum} {R : Leaf → Prop} {hpE : Hp} {k : St → Tr} : ∀ (l : List Oper) (σ : St), (laterx P hpE l σ k).sat R → ∃ σ', LatesP P hpE l σ σ' ∧ (k σ').sat R
  | [], σ, h => ⟨σ, rfl, h⟩
  | o :: r, σ, h => by
    simp only [laterx] at h
    split at h
    · rename_i q hq
      split at h
      · rename_i hn
        obtain ⟨σ', h1, h2⟩ := laterx_path (S := S) r q.2 h
        exact ⟨σ', ⟨q.1, q.2, hq, hn, h1⟩, h2⟩
      · exact h.elim
    · exact h.elim

def SubH (h h' : Hp) : Prop := (∀ j b, lookH h j = some b → lookH h' j = some b) ∧ (∀ j b, lookM h j = some b → lookM h' j = some b) ∧ h'.lim = h.lim ∧ h'.x = h.x ∧ h'.wr = h.wr
theorem HInv.sub {hp hp' : Hp} {n : Nat} (hs : SubH hp' hp) {w : World} (h : HInv W n0 ρ0 ρ hp n w) : HInv W n0 ρ0 ρ hp' n w :=
  ⟨h.lt, h.inj, fun i b hb => h.blk i b (hs.1 i b hb), h.le, h.old, h.new, h.os, h.tape, h.output, h.size, h.far, fun i b hb => h.mblk i b (hs.2.1 i b hb), hs.2.2.1 ▸ h.lim, hs.2.2.2.2 ▸ hs.2.2.2.1 ▸ h.mem⟩
theorem eraseAll_sub : ∀ (l : List Nat) (h : Hp), SubH (eraseAll l h) h
  | [], h => ⟨fun j b e => e, fun j b e => e, rfl, rfl, rfl⟩
  | i :: r, h => ⟨fun j b e => (lookH_erase ((eraseAll_sub r _).1 j b e)).1, fun j b e => (eraseAll_sub r (eraseH i h)).2.1 j b e, (eraseAll_sub r (eraseH i h)).2.2⟩
theorem stx_spec {σ σ1 : St} {o : Op} {id : Nat} (h : stx P σ o = some (id, σ1)) : σ1.tm = σ.tm ∧ σ1.n = σ.n ∧ (∀ j, j ≠ id → lookH σ1.hp j = lookH σ.hp j) ∧ (∀ j, lookM σ1.hp j = lookM σ.hp j) ∧ σ1.hp.lim = σ.hp.lim ∧ σ1.hp.x = σ.hp.x ∧ σ1.hp.wr = σ.hp.wr := by
  unfold stx at h
  split at h
  · split at h
    · split at h
      · split at h
        · cases h
          refine ⟨rfl, rfl, fun j hj => ?_, fun _ => rfl, rfl, rfl, rfl⟩
          simp only [lookH_hcons]
          rw [Nat.beq_eq_false_iff.2 (fun e => hj e.symm)]
        · cases h
      · cases h
    · cases h
  · cases h
theorem SubH.late {hpE : Hp} {σ σ1 : St} {o : Op} {id : Nat} (hs : SubH hpE σ.hp) (h : stx P σ o = some (id, σ1)) (hn : lookH hpE id = none) : SubH hpE σ1.hp := by
  refine ⟨fun j b hb => ?_, fun j b hb => ?_, (stx_spec h).2.2.2.2.1.trans hs.2.2.1, (stx_spec h).2.2.2.2.2.1.trans hs.2.2.2.1, (stx_spec h).2.2.2.2.2.2.trans hs.2.2.2.2⟩
  · rw [(stx_spec h).2.2.1 j (fun e => by rw [e, hn] at hb; cases hb)]
    exact hs.1 j b hb
  · rw [(stx_spec h).2.2.2.1 j]
    exact hs.2.1 j b hb
theorem LatesP.keeps {hpE : Hp} : ∀ {l : List Oper} {σ σ' : St}, LatesP P hpE l σ σ' → σ'.tm = σ.tm ∧ σ'.n = σ.n
  | [], σ, σ', h => by cases h; exact ⟨rfl, rfl⟩
  | o :: r, σ, σ', ⟨id, σ1, h1, _, h2⟩ => by
    obtain ⟨a1, a2⟩ := LatesP.keeps h2
    obtain ⟨b1, b2, _⟩ := stx_spec h1
    exact ⟨a1.trans b1, a2.trans b2⟩
theorem lateIdx_mem {front : List Oper} {s i : Nat} : i ∈ lateIdx front s ↔ s ≤ i ∧ ∃ o, front[i]? = some o ∧ isLate front o = true := by
  unfold lateIdx
  rw [List.mem_filter, List.mem_range, Bool.and_eq_true]
  constructor
  · rintro ⟨h1, h0, h2⟩
    rw [List.getElem?_eq_getElem h1] at h2
    exact ⟨Nat.le_of_ble_eq_true h0, _, List.getElem?_eq_getElem h1, h2⟩
  · rintro ⟨h0, o, h1, h2⟩
    exact ⟨(List.getElem?_eq_some_iff.1 h1).1, Nat.ble_eq_true_of_le h0, by rw [h1]; exact h2⟩
theorem lateIdx_nodup (front : List Oper) (s : Nat) : (lateIdx front s).Nodup := List.nodup_range.sublist List.filter_sublist
theorem chainB_pred {front : List Oper} : ∀ (r : List Nat) (a i : Nat), chainB front (a :: r) = true → i ∈ r → ∃ p o, p ∈ a :: r ∧ front[i]? = some o ∧ edgeTo o p = true
  | [], _, _, _, h => by cases h
  | b :: r, a, i, hc, h => by
    simp only [chainB, Bool.and_eq_true] at hc
    rcases List.mem_cons.1 h with rfl | h
    · have h1 := hc.1
      split at h1
      · rename_i o ho; exact ⟨a, o, by simp, ho, h1⟩
      · cases h1
    · have h2 : chainB front (b :: r) = true := by simp only [chainB, Bool.and_eq_true]; exact hc.2
      obtain ⟨p, o, g1, g2, g3⟩ := chainB_pred r b i h2 h
      exact ⟨p, o, by simp [List.mem_cons.1 g1], g2, g3⟩
theorem chainB_tail {front : List Oper} {a : Nat} {r : List Nat} (h : chainB front (a :: r) = true) : chainB front r = true := by
  simp only [chainB, Bool.and_eq_true] at h
  exact h.2

theorem front_any {Q : Exit → Act → World → Prop} {s m : Nat} {l : List Oper} (hm : m ≤ ops.size) (hlenl : l.length = m) (hl : ∀ i, s ≤ i → i < m → l[i]? = ops[i]?)
    (hcov : ∀ t j, m ≤ t → t < ops.size → s ≤ j → j < m → ∀ L, Closed ops L → (∀ o, ops[t]? = some o → ∀ e ∈ o.after, Region.binds .any e = true → L e.on) → L j)
    (hedge : ∀ (i : Nat) (o : Oper), ops[i]? = some o → ∀ e ∈ o.after, Region.binds .any e = true → e.on < i) (hsel : Region.noSelect ops = true)
    {σ σ' : St} {fs : List Ent} {al' : Al} {base : Tmp → Value} (hpath : PathP P ops L W n0 ρ0 N ρ hp n l [] σ fs al' σ') (hpad : ∀ i, i < s → fs[i]? = some .late) (hdist : distinctB l = true) (honce : storesOnce l = true) (hsome : ∀ o ∈ l, (o.dst.isSome || storeOp o.op && o.guard.isNone) = true)
    (hn' : σ'.n = n) (hbase : ∀ t, base t = (look σ.tm t).den ρ) (hTM : ∀ t, N ≤ t → base t = undef) (hdst : ∀ o ∈ l, okDst N o.dst = true)
    (hdeps : ∀ k o, l[k]? = some o → depOK ops l k o = true)
    (hT' : Sx.TM N ρ σ') (hlates : ∀ (i : Nat) (o : Oper), l[i]? = some o → isLate L o = true → lateOK ops l o = true) {σ2 : St}
    (hfin : ∀ β a w (fuel : Nat) (listed : Array Bool), listed.size = ops.size → (∀ i, i < ops.size → (listed.getD i false = true ↔ i < m)) → ops.size - m ≤ fuel → Agree l fs base N ρ (fun _ => true) β a → SW W n0 ρ0 ρ σ2.hp n fs al' (fun _ => true) β w → wpAny P .any ops Q fuel listed a w) :
    ∀ (fuel : Nat) (listed : Array Bool) (β : Nat → Nat) (a : Act) (w : World) (rem : List Nat) (σc : St), listed.size = ops.size → (∀ i, i < s → listed.getD i false = true) → Closed ops (fun j => listed.getD j false = true) → (∀ t, m ≤ t → t < ops.size → listed.getD t false = false) →
      (chainB l rem = true ∧ rem.Nodup) → (∀ i ∈ rem, ∃ o, l[i]? = some o ∧ isLate L o = true ∧ listed.getD i false = false) → (∀ (i : Nat) (o : Oper), l[i]? = some o → isLate L o = true → listed.getD i false = true ∨ i ∈ rem) →
      LatesP P hp (rem.filterMap fun i => l[i]?) σc σ2 → σc.tm = σ'.tm → σc.n = n → SubH hp σc.hp →
      (∃ U : List Nat, U.Nodup ∧ (∀ i, i < ops.size → listed.getD i false = false → i ∈ U) ∧ U.length ≤ fuel) →
      Agree l fs base N ρ (fun j => listed.getD j false) β a → SW W n0 ρ0 ρ σc.hp n fs al' (fun j => listed.getD j false) β w → wpAny P .any ops Q fuel listed a w := by
  have hlenf : fs.length = m := by rw [← hlenl]; exact (path_al _ _ _ _ _ _ hpath).2.2.2.2.1
  intro fuel
  induction fuel with
  | zero =>
    intro listed β a w rem σc hls hpre hcl hun hch hrem hlst hpl htmc hnc hsub hU hA hW
    obtain ⟨U, _, hU2, hU3⟩ := hU
    have hall : ∀ i, i < ops.size → listed.getD i false = true := by
      intro i hi
      cases h : listed.getD i false with
      | true => rfl
      | false => have := hU2 i hi h; have : U = [] := List.eq_nil_of_length_eq_zero (by omega); subst this; cases ‹i ∈ []›
    have hmm : m = ops.size := by
      by_cases e : m < ops.size
      · have := hun m (Nat.le_refl _) e; rw [hall m e] at this; cases this
      · omega
    have hrn : rem = [] := by
      cases rem with
      | nil => rfl
      | cons r0 rs =>
        obtain ⟨o, h1, _, h3⟩ := hrem r0 (by simp)
        have := (List.getElem?_eq_some_iff.1 h1).1
        rw [hall r0 (by omega)] at h3
        cases h3
    subst hrn
    replace hpl : σ2 = σc := hpl
    subst hpl
    refine hfin β a w 0 listed hls (fun i hi => ⟨fun _ => by omega, fun _ => hall i hi⟩) (by omega) (hA.congr fun j hj => by rw [hall j (by omega)]) (hW.congr fun j hj => by rw [hall j (by omega)])
  | succ fuel ih =>
    intro listed β a w rem σc hls hpre hcl hun hch hrem hlst hpl htmc hnc hsub hU hA hW
    by_cases hallf : ∀ i, i < m → listed.getD i false = true
    · obtain ⟨U, hU1, hU2, hU3⟩ := hU
      have hrn : rem = [] := by
        cases rem with
        | nil => rfl
        | cons r0 rs =>
          obtain ⟨o, h1, _, h3⟩ := hrem r0 (by simp)
          have := (List.getElem?_eq_some_iff.1 h1).1
          rw [hallf r0 (by omega)] at h3
          cases h3
      subst hrn
      replace hpl : σ2 = σc := hpl
      subst hpl
      refine hfin β a w (fuel + 1) listed hls (fun i hi => ⟨fun h => ?_, fun h => hallf i h⟩) ?_ (hA.congr fun j hj => by rw [hallf j (by omega)]) (hW.congr fun j hj => by rw [hallf j (by omega)])
      · by_cases e : i < m
        · exact e
        · have := hun i (by omega) hi; rw [h] at this; cases this
      · have := nodup_le (List.range' m (ops.size - m)) U List.nodup_range' fun i hi => by
          rw [List.mem_range'_1] at hi
          exact hU2 i (by omega) (hun i (by omega) (by omega))
        simp at this
        omega
    · refine ⟨fun hn => ?_, fun i hi => ?_⟩
      · exfalso
        have hex : ∃ i, i < m ∧ listed.getD i false = false := by
          apply Classical.byContradiction
          intro hno
          apply hallf
          intro i hi
          cases h : listed.getD i false with
          | true => rfl
          | false => exact absurd ⟨i, hi, h⟩ hno
        have key : ∀ k i, i ≤ k → i < m → listed.getD i false = false → False := by
          intro k
          induction k with
          | zero =>
            intro i hik him hif
            have hilt : i < ops.size := by omega
            have : i ∈ Region.ready .any ops listed := by
              rw [mem_ready]
              refine ⟨?_, ops[i], by simp [hilt], fun e he hb => ?_⟩
              · simp only [Array.getD_eq_getD_getElem?, Array.getElem?_eq_getElem (show i < listed.size by omega), Option.getD_some] at hif ⊢
                exact hif
              · have := hedge i ops[i] (by simp [hilt]) e he hb; omega
            rw [hn] at this; cases this
          | succ k ihk =>
            intro i hik him hif
            have hilt : i < ops.size := by omega
            have : i ∈ Region.ready .any ops listed := by
              rw [mem_ready]
              refine ⟨?_, ops[i], by simp [hilt], fun e he hb => ?_⟩
              · simp only [Array.getD_eq_getD_getElem?, Array.getElem?_eq_getElem (show i < listed.size by omega), Option.getD_some] at hif ⊢
                exact hif
              · have h1 := hedge i ops[i] (by simp [hilt]) e he hb
                cases h2 : listed.getD e.on false with
                | true => rfl
                | false => exact (ihk e.on (by omega) (by omega) h2).elim
            rw [hn] at this; cases this
        obtain ⟨i, h1, h2⟩ := hex
        exact key i i (Nat.le_refl _) h1 h2
      · obtain ⟨hiu, o, ho, hall⟩ := mem_ready.1 hi
        have hilt := (Array.getElem?_eq_some_iff.1 ho).1
        have hiu' : listed.getD i false = false := by
          simp only [Array.getD_eq_getD_getElem?, Array.getElem?_eq_getElem (show i < listed.size by omega), Option.getD_some] at hiu ⊢
          exact hiu
        have him : i < m := by
          by_cases e : i < m
          · exact e
          · exfalso
            apply hallf
            intro j hj
            rcases Nat.lt_or_ge j s with hjs | hjs
            · exact hpre j hjs
            · exact hcov i j (by omega) hilt hjs (by omega) _ hcl (fun o' ho' e he hb => by rw [ho] at ho'; cases ho'; exact hall e he hb)
        have his : s ≤ i := by
          rcases Nat.lt_or_ge i s with his | his
          · have := hpre i his
            rw [hiu'] at this
            cases this
          · exact his
        have hil : l[i]? = some o := by
          rw [hl i his him]
          exact ho
        have hedgeL : ∀ j, edgeTo o j = true → listed.getD j false = true := by
          intro j hj
          simp only [edgeTo, List.any_eq_true, Bool.and_eq_true] at hj
          obtain ⟨e, he, hb, hon⟩ := hj
          have := hall e (by simpa using he) hb
          rw [Nat.eq_of_beq_eq_true hon] at this
          exact this
        have hfi : ∃ f, fs[i]? = some f := ⟨fs[i], List.getElem?_eq_getElem (by omega)⟩
        obtain ⟨fi, hfi⟩ := hfi
        have hisL := (path_isL _ _ _ _ _ _ hpath i o fi hil hfi).1
        by_cases hlate : isLate L o = true
        · -- a store into what was there
          have hir : i ∈ rem := (hlst i o hil hlate).resolve_left (by rw [hiu']; decide)
          cases rem with
          | nil => cases hir
          | cons r0 rs =>
            have hi0 : i = r0 := by
              rcases List.mem_cons.1 hir with e | hirs
              · exact e
              · exfalso
                obtain ⟨p, o2, g1, g2, g3⟩ := chainB_pred rs r0 i hch.1 hirs
                rw [hil] at g2
                cases g2
                obtain ⟨_, _, _, g4⟩ := hrem p g1
                rw [hedgeL p g3] at g4
                cases g4
            subst hi0
            rw [List.filterMap_cons, hil] at hpl
            obtain ⟨id, σ1, g1, g2, g3⟩ := hpl
            obtain ⟨k1, k2, _⟩ := stx_spec g1
            have hTc : Sx.TM N ρ σc := by
              refine ⟨fun q hq => ?_, fun t ht => ?_⟩
              · rw [htmc] at hq
                have := hT'.1 q hq
                rw [hnc, ← hn']; exact this
              · rw [htmc]; exact hT'.2 t ht
            have hlo := hlates i o hil hlate
            simp only [isLate, Bool.and_eq_true, Option.isNone_iff_eq_none] at hlate
            refine late_any hpath hdist hbase hTc htmc hnc ho hlate.1.1 hlate.1.2 ?_ g1 hA hW fun w' hW' => ?_
            · intro t ht j hj
              simp only [lateOK, List.all_eq_true] at hlo
              have := hlo t ht
              rw [hj] at this
              simp only [Bool.and_eq_true] at this
              refine ⟨hedgeL j this.1, fun q hq => ?_⟩
              obtain ⟨p, hp1, _⟩ := srcIdx_get hj
              have h2 := this.2
              rw [hp1] at h2
              obtain ⟨f, al_i, σ_i, al1, σ1', hf, _, hstep⟩ := path_get _ _ _ _ _ _ hpath j p hp1
              rw [hq] at hf
              cases hf
              obtain ⟨⟨_, ha⟩, _⟩ := hstep
              simp [ha] at h2
            · have hnd := hch.2
              rw [List.nodup_cons] at hnd
              refine ih (listed.setIfInBounds i true) β a w' rs σ1 (by simp [hls]) (fun j hj => getD_set_true (hpre j hj)) ?_ ?_ ⟨chainB_tail hch.1, hnd.2⟩ ?_ ?_ g3 (k1.trans htmc) (k2.trans hnc) (hsub.late g1 g2) ?_ ⟨hA.defers, hA.sz, fun t => ?_⟩ ⟨hW'.H, fun k q hk hfk => ?_, fun k k' q r hk hk' hfk hfk' => ?_⟩
              · intro j oj hj hoj e he hb
                by_cases ej : i = j
                · subst ej
                  rw [ho] at hoj
                  cases hoj
                  exact getD_set_true (hall e he hb)
                · rw [getD_set_ne false ej] at hj
                  exact getD_set_true (hcl j oj hj hoj e he hb)
              · intro t h1 h2
                rw [getD_set_ne false (by omega)]
                exact hun t h1 h2
              · intro j hj
                obtain ⟨oj, a1, a2, a3⟩ := hrem j (by simp [hj])
                have : i ≠ j := fun e => hnd.1 (by rw [e]; exact hj)
                exact ⟨oj, a1, a2, by rw [getD_set_ne false this]; exact a3⟩
              · intro j oj hj hlj
                by_cases ej : i = j
                · subst ej; left; simp [show i < listed.size by omega]
                · rw [getD_set_ne false ej]
                  rcases hlst j oj hj hlj with e | e
                  · exact .inl e
                  · rcases List.mem_cons.1 e with e | e
                    · exact absurd e.symm ej
                    · exact .inr e
              · obtain ⟨U, hU1, hU2, hU3⟩ := hU
                refine ⟨U.erase i, hU1.erase _, ?_, ?_⟩
                · intro j hj hjf
                  have hji : i ≠ j := by
                    intro e
                    subst e
                    simp [show i < listed.size by omega] at hjf
                  rw [getD_set_ne false hji] at hjf
                  exact (hU1.mem_erase_iff).2 ⟨fun e => hji e.symm, hU2 j hj hjf⟩
                · rw [List.length_erase_of_mem (hU2 _ hilt hiu')]
                  omega
              · rw [hA.tm t]
                cases hj : srcIdx l t with
                | none => rfl
                | some j =>
                  obtain ⟨oj, a1, a2⟩ := srcIdx_get hj
                  have : i ≠ j := by
                    intro e
                    subst e
                    rw [hil] at a1
                    cases a1
                    rw [hlate.1.2] at a2
                    cases a2
                  simp only [getD_set_ne false this]
              · have hki : i ≠ k := by
                  intro e; subst e
                  rw [hfi] at hfk; cases hfk
                  have : isLate L o = false := hisL.symm
                  simp only [isLate] at this
                  rw [hlate.1.1, hlate.1.2, hlate.2] at this
                  cases this
                rw [getD_set_ne false hki] at hk
                obtain ⟨d, cs, ty, cs', b1, b2, b3, b4, b5, b6, b7, b8⟩ := hW'.blk k q hk hfk
                refine ⟨d, cs, ty, cs', b1, b2, b3, b4, b5, b6, b7, fun hall' => b8 fun j u hj => ?_⟩
                have hij : i ≠ j := by
                  intro e; subst e
                  rw [hfi] at hj; cases hj
                  have : isLate L o = false := hisL.symm
                  simp only [isLate] at this
                  rw [hlate.1.1, hlate.1.2, hlate.2] at this
                  cases this
                have := hall' j u hj
                rwa [getD_set_ne false hij] at this
              · have hne : ∀ k q, fs[k]? = some (Ent.al q) → i ≠ k := by
                  intro k q hk e; subst e
                  rw [hfi] at hk; cases hk
                  have : isLate L o = false := hisL.symm
                  simp only [isLate] at this
                  rw [hlate.1.1, hlate.1.2, hlate.2] at this
                  cases this
                rw [getD_set_ne false (hne k q hfk)] at hk
                rw [getD_set_ne false (hne k' r hfk')] at hk'
                exact hW'.inj k k' q r hk hk' hfk hfk'
        have hlate : isLate L o = false := by simpa using hlate
        have hnl : fs[i]? ≠ some .late := by
          intro e
          rw [hfi] at e
          cases e
          rw [hlate] at hisL
          cases hisL
        have hdm := hdst o (List.mem_of_getElem? hil)
        have hdep := hdeps i o hil
        have hdd : (∀ q u, fs[i]? ≠ some (.st q u)) → ∃ d, o.dst = some d := by
          intro hns
          obtain ⟨f, al_i, σ_i, al1, σ1, hf, _, hstep⟩ := path_get _ _ _ _ _ _ hpath i o hil
          have hs := hsome o (List.mem_of_getElem? hil)
          cases hd : o.dst with
          | some d => exact ⟨d, rfl⟩
          | none =>
            exfalso
            rw [hd] at hs
            simp only [Option.isSome_none, Bool.false_or, Bool.and_eq_true] at hs
            cases f with
            | run x => obtain ⟨_, _, _, _, _, hso⟩ := hstep; rw [hso] at hs; cases hs.1
            | skip => obtain ⟨_, _, _, hgs⟩ := hstep; cases hg : o.guard with
              | none => rw [hg] at hgs; cases hgs
              | some g => rw [hg] at hs; cases hs.2
            | al q => obtain ⟨_, _, _, d, _, _, hd', _⟩ := hstep; rw [hd] at hd'; cases hd'
            | st q u => exact hns q u hf
            | late => exact hnl hf
        refine step_any (fun w h => h.sub hsub) hpath hdist hbase hTM hil ho hdm (fun cs b => Region.noSelect_spec hsel i o cs b ho) ?_ ?_ ?_ hdd hA hW hiu' hnl ?_
        · intro t ht j hj
          simp only [depOK, List.all_eq_true] at hdep
          have := hdep t ht
          rw [hj] at this
          simp only [Bool.and_eq_true, Nat.blt_eq] at this
          obtain ⟨⟨g1, g2⟩, g3⟩ := this
          refine ⟨g1, ?_, ?_⟩
          · simp only [edgeTo, List.any_eq_true, Bool.and_eq_true] at g2
            obtain ⟨e, he, hb, hon⟩ := g2
            have := hall e (by simpa using he) hb
            rw [Nat.eq_of_beq_eq_true hon] at this
            exact this
          · cases hia : isAddr o t with
            | true => exact .inl rfl
            | false =>
              refine .inr fun q hq => ?_
              obtain ⟨p, hp1, _⟩ := srcIdx_get hj
              rw [hp1, hia] at g3
              obtain ⟨f, al_i, σ_i, al1, σ1, hf, _, hstep⟩ := path_get _ _ _ _ _ _ hpath j p hp1
              rw [hq] at hf
              cases hf
              obtain ⟨⟨_, ha⟩, _⟩ := hstep
              simp [ha] at g3
        · intro j q u hEj hf k hfk
          obtain ⟨o2, t, d, y, j0, h1, h2, h3, h4, h5, h6, _⟩ := path_st hpath hdist hf
          have hk : k = j0 := (path_al _ _ _ _ _ _ hpath).2.2.1 k j0 q hfk h4
          subst hk
          have hdj := hdeps j o2 h1
          simp only [depOK, List.all_eq_true] at hdj
          have := hdj d h6
          rw [h3] at this
          simp only [Bool.and_eq_true, Nat.blt_eq] at this
          obtain ⟨⟨_, g2⟩, _⟩ := this
          simp only [edgeTo, List.any_eq_true, Bool.and_eq_true] at g2
          obtain ⟨e, he, hb, hon⟩ := g2
          have hoj : ops[j]? = some o2 := by
            have hjm : j < m := by
              have := (List.getElem?_eq_some_iff.1 h1).1
              omega
            have hjs : s ≤ j := by
              rcases Nat.lt_or_ge j s with hjs | hjs
              · have := hpad j hjs
                rw [hf] at this
                cases this
              · exact hjs
            rw [← hl j hjs hjm]
            exact h1
          have := hcl j o2 hEj hoj e (by simpa using he) hb
          rw [Nat.eq_of_beq_eq_true hon] at this
          exact this
        · intro j k q u u' hfj hfk
          obtain ⟨o1, t1, d1, y1, _, h1, h2, _, _, _, _, c1, h7⟩ := path_st hpath hdist hfj
          obtain ⟨o2, t2, d2, y2, _, k1, k2, _, _, _, _, c2, k7⟩ := path_st hpath hdist hfk
          rw [h7] at k7
          cases k7
          exact storesOnce_spec _ honce j k o1 o2 d1 h1 k1 (by simp [storeTmp, h2]) (by simp [storeTmp, k2])
        · intro β' a' w' hA' hW'
          refine ih (listed.setIfInBounds i true) β' a' w' rem σc (by simp [hls]) (fun j hj => getD_set_true (hpre j hj)) ?_ ?_ hch ?_ ?_ hpl htmc hnc hsub ?_ (hA'.congr fun j hj => ?_) (hW'.congr fun j hj => ?_)
          · intro j oj hj hoj e he hb
            by_cases ej : i = j
            · subst ej
              rw [ho] at hoj
              cases hoj
              exact getD_set_true (hall e he hb)
            · rw [getD_set_ne false ej] at hj
              exact getD_set_true (hcl j oj hj hoj e he hb)
          · intro t h1 h2
            rw [getD_set_ne false (by omega)]
            exact hun t h1 h2
          · intro j hj
            obtain ⟨oj, a1, a2, a3⟩ := hrem j hj
            have : i ≠ j := by
              intro e; subst e
              rw [hil] at a1
              cases a1
              rw [hlate] at a2
              cases a2
            exact ⟨oj, a1, a2, by rw [getD_set_ne false this]; exact a3⟩
          · intro j oj hj hlj
            have : i ≠ j := by
              intro e; subst e
              rw [hil] at hj
              cases hj
              rw [hlate] at hlj
              cases hlj
            rw [getD_set_ne false this]
            exact hlst j oj hj hlj
          · obtain ⟨U, hU1, hU2, hU3⟩ := hU
            refine ⟨U.erase i, hU1.erase i, ?_, ?_⟩
            · intro j hj hjf
              have hji : i ≠ j := by
                intro e
                subst e
                simp [show i < listed.size by omega] at hjf
              rw [getD_set_ne false hji] at hjf
              exact (hU1.mem_erase_iff).2 ⟨fun e => hji e.symm, hU2 j hj hjf⟩
            · rw [List.length_erase_of_mem (hU2 i hilt hiu')]
              omega
          · by_cases ej : i = j
            · subst ej; simp [show i < listed.size by omega]
            · rw [getD_set_ne false ej, Nat.beq_eq_false_iff.2 (fun e => ej e.symm), Bool.or_false]
          · by_cases ej : i = j
            · subst ej; simp [show i < listed.size by omega]
            · rw [getD_set_ne false ej, Nat.beq_eq_false_iff.2 (fun e => ej e.symm), Bool.or_false]

end
end Go.Proofs.Ytnlohongffpkpaa.Sx
