/- The symbolic executor: a region that leaves its order open, whole. A text of the session's own. -/
import Derived.Test.YtepbofnkghbpcaaSxL
namespace Go.Proofs.Ytepbofnkghbpcaa.Sx
open Go Go.RowKit

/-! what must have come ahead of each operation, as a number's bits -/
def befStep (acc : List Nat) (s : Nat) (e : Edge) : Nat := match Region.binds .any e with | true => s ||| 2 ^ e.on ||| acc.getD e.on 0 | false => s
def befOf (acc : List Nat) (o : Oper) : Nat := o.after.toList.foldl (befStep acc) 0
def befs : List Oper → List Nat → List Nat
  | [], acc => acc
  | o :: r, acc => befs r (acc ++ [befOf acc o])

def covers (b t : Nat) : Bool := Nat.beq (b &&& (2 ^ t - 1)) (2 ^ t - 1)

def Closed (ops : Array Oper) (L : Nat → Prop) : Prop := ∀ (i : Nat) (o : Oper), L i → ops[i]? = some o → ∀ e ∈ o.after, Region.binds .any e = true → L e.on

theorem befStep_bit (acc : List Nat) (j : Nat) : ∀ (es : List Edge) (s : Nat), (es.foldl (befStep acc) s).testBit j = true → s.testBit j = true ∨ ∃ e ∈ es, Region.binds .any e = true ∧ (e.on = j ∨ (acc.getD e.on 0).testBit j = true) := by
  intro es
  induction es with
  | nil => intro s h; exact .inl h
  | cons e es ih =>
    intro s h
    rcases ih _ h with h | ⟨e', h1, h2, h3⟩
    · unfold befStep at h
      split at h
      · rename_i hb
        rw [Nat.testBit_or, Nat.testBit_or, Bool.or_eq_true, Bool.or_eq_true] at h
        rcases h with (h | h) | h
        · exact .inl h
        · rw [Nat.testBit_two_pow] at h
          exact .inr ⟨e, by simp, hb, .inl (of_decide_eq_true h)⟩
        · exact .inr ⟨e, by simp, hb, .inr h⟩
      · exact .inl h
    · exact .inr ⟨e', by simp [h1], h2, h3⟩

theorem befs_spec (ops : Array Oper) : ∀ (r : List Oper) (acc : List Nat), (∀ i o, r[i]? = some o → ops[acc.length + i]? = some o) →
    (∀ i j, (acc.getD i 0).testBit j = true → ∀ L, Closed ops L → (∀ o, ops[i]? = some o → ∀ e ∈ o.after, Region.binds .any e = true → L e.on) → L j) →
    (∀ i j, ((befs r acc).getD i 0).testBit j = true → ∀ L, Closed ops L → (∀ o, ops[i]? = some o → ∀ e ∈ o.after, Region.binds .any e = true → L e.on) → L j) := by
  intro r
  induction r with
  | nil => intro acc _ h; exact h
  | cons o r ih =>
    intro acc hr hacc
    refine ih (acc ++ [befOf acc o]) ?_ ?_
    · intro i o' hi
      have := hr (i + 1) o' (by simpa using hi)
      simp only [List.length_append, List.length_singleton]
      rw [show acc.length + 1 + i = acc.length + (i + 1) by omega]
      exact this
    · intro i j hj L hL hready
      by_cases h1 : i < acc.length
      · have e : (acc ++ [befOf acc o]).getD i 0 = acc.getD i 0 := by simp [List.getElem?_append, h1]
        rw [e] at hj
        exact hacc i j hj L hL hready
      · by_cases h2 : i = acc.length
        · subst h2
          have e : (acc ++ [befOf acc o]).getD acc.length 0 = befOf acc o := by simp
          rw [e] at hj
          have ho := hr 0 o rfl
          rw [Nat.add_zero] at ho
          rcases befStep_bit acc j _ _ hj with h | ⟨e', g1, g2, g3⟩
          · simp at h
          · have hl := hready o ho e' (by simpa using g1) g2
            rcases g3 with rfl | g3
            · exact hl
            · exact hacc e'.on j g3 L hL fun o2 ho2 e2 he2 hb2 => hL e'.on o2 hl ho2 e2 he2 hb2
        · have e : (acc ++ [befOf acc o]).getD i 0 = 0 := by
            simp [List.getElem?_append, h1, show ¬ i - acc.length = 0 by omega]
          rw [e] at hj
          simp at hj

theorem covers_bit {b t j : Nat} (h : covers b t = true) (hj : j < t) : b.testBit j = true := by
  have e := Nat.eq_of_beq_eq_true h
  have := congrArg (fun x => Nat.testBit x j) e
  simp only [Nat.testBit_and, Nat.testBit_two_pow_sub_one, hj, decide_true, Bool.and_true] at this
  exact this

/-- the number of operations up to the last one that need not come behind all ahead of it -/
def frontLen : List Nat → Nat → Nat → Nat
  | [], _, m => m
  | b :: r, t, m => match covers b t with | true => frontLen r (t + 1) m | false => frontLen r (t + 1) (t + 1)

def tailOK (bf : List Nat) (m size : Nat) : Bool := (List.range size).all fun t => Nat.blt t m || covers (bf.getD t 0) t

def edgeTo (o : Oper) (j : Nat) : Bool := o.after.toList.any fun e => Region.binds .any e && Nat.beq e.on j

def depOK (ops : Array Oper) (front : List Oper) (i : Nat) (o : Oper) : Bool :=
  (o.looksAt ops).all fun t => match srcIdx front t with
    | none => true
    | some j => Nat.blt j i && edgeTo o j && (match front[j]? with | some p => !allocOp p.op | none => false)

def depsOK (ops : Array Oper) (front : List Oper) : List Oper → Nat → Bool
  | [], _ => true
  | o :: r, i => depOK ops front i o && depsOK ops front r (i + 1)

def edgesOK : List Oper → Nat → Bool
  | [], _ => true
  | o :: r, i => (o.after.toList.all fun e => !Region.binds .any e || Nat.blt e.on i) && edgesOK r (i + 1)

def drawOK (ops : Array Oper) (N m : Nat) (bf : List Nat) : Bool :=
  let front := ops.toList.take m
  Nat.ble m ops.size && tailOK bf m ops.size && distinctB front && depsOK ops front front 0 && edgesOK ops.toList 0 && Region.noSelect ops && front.all fun o => okDst N o.dst

def adopt (σ : St) : Al → St
  | [] => σ
  | (d, b) :: r => adopt { tm := (d, .u (.c (.ptr σ.n 0))) :: σ.tm, hp := (σ.n, b) :: σ.hp, n := σ.n + 1 } r

def drawx (P : Program) (S : List Sum) : DrawX := fun ih N ops σ k =>
  let bf := befs ops.toList []
  let m := frontLen bf 0 0
  match drawOK ops N m bf with
  | true => frontx P S N ops (ops.toList.take m) [] σ fun al σ' => opsx P S ih N ops (ops.toList.drop m) (adopt σ' al) k
  | false => .no 71

section
variable {P : Program} {W : World} {n0 : Nat} {ρ0 : Nat → Nat} {N : Nat} {ρ : Nat → Nat} {ops : Array Oper} {hp : List (Nat × Blk)} {n : Nat}

theorem edgesOK_spec : ∀ (r : List Oper) (i : Nat), edgesOK r i = true → ∀ k o, r[k]? = some o → ∀ e ∈ o.after, Region.binds .any e = true → e.on < i + k := by
  intro r
  induction r with
  | nil => intro i _ k o h; cases h
  | cons p r ih =>
    intro i h k o hk e he hb
    simp only [edgesOK, Bool.and_eq_true, List.all_eq_true] at h
    cases k with
    | zero =>
      simp only [List.getElem?_cons_zero, Option.some.injEq] at hk
      subst hk
      have := h.1 e (by simpa using he)
      simpa [hb] using this
    | succ k =>
      have := ih (i + 1) h.2 k o (by simpa using hk) e he hb
      omega

theorem depsOK_spec (front : List Oper) : ∀ (r : List Oper) (i : Nat), depsOK ops front r i = true → ∀ k o, r[k]? = some o → depOK ops front (i + k) o = true := by
  intro r
  induction r with
  | nil => intro i _ k o h; cases h
  | cons p r ih =>
    intro i h k o hk
    simp only [depsOK, Bool.and_eq_true] at h
    cases k with
    | zero => simp only [List.getElem?_cons_zero, Option.some.injEq] at hk; subst hk; exact h.1
    | succ k =>
      have := ih (i + 1) h.2 k o (by simpa using hk)
      rwa [show i + 1 + k = i + (k + 1) by omega] at this

/-- Behind the front all goes in the text's order. -/
theorem tail_any {Q : Exit → Act → World → Prop} {m : Nat} (hcov : ∀ t j, m ≤ t → t < ops.size → j < t → ∀ L, Closed ops L → (∀ o, ops[t]? = some o → ∀ e ∈ o.after, Region.binds .any e = true → L e.on) → L j)
    (hedge : ∀ (i : Nat) (o : Oper), ops[i]? = some o → ∀ e ∈ o.after, Region.binds .any e = true → e.on < i) :
    ∀ (d t fuel : Nat) (listed : Array Bool) (a : Act) (w : World), ops.size - t = d → m ≤ t → t ≤ ops.size → listed.size = ops.size → (∀ i, i < ops.size → (listed.getD i false = true ↔ i < t)) → ops.size - t ≤ fuel →
      wpList P ops Q (ops.toList.drop t) a w → wpAny P .any ops Q fuel listed a w := by
  intro d
  induction d with
  | zero =>
    intro t fuel listed a w hd hm ht hls hl hf h
    have htt : t = ops.size := by omega
    subst htt
    have hnil : Region.ready .any ops listed = [] := by
      cases hr : Region.ready .any ops listed with
      | nil => rfl
      | cons i r =>
        have hi : i ∈ Region.ready .any ops listed := by rw [hr]; simp
        obtain ⟨h1, o, ho, _⟩ := mem_ready.1 hi
        have hlt := (Array.getElem?_eq_some_iff.1 ho).1
        have := (hl i hlt).2 hlt
        simp only [Array.getD_eq_getD_getElem?, Array.getElem?_eq_getElem (show i < listed.size by omega), Option.getD_some] at h1 this
        rw [h1] at this
        cases this
    refine wpAny_done hnil ?_ fuel
    rw [List.drop_of_length_le (by simp)] at h
    exact h
  | succ d ih =>
    intro t fuel listed a w hd hm ht hls hl hf h
    have htlt : t < ops.size := by omega
    obtain ⟨fuel, rfl⟩ : ∃ f, fuel = f + 1 := ⟨fuel - 1, by omega⟩
    have hot : ops[t]? = some ops[t] := by simp [htlt]
    have hun : listed.getD t true = false := by
      have : ¬ listed.getD t false = true := fun h => Nat.lt_irrefl t ((hl t htlt).1 h)
      simp only [Array.getD_eq_getD_getElem?, Array.getElem?_eq_getElem (show t < listed.size by omega), Option.getD_some] at this ⊢
      simpa using this
    have hready : t ∈ Region.ready .any ops listed := by
      rw [mem_ready]
      refine ⟨hun, ops[t], hot, fun e he hb => ?_⟩
      have := hedge t _ hot e he hb
      exact (hl e.on (by omega)).2 this
    have hdrop : ops.toList.drop t = ops[t] :: ops.toList.drop (t + 1) := by
      rw [List.drop_eq_getElem_cons (by simpa using htlt)]
      simp
    rw [hdrop] at h
    refine ⟨(fun hn => by rw [hn] at hready; cases hready), fun i hi => ?_⟩
    obtain ⟨hiu, o, ho, hall⟩ := mem_ready.1 hi
    have hilt := (Array.getElem?_eq_some_iff.1 ho).1
    have hit : ¬ i < t := by
      intro hlt
      have := (hl i hilt).2 hlt
      simp only [Array.getD_eq_getD_getElem?, Array.getElem?_eq_getElem (show i < listed.size by omega), Option.getD_some] at hiu this
      rw [hiu] at this
      cases this
    have hie : i = t := by
      by_cases e : i = t
      · exact e
      · exfalso
        have hL : Closed ops (fun j => listed.getD j false = true) := by
          intro j oj hj hoj e he hb
          have hjlt := (Array.getElem?_eq_some_iff.1 hoj).1
          have h1 := (hl j hjlt).1 hj
          have h2 := hedge j oj hoj e he hb
          exact (hl e.on (by omega)).2 (by omega)
        have := hcov i t (by omega) hilt (by omega) _ hL (fun o' ho' e he hb => by rw [ho] at ho'; cases ho'; exact hall e he hb)
        have := (hl t htlt).1 this
        omega
    subst hie
    unfold wpOp
    rw [hot]
    simp only
    unfold wpList at h
    have next : ∀ a' w', wpList P ops Q (ops.toList.drop (i + 1)) a' w' → wpAny P .any ops Q fuel (listed.setIfInBounds i true) a' w' := by
      intro a' w' h'
      refine ih (i + 1) fuel _ a' w' (by omega) (by omega) (by omega) (by simp [hls]) ?_ (by omega) h'
      intro j hj
      by_cases e : i = j
      · subst e
        simp [show i < listed.size by omega]
      · rw [getD_set_ne false e, hl j hj]
        omega
    split
    · rename_i hw
      rw [if_pos hw] at h
      exact h.imp (Oper.wp_mono next) id
    · rename_i hw
      rw [if_neg hw] at h
      exact next _ _ h

theorem nodup_le : ∀ (l U : List Nat), l.Nodup → (∀ i ∈ l, i ∈ U) → l.length ≤ U.length := by
  intro l
  induction l with
  | nil => intro U _ _; simp
  | cons x l ih =>
    intro U hn hs
    rw [List.nodup_cons] at hn
    have hx := hs x (by simp)
    have := ih (U.erase x) hn.2 fun i hi => by
      have hne : i ≠ x := fun e => hn.1 (e ▸ hi)
      exact (List.mem_erase_of_ne hne).2 (hs i (by simp [hi]))
    rw [List.length_erase_of_mem hx] at this
    have := List.length_pos_of_mem hx
    simp
    omega

theorem Agree.congr {l : List Oper} {fs : List Ent} {base : Tmp → Value} {E E' : Nat → Bool} {β : Nat → Nat} {a : Act} (h : Agree l fs base N ρ E β a) (he : ∀ j, j < l.length → E j = E' j) : Agree l fs base N ρ E' β a := by
  refine ⟨h.defers, h.sz, fun t => ?_⟩
  rw [h.tm t]
  cases hj : srcIdx l t with
  | none => rfl
  | some j =>
    obtain ⟨o, h1, _⟩ := srcIdx_get hj
    simp only [he j (List.getElem?_eq_some_iff.1 h1).1]

theorem SW.congr {fs : List Ent} {al' : Al} {E E' : Nat → Bool} {β : Nat → Nat} {w : World} (h : SW W n0 ρ0 ρ hp n fs al' E β w) (he : ∀ j, j < fs.length → E' j = E j) : SW W n0 ρ0 ρ hp n fs al' E' β w := by
  refine ⟨h.H, fun i q hi hf => h.blk i q ?_ hf, fun i j q r hi hj hf hg => h.inj i j q r ?_ ?_ hf hg⟩
  · rw [← he i (List.getElem?_eq_some_iff.1 hf).1]; exact hi
  · rw [← he i (List.getElem?_eq_some_iff.1 hf).1]; exact hi
  · rw [← he j (List.getElem?_eq_some_iff.1 hg).1]; exact hj

theorem front_any {Q : Exit → Act → World → Prop} {m : Nat} (hm : m ≤ ops.size) (hcov : ∀ t j, m ≤ t → t < ops.size → j < t → ∀ L, Closed ops L → (∀ o, ops[t]? = some o → ∀ e ∈ o.after, Region.binds .any e = true → L e.on) → L j)
    (hedge : ∀ (i : Nat) (o : Oper), ops[i]? = some o → ∀ e ∈ o.after, Region.binds .any e = true → e.on < i) (hsel : Region.noSelect ops = true)
    {σ σ' : St} {fs : List Ent} {al' : Al} {base : Tmp → Value} (hpath : PathP P ops W n0 ρ0 N ρ hp n (ops.toList.take m) [] σ fs al' σ') (hdist : distinctB (ops.toList.take m) = true)
    (hbase : ∀ t, base t = (look σ.tm t).den ρ) (hTM : ∀ t, N ≤ t → base t = undef) (hdst : ∀ o ∈ ops.toList.take m, okDst N o.dst = true)
    (hdeps : ∀ k o, (ops.toList.take m)[k]? = some o → depOK ops (ops.toList.take m) k o = true)
    (hfin : ∀ β a w, Agree (ops.toList.take m) fs base N ρ (fun _ => true) β a → SW W n0 ρ0 ρ hp n fs al' (fun _ => true) β w → wpList P ops Q (ops.toList.drop m) a w) :
    ∀ (fuel : Nat) (listed : Array Bool) (β : Nat → Nat) (a : Act) (w : World), listed.size = ops.size → Closed ops (fun j => listed.getD j false = true) → (∀ t, m ≤ t → t < ops.size → listed.getD t false = false) →
      (∃ U : List Nat, U.Nodup ∧ (∀ i, i < ops.size → listed.getD i false = false → i ∈ U) ∧ U.length ≤ fuel) →
      Agree (ops.toList.take m) fs base N ρ (fun j => listed.getD j false) β a → SW W n0 ρ0 ρ hp n fs al' (fun j => listed.getD j false) β w → wpAny P .any ops Q fuel listed a w := by
  have hlenl : (ops.toList.take m).length = m := by simp [hm]
  have hlenf : fs.length = m := by rw [← hlenl]; exact (path_al _ _ _ _ _ _ hpath).2.2.2.2
  intro fuel
  induction fuel with
  | zero =>
    intro listed β a w hls hcl hun hU hA hW
    obtain ⟨U, _, hU2, hU3⟩ := hU
    have hall : ∀ i, i < ops.size → listed.getD i false = true := by
      intro i hi
      cases h : listed.getD i false with
      | true => rfl
      | false => have := hU2 i hi h; have : U = [] := List.eq_nil_of_length_eq_zero (by omega); subst this; cases ‹i ∈ []›
    have hmm : m = ops.size := by
      by_cases e : m < ops.size
      · have := hun m (Nat.le_refl _) e; rw [hall m e] at this; cases this
      · omega
    refine tail_any hcov hedge 0 m 0 listed a w (by omega) (Nat.le_refl _) hm hls (fun i hi => ⟨fun _ => by omega, fun _ => hall i hi⟩) (by omega) (hfin β a w (hA.congr fun j hj => by rw [hall j (by omega)]) (hW.congr fun j hj => by rw [hall j (by omega)]))
  | succ fuel ih =>
    intro listed β a w hls hcl hun hU hA hW
    by_cases hallf : ∀ i, i < m → listed.getD i false = true
    · obtain ⟨U, hU1, hU2, hU3⟩ := hU
      refine tail_any hcov hedge (ops.size - m) m (fuel + 1) listed a w rfl (Nat.le_refl _) hm hls (fun i hi => ⟨fun h => ?_, fun h => hallf i h⟩) ?_ (hfin β a w (hA.congr fun j hj => by rw [hallf j (by omega)]) (hW.congr fun j hj => by rw [hallf j (by omega)]))
      · by_cases e : i < m
        · exact e
        · have := hun i (by omega) hi; rw [h] at this; cases this
      · have := nodup_le (List.range' m (ops.size - m)) U List.nodup_range' fun i hi => by
          rw [List.mem_range'_1] at hi
          exact hU2 i (by omega) (hun i (by omega) (by omega))
        simp at this
        omega
    · refine ⟨fun hn => ?_, fun i hi => ?_⟩
      · exfalso
        have hex : ∃ i, i < m ∧ listed.getD i false = false := by
          apply Classical.byContradiction
          intro hno
          apply hallf
          intro i hi
          cases h : listed.getD i false with
          | true => rfl
          | false => exact absurd ⟨i, hi, h⟩ hno
        have key : ∀ k i, i ≤ k → i < m → listed.getD i false = false → False := by
          intro k
          induction k with
          | zero =>
            intro i hik him hif
            have hilt : i < ops.size := by omega
            have : i ∈ Region.ready .any ops listed := by
              rw [mem_ready]
              refine ⟨?_, ops[i], by simp [hilt], fun e he hb => ?_⟩
              · simp only [Array.getD_eq_getD_getElem?, Array.getElem?_eq_getElem (show i < listed.size by omega), Option.getD_some] at hif ⊢
                exact hif
              · have := hedge i ops[i] (by simp [hilt]) e he hb; omega
            rw [hn] at this; cases this
          | succ k ihk =>
            intro i hik him hif
            have hilt : i < ops.size := by omega
            have : i ∈ Region.ready .any ops listed := by
              rw [mem_ready]
              refine ⟨?_, ops[i], by simp [hilt], fun e he hb => ?_⟩
              · simp only [Array.getD_eq_getD_getElem?, Array.getElem?_eq_getElem (show i < listed.size by omega), Option.getD_some] at hif ⊢
                exact hif
              · have h1 := hedge i ops[i] (by simp [hilt]) e he hb
                cases h2 : listed.getD e.on false with
                | true => rfl
                | false => exact (ihk e.on (by omega) (by omega) h2).elim
            rw [hn] at this; cases this
        obtain ⟨i, h1, h2⟩ := hex
        exact key i i (Nat.le_refl _) h1 h2
      · obtain ⟨hiu, o, ho, hall⟩ := mem_ready.1 hi
        have hilt := (Array.getElem?_eq_some_iff.1 ho).1
        have hiu' : listed.getD i false = false := by
          simp only [Array.getD_eq_getD_getElem?, Array.getElem?_eq_getElem (show i < listed.size by omega), Option.getD_some] at hiu ⊢
          exact hiu
        have him : i < m := by
          by_cases e : i < m
          · exact e
          · exfalso
            apply hallf
            intro j hj
            exact hcov i j (by omega) hilt (by omega) _ hcl (fun o' ho' e he hb => by rw [ho] at ho'; cases ho'; exact hall e he hb)
        have hil : (ops.toList.take m)[i]? = some o := by
          rw [List.getElem?_take, if_pos him]
          simpa using ho
        have hdm := hdst o (List.mem_of_getElem? hil)
        have hdep := hdeps i o hil
        have hdd : ∃ d, o.dst = some d := by
          have h1 : srcIdx (ops.toList.take m) = srcIdx (ops.toList.take m) := rfl
          clear h1
          have gen : ∀ (l : List Oper) (k : Nat), distinctB l = true → l[k]? = some o → ∃ d, o.dst = some d := by
            intro l
            induction l with
            | nil => intro k _ h; cases h
            | cons p l ihl =>
              intro k hd hk
              obtain ⟨h1, d, h2, _⟩ := distinctB_tail hd
              cases k with
              | zero => simp only [List.getElem?_cons_zero, Option.some.injEq] at hk; subst hk; exact ⟨d, h2⟩
              | succ k => exact ihl k h1 (by simpa using hk)
          exact gen _ i hdist hil
        obtain ⟨d, hd⟩ := hdd
        refine step_any hpath hdist hbase hTM hil ho hd (okDst_lt hdm d hd) (fun cs b => Region.noSelect_spec hsel i o cs b ho) ?_ hA hW hiu' ?_
        · intro t ht j hj
          simp only [depOK, List.all_eq_true] at hdep
          have := hdep t ht
          rw [hj] at this
          simp only [Bool.and_eq_true, Nat.blt_eq] at this
          obtain ⟨⟨g1, g2⟩, g3⟩ := this
          refine ⟨g1, ?_, ?_⟩
          · simp only [edgeTo, List.any_eq_true, Bool.and_eq_true] at g2
            obtain ⟨e, he, hb, hon⟩ := g2
            have := hall e (by simpa using he) hb
            rw [Nat.eq_of_beq_eq_true hon] at this
            exact this
          · intro q hq
            obtain ⟨p, hp1, _⟩ := srcIdx_get hj
            rw [hp1] at g3
            obtain ⟨f, al_i, σ_i, al1, σ1, hf, _, hstep⟩ := path_get _ _ _ _ _ _ hpath j p hp1
            rw [hq] at hf
            cases hf
            obtain ⟨⟨_, ha⟩, _⟩ := hstep
            simp [ha] at g3
        · intro β' a' w' hA' hW'
          refine ih (listed.setIfInBounds i true) β' a' w' (by simp [hls]) ?_ ?_ ?_ (hA'.congr fun j hj => ?_) (hW'.congr fun j hj => ?_)
          · intro j oj hj hoj e he hb
            by_cases ej : i = j
            · subst ej
              rw [ho] at hoj
              cases hoj
              exact getD_set_true (hall e he hb)
            · rw [getD_set_ne false ej] at hj
              exact getD_set_true (hcl j oj hj hoj e he hb)
          · intro t h1 h2
            rw [getD_set_ne false (by omega)]
            exact hun t h1 h2
          · obtain ⟨U, hU1, hU2, hU3⟩ := hU
            refine ⟨U.erase i, hU1.erase i, ?_, ?_⟩
            · intro j hj hjf
              have hji : i ≠ j := by
                intro e
                subst e
                simp [show i < listed.size by omega] at hjf
              rw [getD_set_ne false hji] at hjf
              exact (hU1.mem_erase_iff).2 ⟨fun e => hji e.symm, hU2 j hj hjf⟩
            · rw [List.length_erase_of_mem (hU2 i hilt hiu')]
              omega
          · by_cases ej : i = j
            · subst ej; simp [show i < listed.size by omega]
            · rw [getD_set_ne false ej, Nat.beq_eq_false_iff.2 (fun e => ej e.symm), Bool.or_false]
          · by_cases ej : i = j
            · subst ej; simp [show i < listed.size by omega]
            · rw [getD_set_ne false ej, Nat.beq_eq_false_iff.2 (fun e => ej e.symm), Bool.or_false]

end
end Go.Proofs.Ytepbofnkghbpcaa.Sx
