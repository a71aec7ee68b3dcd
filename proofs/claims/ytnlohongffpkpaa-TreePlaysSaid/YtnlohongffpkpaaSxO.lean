/- Summaries of functions over numbers and structs of numbers, by models in plain Lean. A text of the session's own. -/
import Derived.Test.YtnlohongffpkpaaSxN
import Derived.Laws.Externs
namespace Go.Proofs.Ytnlohongffpkpaa.Sx
open Go Go.RowKit

inductive Sh where
  | i (k : IntKind)
  | a (ks : List IntKind)

def decI (k : IntKind) (c : C) : Option Int :=
  match c.int? with
  | some x => (match decide (x.2.1 = k) with | true => some x.2.2 | false => none)
  | none => none

def decL : List IntKind → List C → Option (List Int)
  | [], [] => some []
  | k :: ks, c :: cs => (match decI k c, decL ks cs with | some n, some ns => some (n :: ns) | _, _ => none)
  | _, _ => none

def dec : List Sh → List V → Option (List Int)
  | [], [] => some []
  | .i k :: r, .u (.c c) :: vs => (match decI k c, dec r vs with | some n, some ns => some (n :: ns) | _, _ => none)
  | .a ks :: r, .u (.agg cs) :: vs => (match decL ks cs, dec r vs with | some n, some ns => some (n ++ ns) | _, _ => none)
  | _, _ => none

def encL : List IntKind → List Int → List Value
  | k :: ks, n :: ns => .int k n :: encL ks ns
  | _, _ => []

def enc : List Sh → List Int → List Value
  | .i k :: r, n :: ns => .int k n :: enc r ns
  | .a ks :: r, ns => .agg (encL ks (ns.take ks.length)).toArray :: enc r (ns.drop ks.length)
  | _, _ => []

theorem decI_den {k : IntKind} {c : C} {n : Int} (h : decI k c = some n) (ρ : Nat → Nat) : c.den ρ = .int k n := by
  unfold decI at h
  split at h
  · rename_i x hx
    split at h
    · rename_i hk
      cases h
      obtain ⟨l, k', n'⟩ := x
      have hk := of_decide_eq_true hk
      dsimp only at hk
      subst hk
      exact C.int_den hx ρ
    · cases h
  · cases h

theorem decL_den (ρ : Nat → Nat) : ∀ (ks : List IntKind) (cs : List C) (ns : List Int), decL ks cs = some ns → cs.map (C.den ρ) = encL ks ns ∧ ns.length = ks.length
  | [], [], ns, h => by cases h; exact ⟨rfl, rfl⟩
  | [], _ :: _, ns, h => by cases h
  | _ :: _, [], ns, h => by cases h
  | k :: ks, c :: cs, ns, h => by
    simp only [decL] at h
    split at h
    · rename_i n ms h1 h2
      cases h
      obtain ⟨e1, e2⟩ := decL_den ρ ks cs ms h2
      exact ⟨by simp only [List.map_cons, encL, e1, decI_den h1 ρ], by simp [e2]⟩
    · cases h

theorem dec_den (ρ : Nat → Nat) : ∀ (sh : List Sh) (vs : List V) (ns : List Int), dec sh vs = some ns → vs.map (V.den ρ) = enc sh ns
  | [], [], ns, h => by cases h; rfl
  | [], _ :: _, ns, h => by cases h
  | .i _ :: _, [], ns, h => by cases h
  | .a _ :: _, [], ns, h => by cases h
  | .i k :: r, v :: vs, ns, h => by
    match v, h with
    | .u (.c c), h =>
      simp only [dec] at h
      split at h
      · rename_i n ms h1 h2
        cases h
        have e := dec_den ρ r vs ms h2
        simp only [List.map_cons, enc, e, V.den, U.den, decI_den h1 ρ]
      · cases h
    | .u (.agg _), h => cases h
    | .tup _, h => cases h
  | .a ks :: r, v :: vs, ns, h => by
    match v, h with
    | .u (.agg cs), h =>
      simp only [dec] at h
      split at h
      · rename_i n ms h1 h2
        cases h
        have e := dec_den ρ r vs ms h2
        obtain ⟨e1, e2⟩ := decL_den ρ ks cs n h1
        simp only [List.map_cons, enc, e, V.den, U.den, dens, e1, ← e2, List.take_left', List.drop_left']
      · cases h
    | .u (.c _), h => cases h
    | .tup _, h => cases h

def mkSum (f : FuncId) (sh : List Sh) (m : List Int → Option (List Bool × V)) : Sum :=
  { f := f, s := fun args => match dec sh args with | some xs => m xs | none => none, ext := false }

theorem mkSum_ok {P : Program} {f : FuncId} {sh : List Sh} {m : List Int → Option (List Bool × V)} (hf : ∃ fn, P.funcs[f]? = some fn ∧ fn.body.isSome = true)
    (h : ∀ (xs : List Int) (bs : List Bool) (r : V), m xs = some (bs, r) → (∀ b ∈ bs, b = true) → ∀ (ρ : Nat → Nat) (w : World), Calls P f (enc sh xs).toArray w fun e w' => e = .returned (r.den ρ) ∧ Below w.heap.size w w') :
    SumOK P (mkSum f sh m) := by
  refine ⟨⟨(fun _ h => by cases h), (fun _ h => by cases h), (fun _ h => by cases h)⟩, .inr ⟨rfl, .inr ⟨rfl, .inr ⟨rfl, hf, fun args bs r ρ w hs hb => ?_⟩⟩⟩⟩
  simp only [mkSum] at hs
  split at hs
  · rename_i xs hxs
    rw [dec_den ρ sh args xs hxs]
    exact h xs bs r hs hb ρ w
  · cases hs

def mkExt (f : FuncId) (sh : List Sh) (m : List Int → Option (List Bool × V)) : Sum :=
  { f := f, s := fun args => match dec sh args with | some xs => m xs | none => none, ext := true }

theorem mkExt_ok {P : Program} {f : FuncId} {sh : List Sh} {m : List Int → Option (List Bool × V)}
    (h : ∀ (xs : List Int) (bs : List Bool) (r : V), m xs = some (bs, r) → (∀ b ∈ bs, b = true) → ∀ (ρ : Nat → Nat) (w : World), (callFunc f (enc sh xs).toArray).run P w = .ok (.value (r.den ρ)) w) :
    SumOK P (mkExt f sh m) := by
  refine ⟨⟨(fun _ h => by cases h), (fun _ h => by cases h), (fun _ h => by cases h)⟩, .inr ⟨rfl, .inr ⟨rfl, .inl ⟨rfl, fun args bs r ρ w hs hb => ?_⟩⟩⟩⟩
  simp only [mkExt] at hs
  split at hs
  · rename_i xs hxs
    rw [dec_den ρ sh args xs hxs]
    exact h xs bs r hs hb ρ w
  · cases hs

theorem pure_to {P : Program} {S : List Sum} {D : DrawX} (hN : NameOK P) (hS : ∀ q ∈ S, SumOK P q) (hD : DSnd P D) (fuel : Nat) {f : Nat} (args : List V) {T : Tr} (hT : runp P S D fuel f args = T) {vs : Array Value} {r : Value}
    (ρ : Nat → Nat) (he : vs = (args.map (V.den ρ)).toArray) (h : T.all fun v => v.den ρ = r) (w : World) :
    Calls P f vs w fun e w' => e = .returned r ∧ Below w.heap.size w w' := by
  subst he
  refine (pure_sound hN hS hD fuel args hT h ρ w).mono ?_
  rintro e w' ⟨v, hv, he, hb⟩
  exact ⟨by rw [he, hv], hb⟩

/-- A number of 64 bits without a sign, and one with a sign. -/
def isU (x : Int) : Bool := decide (0 ≤ x ∧ x < 18446744073709551616)
def isI (x : Int) : Bool := decide (-9223372036854775808 ≤ x ∧ x < 9223372036854775808)
theorem isU_iff {x : Int} : isU x = true ↔ 0 ≤ x ∧ x < 18446744073709551616 := by simp [isU]
theorem isI_iff {x : Int} : isI x = true ↔ -9223372036854775808 ≤ x ∧ x < 9223372036854775808 := by simp [isI]

theorem V.pair {ρ : Nat → Nat} {a b c d : C} (h1 : a.den ρ = c.den ρ) (h2 : b.den ρ = d.den ρ) : V.den ρ (.u (.agg [a, b])) = V.den ρ (.u (.agg [c, d])) := by
  simp only [V.den, U.den, dens, List.map_cons, List.map_nil, h1, h2]
theorem V.two {ρ : Nat → Nat} {a b c d : C} (h1 : a.den ρ = c.den ρ) (h2 : b.den ρ = d.den ρ) : V.den ρ (.tup [.c a, .c b]) = V.den ρ (.tup [.c c, .c d]) := by
  simp only [V.den, U.den, List.map_cons, List.map_nil, h1, h2]

/-! math/bits.Add64 and Sub64, without a carry in -/
def eAdd1 (x y : Int) : Int := (x + y) % 18446744073709551616
def eAdd2 (x y : Int) : Int := (x + y) / 18446744073709551616
def eSub1 (x y : Int) : Int := (x - y) % 18446744073709551616
def eSub2 (x y : Int) : Int := if x < y then 1 else 0

def extAdd (f : FuncId) : Sum := mkExt f [.i .u64, .i .u64, .i .u64] fun
  | [x, y, c] => (match decide (c = 0) with | true => some ([isU x, isU y], .tup [.c (.si .u64 (eAdd1 x y)), .c (.si .u64 (eAdd2 x y))]) | false => none)
  | _ => none
def extSub (f : FuncId) : Sum := mkExt f [.i .u64, .i .u64, .i .u64] fun
  | [x, y, c] => (match decide (c = 0) with | true => some ([isU x, isU y], .tup [.c (.si .u64 (eSub1 x y)), .c (.si .u64 (eSub2 x y))]) | false => none)
  | _ => none

theorem extAdd_ok {P : Program} {f : FuncId} {fn : Func} (hf : P.funcs[f]? = some fn) (hname : (fn.name == "runtime.NumGoroutine") = false)
    (hb : fn.body.isNone = true) (hn : Extern.findNext fn = none) (he : Extern.find fn = some add64Entry) : SumOK P (extAdd f) := by
  refine mkExt_ok ?_
  intro xs bs r hm hbs ρ w
  split at hm
  · rename_i x y c
    split at hm
    · rename_i hc
      cases hm
      have hc := of_decide_eq_true hc
      subst hc
      have hx := isU_iff.1 (hbs (isU x) (by simp))
      have hy := isU_iff.1 (hbs (isU y) (by simp))
      show (callFunc f #[.int .u64 x, .int .u64 y, .int .u64 0]).run P w = _
      rw [run_callFunc_extern hf hname hb hn he, run_add64 x y 0 hx.1 hy.1 (by omega) (by omega)]
      simp only [Result.andThen, Int.add_zero]
      rfl
    · cases hm
  · cases hm

/-- The model's row for math/bits.Sub64. -/
def sub64Row : Array Value → Sem Value := match Extern.MathBitsCarry.rows with | [_, x] => x.2 | _ => fun _ => pure (.bool false)

theorem run_sub64Row {P : Program} (x y : Nat) (w : World) :
    (sub64Row #[.int .u64 x, .int .u64 y, .int .u64 0]).run P w =
      .ok (.tuple #[.int .u64 (((x + 18446744073709551616 - y) % 18446744073709551616 : Nat) : Int), .int .u64 ((if x < y then 1 else 0 : Nat) : Int)]) w := rfl

theorem extSub_ok {P : Program} {f : FuncId} {fn : Func} (hf : P.funcs[f]? = some fn) (hname : (fn.name == "runtime.NumGoroutine") = false)
    (hb : fn.body.isNone = true) (hn : Extern.findNext fn = none) (he : Extern.find fn = some sub64Row) : SumOK P (extSub f) := by
  refine mkExt_ok ?_
  intro xs bs r hm hbs ρ w
  split at hm
  · rename_i x y c
    split at hm
    · rename_i hc
      cases hm
      have hc := of_decide_eq_true hc
      subst hc
      have hx := isU_iff.1 (hbs (isU x) (by simp))
      have hy := isU_iff.1 (hbs (isU y) (by simp))
      show (callFunc f #[.int .u64 x, .int .u64 y, .int .u64 0]).run P w = _
      obtain ⟨X, rfl⟩ := Int.eq_ofNat_of_zero_le hx.1
      obtain ⟨Y, rfl⟩ := Int.eq_ofNat_of_zero_le hy.1
      rw [run_callFunc_extern hf hname hb hn he]
      rw [run_sub64Row X Y w]
      simp only [Result.andThen, V.den, U.den, C.den, List.map_cons, List.map_nil, eSub1, eSub2]
      have e1 : (((X + 18446744073709551616 - Y) % 18446744073709551616 : Nat) : Int) = ((X : Int) - Y) % 18446744073709551616 := by omega
      have e2 : (((if X < Y then 1 else 0 : Nat)) : Int) = if (X : Int) < (Y : Int) then 1 else 0 := by
        by_cases h : X < Y <;> simp [h]
      rw [e1, e2]
    · cases hm
  · cases hm

end Go.Proofs.Ytnlohongffpkpaa.Sx
