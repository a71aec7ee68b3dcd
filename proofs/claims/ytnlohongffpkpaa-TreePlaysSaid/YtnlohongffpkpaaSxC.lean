/- The symbolic executor: its operations, and that they tell what the machine's do. A text of the session's own. -/
import Derived.Test.YtnlohongffpkpaaSxB
namespace Go.Proofs.Ytnlohongffpkpaa.Sx
open Go

/-! numbers -/
def iBit (op : BinOp) (k : IntKind) (x y : Int) : Int :=
  match op with
  | .and => k.wrap ((BitVec.ofInt k.bits x &&& BitVec.ofInt k.bits y).toNat)
  | .or => k.wrap ((BitVec.ofInt k.bits x ||| BitVec.ofInt k.bits y).toNat)
  | .xor => k.wrap ((BitVec.ofInt k.bits x ^^^ BitVec.ofInt k.bits y).toNat)
  | _ => k.wrap ((BitVec.ofInt k.bits x &&& ~~~BitVec.ofInt k.bits y).toNat)

def iAdd (k : IntKind) (x y : Int) : Int := k.wrap (x + y)
def iSub (k : IntKind) (x y : Int) : Int := k.wrap (x - y)
def iMul (k : IntKind) (x y : Int) : Int := k.wrap (x * y)
def iConv (k : IntKind) (x : Int) : Int := k.wrap x
def iEq (x y : Int) : Bool := x == y
def iNe (x y : Int) : Bool := x != y
def iLt (x y : Int) : Bool := decide (x < y)
def iLe (x y : Int) : Bool := decide (x ≤ y)
def iGt (x y : Int) : Bool := decide (x > y)
def iGe (x y : Int) : Bool := decide (x ≥ y)
def iNeg? (y : Int) : Bool := decide (y < 0)
def iZero? (y : Int) : Bool := decide (y = 0)
def iMax2 (x y : Int) : Int := if y > x then y else x
def iMin2 (x y : Int) : Int := if y < x then y else x
def bEq (x y : Bool) : Bool := x == y
def bAnd (x y : Bool) : Bool := x && y
def bNot (x : Bool) : Bool := !x

def iArith (op : BinOp) (k : IntKind) (x y : Int) : Option Int :=
  match op with
  | .add => some (iAdd k x y)
  | .sub => some (iSub k x y)
  | .mul => some (iMul k x y)
  | .and => some (iBit .and k x y)
  | .or => some (iBit .or k x y)
  | .xor => some (iBit .xor k x y)
  | .andNot => some (iBit .andNot k x y)
  | _ => none

def iCmp (op : BinOp) (x y : Int) : Option Bool :=
  match op with
  | .eql => some (iEq x y)
  | .neq => some (iNe x y)
  | .lss => some (iLt x y)
  | .leq => some (iLe x y)
  | .gtr => some (iGt x y)
  | .geq => some (iGe x y)
  | _ => none

def iShl (k : IntKind) (x y : Int) : Int := k.wrap (x * 2 ^ min y.toNat k.bits)
def iShr (k : IntKind) (x y : Int) : Int := x.fdiv (2 ^ min y.toNat k.bits)
def iQuo (k : IntKind) (x y : Int) : Int := k.wrap (x.tdiv y)
def iRem (x y : Int) : Int := x.tmod y

def C.int? : C → Option (Bool × IntKind × Int)
  | .li k n => some (true, k, n)
  | .si k n => some (false, k, n)
  | _ => none
def C.bool? : C → Option (Bool × Bool)
  | .lb x => some (true, x)
  | .sb x => some (false, x)
  | _ => none
def mkI (l : Bool) (k : IntKind) (n : Int) : C := match l with | true => .li k n | false => .si k n
def mkB (l : Bool) (x : Bool) : C := match l with | true => .lb x | false => .sb x

theorem C.int_den {c : C} {l : Bool} {k : IntKind} {n : Int} (h : c.int? = some (l, k, n)) (ρ : Nat → Nat) : c.den ρ = .int k n := by
  cases c <;> simp [C.int?] at h <;> obtain ⟨_, rfl, rfl⟩ := h <;> rfl
theorem C.bool_den {c : C} {l x : Bool} (h : c.bool? = some (l, x)) (ρ : Nat → Nat) : c.den ρ = .bool x := by
  cases c <;> simp [C.bool?] at h <;> obtain ⟨_, rfl⟩ := h <;> rfl
theorem mkI_den (l : Bool) (k : IntKind) (n : Int) (ρ : Nat → Nat) : (mkI l k n).den ρ = .int k n := by cases l <;> rfl
theorem mkB_den (l x : Bool) (ρ : Nat → Nat) : (mkB l x).den ρ = .bool x := by cases l <;> rfl
theorem mkI_wf (l : Bool) (k : IntKind) (n : Int) (m : Nat) : (mkI l k n).wf m = true := by cases l <;> rfl
theorem mkB_wf (l x : Bool) (m : Nat) : (mkB l x).wf m = true := by cases l <;> rfl

/-- What an operation on numbers comes to: a value, or a value unless a test holds (the machine would panic there). -/
inductive PR where
  | ok (c : C)
  | unless (b : Bool) (c : C)
  | no

def pick? (l : Bool) (b : Bool) (c : C) : PR :=
  match l with
  | true => (match b with | true => .no | false => .ok c)
  | false => .unless b c

def binI (op : BinOp) (lx : Bool) (kx : IntKind) (x : Int) (ly : Bool) (ky : IntKind) (y : Int) : PR :=
  match op with
  | .shl => pick? ly (iNeg? y) (mkI (lx && ly) kx (iShl kx x y))
  | .shr => pick? ly (iNeg? y) (mkI (lx && ly) kx (iShr kx x y))
  | op =>
    match decide (kx = ky) with
    | false => .no
    | true =>
      match op with
      | .quo => pick? ly (iZero? y) (mkI (lx && ly) kx (iQuo kx x y))
      | .rem => pick? ly (iZero? y) (mkI (lx && ly) kx (iRem x y))
      | op =>
        match iArith op kx x y with
        | some n => .ok (mkI (lx && ly) kx n)
        | none => match iCmp op x y with
          | some b => .ok (mkB (lx && ly) b)
          | none => .no

def PR.tells (r : PR) (P : Program) (w : World) (s : Sem Value) : Prop :=
  match r with
  | .ok c => (∀ n, c.wf n = true) ∧ ∀ ρ, s.run P w = .ok (c.den ρ) w
  | .unless b c => (∀ n, c.wf n = true) ∧ (b = false → ∀ ρ, s.run P w = .ok (c.den ρ) w)
  | .no => True

theorem pick_tells {P : Program} {w : World} {s : Sem Value} (l b : Bool) (c : C) (hw : ∀ n, c.wf n = true) (h : b = false → ∀ ρ, s.run P w = .ok (c.den ρ) w) : (pick? l b c).tells P w s := by
  unfold pick?
  cases l
  · exact ⟨hw, h⟩
  · cases b
    · exact ⟨hw, h rfl⟩
    · trivial

theorem binI_tells (P : Program) (w : World) (op : BinOp) (t : TypeId) (lx : Bool) (kx : IntKind) (x : Int) (ly : Bool) (ky : IntKind) (y : Int) :
    (binI op lx kx x ly ky y).tells P w (binOp op t (.int kx x) (.int ky y)) := by
  unfold binI
  split
  · refine pick_tells _ _ _ (fun n => mkI_wf _ _ _ n) fun hb ρ => ?_
    simp only [iNeg?, decide_eq_false_iff_not] at hb
    simp [binOp, Op.shift, hb, mkI_den, iShl]
  · refine pick_tells _ _ _ (fun n => mkI_wf _ _ _ n) fun hb ρ => ?_
    simp only [iNeg?, decide_eq_false_iff_not] at hb
    simp [binOp, Op.shift, hb, mkI_den, iShr]
  · rename_i h1 h2
    split
    · trivial
    · rename_i hk
      have hk' : kx = ky := of_decide_eq_true hk
      subst hk'
      split
      · refine pick_tells _ _ _ (fun n => mkI_wf _ _ _ n) fun hb ρ => ?_
        simp only [iZero?, decide_eq_false_iff_not] at hb
        simp [binOp, Op.intDiv, hb, mkI_den, iQuo]
      · refine pick_tells _ _ _ (fun n => mkI_wf _ _ _ n) fun hb ρ => ?_
        simp only [iZero?, decide_eq_false_iff_not] at hb
        simp [binOp, Op.intDiv, hb, mkI_den, iRem]
      · rename_i h3 h4
        cases op <;> first | (exact absurd rfl h1) | (exact absurd rfl h2) | (exact absurd rfl h3) | (exact absurd rfl h4) | skip
        all_goals
          first
          | exact ⟨fun n => mkI_wf _ _ _ n, fun ρ => by simp [binOp, Op.intArith, Op.intBits, mkI_den, iBit, iAdd, iSub, iMul]⟩
          | exact ⟨fun n => mkB_wf _ _ n, fun ρ => by simp [binOp, Op.intCmp, mkB_den, iEq, iNe, iLt, iLe, iGt, iGe]⟩

/-! equality of values that are no numbers -/
def andC (x y : C) : Option C :=
  match x with
  | .lb true => some y
  | .lb false => some (.lb false)
  | .sb a => match y with
    | .lb true => some (.sb a)
    | .lb false => some (.lb false)
    | .sb b => some (.sb (bAnd a b))
    | _ => none
  | _ => none

def eqFs (P : Program) (eq : TypeId → List C → List C → Option C) : List Field → List C → List C → Option C
  | [], _, _ => some (.lb true)
  | f :: fs, xs, ys =>
    match decide (f.name = "_") with
    | true => none
    | false =>
      match tsz P f.type with
      | none => none
      | some sz =>
        match takeC xs f.offset sz, takeC ys f.offset sz with
        | some a, some b =>
          match eq f.type a b, eqFs P eq fs xs ys with
          | some x, some y => andC x y
          | _, _ => none
        | _, _ => none

/-- '==' of two rows of cells that are values of type t: numbers, bools, and structs of these. -/
def eqT (P : Program) : Nat → TypeId → List C → List C → Option C
  | 0, _, _, _ => none
  | d + 1, t, xs, ys =>
    match P.underlying t with
    | some (.int _) => match xs, ys with
      | [x], [y] => match x.int?, y.int? with
        | some (lx, kx, nx), some (ly, ky, ny) => match decide (kx = ky) with | true => some (mkB (lx && ly) (iEq nx ny)) | false => none
        | _, _ => none
      | _, _ => none
    | some .bool => match xs, ys with
      | [x], [y] => match x.bool?, y.bool? with
        | some (lx, bx), some (ly, bY) => some (mkB (lx && ly) (bEq bx bY))
        | _, _ => none
      | _, _ => none
    | some (.struct fs) => match P.stoodInHeld t with
      | true => none
      | false => eqFs P (eqT P d) fs.toList xs ys
    | _ => none

/-- A value of type t out of its cells. -/
def IsVal (P : Program) (ρ : Nat → Nat) (t : TypeId) (xs : List C) (v : Value) : Prop :=
  (tagg P t = some true ∧ v = .agg (dens ρ xs)) ∨ (tagg P t = some false ∧ ∃ c, xs = [c] ∧ v = c.den ρ)

theorem bool_of_int {c : C} {b : Bool} (h : ∃ l, c.bool? = some (l, b)) (ρ : Nat → Nat) : c.den ρ = .bool b := by
  obtain ⟨l, hl⟩ := h
  exact C.bool_den hl ρ

theorem mkB_bool (l b : Bool) : (mkB l b).bool? = some (l, b) := by cases l <;> rfl

theorem andC_bool {x y z : C} {a b : Bool} {lx ly : Bool} (hx : x.bool? = some (lx, a)) (hy : y.bool? = some (ly, b)) (h : andC x y = some z) : ∃ l, z.bool? = some (l, a && b) := by
  cases x <;> simp [C.bool?] at hx <;> obtain ⟨rfl, rfl⟩ := hx
  · rename_i v
    cases v
    · simp [andC] at h; subst h; exact ⟨true, by simp [C.bool?]⟩
    · simp [andC] at h; subst h; exact ⟨ly, by simpa using hy⟩
  · rename_i v
    cases y <;> simp [C.bool?] at hy <;> obtain ⟨rfl, rfl⟩ := hy
    · rename_i u
      cases u
      · simp [andC] at h; subst h; exact ⟨true, by simp [C.bool?]⟩
      · simp [andC] at h; subst h; exact ⟨false, by simp [C.bool?]⟩
    · simp [andC] at h; subst h; exact ⟨false, by simp [C.bool?, bAnd]⟩

theorem takeC_spec {cs l : List C} {off sz : Nat} (h : takeC cs off sz = some l) : l = (cs.drop off).take sz ∧ l.length = sz := by
  unfold takeC at h
  simp only at h
  split at h
  · rename_i hl
    cases h
    exact ⟨rfl, Nat.eq_of_beq_eq_true hl⟩
  · cases h

theorem run_part {P : Program} {t : TypeId} {cs l : List C} {off sz : Nat} {b : Bool} (ρ : Nat → Nat) (w : World) (ha : tagg P t = some b) (hs : tsz P t = some sz) (h : takeC cs off sz = some l)
    (h1 : b = false → sz = 1) : ∃ v, (part t (dens ρ cs) off).run P w = .ok v w ∧ IsVal P ρ t l v := by
  obtain ⟨hl, hn⟩ := takeC_spec h
  simp only [part, Sem.run_bind, run_isAgg ha, Result.andThen_ok]
  cases b with
  | true =>
    refine ⟨.agg ((dens ρ cs).extract off (off + sz)), by simp only [if_true, Sem.run_bind, run_sizeOf hs, Result.andThen_ok, Sem.run_pure], .inl ⟨ha, ?_⟩⟩
    congr 1
    subst hl
    apply Array.ext'
    simp [dens, List.map_take, List.map_drop]
  | false =>
    have := h1 rfl
    subst this
    match l, hn with
    | [c], _ =>
      have hc : cs[off]? = some c := by
        have e : ((cs.drop off).take 1)[0]? = some c := by rw [← hl]; rfl
        rw [List.getElem?_take, if_pos (by omega), List.getElem?_drop, Nat.add_zero] at e
        exact e
      refine ⟨c.den ρ, ?_, .inr ⟨ha, c, rfl, rfl⟩⟩
      simp [dens_get, hc]

theorem eqT_shape {P : Program} {d : Nat} {t : TypeId} {xs ys : List C} {c : C} (h : eqT P d t xs ys = some c) :
    ∃ b, tagg P t = some b ∧ (b = false → xs.length = 1) := by
  cases d with
  | zero => simp [eqT] at h
  | succ d =>
    unfold eqT at h
    split at h
    · rename_i k hu
      refine ⟨false, by simp [tagg, hu], fun _ => ?_⟩
      split at h
      · rfl
      · cases h
    · rename_i hu
      refine ⟨false, by simp [tagg, hu], fun _ => ?_⟩
      split at h
      · rfl
      · cases h
    · rename_i fs hu
      exact ⟨true, by simp [tagg, hu], fun e => by cases e⟩
    · cases h

theorem eqFs_run (P : Program) (d : Nat) (ih : ∀ t xs ys c, eqT P d t xs ys = some c → ∃ b, (∃ l, c.bool? = some (l, b)) ∧ ∀ ρ w vx vy, IsVal P ρ t xs vx → IsVal P ρ t ys vy → (Op.equalIn d t vx vy).run P w = .ok b w)
    (xs ys : List C) : ∀ (fs : List Field) (c : C), eqFs P (eqT P d) fs xs ys = some c → ∃ b, (∃ l, c.bool? = some (l, b)) ∧ ∀ ρ w, (Op.eqFields d (dens ρ xs) (dens ρ ys) fs).run P w = .ok b w := by
  intro fs
  induction fs with
  | nil =>
    intro c h
    simp only [eqFs, Option.some.injEq] at h
    subst h
    exact ⟨true, ⟨true, rfl⟩, fun ρ w => by simp [Op.eqFields]⟩
  | cons f fs ihf =>
    intro c h
    simp only [eqFs] at h
    split at h
    · cases h
    · rename_i hn
      split at h
      · cases h
      · rename_i sz hs
        split at h
        · rename_i a b ha hb
          split at h
          · rename_i x y hx hy
            obtain ⟨b1, ⟨l1, e1⟩, r1⟩ := ih _ _ _ _ hx
            obtain ⟨b2, ⟨l2, e2⟩, r2⟩ := ihf _ hy
            refine ⟨b1 && b2, andC_bool e1 e2 h, fun ρ w => ?_⟩
            obtain ⟨g, hg, hg1⟩ := eqT_shape hx
            have hsz : g = false → sz = 1 := fun e => by rw [← (takeC_spec ha).2]; exact hg1 e
            obtain ⟨va, ea, ia⟩ := run_part ρ w hg hs ha hsz
            obtain ⟨vb, eb, ib⟩ := run_part ρ w hg hs hb hsz
            have hn' : f.name ≠ "_" := by simpa using hn
            simp only [Op.eqFields, ne_eq, hn', not_false_eq_true, if_true, Sem.run_bind, ea, eb, Result.andThen_ok, r1 ρ w va vb ia ib, Sem.run_ite]
            cases b1
            · simp
            · simpa using r2 ρ w
          · cases h
        · cases h

theorem eqT_run (P : Program) : ∀ (d : Nat) (t : TypeId) (xs ys : List C) (c : C), eqT P d t xs ys = some c →
    ∃ b, (∃ l, c.bool? = some (l, b)) ∧ ∀ ρ w vx vy, IsVal P ρ t xs vx → IsVal P ρ t ys vy → (Op.equalIn d t vx vy).run P w = .ok b w := by
  intro d
  induction d with
  | zero => intro t xs ys c h; simp [eqT] at h
  | succ d ih =>
    intro t xs ys c h
    unfold eqT at h
    split at h
    · rename_i k hu
      have hf : tagg P t = some false := by simp [tagg, hu]
      split at h
      · rename_i x y
        split at h
        · rename_i lx kx nx ly ky ny hx hy
          split at h
          · rename_i hk
            have hk' : kx = ky := of_decide_eq_true hk
            subst hk'
            cases h
            refine ⟨_, ⟨_, mkB_bool _ _⟩, ?_⟩
            rintro ρ w vx vy (⟨h1, _⟩ | ⟨_, c1, e1, rfl⟩) (⟨h2, _⟩ | ⟨_, c2, e2, rfl⟩)
            · rw [hf] at h1; cases h1
            · rw [hf] at h1; cases h1
            · rw [hf] at h2; cases h2
            · cases e1; cases e2
              rw [C.int_den hx ρ, C.int_den hy ρ]
              exact run_equalIn_int w d t _ _ _ _ hu
          · cases h
        · cases h
      · cases h
    · rename_i hu
      have hf : tagg P t = some false := by simp [tagg, hu]
      split at h
      · rename_i x y
        split at h
        · rename_i lx bx ly bY hx hy
          cases h
          refine ⟨_, ⟨_, mkB_bool _ _⟩, ?_⟩
          rintro ρ w vx vy (⟨h1, _⟩ | ⟨_, c1, e1, rfl⟩) (⟨h2, _⟩ | ⟨_, c2, e2, rfl⟩)
          · rw [hf] at h1; cases h1
          · rw [hf] at h1; cases h1
          · rw [hf] at h2; cases h2
          · cases e1; cases e2
            rw [C.bool_den hx ρ, C.bool_den hy ρ]
            exact run_equalIn_bool w d t _ _ hu
        · cases h
      · cases h
    · rename_i fs hu
      have hf : tagg P t = some true := by simp [tagg, hu]
      split at h
      · cases h
      · rename_i hst
        obtain ⟨b, hb, hr⟩ := eqFs_run P d ih xs ys _ _ h
        refine ⟨b, hb, ?_⟩
        rintro ρ w vx vy (⟨_, rfl⟩ | ⟨h1, _⟩) (⟨_, rfl⟩ | ⟨h2, _⟩)
        · have hfo : P.underlying t = some (.struct (P.fieldsOf t)) := by simp [Program.fieldsOf, hu]
          rw [run_equalIn_struct w d t _ _ hfo hst]
          have : P.fieldsOf t = fs := by simp [Program.fieldsOf, hu]
          rw [this]
          exact hr ρ w
        · rw [hf] at h2; cases h2
        · rw [hf] at h1; cases h1
        · rw [hf] at h1; cases h1
    · cases h

def eqU (P : Program) (t : TypeId) (x y : U) : Option C :=
  match x, y with
  | .agg xs, .agg ys => match P.eqGuardType P.depth t, tagg P t with | false, some true => eqT P 10000 t xs ys | _, _ => none
  | .c cx, .c cy => match P.underlying t with | some .bool => eqT P 10000 t [cx] [cy] | _ => none
  | _, _ => none

def notC : C → Option C
  | .lb b => some (.lb (bNot b))
  | .sb b => some (.sb (bNot b))
  | _ => none

/-- '==' or '!=' of two values that are no numbers. -/
def eqV (P : Program) (op : BinOp) (t : TypeId) (x y : U) : Option C :=
  match op with
  | .eql => eqU P t x y
  | .neq => match eqU P t x y with | some c => notC c | none => none
  | _ => none

theorem bool_wf {c : C} {l b : Bool} (h : c.bool? = some (l, b)) (n : Nat) : c.wf n = true := by
  cases c <;> simp [C.bool?] at h <;> rfl

theorem notC_bool {c z : C} {l b : Bool} (hc : c.bool? = some (l, b)) (h : notC c = some z) : z.bool? = some (l, !b) := by
  cases c <;> simp [C.bool?] at hc <;> obtain ⟨rfl, rfl⟩ := hc <;> cases h <;> rfl

theorem eqU_run {P : Program} {t : TypeId} {x y : U} {c : C} (h : eqU P t x y = some c) :
    ∃ b, (∃ l, c.bool? = some (l, b)) ∧ ∀ (ρ : Nat → Nat) (w : World) (ox oy : Operand),
      (∀ op, (eqGuard op t ox oy (x.den ρ) (y.den ρ)).run P w = .ok () w) ∧
      (binOp .eql t (x.den ρ) (y.den ρ)).run P w = .ok (.bool b) w ∧ (binOp .neq t (x.den ρ) (y.den ρ)).run P w = .ok (.bool (!b)) w := by
  unfold eqU at h
  split at h
  · rename_i xs ys
    split at h
    · rename_i hg ha
      obtain ⟨b, hb, hr⟩ := eqT_run P _ _ _ _ _ h
      refine ⟨b, hb, fun ρ w ox oy => ?_⟩
      have hr' := hr ρ w (.agg (dens ρ xs)) (.agg (dens ρ ys)) (.inl ⟨ha, rfl⟩) (.inl ⟨ha, rfl⟩)
      refine ⟨fun op => run_eqGuard_agg w op t ox oy _ _ hg, ?_, ?_⟩
      · show (binOp .eql t (.agg (dens ρ xs)) (.agg (dens ρ ys))).run P w = _
        rw [run_eql_struct, hr']; rfl
      · show (binOp .neq t (.agg (dens ρ xs)) (.agg (dens ρ ys))).run P w = _
        have : (binOp .neq t (.agg (dens ρ xs)) (.agg (dens ρ ys))).run P w = ((Op.equalIn 10000 t (.agg (dens ρ xs)) (.agg (dens ρ ys))).run P w).andThen fun b w' => .ok (.bool (!b)) w' := by
          simp only [binOp]
          simp [Op.equal, Op.maxDepth]
        rw [this, hr']; rfl
    · cases h
  · rename_i cx cy
    split at h
    · rename_i hu
      unfold eqT at h
      rw [hu] at h
      simp only at h
      split at h
      · rename_i lx bx ly bY hx hy
        cases h
        refine ⟨_, ⟨_, mkB_bool _ _⟩, fun ρ w ox oy => ?_⟩
        simp only [U.den, C.bool_den hx ρ, C.bool_den hy ρ]
        refine ⟨fun op => ?_, run_eql_bool w t bx bY hu, run_neq_bool w t bx bY hu⟩
        unfold eqGuard
        split <;> simp
      · cases h
    · cases h
  · cases h

theorem eqV_run {P : Program} {op : BinOp} {t : TypeId} {x y : U} {c : C} (h : eqV P op t x y = some c) (ox oy : Operand) (ρ : Nat → Nat) (w : World) :
    ((do eqGuard op t ox oy (x.den ρ) (y.den ρ); binOp op t (x.den ρ) (y.den ρ)) : Sem Value).run P w = .ok (c.den ρ) w ∧ ∀ n, c.wf n = true := by
  unfold eqV at h
  split at h
  · obtain ⟨b, ⟨l, hb⟩, hr⟩ := eqU_run h
    obtain ⟨h1, h2, _⟩ := hr ρ w ox oy
    refine ⟨?_, fun n => bool_wf hb n⟩
    simp only [Sem.run_bind, h1, Result.andThen_ok, h2, C.bool_den hb ρ]
  · split at h
    · rename_i z hz
      obtain ⟨b, ⟨l, hb⟩, hr⟩ := eqU_run hz
      obtain ⟨h1, _, h2⟩ := hr ρ w ox oy
      have hb' := notC_bool hb h
      refine ⟨?_, fun n => bool_wf hb' n⟩
      simp only [Sem.run_bind, h1, Result.andThen_ok, h2, C.bool_den hb' ρ]
    · cases h
  · cases h

end Go.Proofs.Ytnlohongffpkpaa.Sx
