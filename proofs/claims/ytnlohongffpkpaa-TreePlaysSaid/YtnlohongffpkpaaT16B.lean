/- Layer 16: what the functions of a tree come to. Printed by a program of the session's own (gen16.py). -/
import Derived.Test.YtnlohongffpkpaaT16A
import Derived.Test.YtnlohongffpkpaaProg
namespace Go.Proofs.Ytnlohongffpkpaa.T16
open Go Go.RowKit Go.Proofs.Ytnlohongffpkpaa.Sx
set_option linter.unusedVariables false
theorem nameOK : NameOK Try.prog := nameOK_of (by kernel_rfl)
theorem dOK {S : List Sum} (hS : ∀ q ∈ S, SumOK Try.prog q) : DSnd Try.prog (drawx Try.prog S) := drawx_sound nameOK hS (by kernel_rfl)
def T_size (m : Mem) (p : Int) : Tr := (.br (cmpOK m p 0) (.br (peq p 0) (.leaf (.memo (.u (.c (.li .i64 0))) m)) (.br (nzp p) (.br (nzp p) (.br (okL m p 5 [(.li .i64 0)]) (.leaf (.memo (.u (.c (.si .i64 (gI m p 5)))) m)) (.no 70)) (.no 76)) (.no 75))) (.no 78))
theorem t_size (m : Mem) (p : Int) : runm Try.prog [] (drawx Try.prog []) 300 48 [.u (.c (.np p 0))] m [98] = T_size m p := by kernel_rfl
def sizeOK (m : Mem) (p : Int) : Prop := okP (T_size m p)
def sizeV (m : Mem) (p : Int) : Int := vInt (outV (T_size m p))
theorem size_all (m : Mem) (p : Int) : allL (fun v m' => m' = m ∧ ∀ ρ, V.den ρ v = V.den ρ (.u (.c (.si .i64 (vInt v))))) (T_size m p) := by
  simp only [T_size, allL]
  repeat' (first | exact fun _ => rfl | exact fun _ => trivial | exact trivial | rfl | constructor)
def s_size : Sum := rdSum 48 fun m a => match a with | [a0] => (match ptrOf a0 with | some p => some (sizeOK m p, .u (.c (.si .i64 (sizeV m p)))) | _ => none) | _ => none
theorem s_size_ok : SumOK Try.prog s_size := by
  refine rdSum_ok ⟨_, Try.func48, by kernel_rfl⟩ fun m args pre v h hp hw ρ w hm => ?_
  split at h
  · split at h
    · rename_i a0 _  p h0
      cases h
      exact dm_calls nameOK okn (dOK okn) 300 _ m _ (t_size m p) hp (allL_out (size_all m p) hp).1 ρ ((allL_out (size_all m p) hp).2 ρ) w hm (by simp only [List.map_cons, List.map_nil, ptrOf_den h0])
    · cases h
  · cases h
def T_which (m : Mem) (p : Int) : Tr := (.br (nzp p) (.br (nzp p) (.br (okL m p 4 [.nilp]) (.br (cmpOK m (gP m p 4) 0) (.br (bNot (peq (gP m p 4) 0)) (.br (nzp p) (.br (nzp p) (.br (okL m p 4 [.nilp]) (.br (nzp (gP m p 4)) (.br (nzp (gP m p 4)) (.br (nzp (gP m p 4)) (.br (okL m (gP m p 4) 3 [.nilp]) (.br (cmpOK m (gP m (gP m p 4) 3) p) (.br (peq (gP m (gP m p 4) 3) p) (.leaf (.memo (.u (.c (.li .i64 1))) m)) (.leaf (.memo (.u (.c (.li .i64 0))) m))) (.no 78)) (.no 70)) (.no 81)) (.no 76)) (.no 75)) (.no 70)) (.no 76)) (.no 75)) (.leaf (.memo (.u (.c (.li .i64 0))) m))) (.no 78)) (.no 70)) (.no 76)) (.no 75))
theorem t_which (m : Mem) (p : Int) : runm Try.prog [] (drawx Try.prog []) 300 51 [.u (.c (.np p 0))] m [98] = T_which m p := by kernel_rfl
def whichOK (m : Mem) (p : Int) : Prop := okP (T_which m p)
def whichV (m : Mem) (p : Int) : Int := vInt (outV (T_which m p))
theorem which_all (m : Mem) (p : Int) : allL (fun v m' => m' = m ∧ ∀ ρ, V.den ρ v = V.den ρ (.u (.c (.si .i64 (vInt v))))) (T_which m p) := by
  simp only [T_which, allL]
  repeat' (first | exact fun _ => rfl | exact fun _ => trivial | exact trivial | rfl | constructor)
def s_which : Sum := rdSum 51 fun m a => match a with | [a0] => (match ptrOf a0 with | some p => some (whichOK m p, .u (.c (.si .i64 (whichV m p)))) | _ => none) | _ => none
theorem s_which_ok : SumOK Try.prog s_which := by
  refine rdSum_ok ⟨_, Try.func51, by kernel_rfl⟩ fun m args pre v h hp hw ρ w hm => ?_
  split at h
  · split at h
    · rename_i a0 _  p h0
      cases h
      exact dm_calls nameOK okn (dOK okn) 300 _ m _ (t_which m p) hp (allL_out (which_all m p) hp).1 ρ ((allL_out (which_all m p) hp).2 ρ) w hm (by simp only [List.map_cons, List.map_nil, ptrOf_den h0])
    · cases h
  · cases h
def T_red (m : Mem) (p : Int) : Tr := (.br (cmpOK m p 0) (.br (bNot (peq p 0)) (.br (nzp p) (.br (nzp p) (.br (okL m p 6 [(.lb false)]) (.leaf (.memo (.u (.c (.sb (gB m p 6)))) m)) (.no 70)) (.no 76)) (.no 75)) (.leaf (.memo (.u (.c (.lb false))) m))) (.no 78))
theorem t_red (m : Mem) (p : Int) : runm Try.prog [] (drawx Try.prog []) 300 76 [.u (.c (.np p 0))] m [98] = T_red m p := by kernel_rfl
def redOK (m : Mem) (p : Int) : Prop := okP (T_red m p)
def redV (m : Mem) (p : Int) : Bool := vBool (outV (T_red m p))
theorem red_all (m : Mem) (p : Int) : allL (fun v m' => m' = m ∧ ∀ ρ, V.den ρ v = V.den ρ (.u (.c (.sb (vBool v))))) (T_red m p) := by
  simp only [T_red, allL]
  repeat' (first | exact fun _ => rfl | exact fun _ => trivial | exact trivial | rfl | constructor)
def s_red : Sum := rdSum 76 fun m a => match a with | [a0] => (match ptrOf a0 with | some p => some (redOK m p, .u (.c (.sb (redV m p)))) | _ => none) | _ => none
theorem s_red_ok : SumOK Try.prog s_red := by
  refine rdSum_ok ⟨_, Try.func76, by kernel_rfl⟩ fun m args pre v h hp hw ρ w hm => ?_
  split at h
  · split at h
    · rename_i a0 _  p h0
      cases h
      exact dm_calls nameOK okn (dOK okn) 300 _ m _ (t_red m p) hp (allL_out (red_all m p) hp).1 ρ ((allL_out (red_all m p) hp).2 ρ) w hm (by simp only [List.map_cons, List.map_nil, ptrOf_den h0])
    · cases h
  · cases h
def T_hang (m : Mem) (t : Int) (o : Int) (x : Int) : Tr := (.br (nzp o) (.br (nzp o) (.br (okL m o 4 [.nilp]) (.br (cmpOK m (gP m o 4) 0) (.br (peq (gP m o 4) 0) (.br (nzp t) (.br (nzp t) (.br (okS m t 0 1) (.letm (wrL m t 0 [(pv x 0)]) (fun m1 => (.br (cmpOK m1 x 0) (.br (bNot (peq x 0)) (.br (nzp o) (.br (nzp o) (.br (okL m1 o 4 [.nilp]) (.br (nzp x) (.br (nzp x) (.br (okS m1 x 4 1) (.letm (wrL m1 x 4 [(pv (gP m1 o 4) 0)]) (fun m2 => (.leaf (.memo (.tup []) m2)))) (.no 72)) (.no 76)) (.no 75)) (.no 70)) (.no 76)) (.no 75)) (.leaf (.memo (.tup []) m1))) (.no 78)))) (.no 72)) (.no 76)) (.no 75)) (.br (nzp o) (.br (nzp o) (.br (okL m o 4 [.nilp]) (.req (whichOK m o) (.br (nzp (gP m o 4)) (.br (nzp (gP m o 4)) (.br (nzp (gP m o 4)) (.br (inR (whichV m o) 2) (.br (okS m (gP m o 4) (aOff 2 (whichV m o) 1) 1) (.letm (wrL m (gP m o 4) (aOff 2 (whichV m o) 1) [(pv x 0)]) (fun m1 => (.br (cmpOK m1 x 0) (.br (bNot (peq x 0)) (.br (nzp o) (.br (nzp o) (.br (okL m1 o 4 [.nilp]) (.br (nzp x) (.br (nzp x) (.br (okS m1 x 4 1) (.letm (wrL m1 x 4 [(pv (gP m1 o 4) 0)]) (fun m2 => (.leaf (.memo (.tup []) m2)))) (.no 72)) (.no 76)) (.no 75)) (.no 70)) (.no 76)) (.no 75)) (.leaf (.memo (.tup []) m1))) (.no 78)))) (.no 72)) (.no 82)) (.no 81)) (.no 76)) (.no 75))) (.no 70)) (.no 76)) (.no 75))) (.no 78)) (.no 70)) (.no 76)) (.no 75))
theorem t_hang (m : Mem) (t : Int) (o : Int) (x : Int) : runm Try.prog [s_which] (drawx Try.prog [s_which]) 300 52 [.u (.c (.np t 0)), .u (.c (.np o 0)), .u (.c (.np x 0))] m [98] = T_hang m t o x := by kernel_rfl
def hangOK (m : Mem) (t : Int) (o : Int) (x : Int) : Prop := okP (T_hang m t o x)
def hangM (m : Mem) (t : Int) (o : Int) (x : Int) : Mem := outM (T_hang m t o x)
theorem hang_all (m : Mem) (t : Int) (o : Int) (x : Int) : allL (fun v m' => ∀ ρ, V.den ρ v = V.den ρ (.tup [])) (T_hang m t o x) := by
  simp only [T_hang, allL]
  repeat' (first | exact fun _ => rfl | exact fun _ => trivial | exact trivial | rfl | constructor)
def s_hang : Sum := dmSum 52 fun m a => match a with | [a0, a1, a2] => (match ptrOf a0, ptrOf a1, ptrOf a2 with | some t, some o, some x => some (hangOK m t o x, hangM m t o x, .tup []) | _, _, _ => none) | _ => none
theorem s_hang_ok : SumOK Try.prog s_hang := by
  refine dmSum_ok ⟨_, Try.func52, by kernel_rfl⟩ fun m args pre M v h hp hw ρ w hm => ?_
  split at h
  · split at h
    · rename_i a0 a1 a2 _ _ _  t o x h0 h1 h2
      cases h
      exact dm_calls nameOK (okc s_which_ok okn) (dOK (okc s_which_ok okn)) 300 _ m _ (t_hang m t o x) hp rfl ρ ((allL_out (hang_all m t o x) hp) ρ) w hm (by simp only [List.map_cons, List.map_nil, ptrOf_den h0, ptrOf_den h1, ptrOf_den h2])
    · cases h
  · cases h
def T_counts (m : Mem) (p : Int) : Tr := (.br (nzp p) (.br (nzp p) (.br (nzp p) (.br (okL m p 2 [.nilp]) (.req (sizeOK m (gP m p 2)) (.br (nzp p) (.br (nzp p) (.br (nzp p) (.br (okL m p 3 [.nilp]) (.req (sizeOK m (gP m p 3)) (.br (nzp p) (.br (nzp p) (.br (okS m p 5 1) (.letm (wrL m p 5 [(.int .i64 (iAdd .i64 (iAdd .i64 1 (sizeV m (gP m p 2))) (sizeV m (gP m p 3))))]) (fun m1 => (.leaf (.memo (.tup []) m1)))) (.no 72)) (.no 76)) (.no 75))) (.no 70)) (.no 81)) (.no 76)) (.no 75))) (.no 70)) (.no 81)) (.no 76)) (.no 75))
theorem t_counts (m : Mem) (p : Int) : runm Try.prog [s_size] (drawx Try.prog [s_size]) 300 88 [.u (.c (.np p 0))] m [98] = T_counts m p := by kernel_rfl
def countsOK (m : Mem) (p : Int) : Prop := okP (T_counts m p)
def countsM (m : Mem) (p : Int) : Mem := outM (T_counts m p)
theorem counts_all (m : Mem) (p : Int) : allL (fun v m' => ∀ ρ, V.den ρ v = V.den ρ (.tup [])) (T_counts m p) := by
  simp only [T_counts, allL]
  repeat' (first | exact fun _ => rfl | exact fun _ => trivial | exact trivial | rfl | constructor)
def s_counts : Sum := dmSum 88 fun m a => match a with | [a0] => (match ptrOf a0 with | some p => some (countsOK m p, countsM m p, .tup []) | _ => none) | _ => none
theorem s_counts_ok : SumOK Try.prog s_counts := by
  refine dmSum_ok ⟨_, Try.func88, by kernel_rfl⟩ fun m args pre M v h hp hw ρ w hm => ?_
  split at h
  · split at h
    · rename_i a0 _  p h0
      cases h
      exact dm_calls nameOK (okc s_size_ok okn) (dOK (okc s_size_ok okn)) 300 _ m _ (t_counts m p) hp rfl ρ ((allL_out (counts_all m p) hp) ρ) w hm (by simp only [List.map_cons, List.map_nil, ptrOf_den h0])
    · cases h
  · cases h
def T_turn (m : Mem) (t : Int) (x : Int) (s : Int) : Tr := (.br (nzp x) (.br (nzp x) (.br (nzp x) (.br (inR (iSub .i64 1 s) 2) (.br (okL m x (aOff 2 (iSub .i64 1 s) 1) [.nilp]) (.req (hangOK m t x (gP m x (aOff 2 (iSub .i64 1 s) 1))) (.letm (hangM m t x (gP m x (aOff 2 (iSub .i64 1 s) 1))) (fun m1 => (.br (nzp (gP m x (aOff 2 (iSub .i64 1 s) 1))) (.br (nzp (gP m x (aOff 2 (iSub .i64 1 s) 1))) (.br (nzp (gP m x (aOff 2 (iSub .i64 1 s) 1))) (.br (inR s 2) (.br (okL m1 (gP m x (aOff 2 (iSub .i64 1 s) 1)) (aOff 2 s 1) [.nilp]) (.br (nzp x) (.br (nzp x) (.br (nzp x) (.br (inR (iSub .i64 1 s) 2) (.br (okS m1 x (aOff 2 (iSub .i64 1 s) 1) 1) (.letm (wrL m1 x (aOff 2 (iSub .i64 1 s) 1) [(pv (gP m1 (gP m x (aOff 2 (iSub .i64 1 s) 1)) (aOff 2 s 1)) 0)]) (fun m2 => (.br (nzp (gP m x (aOff 2 (iSub .i64 1 s) 1))) (.br (nzp (gP m x (aOff 2 (iSub .i64 1 s) 1))) (.br (nzp (gP m x (aOff 2 (iSub .i64 1 s) 1))) (.br (inR s 2) (.br (okL m2 (gP m x (aOff 2 (iSub .i64 1 s) 1)) (aOff 2 s 1) [.nilp]) (.br (cmpOK m2 (gP m2 (gP m x (aOff 2 (iSub .i64 1 s) 1)) (aOff 2 s 1)) 0) (.br (bNot (peq (gP m2 (gP m x (aOff 2 (iSub .i64 1 s) 1)) (aOff 2 s 1)) 0)) (.br (nzp (gP m x (aOff 2 (iSub .i64 1 s) 1))) (.br (nzp (gP m x (aOff 2 (iSub .i64 1 s) 1))) (.br (nzp (gP m x (aOff 2 (iSub .i64 1 s) 1))) (.br (inR s 2) (.br (okL m2 (gP m x (aOff 2 (iSub .i64 1 s) 1)) (aOff 2 s 1) [.nilp]) (.br (nzp (gP m2 (gP m x (aOff 2 (iSub .i64 1 s) 1)) (aOff 2 s 1))) (.br (nzp (gP m2 (gP m x (aOff 2 (iSub .i64 1 s) 1)) (aOff 2 s 1))) (.br (okS m2 (gP m2 (gP m x (aOff 2 (iSub .i64 1 s) 1)) (aOff 2 s 1)) 4 1) (.letm (wrL m2 (gP m2 (gP m x (aOff 2 (iSub .i64 1 s) 1)) (aOff 2 s 1)) 4 [(pv x 0)]) (fun m3 => (.br (nzp (gP m x (aOff 2 (iSub .i64 1 s) 1))) (.br (nzp (gP m x (aOff 2 (iSub .i64 1 s) 1))) (.br (nzp (gP m x (aOff 2 (iSub .i64 1 s) 1))) (.br (inR s 2) (.br (okS m3 (gP m x (aOff 2 (iSub .i64 1 s) 1)) (aOff 2 s 1) 1) (.letm (wrL m3 (gP m x (aOff 2 (iSub .i64 1 s) 1)) (aOff 2 s 1) [(pv x 0)]) (fun m4 => (.br (nzp x) (.br (nzp x) (.br (okS m4 x 4 1) (.letm (wrL m4 x 4 [(pv (gP m x (aOff 2 (iSub .i64 1 s) 1)) 0)]) (fun m5 => (.req (countsOK m5 x) (.letm (countsM m5 x) (fun m6 => (.req (countsOK m6 (gP m x (aOff 2 (iSub .i64 1 s) 1))) (.letm (countsM m6 (gP m x (aOff 2 (iSub .i64 1 s) 1))) (fun m7 => (.leaf (.memo (.tup []) m7)))))))))) (.no 72)) (.no 76)) (.no 75)))) (.no 72)) (.no 82)) (.no 81)) (.no 76)) (.no 75)))) (.no 72)) (.no 76)) (.no 75)) (.no 70)) (.no 82)) (.no 81)) (.no 76)) (.no 75)) (.br (nzp (gP m x (aOff 2 (iSub .i64 1 s) 1))) (.br (nzp (gP m x (aOff 2 (iSub .i64 1 s) 1))) (.br (nzp (gP m x (aOff 2 (iSub .i64 1 s) 1))) (.br (inR s 2) (.br (okS m2 (gP m x (aOff 2 (iSub .i64 1 s) 1)) (aOff 2 s 1) 1) (.letm (wrL m2 (gP m x (aOff 2 (iSub .i64 1 s) 1)) (aOff 2 s 1) [(pv x 0)]) (fun m3 => (.br (nzp x) (.br (nzp x) (.br (okS m3 x 4 1) (.letm (wrL m3 x 4 [(pv (gP m x (aOff 2 (iSub .i64 1 s) 1)) 0)]) (fun m4 => (.req (countsOK m4 x) (.letm (countsM m4 x) (fun m5 => (.req (countsOK m5 (gP m x (aOff 2 (iSub .i64 1 s) 1))) (.letm (countsM m5 (gP m x (aOff 2 (iSub .i64 1 s) 1))) (fun m6 => (.leaf (.memo (.tup []) m6)))))))))) (.no 72)) (.no 76)) (.no 75)))) (.no 72)) (.no 82)) (.no 81)) (.no 76)) (.no 75))) (.no 78)) (.no 70)) (.no 82)) (.no 81)) (.no 76)) (.no 75)))) (.no 72)) (.no 82)) (.no 81)) (.no 76)) (.no 75)) (.no 70)) (.no 82)) (.no 81)) (.no 76)) (.no 75))))) (.no 70)) (.no 82)) (.no 81)) (.no 76)) (.no 75))
theorem t_turn (m : Mem) (t : Int) (x : Int) (s : Int) : runm Try.prog [s_hang, s_counts] (drawx Try.prog [s_hang, s_counts]) 300 77 [.u (.c (.np t 0)), .u (.c (.np x 0)), .u (.c (.si .i64 s))] m [98] = T_turn m t x s := by kernel_rfl
def turnOK (m : Mem) (t : Int) (x : Int) (s : Int) : Prop := okP (T_turn m t x s)
def turnM (m : Mem) (t : Int) (x : Int) (s : Int) : Mem := outM (T_turn m t x s)
theorem turn_all (m : Mem) (t : Int) (x : Int) (s : Int) : allL (fun v m' => ∀ ρ, V.den ρ v = V.den ρ (.tup [])) (T_turn m t x s) := by
  simp only [T_turn, allL]
  repeat' (first | exact fun _ => rfl | exact fun _ => trivial | exact trivial | rfl | constructor)
def s_turn : Sum := dmSum 77 fun m a => match a with | [a0, a1, a2] => (match ptrOf a0, ptrOf a1, intOf a2 with | some t, some x, some s => some (turnOK m t x s, turnM m t x s, .tup []) | _, _, _ => none) | _ => none
theorem s_turn_ok : SumOK Try.prog s_turn := by
  refine dmSum_ok ⟨_, Try.func77, by kernel_rfl⟩ fun m args pre M v h hp hw ρ w hm => ?_
  split at h
  · split at h
    · rename_i a0 a1 a2 _ _ _  t x s h0 h1 h2
      cases h
      exact dm_calls nameOK (okc s_hang_ok (okc s_counts_ok okn)) (dOK (okc s_hang_ok (okc s_counts_ok okn))) 300 _ m _ (t_turn m t x s) hp rfl ρ ((allL_out (turn_all m t x s) hp) ρ) w hm (by simp only [List.map_cons, List.map_nil, ptrOf_den h0, ptrOf_den h1, intOf_den h2])
    · cases h
  · cases h
def T_len (m : Mem) (t : Int) : Tr := (.br (cmpOK m t 0) (.br (peq t 0) (.leaf (.memo (.u (.c (.li .i64 0))) m)) (.br (nzp t) (.br (nzp t) (.br (okL m t 0 [.nilp]) (.req (sizeOK m (gP m t 0)) (.leaf (.memo (.u (.c (.si .i64 (sizeV m (gP m t 0))))) m))) (.no 70)) (.no 76)) (.no 75))) (.no 78))
theorem t_len (m : Mem) (t : Int) : runm Try.prog [s_size] (drawx Try.prog [s_size]) 300 15 [.u (.c (.np t 0))] m [98] = T_len m t := by kernel_rfl
def lenOK (m : Mem) (t : Int) : Prop := okP (T_len m t)
def lenV (m : Mem) (t : Int) : Int := vInt (outV (T_len m t))
theorem len_all (m : Mem) (t : Int) : allL (fun v m' => m' = m ∧ ∀ ρ, V.den ρ v = V.den ρ (.u (.c (.si .i64 (vInt v))))) (T_len m t) := by
  simp only [T_len, allL]
  repeat' (first | exact fun _ => rfl | exact fun _ => trivial | exact trivial | rfl | constructor)
def s_len : Sum := rdSum 15 fun m a => match a with | [a0] => (match ptrOf a0 with | some t => some (lenOK m t, .u (.c (.si .i64 (lenV m t)))) | _ => none) | _ => none
theorem s_len_ok : SumOK Try.prog s_len := by
  refine rdSum_ok ⟨_, Try.func15, by kernel_rfl⟩ fun m args pre v h hp hw ρ w hm => ?_
  split at h
  · split at h
    · rename_i a0 _  t h0
      cases h
      exact dm_calls nameOK (okc s_size_ok okn) (dOK (okc s_size_ok okn)) 300 _ m _ (t_len m t) hp (allL_out (len_all m t) hp).1 ρ ((allL_out (len_all m t) hp).2 ρ) w hm (by simp only [List.map_cons, List.map_nil, ptrOf_den h0])
    · cases h
  · cases h
end Go.Proofs.Ytnlohongffpkpaa.T16
