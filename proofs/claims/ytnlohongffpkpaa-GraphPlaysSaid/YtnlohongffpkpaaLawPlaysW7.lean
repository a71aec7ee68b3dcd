import Derived.Test.YtnlohongffpkpaaLawPlaysW6
set_option linter.unusedVariables false
set_option linter.unusedSimpArgs false
section
namespace Go.Proofs.Ytnlohongffpkpaa.T16
open Go Go.RowKit Go.Proofs.Ytnlohongffpkpaa.Sx Go.Proofs
set_option linter.unusedVariables false
set_option linter.unusedSimpArgs false
structure BG where
  m0 : Mem
  G : GG
  Z : GR
  li : Nat
def qdoesPre (b : BG) (m : Mem) (tg tr pm ps pa n hs hg : Int) : Prop:=tg = (b.G.g : Int) + 1 ∧ tr = (b.Z.r : Int) + 1 ∧ Both b.m0 b.li b.G b.Z m ∧ b.li < 1000 ∧ okP' (pm,ps,pa) ∧ okH (hs,hg) ∧ inI n
def qdoesPost (b : BG) (y : Vars) : Prop:=y.b = [true] ∧ ∃ (G' : GG) (Z' : GR),G'.g = b.G.g ∧ Z'.r = b.Z.r ∧ Both b.m0 (b.li + 1) G' Z' y.m
def qdoesP (m : Mem) (g r sd sa sn spm sps spa shs shg : Int) (sf : Bool) : Prop:=∃ b,qdoesPre b m g r spm sps spa sn shs shg
def qdoesQ (m : Mem) (g r sd sa sn spm sps spa shs shg : Int) (sf : Bool) (y : Vars) : Prop:=∀ b,qdoesPre b m g r spm sps spa sn shs shg → qdoesPost b y
def s_qdoes : Sum:=memSum 41 fun m a => match a with | [a0,a1,a2] => (match ptrOf a0,ptrOf a1,stpOf a2 with | some g,some r,some (sd,sa,sn,spm,sps,spa,shs,shg,sf) => some ⟨qdoesP m g r sd sa sn spm sps spa shs shg sf,qdoesQ m g r sd sa sn spm sps spa shs shg sf,fun y => .u (.c (.sb (hdB y.b)))⟩ | _,_,_ => none) | _ => none
def T_do0 (m : Mem) (g r i sd sa sn spm sps spa shs shg : Int) (sf : Bool) : Tr:=(.req (gpushP m g spm sps spa shs shg sn sf) (.any (gpushQ m g spm sps spa shs shg sn sf) (fun y1 => (.req ((([(0,([(.si .i64 sd),(.si .i64 sa),(.si .i64 sn),(.si .i64 spm),(.si .i64 sps),(.si .i64 spa),(.si .i64 shs),(.si .u64 shg),(.sb sf)],63))] : List (Nat × Blk)) = [(0,([(.si .i64 sd),(.si .i64 sa),(.si .i64 sn),(.si .i64 spm),(.si .i64 sps),(.si .i64 spa),(.si .i64 shs),(.si .u64 shg),(.sb sf)],63))]) ∧ (([] : List (Nat × MBlk)) = [])) (.req (qpushP y1.4 r spm sps spa shs shg sn sf) (.any (qpushQ y1.4 r spm sps spa shs shg sn sf) (fun y2 => (.req ((([(0,([(.si .i64 sd),(.si .i64 sa),(.si .i64 sn),(.si .i64 spm),(.si .i64 sps),(.si .i64 spa),(.si .i64 shs),(.si .u64 shg),(.sb sf)],63))] : List (Nat × Blk)) = [(0,([(.si .i64 sd),(.si .i64 sa),(.si .i64 sn),(.si .i64 spm),(.si .i64 sps),(.si .i64 spa),(.si .i64 shs),(.si .u64 shg),(.sb sf)],63))]) ∧ (([] : List (Nat × MBlk)) = [])) (.leaf (.memo (.u (.c (.sb (iEq (hdI y1.1) (hdI y2.1))))) y2.4))))))))))
def T_do2 (m : Mem) (g r i sd sa sn spm sps spa shs shg : Int) (sf : Bool) : Tr:=(.req (ginsertP m g spm sps spa sa shs shg sn) (.any (ginsertQ m g spm sps spa sa shs shg sn) (fun y1 => (.req ((([(0,([(.si .i64 sd),(.si .i64 sa),(.si .i64 sn),(.si .i64 spm),(.si .i64 sps),(.si .i64 spa),(.si .i64 shs),(.si .u64 shg),(.sb sf)],63))] : List (Nat × Blk)) = [(0,([(.si .i64 sd),(.si .i64 sa),(.si .i64 sn),(.si .i64 spm),(.si .i64 sps),(.si .i64 spa),(.si .i64 shs),(.si .u64 shg),(.sb sf)],63))]) ∧ (([] : List (Nat × MBlk)) = [])) (.req (qinsP y1.4 r spm sps spa sa shs shg sn) (.any (qinsQ y1.4 r spm sps spa sa shs shg sn) (fun y2 => (.req ((([(0,([(.si .i64 sd),(.si .i64 sa),(.si .i64 sn),(.si .i64 spm),(.si .i64 sps),(.si .i64 spa),(.si .i64 shs),(.si .u64 shg),(.sb sf)],63))] : List (Nat × Blk)) = [(0,([(.si .i64 sd),(.si .i64 sa),(.si .i64 sn),(.si .i64 spm),(.si .i64 sps),(.si .i64 spa),(.si .i64 shs),(.si .u64 shg),(.sb sf)],63))]) ∧ (([] : List (Nat × MBlk)) = [])) (.leaf (.memo (.u (.c (.sb (iEq (hdI y1.1) (hdI y2.1))))) y2.4))))))))))
def T_do1 (m : Mem) (g r i sd sa sn spm sps spa shs shg : Int) (sf : Bool) : Tr:=(.req (gpopP m g spm sps spa sf) (.any (gpopQ m g spm sps spa sf) (fun y1 => (.br (iLt i 0) (.br (bNot (hdB y1.2)) (.leaf (.memo (.u (.c (.sb (bAnd (iEq (hdI y1.1) 0) (iEq (hdI (tlI y1.1)) 0))))) y1.4)) (.leaf (.memo (.u (.c (.lb false))) y1.4))) (.br (nzp r) (.br (nzp r) (.br (okL y1.4 r 0 [(.raw (.slice (.none) 0 0))]) (.br (inSl (pl (mcell y1.4 r 0)) i) (.br (nzp (slB (pl (mcell y1.4 r 0)))) (.br (okL y1.4 (slB (pl (mcell y1.4 r 0))) (.succ (.succ (.succ (aOff (slO (pl (mcell y1.4 r 0))) i 5)))) [(.li .u8 0)]) (.br (iNe (gI y1.4 (slB (pl (mcell y1.4 r 0))) (.succ (.succ (.succ (aOff (slO (pl (mcell y1.4 r 0))) i 5))))) 1) (.br (bNot (hdB y1.2)) (.leaf (.memo (.u (.c (.sb (bAnd (iEq (hdI y1.1) 0) (iEq (hdI (tlI y1.1)) 0))))) y1.4)) (.leaf (.memo (.u (.c (.lb false))) y1.4))) (.br (hdB y1.2) (.br (nzp r) (.br (nzp r) (.br (okL y1.4 r 0 [(.raw (.slice (.none) 0 0))]) (.br (inSl (pl (mcell y1.4 r 0)) i) (.br (nzp (slB (pl (mcell y1.4 r 0)))) (.br (okL y1.4 (slB (pl (mcell y1.4 r 0))) (.succ (.succ (.succ (.succ (aOff (slO (pl (mcell y1.4 r 0))) i 5))))) [(.raw (.slice (.none) 0 0))]) (.br (isSlV (pl (mcell y1.4 (slB (pl (mcell y1.4 r 0))) (.succ (.succ (.succ (.succ (aOff (slO (pl (mcell y1.4 r 0))) i 5)))))))) (.req (qendOK y1.4 (slN (pl (mcell y1.4 (slB (pl (mcell y1.4 r 0))) (.succ (.succ (.succ (.succ (aOff (slO (pl (mcell y1.4 r 0))) i 5)))))))) sf) (.req ((([(1,([(.si .i64 (hdI y1.1)),(.si .u64 (hdI (tlI y1.1)))],29)),(1,([(.li .i64 0),(.li .u64 0)],29)),(0,([(.si .i64 sd),(.si .i64 sa),(.si .i64 sn),(.si .i64 spm),(.si .i64 sps),(.si .i64 spa),(.si .i64 shs),(.si .u64 shg),(.sb sf)],63))] : List (Nat × Blk)) = [(1,([(.si .i64 (hdI y1.1)),(.si .u64 (hdI (tlI y1.1)))],29)),(1,([(.li .i64 0),(.li .u64 0)],29)),(0,([(.si .i64 sd),(.si .i64 sa),(.si .i64 sn),(.si .i64 spm),(.si .i64 sps),(.si .i64 spa),(.si .i64 shs),(.si .u64 shg),(.sb sf)],63))]) ∧ (([] : List (Nat × MBlk)) = [])) (.req (qcutP y1.4 r i (qendV y1.4 (slN (pl (mcell y1.4 (slB (pl (mcell y1.4 r 0))) (.succ (.succ (.succ (.succ (aOff (slO (pl (mcell y1.4 r 0))) i 5)))))))) sf)) (.any (qcutQ y1.4 r i (qendV y1.4 (slN (pl (mcell y1.4 (slB (pl (mcell y1.4 r 0))) (.succ (.succ (.succ (.succ (aOff (slO (pl (mcell y1.4 r 0))) i 5)))))))) sf)) (fun y2 => (.req ((([(1,([(.si .i64 (hdI y1.1)),(.si .u64 (hdI (tlI y1.1)))],29)),(1,([(.li .i64 0),(.li .u64 0)],29)),(0,([(.si .i64 sd),(.si .i64 sa),(.si .i64 sn),(.si .i64 spm),(.si .i64 sps),(.si .i64 spa),(.si .i64 shs),(.si .u64 shg),(.sb sf)],63))] : List (Nat × Blk)) = [(1,([(.si .i64 (hdI y1.1)),(.si .u64 (hdI (tlI y1.1)))],29)),(1,([(.li .i64 0),(.li .u64 0)],29)),(0,([(.si .i64 sd),(.si .i64 sa),(.si .i64 sn),(.si .i64 spm),(.si .i64 sps),(.si .i64 spa),(.si .i64 shs),(.si .u64 shg),(.sb sf)],63))]) ∧ (([] : List (Nat × MBlk)) = [])) (.leaf (.memo (.u (.c (.sb (bAnd (iEq (hdI y1.1) (hdI y2.1)) (iEq (hdI (tlI y1.1)) (hdI (tlI y2.1))))))) y2.4)))))))) (.no 123)) (.no 70)) (.no 76)) (.no 104)) (.no 70)) (.no 76)) (.no 75)) (.req ((([(1,([(.si .i64 (hdI y1.1)),(.si .u64 (hdI (tlI y1.1)))],29)),(1,([(.li .i64 0),(.li .u64 0)],29)),(0,([(.si .i64 sd),(.si .i64 sa),(.si .i64 sn),(.si .i64 spm),(.si .i64 sps),(.si .i64 spa),(.si .i64 shs),(.si .u64 shg),(.sb sf)],63))] : List (Nat × Blk)) = [(1,([(.si .i64 (hdI y1.1)),(.si .u64 (hdI (tlI y1.1)))],29)),(1,([(.li .i64 0),(.li .u64 0)],29)),(0,([(.si .i64 sd),(.si .i64 sa),(.si .i64 sn),(.si .i64 spm),(.si .i64 sps),(.si .i64 spa),(.si .i64 shs),(.si .u64 shg),(.sb sf)],63))]) ∧ (([] : List (Nat × MBlk)) = [])) (.req ((([(1,([(.si .i64 (hdI y1.1)),(.si .u64 (hdI (tlI y1.1)))],29)),(1,([(.li .i64 0),(.li .u64 0)],29)),(0,([(.si .i64 sd),(.si .i64 sa),(.si .i64 sn),(.si .i64 spm),(.si .i64 sps),(.si .i64 spa),(.si .i64 shs),(.si .u64 shg),(.sb sf)],63))] : List (Nat × Blk)) = [(1,([(.si .i64 (hdI y1.1)),(.si .u64 (hdI (tlI y1.1)))],29)),(1,([(.li .i64 0),(.li .u64 0)],29)),(0,([(.si .i64 sd),(.si .i64 sa),(.si .i64 sn),(.si .i64 spm),(.si .i64 sps),(.si .i64 spa),(.si .i64 shs),(.si .u64 shg),(.sb sf)],63))]) ∧ (([] : List (Nat × MBlk)) = [])) (.leaf (.memo (.u (.c (.lb false))) y1.4)))))) (.no 70)) (.no 76)) (.no 104)) (.no 70)) (.no 76)) (.no 75))))))
def T_do3 (m : Mem) (g r i sd sa sn spm sps spa shs shg : Int) (sf : Bool) : Tr:=(.br (iGe i 0) (.br (nzp r) (.br (nzp r) (.br (okL m r 0 [(.raw (.slice (.none) 0 0))]) (.br (inSl (pl (mcell m r 0)) i) (.br (okL m (slB (pl (mcell m r 0))) (aOff (slO (pl (mcell m r 0))) i 5) [(.li .i64 0),(.li .i64 0),(.li .i64 0),(.li .u8 0),(.raw (.slice (.none) 0 0))]) (.req (qhasP m (gI m (slB (pl (mcell m r 0))) (aOff (slO (pl (mcell m r 0))) i 5)) (gI m (slB (pl (mcell m r 0))) (.succ (aOff (slO (pl (mcell m r 0))) i 5))) (gI m (slB (pl (mcell m r 0))) (.succ (.succ (aOff (slO (pl (mcell m r 0))) i 5)))) (gI m (slB (pl (mcell m r 0))) (.succ (.succ (.succ (aOff (slO (pl (mcell m r 0))) i 5))))) (mcell m (slB (pl (mcell m r 0))) (.succ (.succ (.succ (.succ (aOff (slO (pl (mcell m r 0))) i 5)))))) shs shg) (.any (qhasQ m (gI m (slB (pl (mcell m r 0))) (aOff (slO (pl (mcell m r 0))) i 5)) (gI m (slB (pl (mcell m r 0))) (.succ (aOff (slO (pl (mcell m r 0))) i 5))) (gI m (slB (pl (mcell m r 0))) (.succ (.succ (aOff (slO (pl (mcell m r 0))) i 5)))) (gI m (slB (pl (mcell m r 0))) (.succ (.succ (.succ (aOff (slO (pl (mcell m r 0))) i 5))))) (mcell m (slB (pl (mcell m r 0))) (.succ (.succ (.succ (.succ (aOff (slO (pl (mcell m r 0))) i 5)))))) shs shg) (fun y1 => (.br (iGe (hdI y1.1) 0) (.br (nzp r) (.br (nzp r) (.br (okL y1.4 r 0 [(.raw (.slice (.none) 0 0))]) (.br (inSl (pl (mcell y1.4 r 0)) i) (.br (nzp (slB (pl (mcell y1.4 r 0)))) (.br (okL y1.4 (slB (pl (mcell y1.4 r 0))) (.succ (.succ (.succ (.succ (aOff (slO (pl (mcell y1.4 r 0))) i 5))))) [(.raw (.slice (.none) 0 0))]) (.br (inSl (pl (mcell y1.4 (slB (pl (mcell y1.4 r 0))) (.succ (.succ (.succ (.succ (aOff (slO (pl (mcell y1.4 r 0))) i 5))))))) (hdI y1.1)) (.br (nzp (slB (pl (mcell y1.4 (slB (pl (mcell y1.4 r 0))) (.succ (.succ (.succ (.succ (aOff (slO (pl (mcell y1.4 r 0))) i 5))))))))) (.br (okL y1.4 (slB (pl (mcell y1.4 (slB (pl (mcell y1.4 r 0))) (.succ (.succ (.succ (.succ (aOff (slO (pl (mcell y1.4 r 0))) i 5)))))))) (.succ (.succ (aOff (slO (pl (mcell y1.4 (slB (pl (mcell y1.4 r 0))) (.succ (.succ (.succ (.succ (aOff (slO (pl (mcell y1.4 r 0))) i 5)))))))) (hdI y1.1) 3))) [(.li .i64 0)]) (.br (iEq (gI y1.4 (slB (pl (mcell y1.4 (slB (pl (mcell y1.4 r 0))) (.succ (.succ (.succ (.succ (aOff (slO (pl (mcell y1.4 r 0))) i 5)))))))) (.succ (.succ (aOff (slO (pl (mcell y1.4 (slB (pl (mcell y1.4 r 0))) (.succ (.succ (.succ (.succ (aOff (slO (pl (mcell y1.4 r 0))) i 5)))))))) (hdI y1.1) 3)))) sn) (.req (qcutP y1.4 r i (hdI y1.1)) (.any (qcutQ y1.4 r i (hdI y1.1)) (fun y2 => (.req (gremoveP y2.4 g spm sps spa shs shg sn) (.any (gremoveQ y2.4 g spm sps spa shs shg sn) (fun y3 => (.leaf (.memo (.u (.c (.sb (bEq (hdB y3.2) (iEq (gI y1.4 (slB (pl (mcell y1.4 (slB (pl (mcell y1.4 r 0))) (.succ (.succ (.succ (.succ (aOff (slO (pl (mcell y1.4 r 0))) i 5)))))))) (.succ (.succ (aOff (slO (pl (mcell y1.4 (slB (pl (mcell y1.4 r 0))) (.succ (.succ (.succ (.succ (aOff (slO (pl (mcell y1.4 r 0))) i 5)))))))) (hdI y1.1) 3)))) sn))))) y3.4)))))))) (.req (gremoveP y1.4 g spm sps spa shs shg sn) (.any (gremoveQ y1.4 g spm sps spa shs shg sn) (fun y2 => (.leaf (.memo (.u (.c (.sb (bEq (hdB y2.2) (iEq (gI y1.4 (slB (pl (mcell y1.4 (slB (pl (mcell y1.4 r 0))) (.succ (.succ (.succ (.succ (aOff (slO (pl (mcell y1.4 r 0))) i 5)))))))) (.succ (.succ (aOff (slO (pl (mcell y1.4 (slB (pl (mcell y1.4 r 0))) (.succ (.succ (.succ (.succ (aOff (slO (pl (mcell y1.4 r 0))) i 5)))))))) (hdI y1.1) 3)))) sn))))) y2.4)))))) (.no 70)) (.no 76)) (.no 104)) (.no 70)) (.no 76)) (.no 104)) (.no 70)) (.no 76)) (.no 75)) (.req (gremoveP y1.4 g spm sps spa shs shg sn) (.any (gremoveQ y1.4 g spm sps spa shs shg sn) (fun y2 => (.leaf (.memo (.u (.c (.sb (bEq (hdB y2.2) false)))) y2.4))))))))) (.no 70)) (.no 104)) (.no 70)) (.no 76)) (.no 75)) (.req (gremoveP m g spm sps spa shs shg sn) (.any (gremoveQ m g spm sps spa shs shg sn) (fun y1 => (.leaf (.memo (.u (.c (.sb (bEq (hdB y1.2) false)))) y1.4))))))
def T_do4 (m : Mem) (g r i sd sa sn spm sps spa shs shg : Int) (sf : Bool) : Tr:=(.req (gdrainP m g spm sps spa) (.any (gdrainQ m g spm sps spa) (fun y1 => (.br (isSlV (pl (hdV y1.3))) (.req (qlenP y1.4 r spm sps spa) (.any (qlenQ y1.4 r spm sps spa) (fun y2 => (.br (iNe (slN (pl (hdV y1.3))) (hdI y2.1)) (.leaf (.memo (.u (.c (.lb false))) y2.4)) (.lp (.mk [0] [] [] y2.4) (fun y3 j3 => (.br (isSlV (pl (hdV y1.3))) (.br (iLt (hdI y3.1) (slN (pl (hdV y1.3)))) (.br (inSl (pl (hdV y1.3)) (hdI y3.1)) (.req (memL (slB (pl (hdV y1.3))) [(slB (pl (hdV y1.3)))]) (.br (okL y3.4 (slB (pl (hdV y1.3))) (aOff (slO (pl (hdV y1.3))) (hdI y3.1) 2) [(.li .i64 0),(.li .u64 0)]) (.req (qcutP y3.4 r i 0) (.any (qcutQ y3.4 r i 0) (fun y4 => (.req ((([] : List (Nat × Blk)) = []) ∧ ((([] : List (Nat × MBlk)) = []) ∧ (agreeL [(slB (pl (hdV y1.3)))] y4.4 y3.4))) (.br (bNot (bAnd (iEq (gI y3.4 (slB (pl (hdV y1.3))) (aOff (slO (pl (hdV y1.3))) (hdI y3.1) 2)) (hdI y4.1)) (iEq (gI y3.4 (slB (pl (hdV y1.3))) (.succ (aOff (slO (pl (hdV y1.3))) (hdI y3.1) 2))) (hdI (tlI y4.1))))) (.leaf (.up (.memo (.u (.c (.lb false))) y4.4))) (.req ((([(0,(.u (.c (.np g 0)))),(1,(.u (.c (.np r 0)))),(7,(.u (.c (.si .i64 i)))),(12,(.u (.c (.sv (hdV y1.3)))))] : List (Nat × V)) = [(0,(.u (.c (.np g 0)))),(1,(.u (.c (.np r 0)))),(7,(.u (.c (.si .i64 i)))),(12,(.u (.c (.sv (hdV y1.3)))))]) ∧ (([] : List (Nat × Blk)) = [])) (.leaf (.again (.mk [(iAdd .i64 (hdI y3.1) 1)] [] [] y4.4))))))))) (.no 70))) (.no 104)) (.leaf (.up (.memo (.u (.c (.lb true))) y3.4)))) (.no 123)))))))) (.no 123)))))
def T_qdoes (m : Mem) (g : Int) (r : Int) (sd sa sn spm sps spa shs shg : Int) (sf : Bool) : Tr:=(.req (qrowP m r spm sps spa) (.any (qrowQ m r spm sps spa) (fun y0 => (.br (iEq sd 0) (T_do0 y0.4 g r (hdI y0.1) sd sa sn spm sps spa shs shg sf) (.br (iEq sd 2) (T_do2 y0.4 g r (hdI y0.1) sd sa sn spm sps spa shs shg sf) (.br (iEq sd 1) (T_do1 y0.4 g r (hdI y0.1) sd sa sn spm sps spa shs shg sf) (.br (iEq sd 3) (T_do3 y0.4 g r (hdI y0.1) sd sa sn spm sps spa shs shg sf) (.br (iEq sd 4) (T_do4 y0.4 g r (hdI y0.1) sd sa sn spm sps spa shs shg sf) (.leaf (.memo (.u (.c (.lb true))) y0.4))))))))))
def doR (b : BG) : Leaf → Prop:=isMemo fun v x => qdoesPost b (yBoo v x) ∧ (yBoo v x).m = x ∧ ∀ ρ,v.den ρ = V.den ρ (.u (.c (.sb (hdB (yBoo v x).b))))
theorem doFin {b : BG} {bb : Bool} {x : Mem} {G' : GG} {Z' : GR} (h : bb = true) (e1 : G'.g = b.G.g) (e2 : Z'.r = b.Z.r) (hb : Both b.m0 (b.li + 1) G' Z' x) : doR b (.memo (.u (.c (.sb bb))) x):=by
  subst h
  exact ⟨⟨rfl,G',Z',e1,e2,hb⟩,rfl,fun ρ => rfl⟩
theorem doFinL {b : BG} {x : Mem} {G' : GG} {Z' : GR} (e1 : G'.g = b.G.g) (e2 : Z'.r = b.Z.r) (hb : Both b.m0 (b.li + 1) G' Z' x) : doR b (.memo (.u (.c (.lb true))) x) :=
  ⟨⟨rfl,G',Z',e1,e2,hb⟩,rfl,fun ρ => rfl⟩
theorem Both.up {m0 m : Mem} {li : Nat} {G : GG} {Z : GR} (b : Both m0 li G Z m) : Both m0 (li + 1) G Z m:=⟨b.tw,b.ag,Nat.le_succ_of_le b.lr,fun x hx => Nat.le_succ_of_le (b.ll x hx)⟩
theorem put_bnd {m' : Mem} {Z Z' : GR} {p : Pl} {kk : Int} {i li : Nat} {it : Itm} (hz' : Z'.is m') (hp : PutAt Z Z' p kk i it) (lr : Z.rs.length ≤ li) (ll : ∀ x ∈ Z.rs,x.l.length ≤ li) : Z'.rs.length ≤ li + 1 ∧ ∀ x ∈ Z'.rs,x.l.length ≤ li + 1:=by
  obtain ⟨x',m1,m2,m3,m4,m5⟩:=hp
  refine ⟨by omega,fun y hy => ?_⟩
  by_cases e : y.p = p
  · have : y = x':=srt_inj hz'.srt hy m1 (e.trans m2.symm)
    subst this
    rcases m3 with ⟨x,hx,_,_,e2⟩ | ⟨_,_,e2⟩
    · have:=ll x hx
      rw [e2,List.length_append,List.length_cons,List.length_take,List.length_drop];omega
    · rw [e2];simp
  · exact Nat.le_succ_of_le (ll y ((m4 y e).1 hy))
theorem cut_bnd {m m' : Mem} {Z Z' : GR} {j q li : Nat} {x : RV} (hz : Z.is m) (hz' : Z'.is m') (hx : Z.rs[j]? = some x) (hc : CutAt Z Z' j q x) (ll : ∀ x ∈ Z.rs,x.l.length ≤ li) : Z'.rs.length ≤ Z.rs.length ∧ ∀ y ∈ Z'.rs,y.l.length ≤ li:=by
  have hlen : Z'.rs.length ≤ Z.rs.length:=by
    rcases hc with ⟨_,x',e1,_⟩ | ⟨_,e1⟩
    · rw [e1,List.length_set];exact Nat.le_refl _
    · rw [e1];exact (List.eraseIdx_sublist _ _).length_le
  refine ⟨hlen,fun y hy => ?_⟩
  obtain ⟨r1,r2⟩:=hc.rows hz hx
  by_cases e : y.p = x.p
  · rcases r2 with ⟨_,g⟩ | ⟨g0,x',g1,_,g2,g3,g4⟩
    · exact absurd e (g y hy)
    · have : y = x':=srt_inj hz'.srt hy g1 (e.trans g2.symm)
      subst this
      rw [g4]
      exact Nat.le_trans (List.eraseIdx_sublist _ _).length_le (ll x (List.mem_of_getElem? hx))
  · exact ll y ((r1 y e).1 hy)
theorem may_kind {rs : List RV} {p : Pl} {kk : Int} {h : Hn} {n : Int} (hm : MayAt rs p kk h n 0) : ∀ x ∈ rs,x.p = p → x.k = kk:=by
  rcases hm with ⟨e,_⟩ | ⟨_,⟨e,_⟩ | ⟨_,hm⟩⟩
  · cases e
  · cases e
  · exact fun x hx hp => (hm x hx hp).1
section
variable {b : BG} {m : Mem} {tg tr i pm ps pa n hs hg sd sa : Int} {sf : Bool}
theorem do0_walk (hb : qdoesPre b m tg tr pm ps pa n hs hg) : (T_do0 m tg tr i sd sa n pm ps pa hs hg sf).sat (doR b):=by
  obtain ⟨rfl,rfl,B,hli,hp,hk,hn⟩:=hb
  have gpre : gpushPre b.G m ((b.G.g : Int) + 1) pm ps pa hs hg n:=⟨rfl,B.tw.is,hp,hk,hn⟩
  unfold T_do0
  rw [sat_req]
  refine ⟨⟨b.G,gpre⟩,?_⟩
  rw [sat_any]
  rintro ⟨yi,yb,yv,ym⟩ hy
  have hy:=hy b.G gpre
  rw [sat_req]
  refine ⟨(by first | exact ⟨trivial,trivial⟩ | exact ⟨rfl,rfl⟩),?_⟩
  have hmay : ∀ e,MayAt b.Z.rs (pm,ps,pa) 1 (hs,hg) n e → mayE b.G (pm,ps,pa) (hs,hg) n (listB (b.G.R (pm,ps,pa))) = e:=fun e he => B.ag.may B.tw.is he fun X hX => by rw [hX];exact listB_iff _
  have zpre : ∀ m',b.Z.is m' → qpushPre b.Z m' ((b.Z.r : Int) + 1):=fun m' h => ⟨rfl,h,by have:=B.lr;omega,fun x hx => by have:=B.ll x hx;omega⟩
  rcases hy with ⟨h1,h2,h3⟩ | ⟨h1,h2,X',h4,h5,h6⟩
  · simp only at h2 h3
    subst h2 h3
    have zp:=zpre _ B.tw.zs
    rw [sat_req]
    refine ⟨⟨b.Z,zp⟩,?_⟩
    rw [sat_any]
    rintro ⟨zi,zb,zv,zm⟩ hz
    obtain ⟨e,he,e1,hc⟩:=hz b.Z zp
    simp only at e1 hc
    subst e1
    have:=hmay e he
    rw [this] at h1 ⊢
    rw [sat_req]
    refine ⟨(by first | exact ⟨trivial,trivial⟩ | exact ⟨rfl,rfl⟩),?_⟩
    rcases hc with ⟨_,hc⟩ | ⟨hc,_⟩
    · subst hc
      exact doFin (by simp [iEq,hdI]) rfl rfl B.up
    · exact absurd hc h1
  · simp only at h2 h6
    subst h2
    have tw1:=B.tw.gto h6
    have zp:=zpre _ tw1.zs
    rw [sat_req]
    refine ⟨⟨b.Z,zp⟩,?_⟩
    rw [sat_any]
    rintro ⟨zi,zb,zv,zm⟩ hz
    obtain ⟨e,he,e1,hc⟩:=hz b.Z zp
    simp only at e1 hc
    subst e1
    have:=hmay e he
    rw [h1] at this
    subst this
    rw [sat_req]
    refine ⟨(by first | exact ⟨trivial,trivial⟩ | exact ⟨rfl,rfl⟩),?_⟩
    rcases hc with ⟨hc,_⟩ | ⟨_,Z',q,t1,t2,t3⟩
    · exact absurd rfl hc
    · have hq:=B.ag.len t2 B.tw.zs.srt
      have hq' : q = (hsO (b.G.R (pm,ps,pa))).length:=by omega
      obtain ⟨z1,z2,_⟩:=mayE_zero h1
      obtain ⟨b1,b2⟩:=put_bnd t1.is' t3 B.lr B.ll
      refine doFin (by simp [iEq,hdI]) (G':=b.G.come _ _ _ X') rfl t1.r ⟨tw1.zto t1,B.ag.come B.tw.is B.tw.zs t1.is' t3 (by rw [z2];rfl) (may_kind he) ?_ ?_,b1,b2⟩
      · simp only [kindO,h4]
      · rw [h5]
        cases sf with
        | true => simp [putE]
        | false => simp [putE,hq']
theorem do2_walk (hb : qdoesPre b m tg tr pm ps pa n hs hg) : (T_do2 m tg tr i sd sa n pm ps pa hs hg sf).sat (doR b):=by
  obtain ⟨rfl,rfl,B,hli,hp,hk,hn⟩:=hb
  have hlen:=B.len (pm,ps,pa)
  have gpre : ginsertPre b.G m ((b.G.g : Int) + 1) pm ps pa hs hg n:=⟨⟨rfl,B.tw.is,hp,hk,hn⟩,by omega⟩
  unfold T_do2
  rw [sat_req]
  refine ⟨⟨b.G,gpre⟩,?_⟩
  rw [sat_any]
  rintro ⟨yi,yb,yv,ym⟩ hy
  have hy:=hy b.G gpre
  rw [sat_req]
  refine ⟨(by first | exact ⟨trivial,trivial⟩ | exact ⟨rfl,rfl⟩),?_⟩
  have hmay : ∀ e,MayAt b.Z.rs (pm,ps,pa) 2 (hs,hg) n e → mayE b.G (pm,ps,pa) (hs,hg) n (treeB (b.G.R (pm,ps,pa))) = e:=fun e he => B.ag.may B.tw.is he fun X hX => by rw [hX];exact treeB_iff _
  have hL : ∀ q : Nat,LenAt b.Z.rs (pm,ps,pa) q → q = (hsO (b.G.R (pm,ps,pa))).length:=fun q hq => by have:=B.ag.len hq B.tw.zs.srt;omega
  have zpre : ∀ m',b.Z.is m' → qpushPre b.Z m' ((b.Z.r : Int) + 1):=fun m' h => ⟨rfl,h,by have:=B.lr;omega,fun x hx => by have:=B.ll x hx;omega⟩
  have main : ∀ m' v,b.Z.is m' → (∀ (y : Vars) (e : Int) (q : Nat),MayAt b.Z.rs (pm,ps,pa) 2 (hs,hg) n e → q = (hsO (b.G.R (pm,ps,pa))).length →
      ((e ≠ 0 ∧ y.i = [e] ∧ y.m = m') ∨ (e = 0 ∧ (sa < 0 ∨ (q : Int) < sa) ∧ y.i = [2] ∧ y.m = m') ∨ (e = 0 ∧ 0 ≤ sa ∧ sa ≤ q ∧ y.i = [0] ∧ ∃ Z' : GR,b.Z.to Z' m' y.m ∧ PutAt b.Z Z' (pm,ps,pa) 2 sa.toNat ((hs,hg),n))) →
      doR b (.memo (.u (.c (.sb (iEq v (hdI y.i))))) y.m)) →
      (Tr.req (qinsP m' ((b.Z.r : Int) + 1) pm ps pa sa hs hg n) (.any (qinsQ m' ((b.Z.r : Int) + 1) pm ps pa sa hs hg n) fun y => .req (True ∧ True) (.leaf (.memo (.u (.c (.sb (iEq v (hdI y.i))))) y.m)))).sat (doR b):=by
    intro m' v hz hf
    have zp:=zpre m' hz
    rw [sat_req]
    refine ⟨⟨b.Z,zp⟩,?_⟩
    rw [sat_any]
    intro y hy
    obtain ⟨e,q,he,hq,hc⟩:=hy b.Z zp
    rw [sat_req]
    exact ⟨⟨trivial,trivial⟩,hf y e q he (hL q hq) hc⟩
  rcases hy with ⟨h1,h2,h3⟩ | ⟨h1,h0,h2,h3⟩ | ⟨h1,h0,h0',h2,X',h4,h5,h6⟩
  · simp only at h2 h3
    subst h2 h3
    have:=main ym (mayE b.G (pm,ps,pa) (hs,hg) n (treeB (b.G.R (pm,ps,pa)))) B.tw.zs fun y e q he hq hc => by
      have:=hmay e he
      rw [this] at h1 ⊢
      rcases hc with ⟨_,c1,c2⟩ | ⟨c0,_⟩ | ⟨c0,_⟩
      · rw [c1,c2];exact doFin (by simp [iEq,hdI]) rfl rfl B.up
      · exact absurd c0 h1
      · exact absurd c0 h1
    simp only [hdI]
    exact this
  · simp only at h2 h3
    subst h2
    have B1:=B.more h3
    have:=main ym 2 B1.tw.zs fun y e q he hq hc => by
      have:=hmay e he
      rw [h1] at this
      subst this
      rcases hc with ⟨c0,_⟩ | ⟨_,_,c1,c2⟩ | ⟨_,c1,c2,_⟩
      · exact absurd rfl c0
      · rw [c1,c2];exact doFin (by simp [iEq,hdI]) rfl rfl B1.up
      · omega
    simp only [hdI]
    exact this
  · simp only at h2 h6
    subst h2
    have tw1:=B.tw.gto h6
    have:=main ym 0 tw1.zs fun y e q he hq hc => by
      have:=hmay e he
      rw [h1] at this
      subst this
      rcases hc with ⟨c0,_⟩ | ⟨_,c1,_⟩ | ⟨_,c1,c2,c3,Z',t1,t3⟩
      · exact absurd rfl c0
      · omega
      · obtain ⟨z1,z2,_⟩:=mayE_zero h1
        obtain ⟨b1,b2⟩:=put_bnd t1.is' t3 B.lr B.ll
        rw [c3]
        refine doFin (by simp [iEq,hdI]) (G':=b.G.come _ _ _ X') rfl t1.r ⟨tw1.zto t1,B.ag.come B.tw.is B.tw.zs t1.is' t3 (by rw [z2];rfl) (may_kind he) ?_ h5,b1,b2⟩
        simp only [kindO,h4]
    simp only [hdI]
    exact this
def endI (n : Int) : Bool → Int
  | true => 0
  | false => iSub .i64 n 1
theorem qend_spec (m : Mem) (n : Int) (f : Bool) : qendOK m n f ∧ qendV m n f = endI n f:=by
  refine flat_spec (p:=fun v w => vInt v = _) (by simp [T_qend,flatP]) ?_
  unfold T_qend
  cases f with
  | true => rw [brT rfl];rfl
  | false => rw [brF rfl];rfl
theorem do1_walk (hb : qdoesPre b m tg tr pm ps pa n hs hg) (hi : RowAt b.Z.rs (pm,ps,pa) i) : (T_do1 m tg tr i sd sa n pm ps pa hs hg sf).sat (doR b):=by
  obtain ⟨rfl,rfl,B,hli,hp,hk,hn⟩:=hb
  have ppre : gpopPre b.G m ((b.G.g : Int) + 1) pm ps pa:=⟨rfl,B.tw.is,hp⟩
  unfold T_do1
  rw [sat_req]
  refine ⟨⟨b.G,ppre⟩,?_⟩
  rw [sat_any]
  rintro ⟨yi,yb,yv,ym⟩ hy
  have hy:=hy b.G ppre
  have htw : Two b.m0 b.G b.Z m:=B.tw
  -- nothing to pop
  have none' : listB (b.G.R (pm,ps,pa)) = false → yi = [0,0] ∧ yb = [false] ∧ ym = m:=fun hl => by
    rcases hy with ⟨_,h2,h3,h4⟩ | ⟨k,n',X',h1,_⟩
    · exact ⟨h2,h3,h4⟩
    · rw [hl] at h1;cases h1
  rcases hi with ⟨rfl,hno⟩ | ⟨j,x,rfl,hx,hxp⟩
  · have hR : b.G.R (pm,ps,pa) = none:=by
      rcases B.ag.row (pm,ps,pa) with ⟨X,x,hx,_,hp,_⟩ | ⟨h1,_⟩
      · exact absurd hp (hno x hx)
      · exact h1
    obtain ⟨rfl,rfl,rfl⟩:=none' (by rw [hR];rfl)
    rw [brT (by rfl),brT (by rfl)]
    exact doFin (by rfl) rfl rfl B.up
  have hxm:=List.mem_of_getElem? hx
  obtain ⟨X,hX,hXh,hXk⟩:=B.ag.a1 x hxm
  rw [hxp] at hX
  have hjlt : ¬ ((j : Int) < 0):=by omega
  by_cases hl : listB (b.G.R (pm,ps,pa)) = true
  rotate_left
  · have hl : listB (b.G.R (pm,ps,pa)) = false:=by simpa using hl
    obtain ⟨rfl,rfl,rfl⟩:=none' hl
    have F:=B.tw.zs.row hx
    have Ba:=B.tw.zs.bas
    have hk1 : x.k ≠ 1:=fun e => by
      rw [hX] at hl
      have:=(listB_iff (some X)).2 (hXk.trans e)
      rw [hl] at this;cases this
    simp only [Ba.v,Ba.pv]
    rw [brF (by simp [iLt]),brT Ba.nr,brT Ba.nr,brT Ba.ld,brT F.inn,brT F.nz,brT F.ok,F.g3,brT (by simpa [iNe] using hk1),brT (by rfl)]
    exact doFin (by rfl) rfl rfl B.up
  · rcases hy with ⟨h1,_⟩ | ⟨k,n',X',_,h2,h3,h4,h5,h6,h7,h8⟩
    · rw [hl] at h1;cases h1
    simp only at h3 h4 h8
    subst h3 h4
    have tw1:=B.tw.gto h8
    have F:=tw1.zs.row hx
    have Ba:=tw1.zs.bas
    have hk1 : x.k = 1:=by
      rw [hX] at hl
      exact hXk.symm.trans ((listB_iff (some X)).1 hl)
    have hs':=tw1.zs.its x hxm
    have hh : hsO (b.G.R (pm,ps,pa)) = x.l.map (·.1):=by rw [hX];exact hXh
    rw [hh] at h2 h7
    have hll:=B.ll x hxm
    obtain ⟨q,it,hq,hit,hk',hqe⟩ : ∃ (q : Nat) (it : Itm),x.l[q]? = some it ∧ it.1 = k ∧ q < x.l.length ∧ (q : Int) = endI (x.l.length : Int) sf:=by
      cases sf with
      | true =>
        have h2 : (x.l.map (·.1)).head? = some k:=h2
        rw [List.head?_map] at h2
        obtain ⟨it,h3,h4⟩:=Option.map_eq_some_iff.1 h2
        rw [List.head?_eq_getElem?] at h3
        exact ⟨0,it,h3,h4,(List.getElem?_eq_some_iff.1 h3).1,rfl⟩
      | false =>
        have h2 : (x.l.map (·.1)).getLast? = some k:=h2
        rw [List.getLast?_map] at h2
        obtain ⟨it,h3,h4⟩:=Option.map_eq_some_iff.1 h2
        rw [List.getLast?_eq_getElem?] at h3
        have h5:=(List.getElem?_eq_some_iff.1 h3).1
        exact ⟨_,it,h3,h4,h5,by simp only [endI];rw [isub_i (by omega)];omega⟩
    simp only [Ba.v,Ba.pv,F.g4,hs'.pl,hs'.n]
    rw [brF (by simp [iLt]),brT Ba.nr,brT Ba.nr,brT Ba.ld,brT F.inn,brT F.nz,brT F.ok,F.g3,brF (by simp [iNe,hk1]),brT (by rfl),brT Ba.nr,brT Ba.nr,brT Ba.ld,brT F.inn,brT F.nz,brT F.ol,brT hs'.isv]
    obtain ⟨o1,o2⟩:=qend_spec ym (x.l.length : Int) sf
    rw [← hqe] at o2
    simp only [o2]
    rw [sat_req]
    refine ⟨o1,?_⟩
    rw [sat_req]
    refine ⟨(by first | exact ⟨trivial,trivial⟩ | exact ⟨rfl,rfl⟩),?_⟩
    have cpre : qcutPre b.Z ym ((b.Z.r : Int) + 1) (j : Int) (q : Int):=⟨rfl,tw1.zs,j,q,x,it,rfl,rfl,hx,hq⟩
    rw [sat_req]
    refine ⟨⟨b.Z,cpre⟩,?_⟩
    rw [sat_any]
    rintro ⟨zi,zb,zv,zm⟩ hz
    obtain ⟨j',q',x',it',e1,e2,e3,e4,e5,Z',t1,t2⟩:=hz b.Z cpre
    obtain rfl : j' = j:=by omega
    obtain rfl : q' = q:=by omega
    rw [hx] at e3;cases e3
    rw [hq] at e4;cases e4
    simp only at e5
    subst e5
    rw [sat_req]
    refine ⟨(by first | exact ⟨trivial,trivial⟩ | exact ⟨rfl,rfl⟩),?_⟩
    obtain ⟨b1,b2⟩:=cut_bnd tw1.zs t1.is' hx t2 B.ll
    have hn' : it.2 = n':=by
      have:=B.ag.a3 x hxm it (List.mem_of_getElem? hq)
      rw [hxp,hit,h5] at this
      exact (Option.some.inj this).symm
    have hgo:=B.ag.go (X':=X') tw1.zs t1.is' hx hq t2 fun Y hY => by
      rw [hxp,hX] at hY;cases hY
      refine ⟨?_,by rw [h7,hXh,hit]⟩
      rw [h6]
      have:=(listB_iff (some X)).2 (hXk.trans hk1)
      simp only [listB,Bool.not_eq_true'] at this
      exact this.symm
    rw [hxp,hit,hn'] at hgo
    refine doFin (by simp [bAnd,iEq,hdI,tlI,hit]) (G':=b.G.go _ _ _ X') rfl t1.r ⟨tw1.zto t1,hgo,by have:=B.lr;omega,fun y hy => Nat.le_succ_of_le (b2 y hy)⟩
end
end Go.Proofs.Ytnlohongffpkpaa.T16
end

section
namespace Go.Proofs.Ytnlohongffpkpaa.T16
open Go Go.RowKit Go.Proofs.Ytnlohongffpkpaa.Sx Go.Proofs
set_option linter.unusedVariables false
set_option linter.unusedSimpArgs false
section
variable {b : BG} {m : Mem} {tg tr i pm ps pa n hs hg sd sa : Int} {sf : Bool}
theorem doRemNo (B : Both b.m0 b.li b.G b.Z m) (hp : okP' (pm,ps,pa)) (hk : okH (hs,hg)) (hn : inI n) (hI : b.G.I (hs,hg) n ≠ some (pm,ps,pa)) {c : Bool} (hc : c = false) :
    (Tr.req (gremoveP m ((b.G.g : Int) + 1) pm ps pa hs hg n) (.any (gremoveQ m ((b.G.g : Int) + 1) pm ps pa hs hg n) fun y => .leaf (.memo (.u (.c (.sb (bEq (hdB y.b) c)))) y.m))).sat (doR b):=by
  have gpre : gpushPre b.G m ((b.G.g : Int) + 1) pm ps pa hs hg n:=⟨rfl,B.tw.is,hp,hk,hn⟩
  rw [sat_req]
  refine ⟨⟨b.G,gpre⟩,?_⟩
  rw [sat_any]
  rintro ⟨yi,yb,yv,ym⟩ hy
  rcases hy b.G gpre with ⟨_,h2,h3⟩ | ⟨h1,_⟩
  · simp only at h2 h3
    subst h2 h3
    exact doFin (by rw [hc];rfl) rfl rfl B.up
  · exact absurd h1 hI
theorem do3_walk (hb : qdoesPre b m tg tr pm ps pa n hs hg) (hi : RowAt b.Z.rs (pm,ps,pa) i) : (T_do3 m tg tr i sd sa n pm ps pa hs hg sf).sat (doR b):=by
  obtain ⟨rfl,rfl,B,hli,hp,hk,hn⟩:=hb
  unfold T_do3
  rcases hi with ⟨rfl,hno⟩ | ⟨j,x,rfl,hx,hxp⟩
  · rw [brF (by rfl)]
    refine doRemNo B hp hk hn (fun hI => ?_) rfl
    obtain ⟨x,hx,hxp,_⟩:=(B.ag.inI B.tw.is).1 hI
    exact hno x hx hxp
  have hxm:=List.mem_of_getElem? hx
  have F:=B.tw.zs.row hx
  have Ba:=B.tw.zs.bas
  have hs':=B.tw.zs.its x hxm
  have hpre : qhasPre x.l m x.v:=⟨hs',B.tw.zs.b2 x hxm⟩
  have hIn : b.G.I (hs,hg) n = some (pm,ps,pa) ↔ ((hs,hg),n) ∈ x.l:=by
    rw [B.ag.inI B.tw.is]
    constructor
    · rintro ⟨y,hy,hyp,hit⟩
      have : y = x:=srt_inj B.tw.zs.srt hy hxm (hyp.trans hxp.symm)
      subst this
      exact hit
    · intro hit
      exact ⟨x,hxm,hxp,hit⟩
  simp only [Ba.v,Ba.pv,F.g0,F.g1,F.g2,F.g3,F.g4]
  rw [brT (by simp [iGe]),brT Ba.nr,brT Ba.nr,brT Ba.ld,brT F.inn,brT F.o5,sat_req]
  refine ⟨⟨x.l,hpre⟩,?_⟩
  rw [sat_any]
  rintro ⟨yi,yb,yv,ym⟩ hy
  obtain ⟨⟨q,e1,hq⟩,e2⟩:=hy x.l hpre
  simp only at e1 e2
  subst e1 e2
  simp only [hdI,Ba.v,Ba.pv,F.g4,hs'.pl]
  rcases hq with ⟨rfl,hq⟩ | ⟨k,it,rfl,hkk,hit⟩
  · rw [brF (by rfl)]
    exact doRemNo B hp hk hn (fun hI => hq _ (hIn.1 hI) rfl) rfl
  have I:=itf hs' hkk
  rw [brT (by simp [iGe]),brT Ba.nr,brT Ba.nr,brT Ba.ld,brT F.inn,brT F.nz,brT F.ol,brT I.inn,brT I.nz,brT I.o1]
  simp only [I.g2]
  by_cases hn' : it.2 = n
  · have hmem : ((hs,hg),n) ∈ x.l:=by
      have:=List.mem_of_getElem? hkk
      rw [← hit,← hn'];exact this
    have cpre : qcutPre b.Z ym ((b.Z.r : Int) + 1) (j : Int) (k : Int):=⟨rfl,B.tw.zs,j,k,x,it,rfl,rfl,hx,hkk⟩
    rw [brT (by simp [iEq,hn']),sat_req]
    refine ⟨⟨b.Z,cpre⟩,?_⟩
    rw [sat_any]
    rintro ⟨zi,zb,zv,zm⟩ hz
    obtain ⟨j',q',x',it',e1,e2,e3,e4,e5,Z',t1,t2⟩:=hz b.Z cpre
    obtain rfl : j' = j:=by omega
    obtain rfl : q' = k:=by omega
    rw [hx] at e3;cases e3
    rw [hkk] at e4;cases e4
    simp only at t1
    have tw1:=B.tw.zto t1
    have gpre : gpushPre b.G zm ((b.G.g : Int) + 1) pm ps pa hs hg n:=⟨rfl,tw1.is,hp,hk,hn⟩
    rw [sat_req]
    refine ⟨⟨b.G,gpre⟩,?_⟩
    rw [sat_any]
    rintro ⟨wi,wb,wv,wm⟩ hw
    rcases hw b.G gpre with ⟨h1,_⟩ | ⟨_,h2,X,X',h4,h5,h6,h7⟩
    · exact absurd (hIn.2 hmem) h1
    · simp only at h2 h7
      subst h2
      obtain ⟨b1,b2⟩:=cut_bnd B.tw.zs t1.is' hx t2 B.ll
      have hgo:=B.ag.go (X':=X') B.tw.zs t1.is' hx hkk t2 fun Y hY => by
        rw [hxp,h4] at hY;cases hY
        exact ⟨h5,by rw [h6,hit]⟩
      rw [hxp,hit,hn'] at hgo
      exact doFin (by simp [bEq,hdB,iEq,hn']) (G':=b.G.go _ _ _ X') rfl t1.r ⟨tw1.gto h7,hgo,by have:=B.lr;omega,fun y hy => Nat.le_succ_of_le (b2 y hy)⟩
  · rw [brF (by simp [iEq,hn'])]
    refine doRemNo B hp hk hn (fun hI => hn' ?_) (by simp [iEq,hn'])
    have:=nodup_fst (B.tw.zs.nd x hxm) (List.mem_of_getElem? hkk) (hIn.1 hI) hit
    rw [this]
structure DrZ (Z Zk : GR) (x : RV) (j k : Nat) : Prop where
  oth : ∀ y,y.p ≠ x.p → (y ∈ Zk.rs ↔ y ∈ Z.rs)
  at' : (k < x.l.length ∧ ∃ xk,Zk.rs[j]? = some xk ∧ xk.p = x.p ∧ xk.l = x.l.drop k) ∨ (k = x.l.length ∧ ∀ y ∈ Zk.rs,y.p ≠ x.p)
  ln : Zk.rs.length ≤ Z.rs.length
theorem do4_walk (hb : qdoesPre b m tg tr pm ps pa n hs hg) (hi : RowAt b.Z.rs (pm,ps,pa) i) : (T_do4 m tg tr i sd sa n pm ps pa hs hg sf).sat (doR b):=by
  obtain ⟨rfl,rfl,B,hli,hp,hk,hn⟩:=hb
  have hlen:=B.len (pm,ps,pa)
  have apre : gatPre b.G m ((b.G.g : Int) + 1) pm ps pa:=⟨⟨rfl,B.tw.is,hp⟩,by omega⟩
  unfold T_do4
  rw [sat_req]
  refine ⟨⟨b.G,apre⟩,?_⟩
  rw [sat_any]
  rintro ⟨yi,yb,yv,ym⟩ hy
  obtain ⟨G',d1,d2,d3,d4,d5,d6⟩:=hy b.G apre
  have d1 : b.G.to G' m ym:=d1
  have d5 : RowB ym (hdV yv) (hsO (b.G.R (pm,ps,pa))):=d5
  obtain ⟨v1,v2,v3⟩:=d5.sl
  have tw1:=B.tw.gto d1
  have hpre : qrowPre b.Z ym ((b.Z.r : Int) + 1):=⟨rfl,tw1.zs⟩
  simp only [v1,v3]
  rw [brT v2,sat_req]
  refine ⟨⟨b.Z,hpre⟩,?_⟩
  rw [sat_any]
  rintro ⟨zi,zb,zv,zm⟩ hz
  obtain ⟨⟨q,e1,hq⟩,e2⟩:=hz b.Z hpre
  simp only at e1 e2
  subst e1 e2
  simp only [hdI]
  have hqL:=B.ag.len hq B.tw.zs.srt
  rw [brF (by simp only [iNe,hqL];simp)]
  have hvr : ∀ a : Nat,slB (hdV yv) = (a : Int) + 1 → ¬ b.Z.dom a:=fun a ha hd => by
    have:=(d6 a ha).1
    exact B.tw.zs.there hd this
  -- the rounds
  rcases hi with ⟨rfl,hno⟩ | ⟨j,x,rfl,hx,hxp⟩
  · have hR : b.G.R (pm,ps,pa) = none:=by
      rcases B.ag.row (pm,ps,pa) with ⟨X,x,hx,_,hp,_⟩ | ⟨h1,_⟩
      · exact absurd hp (hno x hx)
      · exact h1
    have h0 : (hsO (b.G.R (pm,ps,pa))).length = 0:=by rw [hR];rfl
    refine lp_idx (fun N y => y.i = [0] ∧ y.m = zm) (n0:=0) ⟨rfl,rfl⟩ ?_
    rintro N ⟨ui,ub,uv,um⟩ _ ⟨h1,h2⟩
    simp only at h1 h2
    subst h1 h2
    simp only [hdI]
    rw [brT v2,brF (by simp [iLt,h0])]
    refine doFinL d1.g rfl ⟨tw1,B.ag.drain d2 d3 (p:=(pm,ps,pa)) (fun y hy => hno y hy) (fun y _ => Iff.rfl),Nat.le_succ_of_le B.lr,fun y hy => Nat.le_succ_of_le (B.ll y hy)⟩
  have hxm:=List.mem_of_getElem? hx
  obtain ⟨X,hX,hXh,hXk⟩:=B.ag.a1 x hxm
  rw [hxp] at hX
  have hh : hsO (b.G.R (pm,ps,pa)) = x.l.map (·.1):=by rw [hX];exact hXh
  have hll:=B.ll x hxm
  have hne : 0 < x.l.length:=by
    have:=(B.tw.is.st _ X hX).2.1
    rw [hXh] at this
    cases hl : x.l with
    | nil => rw [hl] at this;exact absurd rfl this
    | cons y r => simp
  let J : Nat → Vars → Prop:=fun N y => ∃ (k : Nat) (Zk : GR),k + N = x.l.length ∧ y.i = [(k : Int)] ∧ b.Z.to Zk zm y.m ∧ DrZ b.Z Zk x j k
  refine lp_idx J (n0:=x.l.length) ⟨0,b.Z,by omega,rfl,GR.to.refl tw1.zs,⟨fun _ _ => Iff.rfl,.inl ⟨hne,x,hx,rfl,rfl⟩,Nat.le_refl _⟩⟩ ?_
  rintro N ⟨ui,ub,uv,um⟩ _ ⟨k,Zk,hkN,rfl,hto,hD⟩
  simp only at hto
  simp only [hdI]
  have twk:=tw1.zto hto
  have hv' : RowB um (hdV yv) (hsO (b.G.R (pm,ps,pa))):=d5.more fun a ha hma => hto.keep a hma (fun e => hvr a ha (.inl e)) fun e => hvr a ha (.inr (.inl e))
  rw [brT v2]
  rcases hD.at' with ⟨hlt,xk,hxk,hxkp,hxkl⟩ | ⟨hke,hgone⟩
  · obtain ⟨it,hit⟩ : ∃ it,x.l[k]? = some it:=⟨_,List.getElem?_eq_getElem hlt⟩
    have hit0 : xk.l[0]? = some it:=by rw [hxkl,List.getElem?_drop];exact hit
    have hhk : (hsO (b.G.R (pm,ps,pa)))[k]? = some it.1:=by rw [hh,List.getElem?_map,hit];rfl
    obtain ⟨g1,g2,g3,g4⟩:=hv'.get hhk
    have cpre : qcutPre Zk um ((b.Z.r : Int) + 1) (j : Int) 0:=⟨by rw [hto.r],twk.zs,j,0,xk,it,rfl,rfl,hxk,hit0⟩
    rw [brT (by rw [hh,List.length_map];simp [iLt];omega),brT g1,sat_req]
    refine ⟨by simp [memL],?_⟩
    rw [brT g2,sat_req]
    refine ⟨⟨Zk,cpre⟩,?_⟩
    rw [sat_any]
    rintro ⟨wi,wb,wv,wm⟩ hw
    obtain ⟨j',q',x',it',e1,e2,e3,e4,e5,Z',t1,t2⟩:=hw Zk cpre
    obtain rfl : j' = j:=by omega
    obtain rfl : q' = 0:=by omega
    rw [hxk] at e3;cases e3
    rw [hit0] at e4;cases e4
    simp only at e5 t1
    subst e5
    rw [sat_req]
    refine ⟨⟨(by first | trivial | rfl),(by first | trivial | rfl),fun a ha => ?_⟩,?_⟩
    · have ha : slB (hdV yv) = (a : Int) + 1:=by simpa using (List.mem_singleton.1 ha).symm
      have hma : um a ≠ none:=hv'.there ha
      have hnd:=hvr a ha
      refine t1.keep a hma (fun e => hnd (.inl (e.trans hto.r))) fun e => ?_
      rcases hto.vd a e with h | h
      · exact hnd (.inr (.inl h))
      · exact d5.there ha h
    · simp only [g3,g4,hdI,tlI]
      rw [brF (by simp [bNot,bAnd,iEq]),sat_req]
      refine ⟨(by first | exact ⟨trivial,trivial⟩ | exact ⟨rfl,rfl⟩),N - 1,by omega,k + 1,Z',by omega,by rw [iadd_i (by omega)];simp,hto.trans t1 tw1.zs,?_⟩
      obtain ⟨r1,r2⟩:=t2.rows twk.zs hxk
      rw [hxkp] at r1 r2
      have hln : Z'.rs.length ≤ Zk.rs.length:=by
        rcases t2 with ⟨_,x',e1,_⟩ | ⟨_,e1⟩
        · rw [e1,List.length_set];exact Nat.le_refl _
        · rw [e1];exact (List.eraseIdx_sublist _ _).length_le
      have hed : xk.l.eraseIdx 0 = x.l.drop (k + 1):=by rw [hxkl,List.eraseIdx_zero,List.tail_drop]
      rw [hed] at r2
      refine ⟨fun y hy => (r1 y hy).trans (hD.oth y hy),?_,Nat.le_trans hln hD.ln⟩
      rcases r2 with ⟨g,r2⟩ | ⟨g,x',_,r3,r4,_,r6⟩
      · exact .inr ⟨by have:=List.drop_eq_nil_iff.1 g;omega,r2⟩
      · refine .inl ⟨?_,x',r3,r4,r6⟩
        rcases Nat.lt_or_ge (k + 1) x.l.length with h | h
        · exact h
        · exact absurd (List.drop_eq_nil_iff.2 h) g
  · rw [brF (by rw [hh,List.length_map];simp [iLt];omega)]
    have hgone' : ∀ y ∈ Zk.rs,y.p ≠ (pm,ps,pa):=fun y hy => by rw [← hxp];exact hgone y hy
    have hoth : ∀ y,y.p ≠ (pm,ps,pa) → (y ∈ Zk.rs ↔ y ∈ b.Z.rs):=fun y hy => hD.oth y (by rw [hxp];exact hy)
    have:=hD.ln
    have:=B.lr
    exact doFinL d1.g hto.r ⟨twk,B.ag.drain d2 d3 hgone' hoth,by omega,fun y hy => Nat.le_succ_of_le (B.ll y ((hoth y (hgone' y hy)).1 hy))⟩
theorem qdoes_walk (b : BG) (hb : qdoesPre b m tg tr pm ps pa n hs hg) : (T_qdoes m tg tr sd sa n pm ps pa hs hg sf).sat (isMemo fun v x => qdoesPost b (yBoo v x) ∧ (yBoo v x).m = x ∧ ∀ ρ,v.den ρ = V.den ρ (.u (.c (.sb (hdB (yBoo v x).b))))):=by
  change (T_qdoes m tg tr sd sa n pm ps pa hs hg sf).sat (doR b)
  have hb0:=hb
  obtain ⟨rfl,rfl,B,hli,hp,hk,hn⟩:=hb
  have hpre : qrowPre b.Z m ((b.Z.r : Int) + 1):=⟨rfl,B.tw.zs⟩
  unfold T_qdoes
  rw [sat_req]
  refine ⟨⟨b.Z,hpre⟩,?_⟩
  rw [sat_any]
  rintro ⟨yi,yb,yv,ym⟩ hy
  obtain ⟨⟨q,e1,hq⟩,e2⟩:=hy b.Z hpre
  simp only at e1 e2
  subst e1 e2
  simp only [hdI]
  by_cases d0 : sd = 0
  · rw [brT (by simpa [iEq] using d0)];exact do0_walk hb0
  rw [brF (by simpa [iEq] using d0)]
  by_cases d2 : sd = 2
  · rw [brT (by simpa [iEq] using d2)];exact do2_walk hb0
  rw [brF (by simpa [iEq] using d2)]
  by_cases d1 : sd = 1
  · rw [brT (by simpa [iEq] using d1)];exact do1_walk hb0 hq
  rw [brF (by simpa [iEq] using d1)]
  by_cases d3 : sd = 3
  · rw [brT (by simpa [iEq] using d3)];exact do3_walk hb0 hq
  rw [brF (by simpa [iEq] using d3)]
  by_cases d4 : sd = 4
  · rw [brT (by simpa [iEq] using d4)];exact do4_walk hb0 hq
  rw [brF (by simpa [iEq] using d4)]
  exact doFinL rfl rfl B.up
end
theorem t_qdoes (m : Mem) (g : Int) (r : Int) (sd sa sn spm sps spa shs shg : Int) (sf : Bool) : runm Try.prog [s_gpush,s_ginsert,s_gpop,s_gremove,s_gdrain,s_qrow,s_qhas,s_qlen,s_qpush,s_qins,s_qcut,s_qend] (draww Try.prog [s_gpush,s_ginsert,s_gpop,s_gremove,s_gdrain,s_qrow,s_qhas,s_qlen,s_qpush,s_qins,s_qcut,s_qend] (fun _ _ => some ⟨[13],[],[0,1,7,12],[]⟩) (fun _ _ _ => none) (fun σ => (match Go.Proofs.Ytnlohongffpkpaa.Sx.look σ.tm 12 with | .u (.c (.sv v)) => [slB (pl v)] | _ => []))) 300 41 [.u (.c (.np g 0)),.u (.c (.np r 0)),.u (.agg [.si .i64 sd,.si .i64 sa,.si .i64 sn,.si .i64 spm,.si .i64 sps,.si .i64 spa,.si .i64 shs,.si .u64 shg,.sb sf])] m [98,92,95,142,140,137,111,107,108,109,85,2000000] = T_qdoes m g r sd sa sn spm sps spa shs shg sf:=by kernel_rfl
theorem s_qdoes_ok : SumOK Try.prog s_qdoes:=by
  refine memSum_ok ⟨_,Try.func41,by kernel_rfl⟩ fun m args ms h hp hw ρ w hm => ?_
  split at h
  · split at h
    · rename_i a0 a1 a2 _ _ _ g r sd sa sn spm sps spa shs shg sf h0 h1 h2
      cases h
      have hS : ∀ q ∈ [s_gpush,s_ginsert,s_gpop,s_gremove,s_gdrain,s_qrow,s_qhas,s_qlen,s_qpush,s_qins,s_qcut,s_qend],SumOK Try.prog q:=(okc s_gpush_ok (okc s_ginsert_ok (okc s_gpop_ok (okc s_gremove_ok (okc s_gdrain_ok (okc s_qrow_ok (okc s_qhas_ok (okc s_qlen_ok (okc s_qpush_ok (okc s_qins_ok (okc s_qcut_ok (okc s_qend_ok okn))))))))))))
      exact mm_ghostY nameOK hS (draww_sound nameOK hS (by kernel_rfl) _ _ _) 300 _ m _ (t_qdoes m g r sd sa sn spm sps spa shs shg sf) yBoo hp (fun G hG => qdoes_walk G hG) ρ w hm (by simp only [List.map_cons,List.map_nil,ptrOf_den h0,ptrOf_den h1,stpOf_den h2])
    · cases h
  · cases h
end Go.Proofs.Ytnlohongffpkpaa.T16
end

section
namespace Go.Proofs.Ytnlohongffpkpaa.T16
open Go Go.RowKit Go.Proofs.Ytnlohongffpkpaa.Sx Go.Proofs
set_option linter.unusedVariables false
set_option linter.unusedSimpArgs false
theorem srt_eq : ∀ {l l' : List Pl},(l.Pairwise fun a b => plt a b = true) → (l'.Pairwise fun a b => plt a b = true) → (∀ p,p ∈ l ↔ p ∈ l') → l = l'
  | [],[],_,_,_ => rfl
  | [],b :: l',_,_,h => by have:=(h b).2 (by simp);cases this
  | a :: l,[],_,_,h => by have:=(h a).1 (by simp);cases this
  | a :: l,b :: l',h1,h2,h => by
    rw [List.pairwise_cons] at h1 h2
    have hab : a = b:=by
      rcases List.mem_cons.1 ((h a).1 (by simp)) with e | ha
      · exact e
      · rcases List.mem_cons.1 ((h b).2 (by simp)) with e | hb
        · exact e.symm
        · have:=plt_trans (h2.1 a ha) (h1.1 b hb)
          rw [plt_irr] at this;cases this
    subst hab
    rw [srt_eq h1.2 h2.2 fun p => ?_]
    have hp:=h p
    rw [List.mem_cons,List.mem_cons] at hp
    constructor
    · intro hm
      rcases hp.1 (.inr hm) with rfl | e
      · have:=h1.1 p hm
        rw [plt_irr] at this;cases this
      · exact e
    · intro hm
      rcases hp.2 (.inr hm) with rfl | e
      · have:=h2.1 p hm
        rw [plt_irr] at this;cases this
      · exact e
def qalikePre (b : BG) (m : Mem) (tg tr : Int) : Prop:=tg = (b.G.g : Int) + 1 ∧ tr = (b.Z.r : Int) + 1 ∧ Both b.m0 b.li b.G b.Z m ∧ b.li < 100000
def qalikePost (m : Mem) (y : Vars) : Prop:=y.b = [true] ∧ ∀ a,m a ≠ none → y.m a = m a
def qalikeP (m : Mem) (g r : Int) : Prop:=∃ b,qalikePre b m g r
def qalikeQ (m : Mem) (g r : Int) (y : Vars) : Prop:=∀ b,qalikePre b m g r → qalikePost m y
def s_qalike : Sum:=memSum 42 fun m a => match a with | [a0,a1] => (match ptrOf a0,ptrOf a1 with | some g,some r => some ⟨qalikeP m g r,qalikeQ m g r,fun y => .u (.c (.sb (hdB y.b)))⟩ | _,_ => none) | _ => none
def T_qalike (m : Mem) (g : Int) (r : Int) : Tr:=(.req (placesP m g) (.any (placesQ m g) (fun y0 => (.br (isSlV (pl (hdV y0.3))) (.br (nzp r) (.br (nzp r) (.br (okL y0.4 r 0 [(.raw (.slice (.none) 0 0))]) (.br (isSlV (pl (mcell y0.4 r 0))) (.br (iNe (slN (pl (hdV y0.3))) (slN (pl (mcell y0.4 r 0)))) (.leaf (.memo (.u (.c (.lb false))) y0.4)) (.lp (.mk [0] [] [] y0.4) (fun y1 j1 => (.br (isSlV (pl (hdV y0.3))) (.br (iLt (hdI y1.1) (slN (pl (hdV y0.3)))) (.br (nzp r) (.br (nzp r) (.br (okL y1.4 r 0 [(.raw (.slice (.none) 0 0))]) (.br (inSl (pl (mcell y1.4 r 0)) (hdI y1.1)) (.br (okL y1.4 (slB (pl (mcell y1.4 r 0))) (aOff (slO (pl (mcell y1.4 r 0))) (hdI y1.1) 5) [(.li .i64 0),(.li .i64 0),(.li .i64 0),(.li .u8 0),(.raw (.slice (.none) 0 0))]) (.br (inSl (pl (hdV y0.3)) (hdI y1.1)) (.br (okL y1.4 (slB (pl (hdV y0.3))) (aOff (slO (pl (hdV y0.3))) (hdI y1.1) 3) [(.li .i64 0),(.li .i64 0),(.li .i64 0)]) (.br (bNot (bAnd (iEq (gI y1.4 (slB (pl (hdV y0.3))) (aOff (slO (pl (hdV y0.3))) (hdI y1.1) 3)) (gI y1.4 (slB (pl (mcell y1.4 r 0))) (aOff (slO (pl (mcell y1.4 r 0))) (hdI y1.1) 5))) (bAnd (iEq (gI y1.4 (slB (pl (hdV y0.3))) (.succ (aOff (slO (pl (hdV y0.3))) (hdI y1.1) 3))) (gI y1.4 (slB (pl (mcell y1.4 r 0))) (.succ (aOff (slO (pl (mcell y1.4 r 0))) (hdI y1.1) 5)))) (iEq (gI y1.4 (slB (pl (hdV y0.3))) (.succ (.succ (aOff (slO (pl (hdV y0.3))) (hdI y1.1) 3)))) (gI y1.4 (slB (pl (mcell y1.4 r 0))) (.succ (.succ (aOff (slO (pl (mcell y1.4 r 0))) (hdI y1.1) 5)))))))) (.req ((([(0,([(.si .i64 (gI y1.4 (slB (pl (mcell y1.4 r 0))) (aOff (slO (pl (mcell y1.4 r 0))) (hdI y1.1) 5))),(.si .i64 (gI y1.4 (slB (pl (mcell y1.4 r 0))) (.succ (aOff (slO (pl (mcell y1.4 r 0))) (hdI y1.1) 5)))),(.si .i64 (gI y1.4 (slB (pl (mcell y1.4 r 0))) (.succ (.succ (aOff (slO (pl (mcell y1.4 r 0))) (hdI y1.1) 5))))),(.si .u8 (gI y1.4 (slB (pl (mcell y1.4 r 0))) (.succ (.succ (.succ (aOff (slO (pl (mcell y1.4 r 0))) (hdI y1.1) 5)))))),(.sv (mcell y1.4 (slB (pl (mcell y1.4 r 0))) (.succ (.succ (.succ (.succ (aOff (slO (pl (mcell y1.4 r 0))) (hdI y1.1) 5)))))))],90)),(0,([(.li .i64 0),(.li .i64 0),(.li .i64 0),(.li .u8 0),(.raw (.slice (.none) 0 0))],90))] : List (Nat × Blk)) = [(0,([(.si .i64 (gI y1.4 (slB (pl (mcell y1.4 r 0))) (aOff (slO (pl (mcell y1.4 r 0))) (hdI y1.1) 5))),(.si .i64 (gI y1.4 (slB (pl (mcell y1.4 r 0))) (.succ (aOff (slO (pl (mcell y1.4 r 0))) (hdI y1.1) 5)))),(.si .i64 (gI y1.4 (slB (pl (mcell y1.4 r 0))) (.succ (.succ (aOff (slO (pl (mcell y1.4 r 0))) (hdI y1.1) 5))))),(.si .u8 (gI y1.4 (slB (pl (mcell y1.4 r 0))) (.succ (.succ (.succ (aOff (slO (pl (mcell y1.4 r 0))) (hdI y1.1) 5)))))),(.sv (mcell y1.4 (slB (pl (mcell y1.4 r 0))) (.succ (.succ (.succ (.succ (aOff (slO (pl (mcell y1.4 r 0))) (hdI y1.1) 5)))))))],90)),(0,([(.li .i64 0),(.li .i64 0),(.li .i64 0),(.li .u8 0),(.raw (.slice (.none) 0 0))],90))]) ∧ ((([] : List (Nat × MBlk)) = []) ∧ ((y1.4 : Mem) = y1.4))) (.req ((([(0,([(.si .i64 (gI y1.4 (slB (pl (mcell y1.4 r 0))) (aOff (slO (pl (mcell y1.4 r 0))) (hdI y1.1) 5))),(.si .i64 (gI y1.4 (slB (pl (mcell y1.4 r 0))) (.succ (aOff (slO (pl (mcell y1.4 r 0))) (hdI y1.1) 5)))),(.si .i64 (gI y1.4 (slB (pl (mcell y1.4 r 0))) (.succ (.succ (aOff (slO (pl (mcell y1.4 r 0))) (hdI y1.1) 5))))),(.si .u8 (gI y1.4 (slB (pl (mcell y1.4 r 0))) (.succ (.succ (.succ (aOff (slO (pl (mcell y1.4 r 0))) (hdI y1.1) 5)))))),(.sv (mcell y1.4 (slB (pl (mcell y1.4 r 0))) (.succ (.succ (.succ (.succ (aOff (slO (pl (mcell y1.4 r 0))) (hdI y1.1) 5)))))))],90)),(0,([(.li .i64 0),(.li .i64 0),(.li .i64 0),(.li .u8 0),(.raw (.slice (.none) 0 0))],90))] : List (Nat × Blk)) = [(0,([(.si .i64 (gI y1.4 (slB (pl (mcell y1.4 r 0))) (aOff (slO (pl (mcell y1.4 r 0))) (hdI y1.1) 5))),(.si .i64 (gI y1.4 (slB (pl (mcell y1.4 r 0))) (.succ (aOff (slO (pl (mcell y1.4 r 0))) (hdI y1.1) 5)))),(.si .i64 (gI y1.4 (slB (pl (mcell y1.4 r 0))) (.succ (.succ (aOff (slO (pl (mcell y1.4 r 0))) (hdI y1.1) 5))))),(.si .u8 (gI y1.4 (slB (pl (mcell y1.4 r 0))) (.succ (.succ (.succ (aOff (slO (pl (mcell y1.4 r 0))) (hdI y1.1) 5)))))),(.sv (mcell y1.4 (slB (pl (mcell y1.4 r 0))) (.succ (.succ (.succ (.succ (aOff (slO (pl (mcell y1.4 r 0))) (hdI y1.1) 5)))))))],90)),(0,([(.li .i64 0),(.li .i64 0),(.li .i64 0),(.li .u8 0),(.raw (.slice (.none) 0 0))],90))]) ∧ ((([] : List (Nat × MBlk)) = []) ∧ ((y1.4 : Mem) = y1.4))) (.leaf (.up (.memo (.u (.c (.lb false))) y1.4))))) (.br (inSl (pl (hdV y0.3)) (hdI y1.1)) (.br (okL y1.4 (slB (pl (hdV y0.3))) (aOff (slO (pl (hdV y0.3))) (hdI y1.1) 3) [(.li .i64 0),(.li .i64 0),(.li .i64 0)]) (.req (gkindOK y1.4 g (gI y1.4 (slB (pl (hdV y0.3))) (aOff (slO (pl (hdV y0.3))) (hdI y1.1) 3)) (gI y1.4 (slB (pl (hdV y0.3))) (.succ (aOff (slO (pl (hdV y0.3))) (hdI y1.1) 3))) (gI y1.4 (slB (pl (hdV y0.3))) (.succ (.succ (aOff (slO (pl (hdV y0.3))) (hdI y1.1) 3))))) (.req ((([(0,([(.si .i64 (gI y1.4 (slB (pl (mcell y1.4 r 0))) (aOff (slO (pl (mcell y1.4 r 0))) (hdI y1.1) 5))),(.si .i64 (gI y1.4 (slB (pl (mcell y1.4 r 0))) (.succ (aOff (slO (pl (mcell y1.4 r 0))) (hdI y1.1) 5)))),(.si .i64 (gI y1.4 (slB (pl (mcell y1.4 r 0))) (.succ (.succ (aOff (slO (pl (mcell y1.4 r 0))) (hdI y1.1) 5))))),(.si .u8 (gI y1.4 (slB (pl (mcell y1.4 r 0))) (.succ (.succ (.succ (aOff (slO (pl (mcell y1.4 r 0))) (hdI y1.1) 5)))))),(.sv (mcell y1.4 (slB (pl (mcell y1.4 r 0))) (.succ (.succ (.succ (.succ (aOff (slO (pl (mcell y1.4 r 0))) (hdI y1.1) 5)))))))],90)),(0,([(.li .i64 0),(.li .i64 0),(.li .i64 0),(.li .u8 0),(.raw (.slice (.none) 0 0))],90))] : List (Nat × Blk)) = [(0,([(.si .i64 (gI y1.4 (slB (pl (mcell y1.4 r 0))) (aOff (slO (pl (mcell y1.4 r 0))) (hdI y1.1) 5))),(.si .i64 (gI y1.4 (slB (pl (mcell y1.4 r 0))) (.succ (aOff (slO (pl (mcell y1.4 r 0))) (hdI y1.1) 5)))),(.si .i64 (gI y1.4 (slB (pl (mcell y1.4 r 0))) (.succ (.succ (aOff (slO (pl (mcell y1.4 r 0))) (hdI y1.1) 5))))),(.si .u8 (gI y1.4 (slB (pl (mcell y1.4 r 0))) (.succ (.succ (.succ (aOff (slO (pl (mcell y1.4 r 0))) (hdI y1.1) 5)))))),(.sv (mcell y1.4 (slB (pl (mcell y1.4 r 0))) (.succ (.succ (.succ (.succ (aOff (slO (pl (mcell y1.4 r 0))) (hdI y1.1) 5)))))))],90)),(0,([(.li .i64 0),(.li .i64 0),(.li .i64 0),(.li .u8 0),(.raw (.slice (.none) 0 0))],90))]) ∧ ((([] : List (Nat × MBlk)) = []) ∧ ((y1.4 : Mem) = y1.4))) (.br (iNe (gkindV y1.4 g (gI y1.4 (slB (pl (hdV y0.3))) (aOff (slO (pl (hdV y0.3))) (hdI y1.1) 3)) (gI y1.4 (slB (pl (hdV y0.3))) (.succ (aOff (slO (pl (hdV y0.3))) (hdI y1.1) 3))) (gI y1.4 (slB (pl (hdV y0.3))) (.succ (.succ (aOff (slO (pl (hdV y0.3))) (hdI y1.1) 3))))) (gI y1.4 (slB (pl (mcell y1.4 r 0))) (.succ (.succ (.succ (aOff (slO (pl (mcell y1.4 r 0))) (hdI y1.1) 5)))))) (.req ((([(0,([(.si .i64 (gI y1.4 (slB (pl (mcell y1.4 r 0))) (aOff (slO (pl (mcell y1.4 r 0))) (hdI y1.1) 5))),(.si .i64 (gI y1.4 (slB (pl (mcell y1.4 r 0))) (.succ (aOff (slO (pl (mcell y1.4 r 0))) (hdI y1.1) 5)))),(.si .i64 (gI y1.4 (slB (pl (mcell y1.4 r 0))) (.succ (.succ (aOff (slO (pl (mcell y1.4 r 0))) (hdI y1.1) 5))))),(.si .u8 (gI y1.4 (slB (pl (mcell y1.4 r 0))) (.succ (.succ (.succ (aOff (slO (pl (mcell y1.4 r 0))) (hdI y1.1) 5)))))),(.sv (mcell y1.4 (slB (pl (mcell y1.4 r 0))) (.succ (.succ (.succ (.succ (aOff (slO (pl (mcell y1.4 r 0))) (hdI y1.1) 5)))))))],90)),(0,([(.li .i64 0),(.li .i64 0),(.li .i64 0),(.li .u8 0),(.raw (.slice (.none) 0 0))],90))] : List (Nat × Blk)) = [(0,([(.si .i64 (gI y1.4 (slB (pl (mcell y1.4 r 0))) (aOff (slO (pl (mcell y1.4 r 0))) (hdI y1.1) 5))),(.si .i64 (gI y1.4 (slB (pl (mcell y1.4 r 0))) (.succ (aOff (slO (pl (mcell y1.4 r 0))) (hdI y1.1) 5)))),(.si .i64 (gI y1.4 (slB (pl (mcell y1.4 r 0))) (.succ (.succ (aOff (slO (pl (mcell y1.4 r 0))) (hdI y1.1) 5))))),(.si .u8 (gI y1.4 (slB (pl (mcell y1.4 r 0))) (.succ (.succ (.succ (aOff (slO (pl (mcell y1.4 r 0))) (hdI y1.1) 5)))))),(.sv (mcell y1.4 (slB (pl (mcell y1.4 r 0))) (.succ (.succ (.succ (.succ (aOff (slO (pl (mcell y1.4 r 0))) (hdI y1.1) 5)))))))],90)),(0,([(.li .i64 0),(.li .i64 0),(.li .i64 0),(.li .u8 0),(.raw (.slice (.none) 0 0))],90))]) ∧ ((([] : List (Nat × MBlk)) = []) ∧ ((y1.4 : Mem) = y1.4))) (.leaf (.up (.memo (.u (.c (.lb false))) y1.4)))) (.br (inSl (pl (hdV y0.3)) (hdI y1.1)) (.br (okL y1.4 (slB (pl (hdV y0.3))) (aOff (slO (pl (hdV y0.3))) (hdI y1.1) 3) [(.li .i64 0),(.li .i64 0),(.li .i64 0)]) (.br (isSlV (pl (mcell y1.4 (slB (pl (mcell y1.4 r 0))) (.succ (.succ (.succ (.succ (aOff (slO (pl (mcell y1.4 r 0))) (hdI y1.1) 5)))))))) (.req (glenOK y1.4 g (gI y1.4 (slB (pl (hdV y0.3))) (aOff (slO (pl (hdV y0.3))) (hdI y1.1) 3)) (gI y1.4 (slB (pl (hdV y0.3))) (.succ (aOff (slO (pl (hdV y0.3))) (hdI y1.1) 3))) (gI y1.4 (slB (pl (hdV y0.3))) (.succ (.succ (aOff (slO (pl (hdV y0.3))) (hdI y1.1) 3))))) (.req ((([(0,([(.si .i64 (gI y1.4 (slB (pl (mcell y1.4 r 0))) (aOff (slO (pl (mcell y1.4 r 0))) (hdI y1.1) 5))),(.si .i64 (gI y1.4 (slB (pl (mcell y1.4 r 0))) (.succ (aOff (slO (pl (mcell y1.4 r 0))) (hdI y1.1) 5)))),(.si .i64 (gI y1.4 (slB (pl (mcell y1.4 r 0))) (.succ (.succ (aOff (slO (pl (mcell y1.4 r 0))) (hdI y1.1) 5))))),(.si .u8 (gI y1.4 (slB (pl (mcell y1.4 r 0))) (.succ (.succ (.succ (aOff (slO (pl (mcell y1.4 r 0))) (hdI y1.1) 5)))))),(.sv (mcell y1.4 (slB (pl (mcell y1.4 r 0))) (.succ (.succ (.succ (.succ (aOff (slO (pl (mcell y1.4 r 0))) (hdI y1.1) 5)))))))],90)),(0,([(.li .i64 0),(.li .i64 0),(.li .i64 0),(.li .u8 0),(.raw (.slice (.none) 0 0))],90))] : List (Nat × Blk)) = [(0,([(.si .i64 (gI y1.4 (slB (pl (mcell y1.4 r 0))) (aOff (slO (pl (mcell y1.4 r 0))) (hdI y1.1) 5))),(.si .i64 (gI y1.4 (slB (pl (mcell y1.4 r 0))) (.succ (aOff (slO (pl (mcell y1.4 r 0))) (hdI y1.1) 5)))),(.si .i64 (gI y1.4 (slB (pl (mcell y1.4 r 0))) (.succ (.succ (aOff (slO (pl (mcell y1.4 r 0))) (hdI y1.1) 5))))),(.si .u8 (gI y1.4 (slB (pl (mcell y1.4 r 0))) (.succ (.succ (.succ (aOff (slO (pl (mcell y1.4 r 0))) (hdI y1.1) 5)))))),(.sv (mcell y1.4 (slB (pl (mcell y1.4 r 0))) (.succ (.succ (.succ (.succ (aOff (slO (pl (mcell y1.4 r 0))) (hdI y1.1) 5)))))))],90)),(0,([(.li .i64 0),(.li .i64 0),(.li .i64 0),(.li .u8 0),(.raw (.slice (.none) 0 0))],90))]) ∧ ((([] : List (Nat × MBlk)) = []) ∧ ((y1.4 : Mem) = y1.4))) (.br (iNe (glenV y1.4 g (gI y1.4 (slB (pl (hdV y0.3))) (aOff (slO (pl (hdV y0.3))) (hdI y1.1) 3)) (gI y1.4 (slB (pl (hdV y0.3))) (.succ (aOff (slO (pl (hdV y0.3))) (hdI y1.1) 3))) (gI y1.4 (slB (pl (hdV y0.3))) (.succ (.succ (aOff (slO (pl (hdV y0.3))) (hdI y1.1) 3))))) (slN (pl (mcell y1.4 (slB (pl (mcell y1.4 r 0))) (.succ (.succ (.succ (.succ (aOff (slO (pl (mcell y1.4 r 0))) (hdI y1.1) 5))))))))) (.leaf (.up (.memo (.u (.c (.lb false))) y1.4))) (.lp (.mk [0] [] [] y1.4) (fun y2 j2 => (.br (isSlV (pl (mcell y1.4 (slB (pl (mcell y1.4 r 0))) (.succ (.succ (.succ (.succ (aOff (slO (pl (mcell y1.4 r 0))) (hdI y1.1) 5)))))))) (.br (iLt (hdI y2.1) (slN (pl (mcell y1.4 (slB (pl (mcell y1.4 r 0))) (.succ (.succ (.succ (.succ (aOff (slO (pl (mcell y1.4 r 0))) (hdI y1.1) 5))))))))) (.br (inSl (pl (hdV y0.3)) (hdI y1.1)) (.br (okL y2.4 (slB (pl (hdV y0.3))) (aOff (slO (pl (hdV y0.3))) (hdI y1.1) 3) [(.li .i64 0),(.li .i64 0),(.li .i64 0)]) (.req (gatP y2.4 g (gI y2.4 (slB (pl (hdV y0.3))) (aOff (slO (pl (hdV y0.3))) (hdI y1.1) 3)) (gI y2.4 (slB (pl (hdV y0.3))) (.succ (aOff (slO (pl (hdV y0.3))) (hdI y1.1) 3))) (gI y2.4 (slB (pl (hdV y0.3))) (.succ (.succ (aOff (slO (pl (hdV y0.3))) (hdI y1.1) 3)))) (hdI y2.1)) (.any (gatQ y2.4 g (gI y2.4 (slB (pl (hdV y0.3))) (aOff (slO (pl (hdV y0.3))) (hdI y1.1) 3)) (gI y2.4 (slB (pl (hdV y0.3))) (.succ (aOff (slO (pl (hdV y0.3))) (hdI y1.1) 3))) (gI y2.4 (slB (pl (hdV y0.3))) (.succ (.succ (aOff (slO (pl (hdV y0.3))) (hdI y1.1) 3)))) (hdI y2.1)) (fun y3 => (.br (inSl (pl (mcell y1.4 (slB (pl (mcell y1.4 r 0))) (.succ (.succ (.succ (.succ (aOff (slO (pl (mcell y1.4 r 0))) (hdI y1.1) 5))))))) (hdI y2.1)) (.br (nzp (slB (pl (mcell y1.4 (slB (pl (mcell y1.4 r 0))) (.succ (.succ (.succ (.succ (aOff (slO (pl (mcell y1.4 r 0))) (hdI y1.1) 5))))))))) (.br (okL y3.4 (slB (pl (mcell y1.4 (slB (pl (mcell y1.4 r 0))) (.succ (.succ (.succ (.succ (aOff (slO (pl (mcell y1.4 r 0))) (hdI y1.1) 5)))))))) (.succ (.succ (aOff (slO (pl (mcell y1.4 (slB (pl (mcell y1.4 r 0))) (.succ (.succ (.succ (.succ (aOff (slO (pl (mcell y1.4 r 0))) (hdI y1.1) 5)))))))) (hdI y2.1) 3))) [(.li .i64 0)]) (.req (ginOK y3.4 g (hdI y3.1) (hdI (tlI y3.1)) (gI y3.4 (slB (pl (mcell y1.4 (slB (pl (mcell y1.4 r 0))) (.succ (.succ (.succ (.succ (aOff (slO (pl (mcell y1.4 r 0))) (hdI y1.1) 5)))))))) (.succ (.succ (aOff (slO (pl (mcell y1.4 (slB (pl (mcell y1.4 r 0))) (.succ (.succ (.succ (.succ (aOff (slO (pl (mcell y1.4 r 0))) (hdI y1.1) 5)))))))) (hdI y2.1) 3))))) (.br (bNot (hdB y3.2)) (.leaf (.up (.up (.memo (.u (.c (.lb false))) y3.4)))) (.br (inSl (pl (mcell y1.4 (slB (pl (mcell y1.4 r 0))) (.succ (.succ (.succ (.succ (aOff (slO (pl (mcell y1.4 r 0))) (hdI y1.1) 5))))))) (hdI y2.1)) (.br (nzp (slB (pl (mcell y1.4 (slB (pl (mcell y1.4 r 0))) (.succ (.succ (.succ (.succ (aOff (slO (pl (mcell y1.4 r 0))) (hdI y1.1) 5))))))))) (.br (okL y3.4 (slB (pl (mcell y1.4 (slB (pl (mcell y1.4 r 0))) (.succ (.succ (.succ (.succ (aOff (slO (pl (mcell y1.4 r 0))) (hdI y1.1) 5)))))))) (aOff (slO (pl (mcell y1.4 (slB (pl (mcell y1.4 r 0))) (.succ (.succ (.succ (.succ (aOff (slO (pl (mcell y1.4 r 0))) (hdI y1.1) 5)))))))) (hdI y2.1) 3) [(.li .i64 0),(.li .u64 0)]) (.br (bNot (bAnd (iEq (hdI y3.1) (gI y3.4 (slB (pl (mcell y1.4 (slB (pl (mcell y1.4 r 0))) (.succ (.succ (.succ (.succ (aOff (slO (pl (mcell y1.4 r 0))) (hdI y1.1) 5)))))))) (aOff (slO (pl (mcell y1.4 (slB (pl (mcell y1.4 r 0))) (.succ (.succ (.succ (.succ (aOff (slO (pl (mcell y1.4 r 0))) (hdI y1.1) 5)))))))) (hdI y2.1) 3))) (iEq (hdI (tlI y3.1)) (gI y3.4 (slB (pl (mcell y1.4 (slB (pl (mcell y1.4 r 0))) (.succ (.succ (.succ (.succ (aOff (slO (pl (mcell y1.4 r 0))) (hdI y1.1) 5)))))))) (.succ (aOff (slO (pl (mcell y1.4 (slB (pl (mcell y1.4 r 0))) (.succ (.succ (.succ (.succ (aOff (slO (pl (mcell y1.4 r 0))) (hdI y1.1) 5)))))))) (hdI y2.1) 3)))))) (.leaf (.up (.up (.memo (.u (.c (.lb false))) y3.4)))) (.br (bNot (ginV y3.4 g (hdI y3.1) (hdI (tlI y3.1)) (gI y3.4 (slB (pl (mcell y1.4 (slB (pl (mcell y1.4 r 0))) (.succ (.succ (.succ (.succ (aOff (slO (pl (mcell y1.4 r 0))) (hdI y1.1) 5)))))))) (.succ (.succ (aOff (slO (pl (mcell y1.4 (slB (pl (mcell y1.4 r 0))) (.succ (.succ (.succ (.succ (aOff (slO (pl (mcell y1.4 r 0))) (hdI y1.1) 5)))))))) (hdI y2.1) 3))))).2.2.2) (.leaf (.up (.up (.memo (.u (.c (.lb false))) y3.4)))) (.br (bNot (bAnd (iEq (ginV y3.4 g (hdI y3.1) (hdI (tlI y3.1)) (gI y3.4 (slB (pl (mcell y1.4 (slB (pl (mcell y1.4 r 0))) (.succ (.succ (.succ (.succ (aOff (slO (pl (mcell y1.4 r 0))) (hdI y1.1) 5)))))))) (.succ (.succ (aOff (slO (pl (mcell y1.4 (slB (pl (mcell y1.4 r 0))) (.succ (.succ (.succ (.succ (aOff (slO (pl (mcell y1.4 r 0))) (hdI y1.1) 5)))))))) (hdI y2.1) 3))))).1 (gI y1.4 (slB (pl (mcell y1.4 r 0))) (aOff (slO (pl (mcell y1.4 r 0))) (hdI y1.1) 5))) (bAnd (iEq (ginV y3.4 g (hdI y3.1) (hdI (tlI y3.1)) (gI y3.4 (slB (pl (mcell y1.4 (slB (pl (mcell y1.4 r 0))) (.succ (.succ (.succ (.succ (aOff (slO (pl (mcell y1.4 r 0))) (hdI y1.1) 5)))))))) (.succ (.succ (aOff (slO (pl (mcell y1.4 (slB (pl (mcell y1.4 r 0))) (.succ (.succ (.succ (.succ (aOff (slO (pl (mcell y1.4 r 0))) (hdI y1.1) 5)))))))) (hdI y2.1) 3))))).2.1 (gI y1.4 (slB (pl (mcell y1.4 r 0))) (.succ (aOff (slO (pl (mcell y1.4 r 0))) (hdI y1.1) 5)))) (iEq (ginV y3.4 g (hdI y3.1) (hdI (tlI y3.1)) (gI y3.4 (slB (pl (mcell y1.4 (slB (pl (mcell y1.4 r 0))) (.succ (.succ (.succ (.succ (aOff (slO (pl (mcell y1.4 r 0))) (hdI y1.1) 5)))))))) (.succ (.succ (aOff (slO (pl (mcell y1.4 (slB (pl (mcell y1.4 r 0))) (.succ (.succ (.succ (.succ (aOff (slO (pl (mcell y1.4 r 0))) (hdI y1.1) 5)))))))) (hdI y2.1) 3))))).2.2.1 (gI y1.4 (slB (pl (mcell y1.4 r 0))) (.succ (.succ (aOff (slO (pl (mcell y1.4 r 0))) (hdI y1.1) 5)))))))) (.leaf (.up (.up (.memo (.u (.c (.lb false))) y3.4)))) (.req ((([(0,(.u (.c (.np g 0)))),(1,(.u (.c (.np r 0)))),(5,(.u (.c (.sv (hdV y0.3))))),(6,(.u (.c (.si .i64 (hdI y1.1))))),(7,(.u (.c (.ptr 0 0))))] : List (Nat × V)) = [(0,(.u (.c (.np g 0)))),(1,(.u (.c (.np r 0)))),(5,(.u (.c (.sv (hdV y0.3))))),(6,(.u (.c (.si .i64 (hdI y1.1))))),(7,(.u (.c (.ptr 0 0))))]) ∧ (([(0,([(.si .i64 (gI y1.4 (slB (pl (mcell y1.4 r 0))) (aOff (slO (pl (mcell y1.4 r 0))) (hdI y1.1) 5))),(.si .i64 (gI y1.4 (slB (pl (mcell y1.4 r 0))) (.succ (aOff (slO (pl (mcell y1.4 r 0))) (hdI y1.1) 5)))),(.si .i64 (gI y1.4 (slB (pl (mcell y1.4 r 0))) (.succ (.succ (aOff (slO (pl (mcell y1.4 r 0))) (hdI y1.1) 5))))),(.si .u8 (gI y1.4 (slB (pl (mcell y1.4 r 0))) (.succ (.succ (.succ (aOff (slO (pl (mcell y1.4 r 0))) (hdI y1.1) 5)))))),(.sv (mcell y1.4 (slB (pl (mcell y1.4 r 0))) (.succ (.succ (.succ (.succ (aOff (slO (pl (mcell y1.4 r 0))) (hdI y1.1) 5)))))))],90))] : List (Nat × Blk)) = [(0,([(.si .i64 (gI y1.4 (slB (pl (mcell y1.4 r 0))) (aOff (slO (pl (mcell y1.4 r 0))) (hdI y1.1) 5))),(.si .i64 (gI y1.4 (slB (pl (mcell y1.4 r 0))) (.succ (aOff (slO (pl (mcell y1.4 r 0))) (hdI y1.1) 5)))),(.si .i64 (gI y1.4 (slB (pl (mcell y1.4 r 0))) (.succ (.succ (aOff (slO (pl (mcell y1.4 r 0))) (hdI y1.1) 5))))),(.si .u8 (gI y1.4 (slB (pl (mcell y1.4 r 0))) (.succ (.succ (.succ (aOff (slO (pl (mcell y1.4 r 0))) (hdI y1.1) 5)))))),(.sv (mcell y1.4 (slB (pl (mcell y1.4 r 0))) (.succ (.succ (.succ (.succ (aOff (slO (pl (mcell y1.4 r 0))) (hdI y1.1) 5)))))))],90))])) (.leaf (.again (.mk [(iAdd .i64 (hdI y2.1) 1)] [] [] y3.4))))))) (.no 70)) (.no 76)) (.no 104)))) (.no 70)) (.no 76)) (.no 104))))) (.no 70)) (.no 104)) (.req ((([(0,(.u (.c (.np g 0)))),(1,(.u (.c (.np r 0)))),(5,(.u (.c (.sv (hdV y0.3)))))] : List (Nat × V)) = [(0,(.u (.c (.np g 0)))),(1,(.u (.c (.np r 0)))),(5,(.u (.c (.sv (hdV y0.3)))))]) ∧ (([] : List (Nat × Blk)) = [])) (.leaf (.up (.again (.mk [(iAdd .i64 (hdI y1.1) 1)] [] [] y2.4)))))) (.no 123))))))) (.no 123)) (.no 70)) (.no 104))))) (.no 70)) (.no 104))) (.no 70)) (.no 104)) (.no 70)) (.no 104)) (.no 70)) (.no 76)) (.no 75)) (.leaf (.up (.memo (.u (.c (.lb true))) y1.4)))) (.no 123))))) (.no 123)) (.no 70)) (.no 76)) (.no 75)) (.no 123)))))
theorem Both.places {m0 m : Mem} {li : Nat} {G : GG} {Z : GR} (b : Both m0 li G Z m) {ps : List Pl} (h1 : ps.Nodup) (h2 : ∀ p,p ∈ ps ↔ (G.R p).isSome = true) (h3 : ps.Pairwise fun a b => plt b a = false) : ps = Z.rs.map (·.p):=by
  refine srt_eq ?_ (List.pairwise_map.2 b.tw.zs.srt) fun p => ?_
  · have h4 : ps.Pairwise fun a b => a ≠ b:=h1
    exact (List.Pairwise.and h3 h4).imp fun h => plt_tri h.1 (Ne.symm h.2)
  · rw [h2,List.mem_map]
    constructor
    · intro hR
      obtain ⟨X,hX⟩:=Option.isSome_iff_exists.1 hR
      exact b.ag.a2 p X hX
    · rintro ⟨x,hx,rfl⟩
      obtain ⟨X,h1,_⟩:=b.ag.a1 x hx
      rw [h1];rfl
theorem Both.few {m0 m : Mem} {li : Nat} {G : GG} {Z : GR} (b : Both m0 li G Z m) : ∀ L : List Pl,L.Nodup → (∀ p ∈ L,(G.R p).isSome = true) → L.length ≤ li:=fun L h1 h2 => by
  have : L.length ≤ (Z.rs.map (·.p)).length:=nodup_le h1 fun p hp => by
    obtain ⟨X,hX⟩:=Option.isSome_iff_exists.1 (h2 p hp)
    obtain ⟨x,hx,e⟩:=b.ag.a2 p X hX
    exact List.mem_map.2 ⟨x,hx,e⟩
  rw [List.length_map] at this
  exact Nat.le_trans this b.lr
theorem qalike_walk {m : Mem} {tg tr : Int} (b : BG) (hb : qalikePre b m tg tr) : (T_qalike m tg tr).sat (isMemo fun v x => qalikePost m (yBoo v x) ∧ (yBoo v x).m = x ∧ ∀ ρ,v.den ρ = V.den ρ (.u (.c (.sb (hdB (yBoo v x).b))))):=by
  obtain ⟨rfl,rfl,B,hli⟩:=hb
  have ppre : placesPre b.G m ((b.G.g : Int) + 1):=⟨rfl,B.tw.is,fun L h1 h2 => by have:=B.few L h1 h2;omega⟩
  unfold T_qalike
  rw [sat_req]
  refine ⟨⟨b.G,ppre⟩,?_⟩
  rw [sat_any]
  rintro ⟨yi,yb,yv,ym⟩ hy
  obtain ⟨ps,r1,r2,r3,r4,r5,r6⟩:=hy b.G ppre
  have r1 : RowP ym (hdV yv) ps:=r1
  have r5 : ∀ a,m a ≠ none → ym a = m a:=r5
  have hps:=B.places r2 r3 r4
  have hpl : ps.length = b.Z.rs.length:=by rw [hps,List.length_map]
  have hlr:=B.lr
  obtain ⟨e1,e2,e3⟩:=r1.sl
  have B1:=B.more r5
  have Ba:=B1.tw.zs.bas
  simp only [e1,e3,Ba.v,Ba.pv,Ba.n]
  rw [brT e2,brT Ba.nr,brT Ba.nr,brT Ba.ld,brT Ba.sl,brF (by simp [iNe,hpl])]
  let J : Nat → Vars → Prop:=fun N y => ∃ k : Nat,k + N = ps.length ∧ y.i = [(k : Int)] ∧ ∀ a,ym a ≠ none → y.m a = ym a
  refine lp_idx J (n0:=ps.length) ⟨0,by omega,rfl,fun _ _ => rfl⟩ ?_
  rintro N ⟨ui,ub,uv,um⟩ _ ⟨k,hk,rfl,hm⟩
  simp only at hm
  have B2:=B1.more hm
  have Bu:=B2.tw.zs.bas
  simp only [hdI,Bu.v,Bu.pv]
  rw [brT e2]
  have fin : ∀ m' : Mem,(∀ a,ym a ≠ none → m' a = ym a) → ∀ a,m a ≠ none → m' a = m a:=fun m' h a ha => (h a (by rw [r5 a ha];exact ha)).trans (r5 a ha)
  by_cases hlt : k < ps.length
  rotate_left
  · rw [brF (by simp [iLt];omega)]
    exact ⟨⟨rfl,fin um hm⟩,rfl,fun ρ => rfl⟩
  obtain ⟨x,hx⟩ : ∃ x,b.Z.rs[k]? = some x:=⟨_,List.getElem?_eq_getElem (by omega)⟩
  have hxm:=List.mem_of_getElem? hx
  have hpk : ps[k]? = some x.p:=by rw [hps,List.getElem?_map,hx];rfl
  have ru:=r1.more (m':=um) fun a ha hma => hm a hma
  obtain ⟨g1,g2,g3,g4,g5⟩:=ru.get hpk
  have F:=B2.tw.zs.row hx
  have hs':=B2.tw.zs.its x hxm
  obtain ⟨X,hX,hXh,hXk⟩:=B.ag.a1 x hxm
  have hok:=(B2.tw.is.st x.p X hX).2.2
  have hh : hsO (b.G.R x.p) = x.l.map (·.1):=by rw [hX];exact hXh
  have hll:=B.ll x hxm
  obtain ⟨k1,k2⟩:=gkind_spec (a:=x.p.1) (b:=x.p.2.1) (c:=x.p.2.2) B2.tw.is hok
  obtain ⟨n1,n2⟩:=glen_spec (a:=x.p.1) (b:=x.p.2.1) (c:=x.p.2.2) B2.tw.is hok
  have ep : ((x.p.1,x.p.2.1,x.p.2.2) : Pl) = x.p:=rfl
  rw [ep] at k2 n2
  rw [hX,hXk] at k2
  rw [hh,List.length_map] at n2
  simp only [F.g0,F.g1,F.g2,F.g3,F.g4,g3,g4,g5,hs'.pl,hs'.n,k2,n2]
  rw [brT (by simp [iLt];omega),brT Bu.nr,brT Bu.nr,brT Bu.ld,brT F.inn,brT F.o5,brT g1,brT g2,brF (by simp [bNot,bAnd,iEq]),brT g1,brT g2,sat_req]
  refine ⟨k1,?_⟩
  rw [sat_req]
  refine ⟨by first | trivial | simp,?_⟩
  rw [brF (by simp [iNe]),brT g1,brT g2,brT hs'.isv,sat_req]
  refine ⟨n1,?_⟩
  rw [sat_req]
  refine ⟨by first | trivial | simp,?_⟩
  rw [brF (by simp [iNe])]
  let J2 : Nat → Vars → Prop:=fun N y => ∃ q : Nat,q + N = x.l.length ∧ y.i = [(q : Int)] ∧ ∀ a,ym a ≠ none → y.m a = ym a
  refine lp_idx J2 (n0:=x.l.length) ⟨0,by omega,rfl,hm⟩ ?_
  rintro N2 ⟨wi,wb,wv,wm⟩ _ ⟨q,hq,rfl,hw⟩
  simp only at hw
  simp only [hdI]
  rw [brT hs'.isv]
  by_cases hql : q < x.l.length
  rotate_left
  · rw [brF (by simp [iLt];omega),sat_req]
    refine ⟨by first | trivial | simp,N - 1,by omega,k + 1,by omega,?_,hw⟩
    rw [iadd_i (by omega)];simp
  obtain ⟨it,hit⟩ : ∃ it,x.l[q]? = some it:=⟨_,List.getElem?_eq_getElem hql⟩
  have hitm:=List.mem_of_getElem? hit
  have Bw:=B1.more hw
  have rw':=r1.more (m':=wm) fun a ha hma => hw a hma
  obtain ⟨j1,j2,j3,j4,j5⟩:=rw'.get hpk
  have apre : gatPre b.G wm ((b.G.g : Int) + 1) x.p.1 x.p.2.1 x.p.2.2:=⟨⟨rfl,Bw.tw.is,hok⟩,by rw [ep,hh,List.length_map];omega⟩
  simp only [j3,j4,j5]
  rw [brT (by simp [iLt];omega),brT j1,brT j2,sat_req]
  refine ⟨⟨b.G,apre⟩,?_⟩
  rw [sat_any]
  rintro ⟨zi,zb,zv,zm⟩ hz
  have hz:=hz b.G apre
  rw [ep] at hz
  have hhk : (hsO (b.G.R x.p))[q]? = some it.1:=by rw [hh,List.getElem?_map,hit];rfl
  rcases hz with ⟨j,kk,ej,hj,z1,z2,z3⟩ | ⟨hbad,_⟩
  rotate_left
  · rw [hh,List.length_map] at hbad;omega
  obtain rfl : j = q:=by omega
  rw [hhk] at hj;cases hj
  simp only at z1 z2 z3
  subst z1 z2
  have hz' : ∀ a,ym a ≠ none → zm a = ym a:=fun a ha => (z3 a (by rw [hw a ha];exact ha)).trans (hw a ha)
  have Bz:=B1.more hz'
  have hsz:=Bz.tw.zs.its x hxm
  have I:=itf hsz hit
  have hN:=B.ag.a3 x hxm it hitm
  have hinI:=B.tw.is.nr _ _ _ hN
  have hokH : okH it.1:=(B.tw.is.st x.p X hX).1.rng (by rw [hXh];exact List.mem_map.2 ⟨it,hitm,rfl⟩)
  obtain ⟨i1,i2⟩:=gin_spec (k:=it.1.1) (l:=it.1.2) (n:=it.2) Bz.tw.is.toGM hokH hinI
  have hI : b.G.I (it.1.1,it.1.2) it.2 = some x.p:=(B.ag.inI B.tw.is).2 ⟨x,hxm,rfl,hitm⟩
  rw [hI] at i2
  simp only [hdI,tlI,hdB,I.g0,I.g1,I.g2,i2,gin4]
  rw [brT I.inn,brT I.nz,brT I.o1,sat_req]
  refine ⟨i1,?_⟩
  rw [brF (by rfl),brT I.inn,brT I.nz,brT I.o2,brF (by simp [bNot,bAnd,iEq]),brF (by rfl),brF (by simp [bNot,bAnd,iEq]),sat_req]
  refine ⟨by first | trivial | simp,N2 - 1,by omega,j + 1,by omega,?_,hz'⟩
  rw [iadd_i (by omega)];simp
theorem t_qalike (m : Mem) (g : Int) (r : Int) : runm Try.prog [s_places,s_gkind,s_glen,s_gat,s_gin] (drawh Try.prog [s_places,s_gkind,s_glen,s_gat,s_gin] (fun _ k => match Nat.beq k 5 with | true => some ⟨[6],[],[0,1,5],[]⟩ | false => match Nat.beq k 11 with | true => some ⟨[8],[],[0,1,5,6,7],[0]⟩ | false => none) (fun _ _ _ => none)) 300 42 [.u (.c (.np g 0)),.u (.c (.np r 0))] m [98,92,95,142,140,137,111,107,108,109,85,2000000] = T_qalike m g r:=by kernel_rfl
theorem s_qalike_ok : SumOK Try.prog s_qalike:=by
  refine memSum_ok ⟨_,Try.func42,by kernel_rfl⟩ fun m args ms h hp hw ρ w hm => ?_
  split at h
  · split at h
    · rename_i a0 a1 _ _ g r h0 h1
      cases h
      have hS : ∀ q ∈ [s_places,s_gkind,s_glen,s_gat,s_gin],SumOK Try.prog q:=(okc s_places_ok (okc s_gkind_ok (okc s_glen_ok (okc s_gat_ok (okc s_gin_ok okn)))))
      exact mm_ghostY nameOK hS (drawh_sound nameOK hS (by kernel_rfl) _ _) 300 _ m _ (t_qalike m g r) yBoo hp (fun G hG => qalike_walk G hG) ρ w hm (by simp only [List.map_cons,List.map_nil,ptrOf_den h0,ptrOf_den h1])
    · cases h
  · cases h
end Go.Proofs.Ytnlohongffpkpaa.T16
end

section
namespace Go.Proofs.Ytnlohongffpkpaa.T16
open Go Go.RowKit Go.Proofs.Ytnlohongffpkpaa.Sx Go.Proofs
set_option linter.unusedVariables false
set_option linter.unusedSimpArgs false
def T_plK (m7 : Mem) (tg tr : Int) (l : Value) (i dd at' nn pm ps pa k1 k2 : Int) (fr : Bool) (n : Int) : Tr:=(.lp (.mk [0] [] [] m7) (fun y8 j8 => (.br (iLt (hdI y8.1) 2) (.req (gpeekP y8.4 tg pm ps pa (iEq (hdI y8.1) 0)) (.any (gpeekQ y8.4 tg pm ps pa (iEq (hdI y8.1) 0)) (fun y9 => (.req (qrowP y9.4 tr pm ps pa) (.any (qrowQ y9.4 tr pm ps pa) (fun y10 => (.br (iGe (hdI y10.1) 0) (.br (nzp tr) (.br (nzp tr) (.br (okL y10.4 tr 0 [(.raw (.slice (.none) 0 0))]) (.br (inSl (pl (mcell y10.4 tr 0)) (hdI y10.1)) (.br (nzp (slB (pl (mcell y10.4 tr 0)))) (.br (okL y10.4 (slB (pl (mcell y10.4 tr 0))) (.succ (.succ (.succ (aOff (slO (pl (mcell y10.4 tr 0))) (hdI y10.1) 5)))) [(.li .u8 0)]) (.br (bNot (bEq (hdB y9.2) (iEq (gI y10.4 (slB (pl (mcell y10.4 tr 0))) (.succ (.succ (.succ (aOff (slO (pl (mcell y10.4 tr 0))) (hdI y10.1) 5))))) 1))) (.req ((([(4,([(.si .i64 (hdI y9.1)),(.si .u64 (hdI (tlI y9.1)))],29)),(4,([(.li .i64 0),(.li .u64 0)],29)),(0,([(.si .i64 dd),(.si .i64 at'),(.si .i64 nn),(.si .i64 pm),(.si .i64 ps),(.si .i64 pa),(.si .i64 k1),(.si .u64 k2),(.sb fr)],63))] : List (Nat × Blk)) = [(4,([(.si .i64 (hdI y9.1)),(.si .u64 (hdI (tlI y9.1)))],29)),(4,([(.li .i64 0),(.li .u64 0)],29)),(0,([(.si .i64 dd),(.si .i64 at'),(.si .i64 nn),(.si .i64 pm),(.si .i64 ps),(.si .i64 pa),(.si .i64 k1),(.si .u64 k2),(.sb fr)],63))]) ∧ ((([] : List (Nat × MBlk)) = []) ∧ ((y10.4 : Mem) = y10.4))) (.leaf (.up (.up (.memo (.u (.c (.lb false))) y10.4))))) (.br (hdB y9.2) (.br (nzp tr) (.br (nzp tr) (.br (okL y10.4 tr 0 [(.raw (.slice (.none) 0 0))]) (.br (inSl (pl (mcell y10.4 tr 0)) (hdI y10.1)) (.br (nzp (slB (pl (mcell y10.4 tr 0)))) (.br (okL y10.4 (slB (pl (mcell y10.4 tr 0))) (.succ (.succ (.succ (.succ (aOff (slO (pl (mcell y10.4 tr 0))) (hdI y10.1) 5))))) [(.raw (.slice (.none) 0 0))]) (.req (qendOK y10.4 n (iEq (hdI y8.1) 0)) (.req ((([(4,([(.si .i64 (hdI y9.1)),(.si .u64 (hdI (tlI y9.1)))],29)),(4,([(.li .i64 0),(.li .u64 0)],29)),(0,([(.si .i64 dd),(.si .i64 at'),(.si .i64 nn),(.si .i64 pm),(.si .i64 ps),(.si .i64 pa),(.si .i64 k1),(.si .u64 k2),(.sb fr)],63))] : List (Nat × Blk)) = [(4,([(.si .i64 (hdI y9.1)),(.si .u64 (hdI (tlI y9.1)))],29)),(4,([(.li .i64 0),(.li .u64 0)],29)),(0,([(.si .i64 dd),(.si .i64 at'),(.si .i64 nn),(.si .i64 pm),(.si .i64 ps),(.si .i64 pa),(.si .i64 k1),(.si .u64 k2),(.sb fr)],63))]) ∧ ((([] : List (Nat × MBlk)) = []) ∧ ((y10.4 : Mem) = y10.4))) (.br (inSl (pl (mcell y10.4 (slB (pl (mcell y10.4 tr 0))) (.succ (.succ (.succ (.succ (aOff (slO (pl (mcell y10.4 tr 0))) (hdI y10.1) 5))))))) (qendV y10.4 n (iEq (hdI y8.1) 0))) (.br (nzp (slB (pl (mcell y10.4 (slB (pl (mcell y10.4 tr 0))) (.succ (.succ (.succ (.succ (aOff (slO (pl (mcell y10.4 tr 0))) (hdI y10.1) 5))))))))) (.br (okL y10.4 (slB (pl (mcell y10.4 (slB (pl (mcell y10.4 tr 0))) (.succ (.succ (.succ (.succ (aOff (slO (pl (mcell y10.4 tr 0))) (hdI y10.1) 5)))))))) (aOff (slO (pl (mcell y10.4 (slB (pl (mcell y10.4 tr 0))) (.succ (.succ (.succ (.succ (aOff (slO (pl (mcell y10.4 tr 0))) (hdI y10.1) 5)))))))) (qendV y10.4 n (iEq (hdI y8.1) 0)) 3) [(.li .i64 0),(.li .u64 0)]) (.br (bNot (bAnd (iEq (hdI y9.1) (gI y10.4 (slB (pl (mcell y10.4 (slB (pl (mcell y10.4 tr 0))) (.succ (.succ (.succ (.succ (aOff (slO (pl (mcell y10.4 tr 0))) (hdI y10.1) 5)))))))) (aOff (slO (pl (mcell y10.4 (slB (pl (mcell y10.4 tr 0))) (.succ (.succ (.succ (.succ (aOff (slO (pl (mcell y10.4 tr 0))) (hdI y10.1) 5)))))))) (qendV y10.4 n (iEq (hdI y8.1) 0)) 3))) (iEq (hdI (tlI y9.1)) (gI y10.4 (slB (pl (mcell y10.4 (slB (pl (mcell y10.4 tr 0))) (.succ (.succ (.succ (.succ (aOff (slO (pl (mcell y10.4 tr 0))) (hdI y10.1) 5)))))))) (.succ (aOff (slO (pl (mcell y10.4 (slB (pl (mcell y10.4 tr 0))) (.succ (.succ (.succ (.succ (aOff (slO (pl (mcell y10.4 tr 0))) (hdI y10.1) 5)))))))) (qendV y10.4 n (iEq (hdI y8.1) 0)) 3)))))) (.leaf (.up (.up (.memo (.u (.c (.lb false))) y10.4)))) (.req ((([(0,(.u (.c (.sv l)))),(3,(.u (.c (.np tg 0)))),(4,(.u (.c (.np tr 0)))),(5,(.u (.c (.si .i64 i)))),(6,(.u (.c (.ptr 0 0)))),(11,(.u (.c (.si .i64 n))))] : List (Nat × V)) = [(0,(.u (.c (.sv l)))),(3,(.u (.c (.np tg 0)))),(4,(.u (.c (.np tr 0)))),(5,(.u (.c (.si .i64 i)))),(6,(.u (.c (.ptr 0 0)))),(11,(.u (.c (.si .i64 n))))]) ∧ (([(0,([(.si .i64 dd),(.si .i64 at'),(.si .i64 nn),(.si .i64 pm),(.si .i64 ps),(.si .i64 pa),(.si .i64 k1),(.si .u64 k2),(.sb fr)],63))] : List (Nat × Blk)) = [(0,([(.si .i64 dd),(.si .i64 at'),(.si .i64 nn),(.si .i64 pm),(.si .i64 ps),(.si .i64 pa),(.si .i64 k1),(.si .u64 k2),(.sb fr)],63))])) (.leaf (.again (.mk [(iAdd .i64 (hdI y8.1) 1)] [] [] y10.4))))) (.no 70)) (.no 76)) (.no 104)))) (.no 70)) (.no 76)) (.no 104)) (.no 70)) (.no 76)) (.no 75)) (.req ((([(4,([(.si .i64 (hdI y9.1)),(.si .u64 (hdI (tlI y9.1)))],29)),(4,([(.li .i64 0),(.li .u64 0)],29)),(0,([(.si .i64 dd),(.si .i64 at'),(.si .i64 nn),(.si .i64 pm),(.si .i64 ps),(.si .i64 pa),(.si .i64 k1),(.si .u64 k2),(.sb fr)],63))] : List (Nat × Blk)) = [(4,([(.si .i64 (hdI y9.1)),(.si .u64 (hdI (tlI y9.1)))],29)),(4,([(.li .i64 0),(.li .u64 0)],29)),(0,([(.si .i64 dd),(.si .i64 at'),(.si .i64 nn),(.si .i64 pm),(.si .i64 ps),(.si .i64 pa),(.si .i64 k1),(.si .u64 k2),(.sb fr)],63))]) ∧ ((([] : List (Nat × MBlk)) = []) ∧ ((y10.4 : Mem) = y10.4))) (.req ((([(0,(.u (.c (.sv l)))),(3,(.u (.c (.np tg 0)))),(4,(.u (.c (.np tr 0)))),(5,(.u (.c (.si .i64 i)))),(6,(.u (.c (.ptr 0 0)))),(11,(.u (.c (.si .i64 n))))] : List (Nat × V)) = [(0,(.u (.c (.sv l)))),(3,(.u (.c (.np tg 0)))),(4,(.u (.c (.np tr 0)))),(5,(.u (.c (.si .i64 i)))),(6,(.u (.c (.ptr 0 0)))),(11,(.u (.c (.si .i64 n))))]) ∧ (([(0,([(.si .i64 dd),(.si .i64 at'),(.si .i64 nn),(.si .i64 pm),(.si .i64 ps),(.si .i64 pa),(.si .i64 k1),(.si .u64 k2),(.sb fr)],63))] : List (Nat × Blk)) = [(0,([(.si .i64 dd),(.si .i64 at'),(.si .i64 nn),(.si .i64 pm),(.si .i64 ps),(.si .i64 pa),(.si .i64 k1),(.si .u64 k2),(.sb fr)],63))])) (.leaf (.again (.mk [(iAdd .i64 (hdI y8.1) 1)] [] [] y10.4))))))) (.no 70)) (.no 76)) (.no 104)) (.no 70)) (.no 76)) (.no 75)) (.br (bNot (bEq (hdB y9.2) false)) (.req ((([(4,([(.si .i64 (hdI y9.1)),(.si .u64 (hdI (tlI y9.1)))],29)),(4,([(.li .i64 0),(.li .u64 0)],29)),(0,([(.si .i64 dd),(.si .i64 at'),(.si .i64 nn),(.si .i64 pm),(.si .i64 ps),(.si .i64 pa),(.si .i64 k1),(.si .u64 k2),(.sb fr)],63))] : List (Nat × Blk)) = [(4,([(.si .i64 (hdI y9.1)),(.si .u64 (hdI (tlI y9.1)))],29)),(4,([(.li .i64 0),(.li .u64 0)],29)),(0,([(.si .i64 dd),(.si .i64 at'),(.si .i64 nn),(.si .i64 pm),(.si .i64 ps),(.si .i64 pa),(.si .i64 k1),(.si .u64 k2),(.sb fr)],63))]) ∧ ((([] : List (Nat × MBlk)) = []) ∧ ((y10.4 : Mem) = y10.4))) (.leaf (.up (.up (.memo (.u (.c (.lb false))) y10.4))))) (.br (hdB y9.2) (.br (nzp tr) (.br (nzp tr) (.br (okL y10.4 tr 0 [(.raw (.slice (.none) 0 0))]) (.br (inSl (pl (mcell y10.4 tr 0)) (hdI y10.1)) (.br (nzp (slB (pl (mcell y10.4 tr 0)))) (.br (okL y10.4 (slB (pl (mcell y10.4 tr 0))) (.succ (.succ (.succ (.succ (aOff (slO (pl (mcell y10.4 tr 0))) (hdI y10.1) 5))))) [(.raw (.slice (.none) 0 0))]) (.req (qendOK y10.4 n (iEq (hdI y8.1) 0)) (.req ((([(4,([(.si .i64 (hdI y9.1)),(.si .u64 (hdI (tlI y9.1)))],29)),(4,([(.li .i64 0),(.li .u64 0)],29)),(0,([(.si .i64 dd),(.si .i64 at'),(.si .i64 nn),(.si .i64 pm),(.si .i64 ps),(.si .i64 pa),(.si .i64 k1),(.si .u64 k2),(.sb fr)],63))] : List (Nat × Blk)) = [(4,([(.si .i64 (hdI y9.1)),(.si .u64 (hdI (tlI y9.1)))],29)),(4,([(.li .i64 0),(.li .u64 0)],29)),(0,([(.si .i64 dd),(.si .i64 at'),(.si .i64 nn),(.si .i64 pm),(.si .i64 ps),(.si .i64 pa),(.si .i64 k1),(.si .u64 k2),(.sb fr)],63))]) ∧ ((([] : List (Nat × MBlk)) = []) ∧ ((y10.4 : Mem) = y10.4))) (.br (inSl (pl (mcell y10.4 (slB (pl (mcell y10.4 tr 0))) (.succ (.succ (.succ (.succ (aOff (slO (pl (mcell y10.4 tr 0))) (hdI y10.1) 5))))))) (qendV y10.4 n (iEq (hdI y8.1) 0))) (.br (nzp (slB (pl (mcell y10.4 (slB (pl (mcell y10.4 tr 0))) (.succ (.succ (.succ (.succ (aOff (slO (pl (mcell y10.4 tr 0))) (hdI y10.1) 5))))))))) (.br (okL y10.4 (slB (pl (mcell y10.4 (slB (pl (mcell y10.4 tr 0))) (.succ (.succ (.succ (.succ (aOff (slO (pl (mcell y10.4 tr 0))) (hdI y10.1) 5)))))))) (aOff (slO (pl (mcell y10.4 (slB (pl (mcell y10.4 tr 0))) (.succ (.succ (.succ (.succ (aOff (slO (pl (mcell y10.4 tr 0))) (hdI y10.1) 5)))))))) (qendV y10.4 n (iEq (hdI y8.1) 0)) 3) [(.li .i64 0),(.li .u64 0)]) (.br (bNot (bAnd (iEq (hdI y9.1) (gI y10.4 (slB (pl (mcell y10.4 (slB (pl (mcell y10.4 tr 0))) (.succ (.succ (.succ (.succ (aOff (slO (pl (mcell y10.4 tr 0))) (hdI y10.1) 5)))))))) (aOff (slO (pl (mcell y10.4 (slB (pl (mcell y10.4 tr 0))) (.succ (.succ (.succ (.succ (aOff (slO (pl (mcell y10.4 tr 0))) (hdI y10.1) 5)))))))) (qendV y10.4 n (iEq (hdI y8.1) 0)) 3))) (iEq (hdI (tlI y9.1)) (gI y10.4 (slB (pl (mcell y10.4 (slB (pl (mcell y10.4 tr 0))) (.succ (.succ (.succ (.succ (aOff (slO (pl (mcell y10.4 tr 0))) (hdI y10.1) 5)))))))) (.succ (aOff (slO (pl (mcell y10.4 (slB (pl (mcell y10.4 tr 0))) (.succ (.succ (.succ (.succ (aOff (slO (pl (mcell y10.4 tr 0))) (hdI y10.1) 5)))))))) (qendV y10.4 n (iEq (hdI y8.1) 0)) 3)))))) (.leaf (.up (.up (.memo (.u (.c (.lb false))) y10.4)))) (.req ((([(0,(.u (.c (.sv l)))),(3,(.u (.c (.np tg 0)))),(4,(.u (.c (.np tr 0)))),(5,(.u (.c (.si .i64 i)))),(6,(.u (.c (.ptr 0 0)))),(11,(.u (.c (.si .i64 n))))] : List (Nat × V)) = [(0,(.u (.c (.sv l)))),(3,(.u (.c (.np tg 0)))),(4,(.u (.c (.np tr 0)))),(5,(.u (.c (.si .i64 i)))),(6,(.u (.c (.ptr 0 0)))),(11,(.u (.c (.si .i64 n))))]) ∧ (([(0,([(.si .i64 dd),(.si .i64 at'),(.si .i64 nn),(.si .i64 pm),(.si .i64 ps),(.si .i64 pa),(.si .i64 k1),(.si .u64 k2),(.sb fr)],63))] : List (Nat × Blk)) = [(0,([(.si .i64 dd),(.si .i64 at'),(.si .i64 nn),(.si .i64 pm),(.si .i64 ps),(.si .i64 pa),(.si .i64 k1),(.si .u64 k2),(.sb fr)],63))])) (.leaf (.again (.mk [(iAdd .i64 (hdI y8.1) 1)] [] [] y10.4))))) (.no 70)) (.no 76)) (.no 104)))) (.no 70)) (.no 76)) (.no 104)) (.no 70)) (.no 76)) (.no 75)) (.req ((([(4,([(.si .i64 (hdI y9.1)),(.si .u64 (hdI (tlI y9.1)))],29)),(4,([(.li .i64 0),(.li .u64 0)],29)),(0,([(.si .i64 dd),(.si .i64 at'),(.si .i64 nn),(.si .i64 pm),(.si .i64 ps),(.si .i64 pa),(.si .i64 k1),(.si .u64 k2),(.sb fr)],63))] : List (Nat × Blk)) = [(4,([(.si .i64 (hdI y9.1)),(.si .u64 (hdI (tlI y9.1)))],29)),(4,([(.li .i64 0),(.li .u64 0)],29)),(0,([(.si .i64 dd),(.si .i64 at'),(.si .i64 nn),(.si .i64 pm),(.si .i64 ps),(.si .i64 pa),(.si .i64 k1),(.si .u64 k2),(.sb fr)],63))]) ∧ ((([] : List (Nat × MBlk)) = []) ∧ ((y10.4 : Mem) = y10.4))) (.req ((([(0,(.u (.c (.sv l)))),(3,(.u (.c (.np tg 0)))),(4,(.u (.c (.np tr 0)))),(5,(.u (.c (.si .i64 i)))),(6,(.u (.c (.ptr 0 0)))),(11,(.u (.c (.si .i64 n))))] : List (Nat × V)) = [(0,(.u (.c (.sv l)))),(3,(.u (.c (.np tg 0)))),(4,(.u (.c (.np tr 0)))),(5,(.u (.c (.si .i64 i)))),(6,(.u (.c (.ptr 0 0)))),(11,(.u (.c (.si .i64 n))))]) ∧ (([(0,([(.si .i64 dd),(.si .i64 at'),(.si .i64 nn),(.si .i64 pm),(.si .i64 ps),(.si .i64 pa),(.si .i64 k1),(.si .u64 k2),(.sb fr)],63))] : List (Nat × Blk)) = [(0,([(.si .i64 dd),(.si .i64 at'),(.si .i64 nn),(.si .i64 pm),(.si .i64 ps),(.si .i64 pa),(.si .i64 k1),(.si .u64 k2),(.sb fr)],63))])) (.leaf (.again (.mk [(iAdd .i64 (hdI y8.1) 1)] [] [] y10.4)))))))))))))) (.req ((([(0,(.u (.c (.sv l)))),(3,(.u (.c (.np tg 0)))),(4,(.u (.c (.np tr 0))))] : List (Nat × V)) = [(0,(.u (.c (.sv l)))),(3,(.u (.c (.np tg 0)))),(4,(.u (.c (.np tr 0))))]) ∧ (([] : List (Nat × Blk)) = [])) (.leaf (.up (.again (.mk [(iAdd .i64 i 1)] [] [] y8.4))))))))
def T_plS (m2 : Mem) (tg tr : Int) (l : Value) (i dd at' nn pm ps pa k1 k2 : Int) (fr : Bool) : Tr:=(.req (qdoesP m2 tg tr dd at' nn pm ps pa k1 k2 fr) (.any (qdoesQ m2 tg tr dd at' nn pm ps pa k1 k2 fr) (fun y3 => (.br (bNot (hdB y3.2)) (.leaf (.up (.memo (.u (.c (.lb false))) y3.4))) (.req (qalikeP y3.4 tg tr) (.any (qalikeQ y3.4 tg tr) (fun y4 => (.br (bNot (hdB y4.2)) (.leaf (.up (.memo (.u (.c (.lb false))) y4.4))) (.req (ginOK y4.4 tg k1 k2 nn) (.req (qinP y4.4 tr k1 k2 nn) (.any (qinQ y4.4 tr k1 k2 nn) (fun y5 => (.req (qlenP y5.4 tr pm ps pa) (.any (qlenQ y5.4 tr pm ps pa) (fun y6 => (.req (gatP y6.4 tg pm ps pa (hdI y6.1)) (.any (gatQ y6.4 tg pm ps pa (hdI y6.1)) (fun y7 => (.br (bNot (bAnd (iEq (ginV y4.4 tg k1 k2 nn).1 (hdI y5.1)) (bAnd (iEq (ginV y4.4 tg k1 k2 nn).2.1 (hdI (tlI y5.1))) (iEq (ginV y4.4 tg k1 k2 nn).2.2.1 (hdI (tlI (tlI y5.1))))))) (.leaf (.up (.memo (.u (.c (.lb false))) y7.4))) (.br (bNot (bEq (ginV y4.4 tg k1 k2 nn).2.2.2 (hdB y5.2))) (.leaf (.up (.memo (.u (.c (.lb false))) y7.4))) (.br (hdB y7.2) (.leaf (.up (.memo (.u (.c (.lb false))) y7.4))) (.br (bNot (bAnd (iEq (hdI y7.1) 0) (iEq (hdI (tlI y7.1)) 0))) (.leaf (.up (.memo (.u (.c (.lb false))) y7.4))) (.req (glenOK y7.4 tg pm ps pa) (.br (iNe (glenV y7.4 tg pm ps pa) (hdI y6.1)) (.leaf (.up (.memo (.u (.c (.lb false))) y7.4))) (T_plK y7.4 tg tr l i dd at' nn pm ps pa k1 k2 fr (hdI y6.1))))))))))))))))))))))))))
def T_qplays (m : Mem) (l : Value) : Tr:=(.br (isSlV (pl l)) (.br (iGt (slN (pl l)) 200) (.leaf (.memo (.u (.c (.lb true))) m)) (.req (gnewP m) (.any (gnewQ m) (fun y0 => (.any (newQ y0.4 (.mk [(.slice (.none) 0 0)]) 85) (fun y1 => (.lp (.mk [0] [] [] y1.4) (fun y2 j2 => (.br (isSlV (pl l)) (.br (iLt (hdI y2.1) (slN (pl l))) (.br (inSl (pl l) (hdI y2.1)) (.br (okL y2.4 (slB (pl l)) (aOff (slO (pl l)) (hdI y2.1) 9) [(.li .i64 0),(.li .i64 0),(.li .i64 0),(.li .i64 0),(.li .i64 0),(.li .i64 0),(.li .i64 0),(.li .u64 0),(.lb false)]) (T_plS y2.4 (hdI y0.1) (pI y1.1) l (hdI y2.1) (gI y2.4 (slB (pl l)) (aOff (slO (pl l)) (hdI y2.1) 9)) (gI y2.4 (slB (pl l)) (.succ (aOff (slO (pl l)) (hdI y2.1) 9))) (gI y2.4 (slB (pl l)) (.succ (.succ (aOff (slO (pl l)) (hdI y2.1) 9)))) (gI y2.4 (slB (pl l)) (.succ (.succ (.succ (aOff (slO (pl l)) (hdI y2.1) 9))))) (gI y2.4 (slB (pl l)) (.succ (.succ (.succ (.succ (aOff (slO (pl l)) (hdI y2.1) 9)))))) (gI y2.4 (slB (pl l)) (.succ (.succ (.succ (.succ (.succ (aOff (slO (pl l)) (hdI y2.1) 9))))))) (gI y2.4 (slB (pl l)) (.succ (.succ (.succ (.succ (.succ (.succ (aOff (slO (pl l)) (hdI y2.1) 9)))))))) (gI y2.4 (slB (pl l)) (.succ (.succ (.succ (.succ (.succ (.succ (.succ (aOff (slO (pl l)) (hdI y2.1) 9))))))))) (gB y2.4 (slB (pl l)) (.succ (.succ (.succ (.succ (.succ (.succ (.succ (.succ (aOff (slO (pl l)) (hdI y2.1) 9))))))))))) (.no 70)) (.no 104)) (.leaf (.up (.memo (.u (.c (.lb true))) y2.4)))) (.no 123)))))))))) (.no 123))
theorem endAt {l : List Itm} {o : Bool} {k : Hn} (hb : l.length < 1000000) (h : endH (l.map (·.1)) o = some k) : ∃ (q : Nat) (it : Itm),l[q]? = some it ∧ it.1 = k ∧ (q : Int) = endI (l.length : Int) o:=by
  cases o with
  | true =>
    have h2 : (l.map (·.1)).head? = some k:=h
    rw [List.head?_map] at h2
    obtain ⟨it,h3,h4⟩:=Option.map_eq_some_iff.1 h2
    rw [List.head?_eq_getElem?] at h3
    exact ⟨0,it,h3,h4,rfl⟩
  | false =>
    have h2 : (l.map (·.1)).getLast? = some k:=h
    rw [List.getLast?_map] at h2
    obtain ⟨it,h3,h4⟩:=Option.map_eq_some_iff.1 h2
    rw [List.getLast?_eq_getElem?] at h3
    have h5:=(List.getElem?_eq_some_iff.1 h3).1
    exact ⟨_,it,h3,h4,by simp only [endI];rw [isub_i (by omega)];omega⟩
theorem InAt.gin {m : Mem} {G : GG} {rs : List RV} (ag : Agree G rs) (hg : G.is m) {h : Hn} {n : Int} {y : Vars} (hi : InAt rs h n y) : y.i = [(gin4 (G.I h n)).1,(gin4 (G.I h n)).2.1,(gin4 (G.I h n)).2.2.1] ∧ y.b = [(gin4 (G.I h n)).2.2.2]:=by
  rcases hi with ⟨x,hx,hit,e1,e2⟩ | ⟨hno,e1,e2⟩
  · have:=(ag.inI hg).2 ⟨x,hx,rfl,hit⟩
    rw [this,e1,e2]
    exact ⟨rfl,rfl⟩
  · have : G.I h n = none:=by
      cases hI : G.I h n with
      | none => rfl
      | some p =>
        obtain ⟨x,hx,_,hit⟩:=(ag.inI hg).1 hI
        exact absurd hit (hno x hx)
    rw [this,e1,e2]
    exact ⟨rfl,rfl⟩
section
variable {m0 m7 m2 : Mem} {G : GG} {Z : GR} {li : Nat} {tg tr i dd at' nn pm ps pa k1 k2 n : Int} {l : Value} {fr : Bool}
theorem plK_walk (b : Both m0 li G Z m7) (hg : tg = (G.g : Int) + 1) (hr : tr = (Z.r : Int) + 1) (hli : li < 10000) (hp : okP' (pm,ps,pa)) (hn : n = (hsO (G.R (pm,ps,pa))).length) {R : Leaf → Prop}
    (hR : R (.again ⟨[iAdd .i64 i 1],[],[],m7⟩)) : (T_plK m7 tg tr l i dd at' nn pm ps pa k1 k2 fr n).sat R:=by
  subst hg hr
  have hlen:=b.len (pm,ps,pa)
  unfold T_plK
  refine lp_idx (fun N y => ∃ k : Nat,k + N = 2 ∧ y.i = [(k : Int)] ∧ y.m = m7) (n0:=2) ⟨0,by omega,rfl,rfl⟩ ?_
  rintro N ⟨ui,ub,uv,um⟩ _ ⟨k,hk,rfl,hm⟩
  simp only at hm
  subst hm
  simp only [hdI]
  by_cases hlt : k < 2
  rotate_left
  · rw [brF (by simp [iLt];omega),sat_req]
    exact ⟨(by first | exact ⟨trivial,trivial⟩ | exact ⟨rfl,rfl⟩),hR⟩
  have next : ∀ {P : Prop},P → (P ∧ inLoopJ (fun N y => ∃ k : Nat,k + N = 2 ∧ y.i = [(k : Int)] ∧ y.m = um) N R (.again ⟨[iAdd .i64 (k : Int) 1],[],[],um⟩)):=fun hP => ⟨hP,N - 1,by omega,k + 1,by omega,by rw [iadd_i (by omega)];simp,rfl⟩
  generalize ho : iEq (k : Int) 0 = o
  have ppre : gpopPre G um ((G.g : Int) + 1) pm ps pa:=⟨rfl,b.tw.is,hp⟩
  have zpre : qrowPre Z um ((Z.r : Int) + 1):=⟨rfl,b.tw.zs⟩
  rw [brT (by simp [iLt];omega),sat_req]
  refine ⟨⟨G,ppre⟩,?_⟩
  rw [sat_any]
  rintro ⟨yi,yb,yv,ym⟩ hy0
  obtain ⟨hy,e⟩:=hy0 G ppre
  clear hy0
  simp only at e
  subst e
  rw [sat_req]
  refine ⟨⟨Z,zpre⟩,?_⟩
  rw [sat_any]
  rintro ⟨zi,zb,zv,zm⟩ hz
  obtain ⟨⟨q,e1,hq⟩,e⟩:=hz Z zpre
  simp only at e e1
  subst e e1
  simp only [hdI]
  rcases hq with ⟨rfl,hno⟩ | ⟨j,x,rfl,hx,hxp⟩
  · have hRn : G.R (pm,ps,pa) = none:=by
      rcases b.ag.row (pm,ps,pa) with ⟨X,x,hx,_,hp,_⟩ | ⟨h1,_⟩
      · exact absurd hp (hno x hx)
      · exact h1
    have hb : yb = [false]:=by
      rcases hy with ⟨y,h1,_⟩ | ⟨_,_,h3⟩
      · rw [hRn] at h1;cases o <;> cases h1
      · exact h3
    subst hb
    rw [brF (by rfl),brF (by rfl),brF (by rfl),sat_req]
    refine ⟨by first | trivial | simp,?_⟩
    rw [sat_req]
    exact next (by first | trivial | simp)
  have hxm:=List.mem_of_getElem? hx
  have F:=b.tw.zs.row hx
  have Ba:=b.tw.zs.bas
  have hs':=b.tw.zs.its x hxm
  obtain ⟨X,hX,hXh,hXk⟩:=b.ag.a1 x hxm
  rw [hxp] at hX
  have hll:=b.ll x hxm
  have hnx : n = (x.l.length : Int):=by rw [hn,hX];show ((X.hs.length : Nat) : Int) = _;rw [hXh,List.length_map]
  simp only [Ba.v,Ba.pv,F.g3,F.g4,hs'.pl]
  rw [brT (by simp [iGe]),brT Ba.nr,brT Ba.nr,brT Ba.ld,brT F.inn,brT F.nz,brT F.ok]
  by_cases hk1 : x.k = 1
  · have hls : lsO (G.R (pm,ps,pa)) = x.l.map (·.1):=by
      have : X.tree = false:=by
        have:=(listB_iff (some X)).2 (hXk.trans hk1)
        simpa [listB] using this
      rw [hX]
      simp only [lsO,this,hXh]
    rw [hls] at hy
    rcases hy with ⟨h,h1,h2,h3⟩ | ⟨h1,_⟩
    · simp only at h2 h3
      subst h2 h3
      obtain ⟨q,it,hq,hit,hqe⟩:=endAt (by omega) h1
      have I:=itf hs' hq
      obtain ⟨o1,o2⟩:=qend_spec zm n o
      rw [hnx,← hqe] at o2
      rw [hnx] at o1
      simp only [hnx,o2,I.g0,I.g1,hdI,tlI,hdB]
      rw [brF (by simp [bNot,bEq,iEq,hk1]),brT rfl,brT Ba.nr,brT Ba.nr,brT Ba.ld,brT F.inn,brT F.nz,brT F.ol,sat_req]
      refine ⟨o1,?_⟩
      rw [sat_req]
      refine ⟨by first | trivial | simp,?_⟩
      rw [brT I.inn,brT I.nz,brT I.o2,brF (by simp [bNot,bAnd,iEq,hit]),sat_req]
      exact next (by first | trivial | simp)
    · exfalso
      have hne:=(b.tw.is.st _ X hX).2.1
      rw [hXh] at hne
      cases o with
      | true => exact hne (List.head?_eq_none_iff.1 h1)
      | false => exact hne (List.getLast?_eq_none_iff.1 h1)
  · have hls : lsO (G.R (pm,ps,pa)) = []:=by
      have : X.tree = true:=by
        cases ht : X.tree with
        | true => rfl
        | false => exact absurd (hXk.symm.trans ((listB_iff (some X)).1 (by simp [listB,ht]))) hk1
      rw [hX]
      simp only [lsO,this]
    have hb : yb = [false]:=by
      rcases hy with ⟨y,h1,_⟩ | ⟨_,_,h3⟩
      · rw [hls] at h1;cases o <;> cases h1
      · exact h3
    subst hb
    rw [brF (by simp [bNot,bEq,hdB,iEq,hk1]),brF (by rfl),sat_req]
    refine ⟨by first | trivial | simp,?_⟩
    rw [sat_req]
    exact next (by first | trivial | simp)
theorem plS_walk (b : Both m0 li G Z m2) (hg : tg = (G.g : Int) + 1) (hr : tr = (Z.r : Int) + 1) (hli : li < 1000) (hp : okP' (pm,ps,pa)) (hk : okH (k1,k2)) (hn : inI nn) {R : Leaf → Prop}
    (hR : ∀ m,(∃ (G' : GG) (Z' : GR),G'.g = G.g ∧ Z'.r = Z.r ∧ Both m0 (li + 1) G' Z' m) → R (.again ⟨[iAdd .i64 i 1],[],[],m⟩)) : (T_plS m2 tg tr l i dd at' nn pm ps pa k1 k2 fr).sat R:=by
  subst hg hr
  have dpre : qdoesPre ⟨m0,G,Z,li⟩ m2 ((G.g : Int) + 1) ((Z.r : Int) + 1) pm ps pa nn k1 k2:=⟨rfl,rfl,b,hli,hp,hk,hn⟩
  unfold T_plS
  rw [sat_req]
  refine ⟨⟨_,dpre⟩,?_⟩
  rw [sat_any]
  rintro ⟨yi,yb,yv,ym⟩ hy
  obtain ⟨e1,G1,Z1,eg,er,b1⟩:=hy _ dpre
  simp only at e1 eg er b1
  subst e1
  rw [brF (by rfl)]
  have apre : qalikePre ⟨m0,G1,Z1,li + 1⟩ ym ((G.g : Int) + 1) ((Z.r : Int) + 1):=⟨by rw [← eg],by rw [← er],b1,by show li + 1 < 100000;omega⟩
  rw [sat_req]
  refine ⟨⟨_,apre⟩,?_⟩
  rw [sat_any]
  rintro ⟨zi,zb,zv,zm⟩ hz
  obtain ⟨e1,hfr⟩:=hz _ apre
  simp only at e1 hfr
  subst e1
  have b2:=b1.more hfr
  rw [brF (by rfl)]
  obtain ⟨i1,i2⟩:=gin_spec (k:=k1) (l:=k2) b2.tw.is.toGM hk hn
  rw [eg] at i1 i2
  have zpre : qrowPre Z1 zm ((Z.r : Int) + 1):=⟨by rw [er],b2.tw.zs⟩
  simp only [i2]
  rw [sat_req]
  refine ⟨i1,?_⟩
  rw [sat_req]
  refine ⟨⟨Z1,zpre⟩,?_⟩
  rw [sat_any]
  rintro ⟨wi,wb,wv,wm⟩ hw
  obtain ⟨hin,e⟩:=hw Z1 zpre
  simp only at e
  subst e
  obtain ⟨x1,x2⟩:=hin.gin b2.ag b2.tw.is
  simp only at x1 x2
  subst x1 x2
  rw [sat_req]
  refine ⟨⟨Z1,zpre⟩,?_⟩
  rw [sat_any]
  rintro ⟨vi,vb,vv,vm⟩ hv
  obtain ⟨⟨q,e1,hq⟩,e⟩:=hv Z1 zpre
  simp only at e e1
  subst e e1
  have hqL:=b2.ag.len hq b2.tw.zs.srt
  have hlen:=b2.len (pm,ps,pa)
  have gpre : gatPre G1 vm ((G.g : Int) + 1) pm ps pa:=⟨⟨by rw [eg],b2.tw.is,hp⟩,by omega⟩
  simp only [hdI,tlI,hdB]
  rw [sat_req]
  refine ⟨⟨G1,gpre⟩,?_⟩
  rw [sat_any]
  rintro ⟨ti,tb,tv,tm⟩ ht
  rcases ht G1 gpre with ⟨j,kk,ej,hj,_⟩ | ⟨_,e1,e2,e3⟩
  · exfalso
    have:=(List.getElem?_eq_some_iff.1 hj).1
    omega
  simp only at e1 e2 e3
  subst e1 e2 e3
  obtain ⟨n1,n2⟩:=glen_spec (a:=pm) (b:=ps) (c:=pa) b2.tw.is hp
  rw [eg] at n1 n2
  rw [brF (by simp [bNot,bAnd,iEq]),brF (by simp [bNot,bEq]),brF (by rfl),brF (by rfl),sat_req,n2]
  refine ⟨n1,?_⟩
  rw [brF (by simp [iNe,hqL])]
  exact plK_walk b2 (by rw [eg]) (by rw [er]) (by omega) hp hqL (hR _ ⟨G1,Z1,eg,er,b2⟩)
end
theorem qplays_walk {m0 : Mem} {l : Value} {xs : List S9} (hA : Arg9 l xs m0) : (T_qplays m0 l).sat (isMemo fun v x => v = tru ∧ ∀ a,m0 a ≠ none → x a = m0 a):=by
  unfold T_qplays
  rw [brT hA.sl,hA.n]
  by_cases hl : (200 : Int) < xs.length
  · rw [brT (by simp only [iGt,decide_eq_true_eq];omega)]
    exact ⟨rfl,fun _ _ => rfl⟩
  rw [brF (by simp only [iGt,decide_eq_false_iff_not];omega),sat_req]
  refine ⟨⟨(),trivial⟩,?_⟩
  rw [sat_any]
  rintro ⟨yi,yb,yv,ym⟩ hy
  obtain ⟨G,g1,g2,g3,g4,g5,g6,g7⟩:=hy () trivial
  simp only at g1 g2 g7
  subst g1
  rw [sat_any]
  rintro ⟨zi,zb,zv,zm⟩ ⟨q,z1,z2,z3⟩
  simp only at z1 z2 z3
  subst z1
  have q0 : m0 q = none:=by
    cases e : m0 q with
    | none => rfl
    | some o => have:=g7 q (by rw [e];simp);rw [z2,e] at this;cases this
  have hnq : ¬ G.dom q:=fun hd => g2.there hd z2
  have hzq : zm q = some (.cells #[.slice none 0 0] 85 (0,0)):=by
    rw [z3];unfold alM;rw [if_pos (by omega)]
  have hal : ∀ a,ym a ≠ none → zm a = ym a:=fun a ha => by
    have hne : a ≠ q:=by rintro rfl;exact ha z2
    rw [z3];unfold alM;rw [if_neg (by omega)]
  simp only [hdI,pI]
  have hd : ∀ a,(⟨q,.slice none 0 0,[]⟩ : GR).dom a → a = q:=fun a ha => by
    rcases ha with h | h | ⟨x,hx,_⟩
    · exact h
    · exact (slB_nil a h).elim
    · cases hx
  have b0 : Both m0 0 G ⟨q,.slice none 0 0,[]⟩ zm:=by
    refine ⟨⟨g2.congr fun a ha => hal a (g2.there ha),⟨hzq,SlE.nil0 zm,fun x hx => (by cases hx),fun a h => (slB_nil a h).elim,fun x hx => (by cases hx),List.Pairwise.nil,fun x hx => (by cases hx),by simp,fun x hx => (by cases hx)⟩,g6,fun a ha => ?_,fun a ha hz => ?_,fun a ha => ?_⟩,⟨fun x hx => (by cases hx),fun p X hX => ?_,fun x hx => (by cases hx)⟩,Nat.le_refl _,fun x hx => (by cases hx)⟩
    · rw [hd a ha];exact q0
    · have:=hd a hz
      subst this
      exact hnq ha
    · have h1:=g7 a ha
      exact (hal a (by rw [h1];exact ha)).trans h1
    · rw [g3] at hX;cases hX
  let J : Nat → Vars → Prop:=fun N y => ∃ (i : Nat) (G' : GG) (Z' : GR),i + N = xs.length ∧ y.i = [(i : Int)] ∧ G'.g = G.g ∧ Z'.r = q ∧ Both m0 i G' Z' y.m
  refine lp_idx J (n0:=xs.length) ⟨0,G,_,by omega,rfl,rfl,rfl,b0⟩ ?_
  rintro N ⟨ui,ub,uv,um⟩ _ ⟨i,G1,Z1,hi,rfl,eg,er,b⟩
  simp only at hi b
  simp only [hdI]
  rw [brT hA.sl]
  by_cases hlt : i < xs.length
  rotate_left
  · rw [brF (by simp [iLt];omega)]
    exact ⟨rfl,b.tw.kp⟩
  obtain ⟨x,hx⟩ : ∃ x,xs[i]? = some x:=⟨_,List.getElem?_eq_getElem hlt⟩
  have hA':=hA.more b.tw.kp
  obtain ⟨c0,c1,d0,d1,d2,d3,d4,d5,d6,d7,d8⟩:=hA'.at' i x hx
  obtain ⟨r1,r2,r3,r4⟩:=hA.rng x (List.mem_of_getElem? hx)
  simp only [d0,d1,d2,d3,d4,d5,d6,d7,d8]
  rw [brT (by simp [iLt];omega),brT c0,brT c1]
  have hin : iAdd .i64 (i : Int) 1 = ((i + 1 : Nat) : Int):=by rw [iadd_i (by omega)];omega
  refine plS_walk b (by rw [eg]) (by rw [er]) (by omega) r3 r4 r2 fun m ⟨G',Z',e1,e2,b'⟩ => ?_
  rw [hin]
  exact ⟨N - 1,by omega,i + 1,G',Z',by omega,rfl,e1.trans eg,e2.trans er,b'⟩
theorem t_qplays (m : Mem) (l : Value) : runm Try.prog [s_gnew,s_gworks,s_gin,s_gat,s_gpeek,s_glen,s_qdoes,s_qalike,s_qin,s_qlen,s_qrow,s_qend] (drawh Try.prog [s_gnew,s_gworks,s_gin,s_gat,s_gpeek,s_glen,s_qdoes,s_qalike,s_qin,s_qlen,s_qrow,s_qend] (fun _ k => match Nat.beq k 6 with | true => some ⟨[5],[],[0,3,4],[]⟩ | false => match Nat.beq k 18 with | true => some ⟨[14],[],[0,3,4,5,6,11],[0]⟩ | false => none) (fun _ _ _ => none)) 300 11 [.u (.c (.sv l))] m [98,92,95,142,140,137,111,107,108,109,85,2000000] = T_qplays m l:=by kernel_rfl
theorem plays17_calls {W : World} {v : Value} {xs : List S9} {m : Mem} (hm : ∀ a o,m a = some o → W.heap[a]? = some o) (hA : Arg9 v xs m) (hv : pl v = v) : Calls Try.prog 11 #[v] W fun e W' => e = .returned (.bool true) ∧ Below W.heap.size W W':=by
  have hS : ∀ q ∈ [s_gnew,s_gworks,s_gin,s_gat,s_gpeek,s_glen,s_qdoes,s_qalike,s_qin,s_qlen,s_qrow,s_qend],SumOK Try.prog q:=okc s_gnew_ok (okc s_gworks_ok (okc s_gin_ok (okc s_gat_ok (okc s_gpeek_ok (okc s_glen_ok (okc s_qdoes_ok (okc s_qalike_ok (okc s_qin_ok (okc s_qlen_ok (okc s_qrow_ok (okc s_qend_ok okn)))))))))))
  have:=memo_sound nameOK hS (drawh_sound nameOK hS (by kernel_rfl) _ _) 300 _ m _ (t_qplays m v) (qplays_walk hA) (fun _ => 0) W hm
  have hvs : (List.map (V.den fun _ => 0) [V.u (U.c (C.sv v))]).toArray = #[v]:=by
    show #[pl v] = #[v]
    rw [hv]
  rw [hvs] at this
  refine this.mono ?_
  rintro e w' ⟨v',x,⟨rfl,hk⟩,rfl,g⟩
  exact ⟨rfl,below_of hm g hk⟩
end Go.Proofs.Ytnlohongffpkpaa.T16
end
