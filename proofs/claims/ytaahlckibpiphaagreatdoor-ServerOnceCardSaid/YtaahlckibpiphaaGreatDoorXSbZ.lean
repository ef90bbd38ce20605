/- Parts of the proof, cut down to what it needs. -/
import Derived.Test.YtaahlckibpiphaaGreatDoorXCv
import Derived.Test.YtaahlckibpiphaaGreatDoorXFO
set_option linter.constructorNameAsVariable false
set_option linter.unusedSimpArgs false
set_option linter.unusedVariables false
namespace Go.Proofs.YtaahlckibpiphaaGreatDoor
open _root_.List renaming length → qa, flatMap → qb, length_append → qj, length_cons → qp, drop_zero → qq, map_nil → qr, map_append → qs, map_cons → qu, append_assoc → qA, length_nil → qB, getD_eq_getElem?_getD → qC, append_nil → qD, flatMap_cons → qE, nil_append → qG, flatMap_append → qH, cons_append → qI, mem_cons_of_mem → qL, flatMap_nil → qO, mem_cons_self → qP, getElem?_eq_some_iff → qQ, length_eq_zero_iff → qS, replicate → qV, range_zero → qW, getElem?_eq_getElem → qX, getElem?_append_left → qY, all_cons → qZ, mem_cons → q9, all_nil → ua, length_singleton → ub, getElem?_set_ne → ue, range_succ → ug, take_length → uk, length_map → ul, eq_nil_of_length_eq_zero → um, all_eq_true → un, getElem?_append_right → uo, take_of_length_le → uu, getElem?_set_self → uv, getElem?_eq_none → uw, take_append_drop → uA, mem_map → uH, mem_append → uI, range → uJ, set_cons_zero → uK, getElem?_cons_zero → uL, length_take → uR, mem_append_left → uT, length_drop → uU, set_cons_succ → uV, mem_append_right → uW, nodup_cons → vg, drop_drop → vo
open _root_.Option renaming bind_some → qk
open _root_.Nat renaming reduceEqDiff → qc, reduceLeDiff → qd, reduceAdd → qe, reduceMul → qf, reduceSub → qg, reduceLT → qh, zero_add → qn, le_refl → qx, add_zero → qF, lt_succ_self → qK, zero_le → qU, mul_le_mul_right → ud, lt_of_lt_of_le → ui, reduceMod → uj, add_assoc → ux, zero_mul → uy, le_trans → uB, sub_self → uQ, sub_zero → uZ, add_mul → u6, le_of_not_lt → u7
open _root_.Bool renaming not_false → qm, and_true → qo, or_true → qt, not_true → qv, and_false → qw, or_false → qz, and_eq_true → qJ, and_self → qN, false_eq_true → uf, true_and → uh, or_eq_true → ut, true_or → uC, false_or → uF, false_and → u0
open _root_.Int renaming toNat → qT, toNat_natCast → uc
open _root_.BitVec renaming ofInt → qM, toNat → uz
open _root_.Array renaming getElem?_setIfInBounds_ne → uS, replicate → u5
open _root_.UInt8 renaming ofNat → ur
open Result renaming andThen_ok → ql
open Sem renaming run_bind → qy, run_pure → qR
open _root_.Go.Proofs.Tryz renaming prog → qi
section
set_option maxRecDepth 4000
set_option maxHeartbeats 1000000
open AM
def zR : Nat→zo→Option zp
 |0,_=>none
 |k+1,a0=>zR.body (zR k) a0
theorem zR.all (k:Nat):(∀ (a0:zo) (r:zp),zR k a0=some r→ACalls qi 249 [.agg (zi a0)] [] (fun r' _=>r'=.agg (zb r))):=by
 induction k with
 |zero=>exact (fun a0 r h=>by simp only[zR] at h; cases h)
 |succ k ih=>exact (fun a0 r h=>zR.step _ ih a0 r (by simpa only [zR] using h))
theorem zR.ev (k:Nat)(a0:zo)(r:zp)(h:zR k a0=some r)(σ:ze):ACalls qi 249 [.agg (zi a0)] σ (fun r' σ'=>r'=.agg (zb r)∧σ'=σ):=
 ((zR.all k) a0 r h).c σ
def Zh.j5  : zo:=
 zo.nil
def Zh (a0:zo):zo:=
 bnd (wW a0) fun r3=>(if r3.2=true then (zo.num r3.1) else (match a0 with|.nil=>Zh.j5|.num n6=>Zh.j5|.str s6=>Zh.j5|.node e6 r6=>(zo.node e6 r6)))
theorem Zh.ok {a0 r}(h:Zh a0=r):ACalls qi 250 [.agg (zi a0)] [] (fun r' _=>r'=anyV r):=by
 refine zx (rs:=[.tmp 2]) U Tryz.func250 rfl Tryz.ntmps250 rfl Tryz.call250 (by simp) ?_;refine zK [(0,.agg (zi a0))] ⟨rfl,trivial⟩ ?_;unfold Zh at h;have f1:=Ye a0;unfold AV.one at f1;refine rgW [1] (aI @zi.eq_1 f1) ?_
 refine zd fun Z2 hZ2=>?_
 refine rc [1,3,4] fun K J=>?_
 obtain⟨r3,hr3,h⟩:=yq h;refine rnW 1 @zi.eq_1 ?_;refine clN rfl rfl rfl ((wW.ok hr3).c _) ?_;refine rnW 5 @zi.eq_1 ?_;refine nkN J ?_;refine O [1,3,12] ?_;refine zY (b:=r3.2) rfl (fun hc4=>?_) (fun hc4=>?_)
 · rw[if_pos hc4] at h;refine O [2] ?_;cases h;exact rtA
 rw[Zc hc4] at h;apply zm;apply hZ2;refine xV (fun L τ=>L=[]∧τ=([]:ze)∧Zh.j5=r) ?_ ?_
 · rcases a0 with _|n6|s6|⟨e6,r6⟩
   · dsimp only at h
     try simp only[Xp,XQ,zi]
     refine rc [5,6] fun K J=>?_
     refine rnW 1 @zi.eq_1 ?_;refine clN rfl rfl rfl (asNode_nil    _) ?_;refine rnW 5 @zi.eq_1 ?_;refine nkN J ?_;refine O [5,20] ?_;refine zQ rfl ?_;apply zm;exact⟨_,_,⟨rfl,rfl,h⟩,(.t [] false)⟩
   · dsimp only at h
     try simp only[Xo,XP,zi]
     refine rc [5,6] fun K J=>?_
     refine rnW 1 @zi.eq_1 ?_;refine clN rfl rfl rfl (asNode_num n6   _) ?_;refine rnW 5 @zi.eq_1 ?_;refine nkN J ?_;refine O [5,20] ?_;refine zQ rfl ?_;apply zm;exact⟨_,_,⟨rfl,rfl,h⟩,(.t [] false)⟩
   · dsimp only at h
     try simp only[Xn,XO,zi]
     refine rc [5,6] fun K J=>?_
     refine rnW 1 @zi.eq_1 ?_;refine clN rfl rfl rfl (asNode_str s6   _) ?_;refine rnW 5 @zi.eq_1 ?_;refine nkN J ?_;refine O [5,20] ?_;refine zQ rfl ?_;apply zm;exact⟨_,_,⟨rfl,rfl,h⟩,(.t [] false)⟩
   dsimp only at h
   try simp only[Yz,Y8,zi]
   refine rc [5,6] fun K J=>?_
   refine rnW 1 @zi.eq_1 ?_;refine clN rfl rfl rfl (asNode_node e6 r6   _) ?_;refine rnW 5 @zi.eq_1 ?_;refine nkN J ?_;refine O [5,20] ?_;refine zS rfl ?_;refine O [2] ?_;cases h;exact rtA
 rintro _ _ ⟨rfl,rfl,h⟩;unfold Zh.j5 at h;refine O [2] ?_;cases h;exact rtA
def Zl (a0:Int):Int:=
 (if (-2147483648)<(if 2147483647<a0 then 2147483647 else a0) then (if 2147483647<a0 then 2147483647 else a0) else (-2147483648))
theorem Zl.ok {a0 r}(h:Zl a0=r):ACalls qi 208 [.int .i64 a0] [] (fun r' _=>r'=.int .i64 r):=by
 refine zx (rs:=[.tmp 2]) U Tryz.func208 rfl Tryz.ntmps208 rfl Tryz.call208 (by simp) ?_;refine zK [(0,.int .i64 a0)] ⟨rfl,trivial⟩ ?_;unfold Zl at h;refine O [0] ?_
 refine rg U [2] fun K J=>?_
 simp only[go_sem,qh,qd,qc,qe,qf,qg,reduceIte,reduceCtorEq,vcb,foldO,vcM,vcN];apply J
 cases h;exact rtA
def zG.j19 (x8:Int)(rec13:Int→zP→List zv→Option (zp×zP))(m0_16:zP)(l17:List zv):Option (zp×zP):=
 (rec13 (x8+1) m0_16 l17)
def zG.l13 (yY:zP→wO→(List zo)→Option (List zp×zP))(a2:zZ):List wO→Int→zP→List zv→Option (zp×zP)
 |[],x8,m0_5,l6=>some ((⟨3,0,[],l6,([]:List yC)⟩:zp),m0_5)
 |y13::q13,x8,m0_5,l6=>(yP a2 y13.fTag).bind fun r22=>(if (qa r22:Int)=0 then (zG.j19 x8 (zG.l13 yY a2 q13) (⟨m0_5.fp,IntKind.i64.wrap (m0_5.flooks+1)⟩:zP) l6) else (yY (⟨m0_5.fp,IntKind.i64.wrap (m0_5.flooks+1)⟩:zP) y13 r22).bind fun r27=>(if 0<(qa r27.1:Int) then (vaV (qa l6+1) 32).bind fun _u30=>(zG.j19 x8 (zG.l13 yY a2 q13) r27.2 (l6++[(⟨y13.fTag,r27.1⟩:zv)])) else (zG.j19 x8 (zG.l13 yY a2 q13) r27.2 l6)))
def zG.body (yb:zP→Int→zZ→Option (zp×zP))(yY:zP→wO→(List zo)→Option (List zp×zP))(a0:zP)(a1:Int)(a2:zZ):Option (zp×zP):=
 (YI a0.fp.fParts a1).bind fun y2=>(zG.l13 yY a2 y2 0 a0 ([]:List zv))
theorem zG.step (yb:zP→Int→zZ→Option (zp×zP))(yY:zP→wO→(List zo)→Option (List zp×zP))(X7:∀ (a0:zP) (a1:Int) (a2:zZ) (r:zp×zP),yb a0 a1 a2=some r→ACalls qi 199 [.op 0 0 0,.int .i64 a1,.dp (zI a2) 0] [.cells 0 (zA a0)] (fun r' σ'=>r'=.agg (zb r.1)∧σ'=[.cells 0 (zA r.2)]))(X6:∀ (a0:zP) (a1:wO) (a2:List zo) (r:List zp×zP),yY a0 a1 a2=some r→ACalls qi 237 [.op 0 0 0,.agg (yu a1),.ds true (qb zi a2) (qa a2) false] [.cells 0 (zA a0)] (fun r' σ'=>r'=.ds true (qb yj r.1) (qa r.1) false∧σ'=[.cells 0 (zA r.2)]))(a0:zP)(a1:Int)(a2:zZ)(r:zp×zP)(h:zG.body yb yY a0 a1 a2=some r):ACalls qi 199 [.op 0 0 0,.int .i64 a1,.dp (zI a2) 0] [.cells 0 (zA a0)] (fun r' σ'=>r'=.agg (zb r.1)∧σ'=[.cells 0 (zA r.2)]):=by
 refine Zx [0] (rs:=[.cell 6 37]) U Tryz.func199 rfl Tryz.ntmps199 rfl Tryz.call199 (by simp) rfl ?_;refine zK [(0,.op 0 0 0),(1,.int .i64 a1),(2,.dp (zI a2) 0)] ⟨rfl,rfl,rfl,trivial⟩ ?_;unfold zG.body at h;refine O [0,1,2,6] ?_;refine rgW [0,1,2,6,7] (aI @zb.eq_1 @zf) ?_;refine Zw 2 3 2 rfl (by simp) rfl (L:=[(0,.op 0 0 0),(1,.int .i64 a1),(2,.dp (zI a2) 0),(6,.op 1 0 0),(7,.op 2 0 0)]) (τ:=[.cells 0 (zA a0),.cells 0 [.int .i64 0,.int .i64 0,.str [],.ds true [] 0 true,.ds true [] 0 true],.cells 0 [.int .i64 3,.int .i64 0,.str [],.os true 2 3 0 0 (qa ([]:List zv)) false,.ds true [] 0 true],.cells 0 (qb zD ([]:List zv))]) .s ?_
 refine zd fun Z1 hZ1=>?_
 obtain⟨y2,hy2,h⟩:=bind_some h;have f3:=E176.idxS hy2;have f4:=E176.fldS0 (f:=246) rfl rfl hy2
 refine rg U [0,2,6,7,20,21,22] fun K J=>?_
 simp only[go_sem,qh,qd,qc,qe,qf,qg,reduceIte,reduceCtorEq,XW,f3,f4];apply J
 apply zq
 refine xr 20 fun hb13=>?_
 replace hb13:qa y2≤9223372036854775807:=hb13.1;refine yp (fun m L τ=>∃ (p13 q13:List wO) (x8:Int) (m0_5:zP) (l6:List zv) (v7:Nat),m=qa q13∧L=[(0,.op 0 0 0),(2,.dp (zI a2) 0),(6,.op 1 0 0),(7,.op 2 0 0),(20,.ds true (qb yu y2) (qa y2) false),(21,.int .i64 (qa y2:Int)),(22,.int .i64 x8)]∧τ=([.cells 0 (zA m0_5),.cells 0 [.int .i64 0,.int .i64 0,.str [],.ds true [] 0 true,.ds true [] 0 true],.cells 0 [.int .i64 3,.int .i64 0,.str [],.os true 2 3 v7 0 (qa l6) false,.ds true [] 0 true],.cells v7 (qb zD l6)]:ze)∧y2=p13++q13∧x8=(qa p13:Int)∧zG.l13 yY a2 q13 x8 m0_5 l6=some r) _ ⟨[],y2,0,a0,([]:List zv),0,rfl,rfl,rfl,rfl,rfl,h⟩ .s ?_;rintro m L τ ⟨p13,q13,x8,m0_5,l6,v7,rfl,rfl,rfl,hE13,hi13,h⟩
 rcases q13 with _|⟨y13,q13⟩
 · have hz13:=xM hE13 hi13;simp only[zG.l13] at h;refine rgW [0,2,6,7,20,21,22,23] hz13 ?_
   refine zd fun Z14 hZ14=>?_
   refine zQ rfl ?_;apply yl;apply hZ1;refine rgW [6] (aI @zb.eq_1 (aI @zf hz13)) ?_;apply yg;cases h;simp only[ZA,yQ,y5,xN,exists_eq_left',go_sem,qh,qd,qc,qe,qf,qg,reduceIte,reduceCtorEq,zU,zb,zt,yD,zA,zf];refine⟨by decide,by simp,?_,?_⟩
   · first|rfl|(simp only[go_sem,qh,qd,qc,qe,qf,qg,reduceIte,reduceCtorEq,push_cast,if_true,qq,qn,qu,qr,qs,qt,qz,qo,qw,qv,qm,zw,zU,zb,zt,yD,zA,zf]<;>rfl)
   first|rfl|(simp only[go_sem,qh,qd,qc,qe,qf,qg,reduceIte,reduceCtorEq,push_cast,if_true,qq,qn,qu,qr,qs,qt,qz,qo,qw,qv,qm,zw,zU,zb,zt,yD,zA,zf]<;>rfl)
 obtain⟨hz13,hw13,hx13,hE'13,hi'13⟩:=xq hE13 hi13 hb13;simp only[zG.l13] at h;refine rgW [0,2,6,7,20,21,22,23] (aI hz13 hw13) ?_
 refine zd fun Z15 hZ15=>?_
 refine zS rfl ?_;apply zm;apply hZ15;refine xV (fun L τ=>∃ (m0_16:zP) (l17:List zv) (v18:Nat),L=[(0,.op 0 0 0),(2,.dp (zI a2) 0),(6,.op 1 0 0),(7,.op 2 0 0),(20,.ds true (qb yu y2) (qa y2) false),(21,.int .i64 (qa y2:Int)),(22,.int .i64 x8)]∧τ=([.cells 0 (zA m0_16),.cells 0 [.int .i64 0,.int .i64 0,.str [],.ds true [] 0 true,.ds true [] 0 true],.cells 0 [.int .i64 3,.int .i64 0,.str [],.os true 2 3 v18 0 (qa l17) false,.ds true [] 0 true],.cells v18 (qb zD l17)]:ze)∧zG.j19 x8 (zG.l13 yY a2 q13) m0_16 l17=some r) ?_ ?_
 · apply zq;have f20:=E246.idxS hx13;have f21:=E246.loadS rfl rfl hx13;refine rgW [0,2,6,7,9,20,21,22] (aI @yu.eq_1 (aI hz13 (aI hw13 (aI f20 f21)))) ?_;refine rgW [0,2,6,7,9,20,21,22] (aI @zt.eq_1 (aI @zA.eq_1 (aI hz13 hw13))) ?_
   refine rc [0,2,6,7,9,10,20,21,22] fun K J=>?_
   obtain⟨r22,hr22,h⟩:=bind_some h;refine rnW 3 (aI hz13 hw13) ?_;refine clN rfl rfl rfl ((yP.ok hr22).c _) ?_;refine rnW 1 (aI hz13 hw13) ?_;refine nkN J ?_
   refine zd fun Z23 hZ23=>?_
   refine rgW [0,2,6,7,9,10,20,21,22,39] (aI hz13 hw13) ?_;refine yv rfl (fun hc24=>?_) (fun hc24=>?_)
   · rw[if_pos hc24] at h;have t25:=eq_true hc24;apply yl;exact⟨_,_,⟨(⟨m0_5.fp,IntKind.i64.wrap (m0_5.flooks+1)⟩:zP),l6,v7,rfl,rfl,h⟩,(.t [0,1,2,3] false)⟩
   rw[if_neg hc24] at h;have t26:=eq_false hc24;apply zm;apply hZ23
   refine rc [0,2,6,7,9,11,20,21,22] fun K J=>?_
   obtain⟨r27,hr27,h⟩:=bind_some h;refine rnW 3 (aI @yu.eq_1 (aI hz13 (aI hw13 t26))) ?_;refine clN rfl rfl rfl (@id (ACalls qi 237 [.op 0 0 0,.agg (yu y13),.ds true (qb zi r22) (qa r22) false] [.cells 0 [.ds true (qb (XW yu) m0_5.fp.fParts) (qa m0_5.fp.fParts) false,.int .i64 (IntKind.i64.wrap (m0_5.flooks+1))],.cells 0 [.int .i64 0,.int .i64 0,.str [],.ds true [] 0 true,.ds true [] 0 true],.cells 0 [.int .i64 3,.int .i64 0,.str [],.os true 2 3 v7 0 (qa l6) false,.ds true [] 0 true],.cells v7 (qb zD l6),.cells 0 [.int .i64 y13.fOp,.int .i64 y13.fTag,.int .i64 y13.fSub]] (fun r' σ'=>r'=.ds true (qb yj r27.1) (qa r27.1) false∧σ'=[.cells 0 (zA r27.2),.cells 0 [.int .i64 0,.int .i64 0,.str [],.ds true [] 0 true,.ds true [] 0 true],.cells 0 [.int .i64 3,.int .i64 0,.str [],.os true 2 3 v7 0 (qa l6) false,.ds true [] 0 true],.cells v7 (qb zD l6),.cells 0 [.int .i64 y13.fOp,.int .i64 y13.fTag,.int .i64 y13.fSub]])) ((X6 (⟨m0_5.fp,IntKind.i64.wrap (m0_5.flooks+1)⟩:zP) y13 r22 r27 hr27).i [0])) ?_;refine rnW 1 (aI @yu.eq_1 (aI hz13 (aI hw13 t26))) ?_;refine nkN J ?_;refine rgW [0,2,6,7,9,11,20,21,22,46] (aI hz13 (aI hw13 t26)) ?_;refine yv rfl (fun hc28=>?_) (fun hc28=>?_)
   · rw[if_pos hc28] at h;have t29:=eq_true hc28;obtain⟨_u30,hu30,h⟩:=bind_some h;have gu30:=xF hu30;have f31:=(yf E34.len l6)
     refine rgE U [0,2,6,7,20,21,22] fun K J=>?_
     simp only[go_sem,qh,qd,qc,qe,qf,qg,reduceIte,reduceCtorEq,zV,yI,ug,qW,qU,true_and,uj,xj,yG,xg,zU,zb,yD,zf,hz13,hw13,t26,t29,gu30,f31,yW,ua,qZ,AV.one,qN,qo,gt_iff_lt,ym,qH,qE,qO,qD,qG,qj,qp,qB,qn,qA,qI];apply J
     exact⟨_,_,⟨r27.2,l6++[(⟨y13.fTag,r27.1⟩:zv)],v7+1,rfl,rfl,h⟩,(.t [0,1,2,3] false)⟩
   rw[if_neg hc28] at h;have t32:=eq_false hc28;apply zm;exact⟨_,_,⟨r27.2,l6,v7,rfl,rfl,h⟩,(.t [0,1,2,3] false)⟩
 rintro _ _ ⟨m0_16,l17,v18,rfl,rfl,h⟩;unfold zG.j19 at h
 refine rgE U [0,2,6,7,20,21,22] fun K J=>?_
 simp only[go_sem,qh,qd,qc,qe,qf,qg,reduceIte,reduceCtorEq,Zp,hz13,hw13];apply J
 exact⟨_,_,_,qK q13.length,⟨p13++[y13],q13,x8+1,m0_16,l17,v18,rfl,rfl,rfl,hE'13,hi'13,h⟩,.s⟩
def zL.j22 (x7:Int)(l5:List zp)(rec12:Int→zP→List zp→Option (List zp×zP))(m0_20:zP)(m3_21:zp):Option (List zp×zP):=
 (vaV (qa l5+1) 80).bind fun _u23=>(rec12 (x7+1) m0_20 (l5++[m3_21]))
def zL.j36 (yb:zP→Int→zZ→Option (zp×zP))(a1:wO)(x7:Int)(m0_4:zP)(l5:List zp)(rec12:Int→zP→List zp→Option (List zp×zP))(r19:zp)(r25:zo)(x35:Bool):Option (List zp×zP):=
 (if x35=true then (match r25 with|.nil=>some (([]:List zp),m0_4)|.num n38=>some (([]:List zp),m0_4)|.str s38=>some (([]:List zp),m0_4)|.node e38 r38=>(yb m0_4 a1.fSub (⟨e38,r38⟩:zZ)).bind fun r43=>(if ((decide (a1.fOp=4))&&(decide ((qa r43.1.fEntries:Int)=0)))=true then some (([]:List zp),r43.2) else (zL.j22 x7 l5 rec12 r43.2 r43.1))) else (zL.j22 x7 l5 rec12 m0_4 r19))
def zL.l12 (yb:zP→Int→zZ→Option (zp×zP))(a1:wO):List zo→Int→zP→List zp→Option (List zp×zP)
 |[],x7,m0_4,l5=>some (l5,m0_4)
 |y12::q12,x7,m0_4,l5=>(zR xz y12).bind fun r19=>bnd (Zh y12) fun r25=>(if a1.fOp=2 then (match r25 with|.nil=>some (([]:List zp),m0_4)|.num n28=>bnd (Zl n28) fun r31=>(zL.j22 x7 l5 (zL.l12 yb a1 q12) m0_4 (⟨r19.fKind,r31,r19.fS,r19.fEntries,r19.fRest⟩:zp))|.str s28=>some (([]:List zp),m0_4)|.node e28 r28=>some (([]:List zp),m0_4)) else (if a1.fOp=3 then (zL.j36 yb a1 x7 m0_4 l5 (zL.l12 yb a1 q12) r19 r25 (decide (a1.fOp=3))) else (zL.j36 yb a1 x7 m0_4 l5 (zL.l12 yb a1 q12) r19 r25 (decide (a1.fOp=4)))))
def zL.j2 (yb:zP→Int→zZ→Option (zp×zP))(a0:zP)(a1:wO)(x1:List zo):Option (List zp×zP):=
 (zL.l12 yb a1 x1 0 a0 ([]:List zp))
def zL.body (yb:zP→Int→zZ→Option (zp×zP))(yY:zP→wO→(List zo)→Option (List zp×zP))(a0:zP)(a1:wO)(a2:List zo):Option (List zp×zP):=
 (if a1.fOp=4 then (grd ((0:Int)≤IntKind.i64.wrap ((qa a2:Int)-1)∧IntKind.i64.wrap ((qa a2:Int)-1)≤(qa a2:Int)∧(qa a2:Int)≤(qa a2:Int))).bind fun _u52=>(zL.j2 yb a0 a1 (vbV a2 (IntKind.i64.wrap ((qa a2:Int)-1)) (qa a2:Int))) else (zL.j2 yb a0 a1 a2))
theorem zL.step (yb:zP→Int→zZ→Option (zp×zP))(yY:zP→wO→(List zo)→Option (List zp×zP))(X7:∀ (a0:zP) (a1:Int) (a2:zZ) (r:zp×zP),yb a0 a1 a2=some r→ACalls qi 199 [.op 0 0 0,.int .i64 a1,.dp (zI a2) 0] [.cells 0 (zA a0)] (fun r' σ'=>r'=.agg (zb r.1)∧σ'=[.cells 0 (zA r.2)]))(X6:∀ (a0:zP) (a1:wO) (a2:List zo) (r:List zp×zP),yY a0 a1 a2=some r→ACalls qi 237 [.op 0 0 0,.agg (yu a1),.ds true (qb zi a2) (qa a2) false] [.cells 0 (zA a0)] (fun r' σ'=>r'=.ds true (qb yj r.1) (qa r.1) false∧σ'=[.cells 0 (zA r.2)]))(a0:zP)(a1:wO)(a2:List zo)(r:List zp×zP)(h:zL.body yb yY a0 a1 a2=some r):ACalls qi 237 [.op 0 0 0,.agg (yu a1),.ds true (qb zi a2) (qa a2) false] [.cells 0 (zA a0)] (fun r' σ'=>r'=.ds true (qb yj r.1) (qa r.1) false∧σ'=[.cells 0 (zA r.2)]):=by
 refine Zx [0] (rs:=[.tmp 6]) U Tryz.func237 rfl Tryz.ntmps237 rfl Tryz.call237 (by simp) rfl ?_;refine zK [(0,.op 0 0 0),(1,.agg (yu a1)),(2,.ds true (qb zi a2) (qa a2) false)] ⟨rfl,rfl,rfl,trivial⟩ ?_;unfold zL.body at h;refine rgW [0,2,4] @yu.eq_1 ?_;refine O [0,2,4,7] ?_;refine vaA 7 5 rfl ?_;refine xB (L:=[(0,.op 0 0 0),(2,.ds true (qb zi a2) (qa a2) false),(4,.op 1 0 0),(7,.os true 5 2 0 0 (qa ([]:List zp)) false)]) (τ:=[.cells 0 (zA a0),.cells 0 [.int .i64 a1.fOp,.int .i64 a1.fTag,.int .i64 a1.fSub],.cells 0 (qb yj ([]:List zp))]) .s ?_;refine xV (fun L τ=>∃ (x1:List zo),L=[(0,.op 0 0 0),(2,.ds true (qb zi x1) (qa x1) false),(4,.op 1 0 0),(7,.os true 5 2 0 0 (qa ([]:List zp)) false)]∧τ=([.cells 0 (zA a0),.cells 0 [.int .i64 a1.fOp,.int .i64 a1.fTag,.int .i64 a1.fSub],.cells 0 (qb yj ([]:List zp))]:ze)∧zL.j2 yb a0 a1 x1=some r) ?_ ?_
 · refine rgW [0,2,4,7,18] qF ?_;refine yv rfl (fun hc50=>?_) (fun hc50=>?_)
   · rw[if_pos hc50] at h;have t51:=eq_true hc50;obtain⟨_u52,hu52,h⟩:=bind_some h;have gu52:=ZP hu52;have f53:=E282.sl_lo gu52
     refine rgE U [0,2,4,7] fun K J=>?_
     simp only[go_sem,qh,qd,qc,qe,qf,qg,reduceIte,reduceCtorEq,Zp,t51,f53];apply J
     exact⟨_,_,⟨vbV a2 (IntKind.i64.wrap ((qa a2:Int)-1)) (qa a2:Int),rfl,rfl,h⟩,.s⟩
   rw[if_neg hc50] at h;have t54:=eq_false hc50;apply zm;exact⟨_,_,⟨a2,rfl,rfl,h⟩,.s⟩
 rintro _ _ ⟨x1,rfl,rfl,h⟩;unfold zL.j2 at h
 refine zd fun Z3 hZ3=>?_
 refine O [0,4,7,24,25,26] ?_;apply zq
 refine xr 24 fun hb12=>?_
 replace hb12:qa x1≤9223372036854775807:=hb12.1;refine yp (fun m L τ=>∃ (p12 q12:List zo) (x7:Int) (m0_4:zP) (l5:List zp) (v6:Nat),m=qa q12∧L=[(0,.op 0 0 0),(4,.op 1 0 0),(7,.os true 5 2 v6 0 (qa l5) false),(24,.ds true (qb zi x1) (qa x1) false),(25,.int .i64 (qa x1:Int)),(26,.int .i64 x7)]∧τ=([.cells 0 (zA m0_4),.cells 0 [.int .i64 a1.fOp,.int .i64 a1.fTag,.int .i64 a1.fSub],.cells v6 (qb yj l5)]:ze)∧x1=p12++q12∧x7=(qa p12:Int)∧zL.l12 yb a1 q12 x7 m0_4 l5=some r) _ ⟨[],x1,0,a0,([]:List zp),0,rfl,rfl,rfl,rfl,rfl,h⟩ .s ?_;rintro m L τ ⟨p12,q12,x7,m0_4,l5,v6,rfl,rfl,rfl,hE12,hi12,h⟩
 rcases q12 with _|⟨y12,q12⟩
 · have hz12:=xM hE12 hi12;simp only[zL.l12] at h;refine rgW [0,4,7,24,25,26,27] hz12 ?_
   refine zd fun Z13 hZ13=>?_
   refine zQ rfl ?_;apply yl;apply hZ3;refine rgW [6] hz12 ?_;apply yg;cases h;simp only[ZA,yQ,y5,xN,exists_eq_left',go_sem,qh,qd,qc,qe,qf,qg,reduceIte,reduceCtorEq,zb,zt,zA,zf];refine⟨by decide,by simp,?_,?_⟩
   · first|rfl|(simp only[go_sem,qh,qd,qc,qe,qf,qg,reduceIte,reduceCtorEq,push_cast,if_true,qq,qn,qu,qr,qs,qt,qz,qo,qw,qv,qm,zw,zb,zt,zA,zf]<;>rfl)
   first|rfl|(simp only[go_sem,qh,qd,qc,qe,qf,qg,reduceIte,reduceCtorEq,push_cast,if_true,qq,qn,qu,qr,qs,qt,qz,qo,qw,qv,qm,zw,zb,zt,zA,zf]<;>rfl)
 obtain⟨hz12,hw12,hx12,hE'12,hi'12⟩:=xq hE12 hi12 hb12;simp only[zL.l12] at h;refine rgW [0,4,7,24,25,26,27] (aI hz12 hw12) ?_
 refine zd fun Z14 hZ14=>?_
 refine zS rfl ?_;apply zm;apply hZ14
 refine zd fun Z15 hZ15=>?_
 apply zq;have f16:=E282.idxS hx12;have f17:=E282.loadS rfl rfl hx12;have f18:=Ye y12;unfold AV.one at f18;refine rgW [0,4,7,9,24,25,26] (aI @zi.eq_1 (aI hz12 (aI hw12 (aI f16 (aI f17 f18))))) ?_
 refine rc [0,4,7,9,10,24,25,26] fun K J=>?_
 obtain⟨r19,hr19,h⟩:=bind_some h;refine rnW 1 (aI @zi.eq_1 (aI hz12 hw12)) ?_;refine clN rfl rfl rfl (zR.ev xz y12 r19 hr19 _) ?_;refine rnW 2 (aI @zb.eq_1 (aI @zf (aI @zi.eq_1 (aI hz12 hw12)))) ?_;refine nkN J ?_;refine xV (fun L τ=>∃ (m0_20:zP) (m3_21:zp),L=[(0,.op 0 0 0),(4,.op 1 0 0),(7,.os true 5 2 v6 0 (qa l5) false),(10,.op 3 0 0),(24,.ds true (qb zi x1) (qa x1) false),(25,.int .i64 (qa x1:Int)),(26,.int .i64 x7)]∧τ=([.cells 0 (zA m0_20),.cells 0 [.int .i64 a1.fOp,.int .i64 a1.fTag,.int .i64 a1.fSub],.cells v6 (qb yj l5),.cells 0 (zb m3_21)]:ze)∧zL.j22 x7 l5 (zL.l12 yb a1 q12) m0_20 m3_21=some r) ?_ ?_
 · refine rc [0,4,7,10,11,24,25,26] fun K J=>?_
   obtain⟨r25,hr25,h⟩:=yq h;refine rnW 1 (aI @zi.eq_1 (aI hz12 hw12)) ?_;refine clN rfl rfl rfl ((Zh.ok hr25).c _) ?_;refine rnW 1 (aI @zi.eq_1 (aI hz12 hw12)) ?_;refine nkN J ?_;refine rgW [0,4,7,10,11,24,25,26,35] (aI hz12 hw12) ?_;apply zq;refine rgW [0,4,7,10,11,24,25,26,35,36] (aI hz12 hw12) ?_;refine yv rfl (fun hc26=>?_) (fun hc26=>?_)
   · rw[if_pos hc26] at h;have t27:=eq_true hc26
     rcases r25 with _|n28|s28|⟨e28,r28⟩
     · dsimp only at h
       try simp only[Xp,XQ,zi]
       refine rg U [0,4,7,10,12,13,24,25,26] fun K J=>?_
       simp only[go_sem,qh,qd,qc,qe,qf,qg,reduceIte,reduceCtorEq,hz12,hw12,t27,xA,xC,TypeDesc.isIface];apply J
       refine zd fun Z29 hZ29=>?_
       refine rgW [0,4,7,10,12,24,25,26,44] (aI hz12 (aI hw12 t27)) ?_;refine zS rfl ?_;refine rgW [6] (aI hz12 (aI hw12 t27)) ?_;apply yg;cases h;simp only[ZA,yQ,y5,xN,exists_eq_left',go_sem,qh,qd,qc,qe,qf,qg,reduceIte,reduceCtorEq,zb,zt,zA,zf];refine⟨by decide,by simp,?_,?_⟩
       · first|rfl|(simp only[go_sem,qh,qd,qc,qe,qf,qg,reduceIte,reduceCtorEq,push_cast,if_true,qq,qn,qu,qr,qs,qt,qz,qo,qw,qv,qm,zw,zb,zt,zA,zf]<;>rfl)
       first|rfl|(simp only[go_sem,qh,qd,qc,qe,qf,qg,reduceIte,reduceCtorEq,push_cast,if_true,qq,qn,qu,qr,qs,qt,qz,qo,qw,qv,qm,zw,zb,zt,zA,zf]<;>rfl)
     · dsimp only at h
       try simp only[Xo,XP,zi]
       refine rg U [0,4,7,10,12,13,24,25,26] fun K J=>?_
       simp only[go_sem,qh,qd,qc,qe,qf,qg,reduceIte,reduceCtorEq,hz12,hw12,t27,xA,xC,TypeDesc.isIface];apply J
       refine zd fun Z30 hZ30=>?_
       refine rgW [0,4,7,10,12,24,25,26,44] (aI hz12 (aI hw12 t27)) ?_;refine zQ rfl ?_;apply zm;apply hZ30
       refine rcE [0,4,7,10,24,25,26] fun K J=>?_
       obtain⟨r31,hr31,h⟩:=yq h;refine rnW 1 (aI hz12 (aI hw12 t27)) ?_;refine clN rfl rfl rfl ((Zl.ok hr31).c _) ?_;refine rnW 2 (aI @zb.eq_1 (aI @zf (aI hz12 (aI hw12 t27)))) ?_;refine nkN J ?_;exact⟨_,_,⟨m0_4,(⟨r19.fKind,r31,r19.fS,r19.fEntries,r19.fRest⟩:zp),rfl,rfl,h⟩,(.t [0,1,2,4] false)⟩
     · dsimp only at h
       try simp only[Xn,XO,zi]
       refine rg U [0,4,7,10,12,13,24,25,26] fun K J=>?_
       simp only[go_sem,qh,qd,qc,qe,qf,qg,reduceIte,reduceCtorEq,hz12,hw12,t27,xA,xC,TypeDesc.isIface];apply J
       refine zd fun Z32 hZ32=>?_
       refine rgW [0,4,7,10,12,24,25,26,44] (aI hz12 (aI hw12 t27)) ?_;refine zS rfl ?_;refine rgW [6] (aI hz12 (aI hw12 t27)) ?_;apply yg;cases h;simp only[ZA,yQ,y5,xN,exists_eq_left',go_sem,qh,qd,qc,qe,qf,qg,reduceIte,reduceCtorEq,zb,zt,zA,zf];refine⟨by decide,by simp,?_,?_⟩
       · first|rfl|(simp only[go_sem,qh,qd,qc,qe,qf,qg,reduceIte,reduceCtorEq,push_cast,if_true,qq,qn,qu,qr,qs,qt,qz,qo,qw,qv,qm,zw,zb,zt,zA,zf]<;>rfl)
       first|rfl|(simp only[go_sem,qh,qd,qc,qe,qf,qg,reduceIte,reduceCtorEq,push_cast,if_true,qq,qn,qu,qr,qs,qt,qz,qo,qw,qv,qm,zw,zb,zt,zA,zf]<;>rfl)
     dsimp only at h
     try simp only[Yz,Y8,zi]
     refine rg U [0,4,7,10,12,13,24,25,26] fun K J=>?_
     simp only[go_sem,qh,qd,qc,qe,qf,qg,reduceIte,reduceCtorEq,hz12,hw12,t27,xA,xC,TypeDesc.isIface];apply J
     refine zd fun Z33 hZ33=>?_
     refine rgW [0,4,7,10,12,24,25,26,44] (aI hz12 (aI hw12 t27)) ?_;refine zS rfl ?_;refine rgW [6] (aI hz12 (aI hw12 t27)) ?_;apply yg;cases h;simp only[ZA,yQ,y5,xN,exists_eq_left',go_sem,qh,qd,qc,qe,qf,qg,reduceIte,reduceCtorEq,zb,zt,zA,zf];refine⟨by decide,by simp,?_,?_⟩
     · first|rfl|(simp only[go_sem,qh,qd,qc,qe,qf,qg,reduceIte,reduceCtorEq,push_cast,if_true,qq,qn,qu,qr,qs,qt,qz,qo,qw,qv,qm,zw,zb,zt,zA,zf]<;>rfl)
     first|rfl|(simp only[go_sem,qh,qd,qc,qe,qf,qg,reduceIte,reduceCtorEq,push_cast,if_true,qq,qn,qu,qr,qs,qt,qz,qo,qw,qv,qm,zw,zb,zt,zA,zf]<;>rfl)
   rw[if_neg hc26] at h;have t34:=eq_false hc26;refine xV (fun L τ=>∃ (x35:Bool),L=[(0,.op 0 0 0),(4,.op 1 0 0),(7,.os true 5 2 v6 0 (qa l5) false),(10,.op 3 0 0),(11,anyV r25),(24,.ds true (qb zi x1) (qa x1) false),(25,.int .i64 (qa x1:Int)),(26,.int .i64 x7),(48,.bool x35)]∧τ=([.cells 0 (zA m0_4),.cells 0 [.int .i64 a1.fOp,.int .i64 a1.fTag,.int .i64 a1.fSub],.cells v6 (qb yj l5),.cells 0 (zb r19)]:ze)∧zL.j36 yb a1 x7 m0_4 l5 (zL.l12 yb a1 q12) r19 r25 x35=some r) ?_ ?_
   · refine rgW [0,4,7,10,11,24,25,26,35,48] (aI hz12 (aI hw12 t34)) ?_;refine yv rfl (fun hc47=>?_) (fun hc47=>?_)
     · rw[if_pos hc47] at h;have t48:=eq_true hc47;apply zm;exact⟨_,_,⟨decide (a1.fOp=3),rfl,rfl,h⟩,(.t [0,1,2,4] false)⟩
     rw[if_neg hc47] at h;have t49:=eq_false hc47
     refine rgE U [0,4,7,10,11,24,25,26,48] fun K J=>?_
     simp only[go_sem,qh,qd,qc,qe,qf,qg,reduceIte,reduceCtorEq,Zp,hz12,hw12,t34,t49];apply J
     exact⟨_,_,⟨decide (a1.fOp=4),rfl,rfl,h⟩,(.t [0,1,2,4] false)⟩
   rintro _ _ ⟨x35,rfl,rfl,h⟩;unfold zL.j36 at h;refine zY (b:=x35) rfl (fun hc37=>?_) (fun hc37=>?_)
   · rw[if_pos hc37] at h
     rcases r25 with _|n38|s38|⟨e38,r38⟩
     · dsimp only at h
       try simp only[Xp,XQ,zi]
       refine rg U [0,4,7,10,14,15,24,25,26] fun K J=>?_
       simp only[go_sem,qh,qd,qc,qe,qf,qg,reduceIte,reduceCtorEq,hz12,hw12,t34,xA,xC,TypeDesc.isIface];apply J
       refine zd fun Z39 hZ39=>?_
       refine rgW [0,4,7,10,14,24,25,26,57] (aI hz12 (aI hw12 t34)) ?_;refine zS rfl ?_;refine rgW [6] (aI hz12 (aI hw12 t34)) ?_;apply yg;cases h;simp only[ZA,yQ,y5,xN,exists_eq_left',go_sem,qh,qd,qc,qe,qf,qg,reduceIte,reduceCtorEq,zb,zt,zA,zf];refine⟨by decide,by simp,?_,?_⟩
       · first|rfl|(simp only[go_sem,qh,qd,qc,qe,qf,qg,reduceIte,reduceCtorEq,push_cast,if_true,qq,qn,qu,qr,qs,qt,qz,qo,qw,qv,qm,zw,zb,zt,zA,zf]<;>rfl)
       first|rfl|(simp only[go_sem,qh,qd,qc,qe,qf,qg,reduceIte,reduceCtorEq,push_cast,if_true,qq,qn,qu,qr,qs,qt,qz,qo,qw,qv,qm,zw,zb,zt,zA,zf]<;>rfl)
     · dsimp only at h
       try simp only[Xo,XP,zi]
       refine rg U [0,4,7,10,14,15,24,25,26] fun K J=>?_
       simp only[go_sem,qh,qd,qc,qe,qf,qg,reduceIte,reduceCtorEq,hz12,hw12,t34,xA,xC,TypeDesc.isIface];apply J
       refine zd fun Z40 hZ40=>?_
       refine rgW [0,4,7,10,14,24,25,26,57] (aI hz12 (aI hw12 t34)) ?_;refine zS rfl ?_;refine rgW [6] (aI hz12 (aI hw12 t34)) ?_;apply yg;cases h;simp only[ZA,yQ,y5,xN,exists_eq_left',go_sem,qh,qd,qc,qe,qf,qg,reduceIte,reduceCtorEq,zb,zt,zA,zf];refine⟨by decide,by simp,?_,?_⟩
       · first|rfl|(simp only[go_sem,qh,qd,qc,qe,qf,qg,reduceIte,reduceCtorEq,push_cast,if_true,qq,qn,qu,qr,qs,qt,qz,qo,qw,qv,qm,zw,zb,zt,zA,zf]<;>rfl)
       first|rfl|(simp only[go_sem,qh,qd,qc,qe,qf,qg,reduceIte,reduceCtorEq,push_cast,if_true,qq,qn,qu,qr,qs,qt,qz,qo,qw,qv,qm,zw,zb,zt,zA,zf]<;>rfl)
     · dsimp only at h
       try simp only[Xn,XO,zi]
       refine rg U [0,4,7,10,14,15,24,25,26] fun K J=>?_
       simp only[go_sem,qh,qd,qc,qe,qf,qg,reduceIte,reduceCtorEq,hz12,hw12,t34,xA,xC,TypeDesc.isIface];apply J
       refine zd fun Z41 hZ41=>?_
       refine rgW [0,4,7,10,14,24,25,26,57] (aI hz12 (aI hw12 t34)) ?_;refine zS rfl ?_;refine rgW [6] (aI hz12 (aI hw12 t34)) ?_;apply yg;cases h;simp only[ZA,yQ,y5,xN,exists_eq_left',go_sem,qh,qd,qc,qe,qf,qg,reduceIte,reduceCtorEq,zb,zt,zA,zf];refine⟨by decide,by simp,?_,?_⟩
       · first|rfl|(simp only[go_sem,qh,qd,qc,qe,qf,qg,reduceIte,reduceCtorEq,push_cast,if_true,qq,qn,qu,qr,qs,qt,qz,qo,qw,qv,qm,zw,zb,zt,zA,zf]<;>rfl)
       first|rfl|(simp only[go_sem,qh,qd,qc,qe,qf,qg,reduceIte,reduceCtorEq,push_cast,if_true,qq,qn,qu,qr,qs,qt,qz,qo,qw,qv,qm,zw,zb,zt,zA,zf]<;>rfl)
     dsimp only at h
     try simp only[Yz,Y8,zi]
     refine rg U [0,4,7,10,14,15,24,25,26] fun K J=>?_
     simp only[go_sem,qh,qd,qc,qe,qf,qg,reduceIte,reduceCtorEq,hz12,hw12,t34,xA,xC,TypeDesc.isIface];apply J
     refine zd fun Z42 hZ42=>?_
     refine rgW [0,4,7,10,14,24,25,26,57] (aI hz12 (aI hw12 t34)) ?_;refine zQ rfl ?_;apply zm;apply hZ42
     refine rc [0,4,7,10,24,25,26] fun K J=>?_
     obtain⟨r43,hr43,h⟩:=bind_some h;refine rnW 4 (aI hz12 (aI hw12 t34)) ?_;refine clN rfl rfl rfl (@id (ACalls qi 199 [.op 0 0 0,.int .i64 a1.fSub,.dp [.ds true (qb yV e38) (qa e38) false,.ds true (qb zy r38) (qa r38) false] 0] [.cells 0 (zA m0_4),.cells 0 [.int .i64 a1.fOp,.int .i64 a1.fTag,.int .i64 a1.fSub],.cells v6 (qb yj l5),.cells 0 (zb r19)] (fun r' σ'=>r'=.agg (zb r43.1)∧σ'=[.cells 0 (zA r43.2),.cells 0 [.int .i64 a1.fOp,.int .i64 a1.fTag,.int .i64 a1.fSub],.cells v6 (qb yj l5),.cells 0 (zb r19)])) ((X7 m0_4 a1.fSub (⟨e38,r38⟩:zZ) r43 hr43).i [0])) ?_;refine rnW 1 (aI @zb.eq_1 (aI @zf (aI hz12 (aI hw12 t34)))) ?_;refine nkN J ?_
     refine rc [0,4,7,10,24,25,26,71] fun K J=>?_
     refine rnW 4 (aI hz12 (aI hw12 t34)) ?_;refine cut 5 66 71 [0,4,7,10,24,25,26] ((decide (a1.fOp=4))&&(decide ((qa r43.1.fEntries:Int)=0))) (aI hz12 (aI hw12 t34)) rfl ?_;refine nkN J ?_;refine zY (b:=((decide (a1.fOp=4))&&(decide ((qa r43.1.fEntries:Int)=0)))) rfl (fun hc46=>?_) (fun hc46=>?_)
     · rw[if_pos hc46] at h;refine rgW [6] (aI hz12 (aI hw12 t34)) ?_;apply yg;cases h;simp only[ZA,yQ,y5,xN,exists_eq_left',go_sem,qh,qd,qc,qe,qf,qg,reduceIte,reduceCtorEq,zb,zt,zA,zf];refine⟨by decide,by simp,?_,?_⟩
       · first|rfl|(simp only[go_sem,qh,qd,qc,qe,qf,qg,reduceIte,reduceCtorEq,push_cast,if_true,qq,qn,qu,qr,qs,qt,qz,qo,qw,qv,qm,zw,zb,zt,zA,zf]<;>rfl)
       first|rfl|(simp only[go_sem,qh,qd,qc,qe,qf,qg,reduceIte,reduceCtorEq,push_cast,if_true,qq,qn,qu,qr,qs,qt,qz,qo,qw,qv,qm,zw,zb,zt,zA,zf]<;>rfl)
     rw[Zc hc46] at h;apply zm;exact⟨_,_,⟨r43.2,r43.1,rfl,rfl,h⟩,.s⟩
   rw[Zc hc37] at h;apply zm;exact⟨_,_,⟨m0_4,r19,rfl,rfl,h⟩,.s⟩
 rintro _ _ ⟨m0_20,m3_21,rfl,rfl,h⟩;unfold zL.j22 at h;obtain⟨_u23,hu23,h⟩:=bind_some h;have gu23:=xF hu23;have f24:=(yf E38.len l5)
 refine rgE U [0,4,7,24,25,26] fun K J=>?_
 simp only[go_sem,qh,qd,qc,qe,qf,qg,reduceIte,reduceCtorEq,zV,yI,ug,qW,qU,true_and,uj,xj,yG,xg,zb,zf,hz12,hw12,gu23,f24,yW,ua,qZ,AV.one,qN,qo,gt_iff_lt,ym,qH,qE,qO,qD,qG,qj,qp,qB,qn,qA,qI];apply J
 apply hZ15
 refine rgE U [0,4,7,24,25,26] fun K J=>?_
 simp only[go_sem,qh,qd,qc,qe,qf,qg,reduceIte,reduceCtorEq,Zp,hz12,hw12];apply J
 exact⟨_,_,_,qK q12.length,⟨p12++[y12],q12,x7+1,m0_20,l5++[m3_21],v6+1,rfl,rfl,rfl,hE'12,hi'12,h⟩,(.t [0,1,2] false)⟩
mutual
def zG : Nat→zP→Int→zZ→Option (zp×zP)
 |0,_,_,_=>none
 |k+1,a0,a1,a2=>zG.body (zG k) (zL k) a0 a1 a2
def zL : Nat→zP→wO→(List zo)→Option (List zp×zP)
 |0,_,_,_=>none
 |k+1,a0,a1,a2=>zL.body (zG k) (zL k) a0 a1 a2
end
theorem zG.all (k:Nat):(∀ (a0:zP) (a1:Int) (a2:zZ) (r:zp×zP),zG k a0 a1 a2=some r→ACalls qi 199 [.op 0 0 0,.int .i64 a1,.dp (zI a2) 0] [.cells 0 (zA a0)] (fun r' σ'=>r'=.agg (zb r.1)∧σ'=[.cells 0 (zA r.2)]))∧(∀ (a0:zP) (a1:wO) (a2:List zo) (r:List zp×zP),zL k a0 a1 a2=some r→ACalls qi 237 [.op 0 0 0,.agg (yu a1),.ds true (qb zi a2) (qa a2) false] [.cells 0 (zA a0)] (fun r' σ'=>r'=.ds true (qb yj r.1) (qa r.1) false∧σ'=[.cells 0 (zA r.2)])):=by
 induction k with
 |zero=>exact⟨(fun a0 a1 a2 r h=>by simp only[zG] at h; cases h),(fun a0 a1 a2 r h=>by simp only[zL] at h; cases h)⟩
 |succ k ih=>exact⟨(fun a0 a1 a2 r h=>zG.step _ _ ih.1 ih.2 a0 a1 a2 r (by simpa only [zG] using h)),(fun a0 a1 a2 r h=>zL.step _ _ ih.1 ih.2 a0 a1 a2 r (by simpa only [zL] using h))⟩
end
section
set_option maxRecDepth 4000
set_option maxHeartbeats 1000000
open AM
theorem zG.ok {k a0 a1 a2 r}(h:zG k a0 a1 a2=some r):ACalls qi 199 [.op 0 0 0,.int .i64 a1,.dp (zI a2) 0] [.cells 0 (zA a0)] (fun r' σ'=>r'=.agg (zb r.1)∧σ'=[.cells 0 (zA r.2)]):=(zG.all k).1 a0 a1 a2 r h
def Yx (a0:xW)(a1:zp):Option (zp×Int×Int):=
 bnd (wi a0) fun r2=>(if ((!r2)||(!(decide (a1.fKind=3))))=true then some ((⟨0,0,[],([]:List zv),([]:List yC)⟩:zp),0,1) else (Xm a1).bind fun r4=>(if (!r4.2)=true then some ((⟨0,0,[],([]:List zv),([]:List yC)⟩:zp),0,1) else (xL r4.1).bind fun r8=>(zG xz (⟨a0,0⟩:zP) 0 r8).bind fun r9=>some (r9.1,r9.2.flooks,0)))
theorem Yx.ok {a0 a1 r}(h:Yx a0 a1=some r):ACalls qi 152 [.agg (zt a0),.agg (zb a1)] [] (fun r' _=>r'=.tup [.agg (zb r.1),.int .i64 r.2.1,.int .i64 r.2.2]):=by
 refine zx (rs:=[.cell 4 37,.tmp 5,.tmp 6]) U Tryz.func152 rfl Tryz.ntmps152 rfl Tryz.call152 (by simp) ?_;refine zK [(0,.agg (zt a0)),(1,.agg (zb a1))] ⟨rfl,rfl,trivial⟩ ?_;unfold Yx at h;refine rgW [2,3,4] (aI @zb.eq_1 (aI @zt.eq_1 @zf)) ?_
 refine zd fun Z1 hZ1=>?_
 refine rc [2,3,4,18] fun K J=>?_
 obtain⟨r2,hr2,h⟩:=yq h;refine rnW 1 @zt.eq_1 ?_;refine clN rfl rfl rfl ((wi.ok hr2).c _) ?_;refine rnW 2 @zt.eq_1 ?_;refine cut (b:=(!r2)) (hb:=boolP_eq _) 4 14 18 [2,3,4] ((!r2)||(!(decide (a1.fKind=3)))) @zt.eq_1 rfl ?_;refine nkN J ?_;refine zY (b:=((!r2)||(!(decide (a1.fKind=3))))) rfl (fun hc3=>?_) (fun hc3=>?_)
 · rw[if_pos hc3] at h;refine rgW [4,5,6] (aI @zb.eq_1 @zf) ?_;cases h;exact rtA
 rw[Zc hc3] at h;apply zm;apply hZ1
 refine rc [2,4,7,8] fun K J=>?_
 obtain⟨r4,hr4,h⟩:=bind_some h;refine rnW 1 (aI @zb.eq_1 @zf) ?_;refine clN rfl rfl rfl ((Xm.ok hr4).c _) ?_;have f5:=Ye r4.1;unfold AV.one at f5;refine rnW 6 (aI @zb.eq_1 (aI @zf (aI @zi.eq_1 f5))) ?_;refine nkN J ?_
 refine zd fun Z6 hZ6=>?_
 refine O [2,4,7,26] ?_;refine zY (b:=(!r4.2)) rfl (fun hc7=>?_) (fun hc7=>?_)
 · rw[if_pos hc7] at h;refine rgW [4,5,6] (aI @zb.eq_1 @zf) ?_;cases h;exact rtA
 rw[Zc hc7] at h;apply zm;apply hZ6;refine rgW [4,7,9] (aI @zt.eq_1 @zA.eq_1) ?_
 refine rc [4,9,10] fun K J=>?_
 obtain⟨r8,hr8,h⟩:=bind_some h;refine rnW 2 @zi.eq_1 ?_;refine clN rfl rfl rfl ((xL.ok hr8).c _) ?_;obtain⟨r9,hr9,h⟩:=bind_some h;refine clN rfl rfl rfl (@id (ACalls qi 199 [.op 4 0 0,.int .i64 0,.dp (zI r8) 0] [.cells 0 (zt a0),.cells 0 (zb a1),.cells 0 [.int .i64 0,.int .i64 0,.str [],.ds true [] 0 true,.ds true [] 0 true],.cells 0 [vc3 r4.1],.cells 0 [.ds true (qb (XW yu) a0.fParts) (qa a0.fParts) false,.int .i64 0]] (fun r' σ'=>r'=.agg (zb r9.1)∧σ'=[.cells 0 (zt a0),.cells 0 (zb a1),.cells 0 [.int .i64 0,.int .i64 0,.str [],.ds true [] 0 true,.ds true [] 0 true],.cells 0 [vc3 r4.1],.cells 0 (zA r9.2)])) ((zG.ok hr9).i [4])) ?_;refine rnW 2 (aI @zb.eq_1 (aI @zf @zi.eq_1)) ?_;refine nkN J ?_
 refine rd [4,5,6] fun K J=>?_
 refine DW.start (T:=tab) [.at [],.any,.any,.any,.own 1 [2],.eff,.any,.any] [(1,[2])] ?_;refine DW.runN U 8 ?_;simp only[go_sem,qh,qd,qc,qe,qf,qg,reduceIte,reduceCtorEq,zb,zf];refine DW.fin U (by decide +kernel) rfl ?_;simp only[zH,ye,yx,Zn,upd,qc,reduceIte,xh,xO];apply J
 cases h;exact rtA
def wP (a0:xW)(a1:zp):Option (zp×Int):=
 (Yx a0 a1).bind fun r1=>some (r1.1,r1.2.2)
theorem wP.ok {a0 a1 r}(h:wP a0 a1=some r):ACalls qi 100 [.agg (zt a0),.agg (zb a1)] [] (fun r' _=>r'=.tup [.agg (zb r.1),.int .i64 r.2]):=by
 refine zx (rs:=[.cell 4 37,.tmp 5]) U Tryz.func100 rfl Tryz.ntmps100 rfl Tryz.call100 (by simp) ?_;refine zK [(0,.agg (zt a0)),(1,.agg (zb a1))] ⟨rfl,rfl,trivial⟩ ?_;unfold wP at h;refine rgW [2,3,4] (aI @zb.eq_1 (aI @zt.eq_1 @zf)) ?_
 refine rc [4,6,8] fun K J=>?_
 obtain⟨r1,hr1,h⟩:=bind_some h;refine rnW 2 (aI @zb.eq_1 (aI @zt.eq_1 @zf)) ?_;refine clN rfl rfl rfl ((Yx.ok hr1).c _) ?_;refine rnW 8 (aI @zb.eq_1 (aI @zt.eq_1 @zf)) ?_;refine nkN J ?_;refine rgW [4,5] (aI @zb.eq_1 @zf) ?_;cases h;exact rtA
def Zm (a0:zB)(a1:List UInt8)(a2:List UInt8):Option (zp×Int):=
 (yN a0).bind fun r2=>(if r2=0 then bnd (yw a0 a1) fun r6=>(if (!r6.2)=true then some ((⟨0,0,[],([]:List zv),([]:List yC)⟩:zp),14) else (ya xz a0 r6.1 a2 1).bind fun r9=>some (r9.1,r9.2)) else some ((⟨0,0,[],([]:List zv),([]:List yC)⟩:zp),1))
theorem Zm.ok {a0 a1 a2 r}(h:Zm a0 a1 a2=some r):ACalls qi 98 [.agg (za a0),.str a1,.ds true (qb Ym a2) (qa a2) false] [] (fun r' _=>r'=.tup [.agg (zb r.1),.int .i64 r.2]):=by
 refine zx (rs:=[.cell 6 37,.tmp 7]) U Tryz.func98 rfl Tryz.ntmps98 rfl Tryz.call98 (by simp) ?_;refine zK [(0,.agg (za a0)),(1,.str a1),(2,.ds true (qb Ym a2) (qa a2) false)] ⟨rfl,rfl,rfl,trivial⟩ ?_;unfold Zm at h;refine rgW [1,2,3,6] @za.eq_1 ?_
 refine zd fun Z1 hZ1=>?_
 refine rc [1,2,3,6,12] fun K J=>?_
 obtain⟨r2,hr2,h⟩:=bind_some h;refine rnW 1 @za.eq_1 ?_;refine clN rfl rfl rfl ((yN.ok hr2).c _) ?_;refine rnW 1 @za.eq_1 ?_;refine nkN J ?_;refine yv rfl (fun hc3=>?_) (fun hc3=>?_)
 · rw[if_neg hc3] at h;have t4:=eq_false hc3;refine rgW [6,7] (aI @zb.eq_1 (aI @zf t4)) ?_;cases h;exact rtA
 rw[if_pos hc3] at h;have t5:=eq_true hc3;apply zm;apply hZ1
 refine rc [2,3,6,8,9] fun K J=>?_
 obtain⟨r6,hr6,h⟩:=yq h;refine rnW 2 (aI @za.eq_1 t5) ?_;refine clN rfl rfl rfl ((yw.ok hr6).c _) ?_;refine rnW 6 (aI @zh.eq_1 (aI @za.eq_1 t5)) ?_;refine nkN J ?_
 refine zd fun Z7 hZ7=>?_
 refine rgW [2,3,6,8,21] t5 ?_;refine zY (b:=(!r6.2)) rfl (fun hc8=>?_) (fun hc8=>?_)
 · rw[if_pos hc8] at h;refine rgW [6,7] (aI @zb.eq_1 (aI @zf t5)) ?_;cases h;exact rtA
 rw[Zc hc8] at h;apply zm;apply hZ7
 refine rc [6,7] fun K J=>?_
 obtain⟨r9,hr9,h⟩:=bind_some h;refine rnW 3 (aI @zh.eq_1 (aI @za.eq_1 t5)) ?_;refine clN rfl rfl rfl (ya.ev xz a0 r6.1 a2 1 r9 hr9 _) ?_;refine rnW 4 (aI @zb.eq_1 (aI @zh.eq_1 (aI @za.eq_1 (aI @zf t5)))) ?_;refine nkN J ?_;cases h;exact rtA
def Zs (a0:Int):zB:=
 (⟨[97],[(⟨[109],[(⟨[120],1,1,(⟨a0,[]⟩:YH)⟩:ZB)],([]:List Int)⟩:z8)],([]:List wv),[(⟨[99],[109],[109]⟩:wT)]⟩:zB)
theorem Zs.ok {a0 r}(h:Zs a0=r):ACalls qi 46 [.int .i64 a0] [] (fun r' _=>r'=.agg (za r)):=by
 refine zx (rs:=[.cell 2 31]) U Tryz.func46 rfl Tryz.ntmps46 rfl Tryz.call46 (by simp) ?_;refine zK [(0,.int .i64 a0)] ⟨rfl,trivial⟩ ?_;unfold Zs at h;refine O [0,2] ?_
 refine rg U [2] fun K J=>?_
 simp only[go_sem,qh,qd,qc,qe,qf,qg,reduceIte,reduceCtorEq,zV,yI,ug,qW,qU,true_and,uj,yB,zh,zr,za,xp];apply J
 cases h;exact rtA
def YV (a0:Int):zp:=
 (if a0=0 then (⟨3,0,[],([]:List zv),([]:List yC)⟩:zp) else (⟨3,0,[],[(⟨1,[(⟨1,a0,[],([]:List zv),([]:List yC)⟩:zp)]⟩:zv)],([]:List yC)⟩:zp))
theorem YV.ok {a0 r}(h:YV a0=r):ACalls qi 49 [.int .i64 a0] [] (fun r' _=>r'=.agg (zb r)):=by
 refine zx (rs:=[.cell 2 37]) U Tryz.func49 rfl Tryz.ntmps49 rfl Tryz.call49 (by simp) ?_;refine zK [(0,.int .i64 a0)] ⟨rfl,trivial⟩ ?_;unfold YV at h;refine O [0,2] ?_;refine rgW [0,2,3] (aI @zb.eq_1 @zf) ?_
 refine zd fun Z1 hZ1=>?_
 refine rgW [0,2,3,6] qF ?_;refine yv rfl (fun hc2=>?_) (fun hc2=>?_)
 · rw[if_neg hc2] at h;have t3:=eq_false hc2
   refine rgE U [2,3] fun K J=>?_
   simp only[go_sem,qh,qd,qc,qe,qf,qg,reduceIte,reduceCtorEq,zV,yI,ug,qW,qU,true_and,uj,zU,zb,yD,zf,t3];apply J
   apply hZ1;refine rgW [2] (aI @zb.eq_1 (aI @zf t3)) ?_;cases h;exact rtA
 rw[if_pos hc2] at h;have t4:=eq_true hc2;apply zm;apply hZ1;refine rgW [2] (aI @zb.eq_1 (aI @zf t4)) ?_;cases h;exact rtA
def Zf (a0:List GRow):Option (List GRow):=(vaV (qa a0) 176).bind fun _=>some a0
theorem Zf.ok (a0 r:List GRow)(h:Zf a0=some r):ACalls qi 83 [.ds true (qb yE a0) (qa a0) false] [] (fun r' _=>r'=.ds true (qb yE r) (qa r) false):=by
 obtain⟨_u,hu,h⟩:=bind_some h;have gu:=xF hu;cases h
 have f1:=fun nl tt σ=>Z0 E82.len a0 nl tt σ
 have f2:=yf E82.len a0;have f3:=XJ yE a0
 have fin:∀ σ id ver tt,ze.at σ id ver=some (qb yE a0)→tell σ [] true 12 (.os true 11 id ver 0 (qa a0) tt)=.ds true (qb yE a0) (qa a0) false:=by
  intro σ id ver tt hs
  simp only[ZC,wU,hs,qq,qn];rw[if_pos (by rw[f2]; exact qx _),← f2,uk,zw]
 refine zx (rs:=[.tmp 2]) U Tryz.func83 rfl Tryz.ntmps83 rfl Tryz.call83 (by simp) ?_;refine zK [(0,.ds true (qb yE a0) (qa a0) false)] ⟨rfl,trivial⟩ ?_;refine O [0] ?_
 refine zd fun Z1 hZ1=>?_
 refine rc [0,4] fun K J=>?_
 refine rnN 1 ?_
 refine Xe U rfl rfl rfl rfl rfl rfl fun b hnil=>?_
 have hb:b=true→a0=[]:=fun hb=>by
  have:=hnil hb;simp only[xg,go_sem,qh,qd,qc,qe,qf,qg,reduceIte,reduceCtorEq] at this;exact um this
 clear hnil
 refine nkN J ?_;cases b
 · refine zQ rfl ?_;apply zm;apply hZ1
   refine rg U [2] fun K J=>?_
   by_cases h0:qa a0=0
   · obtain rfl:=um h0;simp only[go_sem,qh,qd,qc,qe,qf,qg,reduceIte,reduceCtorEq,zV,yI,qW,qU,xj,yG,xg,y1,qO,qB,uy,ua,gt_iff_lt];apply J
     apply yg;simp only[ZA,yQ,y5,xN,exists_eq_left',go_sem,qh,qd,qc,qe,qf,qg,reduceIte,reduceCtorEq]
     first|rfl|(simp only[go_sem,qh,qd,qc,qe,qf,qg,reduceIte,reduceCtorEq,ZC,wU,qr]<;>rfl)
   have h1:=eq_false h0;simp only[go_sem,qh,qd,qc,qe,qf,qg,reduceIte,reduceCtorEq,zV,yI,qW,qU,xj,yG,xg,f1,f3,h1,gu,yW,gt_iff_lt,qr,qG,uy];apply J
   apply yg;simp only[ZA,yQ,y5,xN,exists_eq_left',go_sem,qh,qd,qc,qe,qf,qg,reduceIte,reduceCtorEq];exact fin _ _ _ _ (by simp only[ze.at_hd,ze.at_tl,if_true])
 obtain rfl:=hb rfl;refine zS rfl ?_;refine O [2] ?_;apply yg;simp only[ZA,yQ,y5,xN,exists_eq_left',go_sem,qh,qd,qc,qe,qf,qg,reduceIte,reduceCtorEq]
 first|rfl|(simp only[go_sem,qh,qd,qc,qe,qf,qg,reduceIte,reduceCtorEq,Xa,qr,qt,qv,qw]<;>rfl)
theorem Zf.ev (a0 r:List GRow)(h:Zf a0=some r)(σ:ze):ACalls qi 83 [.ds true (qb yE a0) (qa a0) false] σ (fun r' σ'=>r'=.ds true (qb yE r) (qa r) false∧σ'=σ):=
 (Zf.ok a0 r h).pureAt (by simp only[AV.canon,xl,xv,ZJ,YB,wE,qN,qo,uh,qm,uC]) (by simp only[AV.canon,xl,xv,ZJ,YB,wE,qN,qo,uh,qm,uC]) σ
def vcV (o:Option xX):ze:=match o with
 |none=>[]
 |some x=>[.cells 0 [.int .i64 x.fsize,.os true 2 1 (x.vorder) 0 (qa x.forder) false,.mp 2,.mp 3],.cells (x.vorder) (qb zl x.forder),.map (y0 zC zT x.freplies.l) (some (x.freplies.bs,x.freplies.ck)),.map (y0 (AV.int .i64) (AV.int .i64) x.flast.l) (some (x.flast.bs,x.flast.ck))]
def Xi (a0:Int):xX:=
 (⟨(if 1<(if 8<a0 then 8 else a0) then (if 8<a0 then 8 else a0) else 1),([]:List yK),0,(⟨[],[],0⟩:YJ yK y3),(⟨[],[],0⟩:YJ Int Int)⟩:xX)
theorem Xi.ok {a0 r}(h:Xi a0=r):ACalls qi 84 [.int .i64 a0] [] (fun r' σ'=>r'=.op 0 0 0∧σ'=[.cells 0 [.int .i64 r.fsize,.os true 2 1 (r.vorder) 0 (qa r.forder) false,.mp 2,.mp 3],.cells (r.vorder) (qb zl r.forder),.map (y0 zC zT r.freplies.l) (some (r.freplies.bs,r.freplies.ck)),.map (y0 (AV.int .i64) (AV.int .i64) r.flast.l) (some (r.flast.bs,r.flast.ck))]):=by
 refine acalls_ptr (rs:=[.tmp 2]) U Tryz.func84 rfl Tryz.ntmps84 rfl Tryz.call84 (by simp) ?_;refine zK [(0,.int .i64 a0)] ⟨rfl,trivial⟩ ?_;unfold Xi at h;refine O [0] ?_
 refine rg U [2] fun K J=>?_
 simp only[go_sem,qh,qd,qc,qe,qf,qg,reduceIte,reduceCtorEq,vcb,foldO,vcM,vcN];apply J
 refine Zw 2 1 2 rfl (by simp) rfl (L:=[(2,.op 2 0 0)]) (τ:=[.map (y0 zC zT []) (some ([],0)),.map (y0 (AV.int .i64) (AV.int .i64) []) (some ([],0)),.cells 0 [.int .i64 (if 1<(if 8<a0 then 8 else a0) then (if 8<a0 then 8 else a0) else 1),.os true 2 3 0 0 (qa ([]:List yK)) false,.mp 0,.mp 1],.cells 0 (qb zl ([]:List yK))]) .s ?_;refine xB (L:=[(2,.op 2 0 0)]) (τ:=[.map (y0 zC zT []) (some ([],0)),.map (y0 (AV.int .i64) (AV.int .i64) []) (some ([],0)),.cells 0 [.int .i64 (if 1<(if 8<a0 then 8 else a0) then (if 8<a0 then 8 else a0) else 1),.os true 2 3 0 0 (qa ([]:List yK)) false,.mp 0,.mp 1],.cells 0 (qb zl ([]:List yK))]) .s ?_;apply yg;obtain rfl:=h;simp only[ZA,yQ,y5,xN,exists_eq_left',Xw,Xx,vcV,go_sem,qh,qd,qc,qe,qf,qg,reduceIte,reduceCtorEq,zl];refine⟨[2,3,0,1],by decide,by simp,?_,?_⟩
 · first|rfl|(simp only[go_sem,qh,qd,qc,qe,qf,qg,reduceIte,reduceCtorEq,push_cast,if_true,qq,qn,qu,qr,qs,qt,qz,qo,qw,qv,qm,zw,zl]<;>rfl)
 first|rfl|(simp only[go_sem,qh,qd,qc,qe,qf,qg,reduceIte,reduceCtorEq,push_cast,if_true,qq,qn,qu,qr,qs,qt,qz,qo,qw,qv,qm,zw,zl]<;>rfl)
def Ze (a0:List Int):Option (List Int):=(vaV (qa a0) 8).bind fun _=>some a0
theorem Ze.ok (a0 r:List Int)(h:Ze a0=some r):ACalls qi 129 [.ds true (qb wJ a0) (qa a0) false] [] (fun r' _=>r'=.ds true (qb wJ r) (qa r) false):=by
 obtain⟨_u,hu,h⟩:=bind_some h;have gu:=xF hu;cases h
 have f1:=fun nl tt σ=>Z0 E26.len a0 nl tt σ
 have f2:=yf E26.len a0;have f3:=XJ wJ a0
 have fin:∀ σ id ver tt,ze.at σ id ver=some (qb wJ a0)→tell σ [] true 12 (.os true 1 id ver 0 (qa a0) tt)=.ds true (qb wJ a0) (qa a0) false:=by
  intro σ id ver tt hs
  simp only[ZC,wU,hs,qq,qn];rw[if_pos (by rw[f2]; exact qx _),← f2,uk,zw]
 refine zx (rs:=[.tmp 2]) U Tryz.func129 rfl Tryz.ntmps129 rfl Tryz.call129 (by simp) ?_;refine zK [(0,.ds true (qb wJ a0) (qa a0) false)] ⟨rfl,trivial⟩ ?_;refine O [0] ?_
 refine zd fun Z1 hZ1=>?_
 refine rc [0,4] fun K J=>?_
 refine rnN 1 ?_
 refine Xe U rfl rfl rfl rfl rfl rfl fun b hnil=>?_
 have hb:b=true→a0=[]:=fun hb=>by
  have:=hnil hb;simp only[xg,go_sem,qh,qd,qc,qe,qf,qg,reduceIte,reduceCtorEq] at this;exact um this
 clear hnil
 refine nkN J ?_;cases b
 · refine zQ rfl ?_;apply zm;apply hZ1
   refine rg U [2] fun K J=>?_
   by_cases h0:qa a0=0
   · obtain rfl:=um h0;simp only[go_sem,qh,qd,qc,qe,qf,qg,reduceIte,reduceCtorEq,zV,yI,qW,qU,xj,yG,xg,y1,qO,qB,uy,ua,gt_iff_lt];apply J
     apply yg;simp only[ZA,yQ,y5,xN,exists_eq_left',go_sem,qh,qd,qc,qe,qf,qg,reduceIte,reduceCtorEq]
     first|rfl|(simp only[go_sem,qh,qd,qc,qe,qf,qg,reduceIte,reduceCtorEq,ZC,wU,qr]<;>rfl)
   have h1:=eq_false h0;simp only[go_sem,qh,qd,qc,qe,qf,qg,reduceIte,reduceCtorEq,zV,yI,qW,qU,xj,yG,xg,f1,f3,h1,gu,yW,gt_iff_lt,qr,qG,uy];apply J
   apply yg;simp only[ZA,yQ,y5,xN,exists_eq_left',go_sem,qh,qd,qc,qe,qf,qg,reduceIte,reduceCtorEq];exact fin _ _ _ _ (by simp only[ze.at_hd,ze.at_tl,if_true])
 obtain rfl:=hb rfl;refine zS rfl ?_;refine O [2] ?_;apply yg;simp only[ZA,yQ,y5,xN,exists_eq_left',go_sem,qh,qd,qc,qe,qf,qg,reduceIte,reduceCtorEq]
 first|rfl|(simp only[go_sem,qh,qd,qc,qe,qf,qg,reduceIte,reduceCtorEq,Xa,qr,qt,qv,qw]<;>rfl)
theorem Ze.ev (a0 r:List Int)(h:Ze a0=some r)(σ:ze):ACalls qi 129 [.ds true (qb wJ a0) (qa a0) false] σ (fun r' σ'=>r'=.ds true (qb wJ r) (qa r) false∧σ'=σ):=
 (Ze.ok a0 r h).pureAt (by simp only[AV.canon,xl,xv,ZJ,YB,wE,qN,qo,uh,qm,uC]) (by simp only[AV.canon,xl,xv,ZJ,YB,wE,qN,qo,uh,qm,uC]) σ
def wH (a0:List zB):Option (List zB):=(vaV (qa a0) 88).bind fun _=>some a0
theorem wH.ok (a0 r:List zB)(h:wH a0=some r):ACalls qi 130 [.ds true (qb za a0) (qa a0) false] [] (fun r' _=>r'=.ds true (qb za r) (qa r) false):=by
 obtain⟨_u,hu,h⟩:=bind_some h;have gu:=xF hu;cases h
 have f1:=fun nl tt σ=>Z0 E33.len a0 nl tt σ
 have f2:=yf E33.len a0;have f3:=XJ za a0
 have fin:∀ σ id ver tt,ze.at σ id ver=some (qb za a0)→tell σ [] true 12 (.os true 4 id ver 0 (qa a0) tt)=.ds true (qb za a0) (qa a0) false:=by
  intro σ id ver tt hs
  simp only[ZC,wU,hs,qq,qn];rw[if_pos (by rw[f2]; exact qx _),← f2,uk,zw]
 refine zx (rs:=[.tmp 2]) U Tryz.func130 rfl Tryz.ntmps130 rfl Tryz.call130 (by simp) ?_;refine zK [(0,.ds true (qb za a0) (qa a0) false)] ⟨rfl,trivial⟩ ?_;refine O [0] ?_
 refine zd fun Z1 hZ1=>?_
 refine rc [0,4] fun K J=>?_
 refine rnN 1 ?_
 refine Xe U rfl rfl rfl rfl rfl rfl fun b hnil=>?_
 have hb:b=true→a0=[]:=fun hb=>by
  have:=hnil hb;simp only[xg,go_sem,qh,qd,qc,qe,qf,qg,reduceIte,reduceCtorEq] at this;exact um this
 clear hnil
 refine nkN J ?_;cases b
 · refine zQ rfl ?_;apply zm;apply hZ1
   refine rg U [2] fun K J=>?_
   by_cases h0:qa a0=0
   · obtain rfl:=um h0;simp only[go_sem,qh,qd,qc,qe,qf,qg,reduceIte,reduceCtorEq,zV,yI,qW,qU,xj,yG,xg,y1,qO,qB,uy,ua,gt_iff_lt];apply J
     apply yg;simp only[ZA,yQ,y5,xN,exists_eq_left',go_sem,qh,qd,qc,qe,qf,qg,reduceIte,reduceCtorEq]
     first|rfl|(simp only[go_sem,qh,qd,qc,qe,qf,qg,reduceIte,reduceCtorEq,ZC,wU,qr]<;>rfl)
   have h1:=eq_false h0;simp only[go_sem,qh,qd,qc,qe,qf,qg,reduceIte,reduceCtorEq,zV,yI,qW,qU,xj,yG,xg,f1,f3,h1,gu,yW,gt_iff_lt,qr,qG,uy];apply J
   apply yg;simp only[ZA,yQ,y5,xN,exists_eq_left',go_sem,qh,qd,qc,qe,qf,qg,reduceIte,reduceCtorEq];exact fin _ _ _ _ (by simp only[ze.at_hd,ze.at_tl,if_true])
 obtain rfl:=hb rfl;refine zS rfl ?_;refine O [2] ?_;apply yg;simp only[ZA,yQ,y5,xN,exists_eq_left',go_sem,qh,qd,qc,qe,qf,qg,reduceIte,reduceCtorEq]
 first|rfl|(simp only[go_sem,qh,qd,qc,qe,qf,qg,reduceIte,reduceCtorEq,Xa,qr,qt,qv,qw]<;>rfl)
theorem wH.ev (a0 r:List zB)(h:wH a0=some r)(σ:ze):ACalls qi 130 [.ds true (qb za a0) (qa a0) false] σ (fun r' σ'=>r'=.ds true (qb za r) (qa r) false∧σ'=σ):=
 (wH.ok a0 r h).pureAt (by simp only[AV.canon,xl,xv,ZJ,YB,wE,qN,qo,uh,qm,uC]) (by simp only[AV.canon,xl,xv,ZJ,YB,wE,qN,qo,uh,qm,uC]) σ
def ZS (a0:xy)(a1:List Int)(a2:List zB):Option xy:=
 (Ze a1).bind fun r1=>(wH a2).bind fun r2=>some (⟨a0.fself,r1,r2,a0.fnewest,a0.frows,a0.fcache,a0.feffects,a0.veffects⟩:xy)
theorem ZS.ok {a0 a1 a2 r}(h:ZS a0 a1 a2=some r):ACalls qi 85 [.op 0 0 0,.ds true (qb wJ a1) (qa a1) false,.ds true (qb za a2) (qa a2) false] [.cells 0 [.int .i64 a0.fself,.ds true (qb wJ a0.fnumbers) (qa a0.fnumbers) false,.ds true (qb za a0.fschemas) (qa a0.fschemas) false,.str a0.fnewest.fName,.ds true (qb zh a0.fnewest.fMessages) (qa a0.fnewest.fMessages) false,.ds true (qb zk a0.fnewest.fEnums) (qa a0.fnewest.fEnums) false,.ds true (qb zr a0.fnewest.fMethods) (qa a0.fnewest.fMethods) false,.ds true (qb yE a0.frows) (qa a0.frows) false,.op 1 0 0,.os true 8 5 (a0.veffects) 0 (qa a0.feffects) false],.cells 0 [.int .i64 a0.fcache.fsize,.os true 2 2 (a0.fcache.vorder) 0 (qa a0.fcache.forder) false,.mp 3,.mp 4],.cells (a0.fcache.vorder) (qb zl a0.fcache.forder),.map (y0 zC zT a0.fcache.freplies.l) (some (a0.fcache.freplies.bs,a0.fcache.freplies.ck)),.map (y0 (AV.int .i64) (AV.int .i64) a0.fcache.flast.l) (some (a0.fcache.flast.bs,a0.fcache.flast.ck)),.cells (a0.veffects) (qb zj a0.feffects)] (fun r' σ'=>r'=.tup []∧σ'=[.cells 0 [.int .i64 r.fself,.ds true (qb wJ r.fnumbers) (qa r.fnumbers) false,.ds true (qb za r.fschemas) (qa r.fschemas) false,.str r.fnewest.fName,.ds true (qb zh r.fnewest.fMessages) (qa r.fnewest.fMessages) false,.ds true (qb zk r.fnewest.fEnums) (qa r.fnewest.fEnums) false,.ds true (qb zr r.fnewest.fMethods) (qa r.fnewest.fMethods) false,.ds true (qb yE r.frows) (qa r.frows) false,.op 1 0 0,.os true 8 5 (r.veffects) 0 (qa r.feffects) false],.cells 0 [.int .i64 r.fcache.fsize,.os true 2 2 (r.fcache.vorder) 0 (qa r.fcache.forder) false,.mp 3,.mp 4],.cells (r.fcache.vorder) (qb zl r.fcache.forder),.map (y0 zC zT r.fcache.freplies.l) (some (r.fcache.freplies.bs,r.fcache.freplies.ck)),.map (y0 (AV.int .i64) (AV.int .i64) r.fcache.flast.l) (some (r.fcache.flast.bs,r.fcache.flast.ck)),.cells (r.veffects) (qb zj r.feffects)]):=by
 refine Zx [0,1,2,3,4,5] (rs:=[]) U Tryz.func85 rfl Tryz.ntmps85 rfl Tryz.call85 (by simp) rfl ?_;refine zK [(0,.op 0 0 0),(1,.ds true (qb wJ a1) (qa a1) false),(2,.ds true (qb za a2) (qa a2) false)] ⟨rfl,rfl,rfl,trivial⟩ ?_;unfold ZS at h
 refine rcE [] fun K J=>?_
 obtain⟨r1,hr1,h⟩:=bind_some h;refine rnN 3 ?_;refine clN rfl rfl rfl (Ze.ev a1 r1 hr1 _) ?_;obtain⟨r2,hr2,h⟩:=bind_some h;refine rnN 1 ?_;refine clN rfl rfl rfl (wH.ev a2 r2 hr2 _) ?_;refine rnW 6 @za.eq_1 ?_;refine nkN J ?_
 -- end
 cases h;simp only[ZA,yQ,y5,xN,exists_eq_left',go_sem,qh,qd,qc,qe,qf,qg,reduceIte,reduceCtorEq,zb,zl,za,zj,zf];refine⟨by decide,by simp,?_,?_⟩
 · first|rfl|(simp only[go_sem,qh,qd,qc,qe,qf,qg,reduceIte,reduceCtorEq,push_cast,if_true,qq,qn,qu,qr,qs,qt,qz,qo,qw,qv,qm,zw,zb,zl,za,zj,zf]<;>rfl)
 first|rfl|(simp only[go_sem,qh,qd,qc,qe,qf,qg,reduceIte,reduceCtorEq,push_cast,if_true,qq,qn,qu,qr,qs,qt,qz,qo,qw,qv,qm,zw,zb,zl,za,zj,zf]<;>rfl)
def wC (o:Option xy):ze:=match o with
 |none=>[]
 |some x=>[.cells 0 [.int .i64 x.fself,.ds true (qb wJ x.fnumbers) (qa x.fnumbers) false,.ds true (qb za x.fschemas) (qa x.fschemas) false,.str x.fnewest.fName,.ds true (qb zh x.fnewest.fMessages) (qa x.fnewest.fMessages) false,.ds true (qb zk x.fnewest.fEnums) (qa x.fnewest.fEnums) false,.ds true (qb zr x.fnewest.fMethods) (qa x.fnewest.fMethods) false,.ds true (qb yE x.frows) (qa x.frows) false,.op 1 0 0,.os true 8 5 (x.veffects) 0 (qa x.feffects) false],.cells 0 [.int .i64 x.fcache.fsize,.os true 2 2 (x.fcache.vorder) 0 (qa x.fcache.forder) false,.mp 3,.mp 4],.cells (x.fcache.vorder) (qb zl x.fcache.forder),.map (y0 zC zT x.fcache.freplies.l) (some (x.fcache.freplies.bs,x.fcache.freplies.ck)),.map (y0 (AV.int .i64) (AV.int .i64) x.fcache.flast.l) (some (x.fcache.flast.bs,x.fcache.flast.ck)),.cells (x.veffects) (qb zj x.feffects)]
def ZD (a0:Int)(a1:List Int)(a2:List zB)(a3:zB)(a4:List GRow)(a5:Int):Option (Option xy×Int):=
 (Zb a0 a1 a2).bind fun r2=>(if ((!r2)||(decide (32<(qa a4:Int))))=true then some true else (yN a3).bind fun r3=>some (!(decide (r3=0)))).bind fun c3=>(if c3=true then some ((none:Option xy),1) else (Zf a4).bind fun r6=>bnd (Xi a5) fun r7=>(ZS (⟨a0,([]:List Int),([]:List zB),a3,r6,r7,([]:List yc),0⟩:xy) a1 a2).bind fun r8=>some ((some r8),0))
theorem ZD.ok {a0 a1 a2 a3 a4 a5 r}(h:ZD a0 a1 a2 a3 a4 a5=some r):ACalls qi 45 [.int .i64 a0,.ds true (qb wJ a1) (qa a1) false,.ds true (qb za a2) (qa a2) false,.agg (za a3),.ds true (qb yE a4) (qa a4) false,.int .i64 a5] [] (fun r' σ'=>r'=.tup [newV r.1 0,.int .i64 r.2]∧σ'=wC r.1):=by
 refine acalls_ptr (rs:=[.tmp 12,.tmp 13]) U Tryz.func45 rfl Tryz.ntmps45 rfl Tryz.call45 (by simp) ?_;refine zK [(0,.int .i64 a0),(1,.ds true (qb wJ a1) (qa a1) false),(2,.ds true (qb za a2) (qa a2) false),(3,.agg (za a3)),(4,.ds true (qb yE a4) (qa a4) false),(5,.int .i64 a5)] ⟨rfl,rfl,rfl,rfl,rfl,rfl,trivial⟩ ?_;unfold ZD at h;refine rgW [0,1,2,4,5,9] @za.eq_1 ?_
 refine zd fun Z1 hZ1=>?_
 refine rc [0,1,2,4,5,9,29] fun K J=>?_
 obtain⟨r2,hr2,h⟩:=bind_some h;refine rnN 3 ?_;refine clN rfl rfl rfl ((Zb.ok hr2).c _) ?_;refine rnN 2 ?_;refine cut (b:=(!r2)) (hb:=boolP_eq _) 4 20 24 [0,1,2,4,5,9] ((!r2)||(decide (32<(qa a4:Int)))) qF rfl ?_;refine rnN 1 ?_;obtain⟨c3,hc3,h⟩:=bind_some h;refine xi 4 (fun L τ=>L=[(0,.int .i64 a0),(1,.ds true (qb wJ a1) (qa a1) false),(2,.ds true (qb za a2) (qa a2) false),(4,.ds true (qb yE a4) (qa a4) false),(5,.int .i64 a5),(9,.op 0 0 0),(29,.bool c3)]∧τ=([.cells 0 (za a3)]:ze)) ?_ ?_
 · refine wA (b:=((!r2)||(decide (32<(qa a4:Int))))) 25 rfl (fun hg25=>?_) (fun hg25=>?_)
   · rw[if_pos hg25] at hc3;refine rnW 4 @za.eq_1 ?_;cases hc3;refine zz ⟨rfl,_,_,⟨rfl,rfl⟩,.b hg25⟩
   rw[Zc hg25] at hc3;obtain⟨r4,hr4,hc3⟩:=bind_some hc3;refine rnW 1 @za.eq_1 ?_;refine clN rfl rfl rfl ((yN.ok hr4).c _) ?_;refine rnW 2 @za.eq_1 ?_;cases hc3;refine zz ⟨rfl,_,_,⟨rfl,rfl⟩,.b hg25⟩
 rintro _ _ ⟨rfl,rfl⟩;refine nkN J ?_;refine zY (b:=c3) rfl (fun hc5=>?_) (fun hc5=>?_)
 · rw[if_pos hc5] at h;refine O [12,13] ?_;apply yg;cases h;simp only[ZA,yQ,y5,xN,exists_eq_left',Xw,Xx,wC,go_sem,qh,qd,qc,qe,qf,qg,reduceIte,reduceCtorEq];refine⟨[],by decide,by simp,?_,?_⟩
   · first|rfl|(simp only[go_sem,qh,qd,qc,qe,qf,qg,reduceIte,reduceCtorEq,push_cast,if_true,qq,qn,qu,qr,qs,qt,qz,qo,qw,qv,qm,zw]<;>rfl)
   first|rfl|(simp only[go_sem,qh,qd,qc,qe,qf,qg,reduceIte,reduceCtorEq,push_cast,if_true,qq,qn,qu,qr,qs,qt,qz,qo,qw,qv,qm,zw]<;>rfl)
 rw[Zc hc5] at h;apply zm;apply hZ1;obtain⟨r6,hr6,h⟩:=bind_some h;obtain⟨r7,hr7,h⟩:=yq h
 refine rd [1,2,14] fun K J=>?_
 refine DW.start (T:=tab) [.any,.own 2 [],.any,.eff,.any,.eff,.any,.eff,.any] [(2,[])] ?_;refine DW.runN U 3 ?_;simp only[go_sem,qh,qd,qc,qe,qf,qg,reduceIte,reduceCtorEq,za];refine DW.call rfl rfl rfl (Zf.ev a4 r6 hr6 _) ?_;refine DW.runN U 1 ?_;simp only[go_sem,qh,qd,qc,qe,qf,qg,reduceIte,reduceCtorEq,za];refine DW.callS rfl rfl rfl (@id (ACalls qi 84 [.int .i64 a5] [.cells 0 (za a3)] (fun r' σ'=>r'=.op 1 0 0∧σ'=[.cells 0 (za a3),.cells 0 [.int .i64 r7.fsize,.os true 2 2 (r7.vorder) 0 (qa r7.forder) false,.mp 3,.mp 4],.cells (r7.vorder) (qb zl r7.forder),.map (y0 zC zT r7.freplies.l) (some (r7.freplies.bs,r7.freplies.ck)),.map (y0 (AV.int .i64) (AV.int .i64) r7.flast.l) (some (r7.flast.bs,r7.flast.ck))])) ((Xi.ok hr7).ix [])) (X0 (by simp only[go_sem,qh,qd,qc,qe,qf,qg,reduceIte,reduceCtorEq])) ?_;refine DW.runN U 3 ?_;simp only[go_sem,qh,qd,qc,qe,qf,qg,reduceIte,reduceCtorEq,za];refine DW.fin U (by decide +kernel) rfl ?_;simp only[zH,ye,yx,Zn,upd,qc,reduceIte,xh,xO];apply J
 refine Zw 5 9 8 rfl (by simp) rfl (L:=[(1,.ds true (qb wJ a1) (qa a1) false),(2,.ds true (qb za a2) (qa a2) false),(14,.op 5 0 0)]) (τ:=[.cells 0 (za a3),.cells 0 [.int .i64 r7.fsize,.os true 2 2 (r7.vorder) 0 (qa r7.forder) false,.mp 3,.mp 4],.cells (r7.vorder) (qb zl r7.forder),.map (y0 zC zT r7.freplies.l) (some (r7.freplies.bs,r7.freplies.ck)),.map (y0 (AV.int .i64) (AV.int .i64) r7.flast.l) (some (r7.flast.bs,r7.flast.ck)),.cells 0 [.int .i64 a0,.ds true [] 0 true,.ds true [] 0 true,.str a3.fName,.ds true (qb zh a3.fMessages) (qa a3.fMessages) false,.ds true (qb zk a3.fEnums) (qa a3.fEnums) false,.ds true (qb zr a3.fMethods) (qa a3.fMethods) false,.ds true (qb yE r6) (qa r6) false,.op 1 0 0,.os true 8 6 0 0 (qa ([]:List yc)) false],.cells 0 (qb zj ([]:List yc))]) .s ?_;refine xB (L:=[(1,.ds true (qb wJ a1) (qa a1) false),(2,.ds true (qb za a2) (qa a2) false),(14,.op 4 0 0)]) (τ:=[.cells 0 [.int .i64 r7.fsize,.os true 2 1 (r7.vorder) 0 (qa r7.forder) false,.mp 2,.mp 3],.cells (r7.vorder) (qb zl r7.forder),.map (y0 zC zT r7.freplies.l) (some (r7.freplies.bs,r7.freplies.ck)),.map (y0 (AV.int .i64) (AV.int .i64) r7.flast.l) (some (r7.flast.bs,r7.flast.ck)),.cells 0 [.int .i64 a0,.ds true (qb wJ ([]:List Int)) (qa ([]:List Int)) false,.ds true (qb za ([]:List zB)) (qa ([]:List zB)) false,.str a3.fName,.ds true (qb zh a3.fMessages) (qa a3.fMessages) false,.ds true (qb zk a3.fEnums) (qa a3.fEnums) false,.ds true (qb zr a3.fMethods) (qa a3.fMethods) false,.ds true (qb yE r6) (qa r6) false,.op 0 0 0,.os true 8 5 0 0 (qa ([]:List yc)) false],.cells 0 (qb zj ([]:List yc))]) (.t [1,2,3,4,5,6] true) ?_
 refine rc [14] fun K J=>?_
 obtain⟨r8,hr8,h⟩:=bind_some h;refine rnN 3 ?_;refine clN rfl rfl rfl (@id (ACalls qi 85 [.op 4 0 0,.ds true (qb wJ a1) (qa a1) false,.ds true (qb za a2) (qa a2) false] [.cells 0 [.int .i64 r7.fsize,.os true 2 1 (r7.vorder) 0 (qa r7.forder) false,.mp 2,.mp 3],.cells (r7.vorder) (qb zl r7.forder),.map (y0 zC zT r7.freplies.l) (some (r7.freplies.bs,r7.freplies.ck)),.map (y0 (AV.int .i64) (AV.int .i64) r7.flast.l) (some (r7.flast.bs,r7.flast.ck)),.cells 0 [.int .i64 a0,.ds true (qb wJ ([]:List Int)) (qa ([]:List Int)) false,.ds true (qb za ([]:List zB)) (qa ([]:List zB)) false,.str a3.fName,.ds true (qb zh a3.fMessages) (qa a3.fMessages) false,.ds true (qb zk a3.fEnums) (qa a3.fEnums) false,.ds true (qb zr a3.fMethods) (qa a3.fMethods) false,.ds true (qb yE r6) (qa r6) false,.op 0 0 0,.os true 8 5 0 0 (qa ([]:List yc)) false],.cells 0 (qb zj ([]:List yc))] (fun r' σ'=>r'=.tup []∧σ'=[.cells 0 [.int .i64 r8.fcache.fsize,.os true 2 1 (r8.fcache.vorder) 0 (qa r8.fcache.forder) false,.mp 2,.mp 3],.cells (r8.fcache.vorder) (qb zl r8.fcache.forder),.map (y0 zC zT r8.fcache.freplies.l) (some (r8.fcache.freplies.bs,r8.fcache.freplies.ck)),.map (y0 (AV.int .i64) (AV.int .i64) r8.fcache.flast.l) (some (r8.fcache.flast.bs,r8.fcache.flast.ck)),.cells 0 [.int .i64 r8.fself,.ds true (qb wJ r8.fnumbers) (qa r8.fnumbers) false,.ds true (qb za r8.fschemas) (qa r8.fschemas) false,.str r8.fnewest.fName,.ds true (qb zh r8.fnewest.fMessages) (qa r8.fnewest.fMessages) false,.ds true (qb zk r8.fnewest.fEnums) (qa r8.fnewest.fEnums) false,.ds true (qb zr r8.fnewest.fMethods) (qa r8.fnewest.fMethods) false,.ds true (qb yE r8.frows) (qa r8.frows) false,.op 0 0 0,.os true 8 5 (r8.veffects) 0 (qa r8.feffects) false],.cells (r8.veffects) (qb zj r8.feffects)])) ((ZS.ok hr8).ix [4,0,1,2,3,5])) ?_;refine nkN J ?_;refine O [12,13] ?_;apply yg;cases h;simp only[ZA,yQ,y5,xN,exists_eq_left',Xw,Xx,wC,go_sem,qh,qd,qc,qe,qf,qg,reduceIte,reduceCtorEq,zb,zl,za,zj,zf];refine⟨[4,0,1,2,3,5],by decide,by simp,?_,?_⟩
 · first|rfl|(simp only[go_sem,qh,qd,qc,qe,qf,qg,reduceIte,reduceCtorEq,push_cast,if_true,qq,qn,qu,qr,qs,qt,qz,qo,qw,qv,qm,zw,zb,zl,za,zj,zf]<;>rfl)
 first|rfl|(simp only[go_sem,qh,qd,qc,qe,qf,qg,reduceIte,reduceCtorEq,push_cast,if_true,qq,qn,qu,qr,qs,qt,qz,qo,qw,qv,qm,zw,zb,zl,za,zj,zf]<;>rfl)
theorem ZD.at {a0 a1 a2 a3 a4 a5 r}(h:ZD a0 a1 a2 a3 a4 a5=some r)(σ:ze):ACalls qi 45 [.int .i64 a0,.ds true (qb wJ a1) (qa a1) false,.ds true (qb za a2) (qa a2) false,.agg (za a3),.ds true (qb yE a4) (qa a4) false,.int .i64 a5] σ (fun r' σ'=>r'=.tup [newV r.1 σ.length,.int .i64 r.2]∧σ'=σ++(wC r.1).map (vdo fun i=>σ.length+i)):=
 ACalls.newAt (x:=fun n=>.tup [newV r.1 n,.int .i64 r.2]) (ZD.ok h) (fun n=>by obtain⟨o,e⟩:=r; cases o<;>simp only[Xx,Xw,AV.ren,vbx,qF]) (by simp only[push_cast]) σ
def xw (a0:xX)(a1:Int)(a2:Int):y3×Int:=
 (if ((XE a0.freplies.l (⟨a1,a2⟩:yK)).isSome)=true then ((XE a0.freplies.l (⟨a1,a2⟩:yK)).getD (⟨0,0,0,0,0,[],0,[]⟩:y3),2) else (if (((XE a0.flast.l a1).isSome)&&(decide (a2≤(XE a0.flast.l a1).getD 0)))=true then ((⟨0,0,0,0,0,[],0,[]⟩:y3),3) else ((⟨0,0,0,0,0,[],0,[]⟩:y3),1)))
theorem xw.ok {a0 a1 a2 r}(h:xw a0 a1 a2=r):ACalls qi 132 [.op 0 0 0,.int .i64 a1,.int .i64 a2] [.cells 0 [.int .i64 a0.fsize,.os true 2 1 (a0.vorder) 0 (qa a0.forder) false,.mp 2,.mp 3],.cells (a0.vorder) (qb zl a0.forder),.map (y0 zC zT a0.freplies.l) (some (a0.freplies.bs,a0.freplies.ck)),.map (y0 (AV.int .i64) (AV.int .i64) a0.flast.l) (some (a0.flast.bs,a0.flast.ck))] (fun r' σ'=>r'=.tup [.agg (zn r.1),.int .i64 r.2]∧σ'=[.cells 0 [.int .i64 a0.fsize,.os true 2 1 (a0.vorder) 0 (qa a0.forder) false,.mp 2,.mp 3],.cells (a0.vorder) (qb zl a0.forder),.map (y0 zC zT a0.freplies.l) (some (a0.freplies.bs,a0.freplies.ck)),.map (y0 (AV.int .i64) (AV.int .i64) a0.flast.l) (some (a0.flast.bs,a0.flast.ck))]):=by
 refine Zx [0,1,2,3] (rs:=[.cell 6 43,.tmp 7]) U Tryz.func132 rfl Tryz.ntmps132 rfl Tryz.call132 (by simp) rfl ?_;refine zK [(0,.op 0 0 0),(1,.int .i64 a1),(2,.int .i64 a2)] ⟨rfl,rfl,rfl,trivial⟩ ?_;unfold xw at h;refine O [0,1,2,6] ?_
 refine zd fun Z1 hZ1=>?_
 have f2:=fun (o0:Yq) (o1:Yq) (x:ze)=>vaL (T:=tab) (t:=205) (ek:=zC) (ev:=zT) (z:=(⟨0,0,0,0,0,[],0,[]⟩:y3)) KA268 rfl rfl rfl rfl a0.freplies.l (⟨a1,a2⟩:yK) true (o0::o1::.map (y0 zC zT a0.freplies.l) (some (a0.freplies.bs,a0.freplies.ck))::x) 2 rfl
 simp only[zC,zl,zT,zn] at f2
 refine rg U [0,1,2,6,8,9] fun K J=>?_
 simp only[go_sem,qh,qd,qc,qe,qf,qg,reduceIte,reduceCtorEq,Xv,uf,if_false,if_true,zl,zn,zC,zT,f2];apply J
 refine O [0,1,2,6,8,23] ?_;refine zY (b:=((XE a0.freplies.l (⟨a1,a2⟩:yK)).isSome)) rfl (fun hc3=>?_) (fun hc3=>?_)
 · rw[if_pos hc3] at h;refine rgW [6,7] @zn.eq_1 ?_;apply yg;obtain rfl:=h;simp only[ZA,yQ,y5,xN,exists_eq_left',go_sem,qh,qd,qc,qe,qf,qg,reduceIte,reduceCtorEq,zl,zn];refine⟨by decide,by simp,?_,?_⟩
   · first|rfl|(simp only[go_sem,qh,qd,qc,qe,qf,qg,reduceIte,reduceCtorEq,push_cast,if_true,qq,qn,qu,qr,qs,qt,qz,qo,qw,qv,qm,zw,zl,zn]<;>rfl)
   first|rfl|(simp only[go_sem,qh,qd,qc,qe,qf,qg,reduceIte,reduceCtorEq,push_cast,if_true,qq,qn,qu,qr,qs,qt,qz,qo,qw,qv,qm,zw,zl,zn]<;>rfl)
 rw[Zc hc3] at h;apply zm;apply hZ1
 refine zd fun Z4 hZ4=>?_
 have f5:=fun (o0:Yq) (o1:Yq) (o2:Yq) (x:ze)=>vaL (T:=tab) (t:=206) (ek:=(AV.int .i64)) (ev:=(AV.int .i64)) (z:=0) (vc8.int rfl rfl rfl rfl) rfl rfl rfl rfl a0.flast.l a1 true (o0::o1::o2::.map (y0 (AV.int .i64) (AV.int .i64) a0.flast.l) (some (a0.flast.bs,a0.flast.ck))::x) 3 rfl
 refine rg U [2,6,10,11] fun K J=>?_
 simp only[go_sem,qh,qd,qc,qe,qf,qg,reduceIte,reduceCtorEq,Xv,uf,if_false,if_true,f5];apply J
 refine rc [6,39] fun K J=>?_
 refine rnN 2 ?_;refine cut (b:=((XE a0.flast.l a1).isSome)) (hb:=boolP_eq _) 4 35 39 [6] (((XE a0.flast.l a1).isSome)&&(decide (a2≤(XE a0.flast.l a1).getD 0))) qF rfl ?_;refine nkN J ?_;refine zY (b:=(((XE a0.flast.l a1).isSome)&&(decide (a2≤(XE a0.flast.l a1).getD 0)))) rfl (fun hc6=>?_) (fun hc6=>?_)
 · rw[if_pos hc6] at h;refine rgW [6,7] @zn.eq_1 ?_;apply yg;obtain rfl:=h;simp only[ZA,yQ,y5,xN,exists_eq_left',go_sem,qh,qd,qc,qe,qf,qg,reduceIte,reduceCtorEq,zl,zn];refine⟨by decide,by simp,?_,?_⟩
   · first|rfl|(simp only[go_sem,qh,qd,qc,qe,qf,qg,reduceIte,reduceCtorEq,push_cast,if_true,qq,qn,qu,qr,qs,qt,qz,qo,qw,qv,qm,zw,zl,zn]<;>rfl)
   first|rfl|(simp only[go_sem,qh,qd,qc,qe,qf,qg,reduceIte,reduceCtorEq,push_cast,if_true,qq,qn,qu,qr,qs,qt,qz,qo,qw,qv,qm,zw,zl,zn]<;>rfl)
 rw[Zc hc6] at h;apply zm;apply hZ4;refine rgW [6,7] @zn.eq_1 ?_;apply yg;obtain rfl:=h;simp only[ZA,yQ,y5,xN,exists_eq_left',go_sem,qh,qd,qc,qe,qf,qg,reduceIte,reduceCtorEq,zl,zn];refine⟨by decide,by simp,?_,?_⟩
 · first|rfl|(simp only[go_sem,qh,qd,qc,qe,qf,qg,reduceIte,reduceCtorEq,push_cast,if_true,qq,qn,qu,qr,qs,qt,qz,qo,qw,qv,qm,zw,zl,zn]<;>rfl)
 first|rfl|(simp only[go_sem,qh,qd,qc,qe,qf,qg,reduceIte,reduceCtorEq,push_cast,if_true,qq,qn,qu,qr,qs,qt,qz,qo,qw,qv,qm,zw,zl,zn]<;>rfl)
end
section
set_option maxRecDepth 4000
set_option maxHeartbeats 1000000
open AM
def xZ.l4 (a1:Int):List Int→Int→Int
 |[],x2=>(-1)
 |y4::q4,x2=>(if a1=y4 then x2 else ((xZ.l4 a1 q4) (x2+1)))
def xZ (a0:List Int)(a1:Int):Int:=
 (xZ.l4 a1 a0 0)
theorem xZ.ok {a0 a1 r}(h:xZ a0 a1=r):ACalls qi 174 [.ds true (qb wJ a0) (qa a0) false,.int .i64 a1] [] (fun r' _=>r'=.int .i64 r):=by
 refine zx (rs:=[.tmp 4]) U Tryz.func174 rfl Tryz.ntmps174 rfl Tryz.call174 (by simp) ?_;refine zK [(0,.ds true (qb wJ a0) (qa a0) false),(1,.int .i64 a1)] ⟨rfl,rfl,trivial⟩ ?_;unfold xZ at h;refine O [0,1] ?_
 refine zd fun Z1 hZ1=>?_
 refine O [0,1,7,8] ?_;apply zq
 refine xr 0 fun hb4=>?_
 replace hb4:qa a0≤9223372036854775807:=hb4.1;refine yp (fun m L τ=>∃ (p4 q4:List Int) (x2:Int),m=qa q4∧L=[(0,.ds true (qb wJ a0) (qa a0) false),(1,.int .i64 a1),(7,.int .i64 (qa a0:Int)),(8,.int .i64 x2)]∧τ=([]:ze)∧a0=p4++q4∧x2=(qa p4:Int)∧xZ.l4 a1 q4 x2=r) _ ⟨[],a0,0,rfl,rfl,rfl,rfl,rfl,h⟩ .s ?_;rintro m L τ ⟨p4,q4,x2,rfl,rfl,rfl,hE4,hi4,h⟩
 rcases q4 with _|⟨y4,q4⟩
 · have hz4:=xM hE4 hi4;simp only[xZ.l4] at h;refine rgW [0,1,7,8,9] hz4 ?_
   refine zd fun Z5 hZ5=>?_
   refine zQ rfl ?_;apply yl;apply hZ1;refine rgW [4] hz4 ?_;cases h;exact rtA
 obtain⟨hz4,hw4,hx4,hE'4,hi'4⟩:=xq hE4 hi4 hb4;simp only[xZ.l4] at h;refine rgW [0,1,7,8,9] (aI hz4 hw4) ?_
 refine zd fun Z6 hZ6=>?_
 refine zS rfl ?_;apply zm;apply hZ6
 refine zd fun Z7 hZ7=>?_
 apply zq;refine rgW [0,1,5,7,8] (aI hz4 hw4) ?_;have f8:=E26.idxS hx4;have f9:=E26.fldS0 (f:=3) rfl rfl hx4
 refine rg U [0,1,5,7,8,16] fun K J=>?_
 simp only[go_sem,qh,qd,qc,qe,qf,qg,reduceIte,reduceCtorEq,Zp,wJ,hz4,hw4,f8,f9];apply J
 refine yv rfl (fun hc10=>?_) (fun hc10=>?_)
 · rw[if_pos hc10] at h;have t11:=eq_true hc10;refine rgW [4] (aI hz4 (aI hw4 t11)) ?_;cases h;exact rtA
 rw[if_neg hc10] at h;have t12:=eq_false hc10;apply zm;apply hZ7
 refine rgE U [0,1,7,8] fun K J=>?_
 simp only[go_sem,qh,qd,qc,qe,qf,qg,reduceIte,reduceCtorEq,Zp,hz4,hw4,t12];apply J
 exact⟨_,_,_,qK q4.length,⟨p4++[y4],q4,x2+1,rfl,rfl,rfl,hE'4,hi'4,h⟩,.s⟩
def wI (a0:xy)(a1:y3):Option (YQ×Int):=
 bnd (xZ a0.fnumbers a1.fVersion) fun r1=>(if r1<0 then some ((⟨(⟨[],([]:List z8),([]:List wv),([]:List wT)⟩:zB),(⟨[],[],[]⟩:wT),(⟨[],[],[]⟩:wT),(⟨0,0,[],([]:List zv),([]:List yC)⟩:zp)⟩:YQ),18) else (YI a0.fschemas (IntKind.i64.wrap ((qa a0.fschemas:Int)-1))).bind fun y6=>(YI a0.fschemas r1).bind fun y9=>bnd (wn y9 a1.fMethod) fun r12=>bnd (wn y6 a1.fMethod) fun r13=>(if ((!r12.2)||(!r13.2))=true then some ((⟨(⟨[],([]:List z8),([]:List wv),([]:List wT)⟩:zB),(⟨[],[],[]⟩:wT),(⟨[],[],[]⟩:wT),(⟨0,0,[],([]:List zv),([]:List yC)⟩:zp)⟩:YQ),21) else (grd (qa a1.fBody≤9223372036854775807)).bind fun _u16=>(Zm y9 r12.1.fIn a1.fBody).bind fun r18=>(if r18.2=0 then (xD y9 y6 r12.1.fIn r13.1.fIn).bind fun r23=>(wP r23.1 r18.1).bind fun r24=>some ((⟨y9,r13.1,r12.1,r24.1⟩:YQ),r24.2) else some ((⟨(⟨[],([]:List z8),([]:List wv),([]:List wT)⟩:zB),(⟨[],[],[]⟩:wT),(⟨[],[],[]⟩:wT),(⟨0,0,[],([]:List zv),([]:List yC)⟩:zp)⟩:YQ),r18.2))))
theorem wI.ok {a0 a1 r}(h:wI a0 a1=some r):ACalls qi 133 [.op 0 0 0,.agg (zn a1)] [.cells 0 [.int .i64 a0.fself,.ds true (qb wJ a0.fnumbers) (qa a0.fnumbers) false,.ds true (qb za a0.fschemas) (qa a0.fschemas) false,.str a0.fnewest.fName,.ds true (qb zh a0.fnewest.fMessages) (qa a0.fnewest.fMessages) false,.ds true (qb zk a0.fnewest.fEnums) (qa a0.fnewest.fEnums) false,.ds true (qb zr a0.fnewest.fMethods) (qa a0.fnewest.fMethods) false,.ds true (qb yE a0.frows) (qa a0.frows) false,.op 1 0 0,.os true 8 5 (a0.veffects) 0 (qa a0.feffects) false],.cells 0 [.int .i64 a0.fcache.fsize,.os true 2 2 (a0.fcache.vorder) 0 (qa a0.fcache.forder) false,.mp 3,.mp 4],.cells (a0.fcache.vorder) (qb zl a0.fcache.forder),.map (y0 zC zT a0.fcache.freplies.l) (some (a0.fcache.freplies.bs,a0.fcache.freplies.ck)),.map (y0 (AV.int .i64) (AV.int .i64) a0.fcache.flast.l) (some (a0.fcache.flast.bs,a0.fcache.flast.ck)),.cells (a0.veffects) (qb zj a0.feffects)] (fun r' σ'=>r'=.tup [.agg (yn r.1),.int .i64 r.2]∧σ'=[.cells 0 [.int .i64 a0.fself,.ds true (qb wJ a0.fnumbers) (qa a0.fnumbers) false,.ds true (qb za a0.fschemas) (qa a0.fschemas) false,.str a0.fnewest.fName,.ds true (qb zh a0.fnewest.fMessages) (qa a0.fnewest.fMessages) false,.ds true (qb zk a0.fnewest.fEnums) (qa a0.fnewest.fEnums) false,.ds true (qb zr a0.fnewest.fMethods) (qa a0.fnewest.fMethods) false,.ds true (qb yE a0.frows) (qa a0.frows) false,.op 1 0 0,.os true 8 5 (a0.veffects) 0 (qa a0.feffects) false],.cells 0 [.int .i64 a0.fcache.fsize,.os true 2 2 (a0.fcache.vorder) 0 (qa a0.fcache.forder) false,.mp 3,.mp 4],.cells (a0.fcache.vorder) (qb zl a0.fcache.forder),.map (y0 zC zT a0.fcache.freplies.l) (some (a0.fcache.freplies.bs,a0.fcache.freplies.ck)),.map (y0 (AV.int .i64) (AV.int .i64) a0.fcache.flast.l) (some (a0.fcache.flast.bs,a0.fcache.flast.ck)),.cells (a0.veffects) (qb zj a0.feffects)]):=by
 refine Zx [0,1,2,3,4,5] (rs:=[.cell 4 216,.tmp 5]) U Tryz.func133 rfl Tryz.ntmps133 rfl Tryz.call133 (by simp) rfl ?_;refine zK [(0,.op 0 0 0),(1,.agg (zn a1))] ⟨rfl,rfl,trivial⟩ ?_;unfold wI at h;refine rgW [0,3,4] @zn.eq_1 ?_;obtain⟨r1,hr1,h⟩:=yq h
 refine rd [0,3,4,6] fun K J=>?_
 refine DW.start (T:=tab) [.any,.any,.any,.at [],.any,.at [],.eff,.any] [] ?_;refine DW.runN U 6 ?_;simp only[go_sem,qh,qd,qc,qe,qf,qg,reduceIte,reduceCtorEq];refine DW.call rfl rfl rfl ((xZ.ok hr1).c _) ?_;refine DW.runN U 1 ?_;simp only[go_sem,qh,qd,qc,qe,qf,qg,reduceIte,reduceCtorEq];refine DW.fin U (by decide +kernel) rfl ?_;simp only[zH,ye,yx,Zn,upd,qc,reduceIte,xh,xO];apply J
 refine zd fun Z2 hZ2=>?_
 refine rgW [0,3,4,6,23] qF ?_;refine yv rfl (fun hc3=>?_) (fun hc3=>?_)
 · rw[if_pos hc3] at h;have t4:=eq_true hc3;refine rgW [4,5] (aI @zb.eq_1 (aI @zr.eq_1 (aI @za.eq_1 (aI @yn.eq_1 (aI @zf t4))))) ?_;apply yg;cases h;simp only[ZA,yQ,y5,xN,exists_eq_left',go_sem,qh,qd,qc,qe,qf,qg,reduceIte,reduceCtorEq,zb,zl,zr,za,zj,yn,zf];refine⟨by decide,by simp,?_,?_⟩
   · first|rfl|(simp only[go_sem,qh,qd,qc,qe,qf,qg,reduceIte,reduceCtorEq,push_cast,if_true,qq,qn,qu,qr,qs,qt,qz,qo,qw,qv,qm,zw,zb,zl,zr,za,zj,yn,zf]<;>rfl)
   first|rfl|(simp only[go_sem,qh,qd,qc,qe,qf,qg,reduceIte,reduceCtorEq,push_cast,if_true,qq,qn,qu,qr,qs,qt,qz,qo,qw,qv,qm,zw,zb,zl,zr,za,zj,yn,zf]<;>rfl)
 rw[if_neg hc3] at h;have t5:=eq_false hc3;apply zm;apply hZ2;obtain⟨y6,hy6,h⟩:=bind_some h;have f7:=E33.idxS hy6;have f8:=E33.loadS rfl rfl hy6
 refine rd [0,3,4,6,7] fun K J=>?_
 refine DW.start (T:=tab) [.any,.any,.any,.own 1 [],.any,.any,.any,.own 1 [],.own 1 [],.any,.any,.own 1 [],.eff,.eff] [(1,[])] ?_;refine DW.runN U 8 ?_;simp only[go_sem,qh,qd,qc,qe,qf,qg,reduceIte,reduceCtorEq,za,t5,f7,f8];refine DW.runN U 6 ?_;simp only[go_sem,qh,qd,qc,qe,qf,qg,reduceIte,reduceCtorEq,Zp,za,t5,f7,f8];refine DW.fin U (by decide +kernel) rfl ?_;simp only[zH,ye,yx,Zn,upd,qc,reduceIte,xh,xO];apply J
 obtain⟨y9,hy9,h⟩:=bind_some h;have f10:=E33.idxS hy9;have f11:=E33.loadS rfl rfl hy9;refine rgW [3,4,7,8] (aI @zb.eq_1 (aI @zr.eq_1 (aI @za.eq_1 (aI @yn.eq_1 (aI @zf (aI t5 (aI f10 f11))))))) ?_;refine rgW [3,4,7,8] t5 ?_
 refine rc [3,4,7,8,9] fun K J=>?_
 obtain⟨r12,hr12,h⟩:=yq h;refine rnW 4 (aI @za.eq_1 t5) ?_;refine clN rfl rfl rfl ((wn.ok hr12).c _) ?_;refine rnW 6 (aI @zb.eq_1 (aI @zr.eq_1 (aI @za.eq_1 (aI @yn.eq_1 (aI @zf t5))))) ?_;refine nkN J ?_
 refine rc [3,4,7,8,9,10] fun K J=>?_
 obtain⟨r13,hr13,h⟩:=yq h;refine rnW 3 (aI @za.eq_1 t5) ?_;refine clN rfl rfl rfl ((wn.ok hr13).c _) ?_;refine rnW 6 (aI @zb.eq_1 (aI @zr.eq_1 (aI @za.eq_1 (aI @yn.eq_1 (aI @zf t5))))) ?_;refine nkN J ?_
 refine zd fun Z14 hZ14=>?_
 refine rc [3,4,7,8,67] fun K J=>?_
 refine rnW 3 t5 ?_;refine cut (b:=(!r12.2)) (hb:=boolP_eq _) 3 64 67 [3,4,7,8] ((!r12.2)||(!r13.2)) t5 rfl ?_;refine nkN J ?_;refine zY (b:=((!r12.2)||(!r13.2))) rfl (fun hc15=>?_) (fun hc15=>?_)
 · rw[if_pos hc15] at h;refine rgW [4,5] (aI @zb.eq_1 (aI @zr.eq_1 (aI @za.eq_1 (aI @yn.eq_1 (aI @zf t5))))) ?_;apply yg;cases h;simp only[ZA,yQ,y5,xN,exists_eq_left',go_sem,qh,qd,qc,qe,qf,qg,reduceIte,reduceCtorEq,zb,zl,zr,za,zj,yn,zf];refine⟨by decide,by simp,?_,?_⟩
   · first|rfl|(simp only[go_sem,qh,qd,qc,qe,qf,qg,reduceIte,reduceCtorEq,push_cast,if_true,qq,qn,qu,qr,qs,qt,qz,qo,qw,qv,qm,zw,zb,zl,zr,za,zj,yn,zf]<;>rfl)
   first|rfl|(simp only[go_sem,qh,qd,qc,qe,qf,qg,reduceIte,reduceCtorEq,push_cast,if_true,qq,qn,qu,qr,qs,qt,qz,qo,qw,qv,qm,zw,zb,zl,zr,za,zj,yn,zf]<;>rfl)
 rw[Zc hc15] at h;apply zm;apply hZ14
 refine rc [4,7,8,11,12] fun K J=>?_
 obtain⟨_u16,hu16,h⟩:=bind_some h;have gu16:=ZP hu16;have gu16t:=eq_true gu16;have f17:=conv_s2b (T:=tab) (src:=9) (dst:=48) rfl rfl rfl rfl rfl rfl (ZP hu16);obtain⟨r18,hr18,h⟩:=bind_some h;refine xE U 8 ?_;simp only[go_sem,qh,qd,qc,qe,qf,qg,reduceIte,reduceCtorEq,za,t5,gu16t,f17];refine vbc (L:=[(4,.op 6 0 0),(7,.op 7 0 0),(8,.op 8 0 0),(71,.agg (za y9)),(74,.str r12.1.fIn),(77,.ds true (qb Ym a1.fBody) (qa a1.fBody) false)]) (τ:=[.cells 0 [.int .i64 a0.fself,.ds true (qb wJ a0.fnumbers) (qa a0.fnumbers) false,.ds true (qb za a0.fschemas) (qa a0.fschemas) false,.str a0.fnewest.fName,.ds true (qb zh a0.fnewest.fMessages) (qa a0.fnewest.fMessages) false,.ds true (qb zk a0.fnewest.fEnums) (qa a0.fnewest.fEnums) false,.ds true (qb zr a0.fnewest.fMethods) (qa a0.fnewest.fMethods) false,.ds true (qb yE a0.frows) (qa a0.frows) false,.op 1 0 0,.os true 8 5 (a0.veffects) 0 (qa a0.feffects) false],.cells 0 [.int .i64 a0.fcache.fsize,.os true 2 2 (a0.fcache.vorder) 0 (qa a0.fcache.forder) false,.mp 3,.mp 4],.cells (a0.fcache.vorder) (qb zl a0.fcache.forder),.map (y0 zC zT a0.fcache.freplies.l) (some (a0.fcache.freplies.bs,a0.fcache.freplies.ck)),.map (y0 (AV.int .i64) (AV.int .i64) a0.fcache.flast.l) (some (a0.fcache.flast.bs,a0.fcache.flast.ck)),.cells (a0.veffects) (qb zj a0.feffects),.cells 0 [.str [],.ds true [] 0 true,.ds true [] 0 true,.ds true [] 0 true,.str [],.str [],.str [],.str [],.str [],.str [],.int .i64 0,.int .i64 0,.str [],.ds true [] 0 true,.ds true [] 0 true],.cells 0 (za y6),.cells 0 [.str y9.fName,.ds true (qb zh y9.fMessages) (qa y9.fMessages) false,.ds true (qb zk y9.fEnums) (qa y9.fEnums) false,.ds true (qb zr y9.fMethods) (qa y9.fMethods) false,.str r13.1.fName,.str r13.1.fIn,.str r13.1.fOut,.str r12.1.fName,.str r12.1.fIn,.str r12.1.fOut,.int .i64 0,.int .i64 0,.str [],.ds true [] 0 true,.ds true [] 0 true]]) (.t [0,1,2,3,4,5,7,8,9] false) ?_;refine clN rfl rfl rfl ((Zm.ok hr18).c _) ?_;refine rnW 6 (aI @zb.eq_1 (aI @za.eq_1 (aI @zf t5))) ?_;refine nkN J ?_
 refine zd fun Z19 hZ19=>?_
 refine rgW [4,7,8,11,12,82] t5 ?_;refine yv rfl (fun hc20=>?_) (fun hc20=>?_)
 · rw[if_neg hc20] at h;have t21:=eq_false hc20;refine rgW [4,5] (aI @zb.eq_1 (aI @zr.eq_1 (aI @za.eq_1 (aI @yn.eq_1 (aI @zf (aI t5 t21)))))) ?_;apply yg;cases h;simp only[ZA,yQ,y5,xN,exists_eq_left',go_sem,qh,qd,qc,qe,qf,qg,reduceIte,reduceCtorEq,zb,zl,zr,za,zj,yn,zf];refine⟨by decide,by simp,?_,?_⟩
   · first|rfl|(simp only[go_sem,qh,qd,qc,qe,qf,qg,reduceIte,reduceCtorEq,push_cast,if_true,qq,qn,qu,qr,qs,qt,qz,qo,qw,qv,qm,zw,zb,zl,zr,za,zj,yn,zf]<;>rfl)
   first|rfl|(simp only[go_sem,qh,qd,qc,qe,qf,qg,reduceIte,reduceCtorEq,push_cast,if_true,qq,qn,qu,qr,qs,qt,qz,qo,qw,qv,qm,zw,zb,zl,zr,za,zj,yn,zf]<;>rfl)
 rw[if_pos hc20] at h;have t22:=eq_true hc20;apply zm;apply hZ19
 refine rc [4,8,11,13] fun K J=>?_
 obtain⟨r23,hr23,h⟩:=bind_some h;refine rnW 9 (aI @za.eq_1 (aI t5 t22)) ?_;refine clN rfl rfl rfl ((xD.ok hr23).c _) ?_;refine rnW 6 (aI @zt.eq_1 (aI @za.eq_1 (aI t5 t22))) ?_;refine nkN J ?_
 refine rc [4,8,12] fun K J=>?_
 obtain⟨r24,hr24,h⟩:=bind_some h;refine rnW 2 (aI @zb.eq_1 (aI @zt.eq_1 (aI @zf (aI t5 t22)))) ?_;refine clN rfl rfl rfl ((wP.ok hr24).c _) ?_;refine rnW 6 (aI @zb.eq_1 (aI @zt.eq_1 (aI @zr.eq_1 (aI @za.eq_1 (aI @yn.eq_1 (aI @zf (aI t5 t22))))))) ?_;refine nkN J ?_;refine rgW [4,5] (aI @zb.eq_1 (aI @zr.eq_1 (aI @za.eq_1 (aI @yn.eq_1 (aI @zf (aI t5 t22)))))) ?_;apply yg;cases h;simp only[ZA,yQ,y5,xN,exists_eq_left',go_sem,qh,qd,qc,qe,qf,qg,reduceIte,reduceCtorEq,zb,zl,zr,za,zj,yn,zf];refine⟨by decide,by simp,?_,?_⟩
 · first|rfl|(simp only[go_sem,qh,qd,qc,qe,qf,qg,reduceIte,reduceCtorEq,push_cast,if_true,qq,qn,qu,qr,qs,qt,qz,qo,qw,qv,qm,zw,zb,zl,zr,za,zj,yn,zf]<;>rfl)
 first|rfl|(simp only[go_sem,qh,qd,qc,qe,qf,qg,reduceIte,reduceCtorEq,push_cast,if_true,qq,qn,qu,qr,qs,qt,qz,qo,qw,qv,qm,zw,zb,zl,zr,za,zj,yn,zf]<;>rfl)
def wu.j5 (a1:zp):Option Bool:=
 some (decide (a1.fKind=1))
def wu.j18 (a0:YH)(a1:zp)(x17:Bool):Option Bool:=
 (if x17=true then bnd (if a1.fKind=1 then bnd (wR a0 a1.fN) fun r21=>r21 else false) fun c21=>some c21 else (if a0.fKind=4 then (if a1.fKind=2 then (wh a1.fS).bind fun r29=>some r29 else some false).bind fun c29=>some c29 else (if a0.fKind=5 then some (decide (a1.fKind=2)) else some (decide (a1.fKind=3)))))
def wu (a0:YH)(a1:zp):Option Bool:=
 (if a0.fKind=1 then (wu.j5 a1) else (if a0.fKind=2 then (wu.j5 a1) else (if a0.fKind=3 then (wu.j18 a0 a1 (decide (a0.fKind=3))) else (wu.j18 a0 a1 (decide (a0.fKind=6))))))
theorem wu.ok {a0 a1 r}(h:wu a0 a1=some r):ACalls qi 207 [.agg (xp a0),.agg (zb a1)] [] (fun r' _=>r'=.bool r):=by
 refine zx (rs:=[.tmp 4]) U Tryz.func207 rfl Tryz.ntmps207 rfl Tryz.call207 (by simp) ?_;refine zK [(0,.agg (xp a0)),(1,.agg (zb a1))] ⟨rfl,rfl,trivial⟩ ?_;unfold wu at h;refine rgW [2,3] (aI @zb.eq_1 (aI @zf @xp.eq_1)) ?_
 refine zd fun Z1 hZ1=>?_
 refine O [2,3,6] ?_;apply zq
 refine zd fun Z2 hZ2=>?_
 apply zq
 refine zd fun Z3 hZ3=>?_
 apply zq
 refine zd fun Z4 hZ4=>?_
 apply zq;refine xV (fun L τ=>L=[(3,.op 0 0 0)]∧τ=([.cells 0 (zb a1)]:ze)∧wu.j5 a1=some r) ?_ ?_
 · apply zq;apply zq
   refine zd fun Z7 hZ7=>?_
   refine zd fun Z8 hZ8=>?_
   refine rgW [2,3,6,7] qF ?_;refine yv rfl (fun hc9=>?_) (fun hc9=>?_)
   · rw[if_pos hc9] at h;have t10:=eq_true hc9;apply yl;exact⟨_,_,⟨rfl,rfl,h⟩,(.t [1] false)⟩
   rw[if_neg hc9] at h;have t11:=eq_false hc9;apply zm;apply hZ8
   refine zd fun Z12 hZ12=>?_
   refine rgW [2,3,6,9] t11 ?_;refine yv rfl (fun hc13=>?_) (fun hc13=>?_)
   · rw[if_pos hc13] at h;have t14:=eq_true hc13;apply yl;exact⟨_,_,⟨rfl,rfl,h⟩,(.t [1] false)⟩
   rw[if_neg hc13] at h;have t15:=eq_false hc13;apply zm;apply hZ12
   refine zd fun Z16 hZ16=>?_
   refine xV (fun L τ=>∃ (x17:Bool),L=[(2,.op 0 0 0),(3,.op 1 0 0),(6,.int .i64 a0.fKind),(11,.bool x17)]∧τ=([.cells 0 [.int .i64 a0.fKind,.str a0.fName],.cells 0 (zb a1)]:ze)∧wu.j18 a0 a1 x17=some r) ?_ ?_
   · refine rgW [2,3,6,11] (aI t11 t15) ?_;refine yv rfl (fun hc38=>?_) (fun hc38=>?_)
     · rw[if_pos hc38] at h;have t39:=eq_true hc38;apply zm;exact⟨_,_,⟨decide (a0.fKind=3),rfl,rfl,h⟩,.s⟩
     rw[if_neg hc38] at h;have t40:=eq_false hc38
     refine rgE U [2,3,6,11] fun K J=>?_
     simp only[go_sem,qh,qd,qc,qe,qf,qg,reduceIte,reduceCtorEq,Zp,t11,t15,t40];apply J
     exact⟨_,_,⟨decide (a0.fKind=6),rfl,rfl,h⟩,.s⟩
   rintro _ _ ⟨x17,rfl,rfl,h⟩;unfold wu.j18 at h;refine zY (b:=x17) rfl (fun hc19=>?_) (fun hc19=>?_)
   · rw[if_pos hc19] at h;apply yl;apply hZ4
     refine zd fun Z20 hZ20=>?_
     refine rc [4] fun K J=>?_
     refine rnW 4 (aI t11 t15) ?_;obtain⟨c21,hc21,h⟩:=yq h;refine xi 5 (fun L τ=>L=[(29,.bool c21)]∧τ=([.cells 0 [.int .i64 a0.fKind,.str a0.fName],.cells 0 (zb a1)]:ze)) ?_ ?_
     · refine Yw 24 rfl (fun hg24=>?_) (fun hg24=>?_)
       · have t22:=eq_true hg24;rw[if_pos hg24] at hc21;obtain⟨r23,hr23,hc21⟩:=yq hc21;refine rnW 3 (aI @xp.eq_1 (aI t11 t15)) ?_;refine clN rfl rfl rfl ((wR.ok hr23).c _) ?_;refine rnW 1 (aI @xp.eq_1 (aI t11 t15)) ?_;subst hc21;refine zz ⟨rfl,_,_,⟨rfl,rfl⟩,.p t22⟩
       have t24:=eq_false hg24;rw[if_neg hg24] at hc21;refine rnW 5 (aI @xp.eq_1 (aI t11 t15)) ?_;subst hc21;refine zz ⟨rfl,_,_,⟨rfl,rfl⟩,.p t24⟩
     rintro _ _ ⟨rfl,rfl⟩;refine rnW 1 (aI @xp.eq_1 (aI t11 t15)) ?_;refine nkN J ?_;cases h;exact rtA
   rw[Zc hc19] at h;apply zm;apply hZ16
   refine zd fun Z25 hZ25=>?_
   refine rgW [3,6,14] (aI t11 t15) ?_;refine yv rfl (fun hc26=>?_) (fun hc26=>?_)
   · rw[if_pos hc26] at h;have t27:=eq_true hc26;apply yl;apply hZ3
     refine zd fun Z28 hZ28=>?_
     refine rc [4] fun K J=>?_
     refine rnW 4 (aI t11 (aI t15 t27)) ?_;obtain⟨c29,hc29,h⟩:=bind_some h;refine xi 4 (fun L τ=>L=[(37,.bool c29)]∧τ=([.cells 0 [.int .i64 a0.fKind,.str a0.fName],.cells 0 (zb a1)]:ze)) ?_ ?_
     · refine Yw 33 rfl (fun hg33=>?_) (fun hg33=>?_)
       · have t30:=eq_true hg33;rw[if_pos hg33] at hc29;obtain⟨r31,hr31,hc29⟩:=bind_some hc29;refine rnW 2 (aI t11 (aI t15 t27)) ?_;refine clN rfl rfl rfl ((wh.ok hr31).c _) ?_;refine rnW 1 (aI t11 (aI t15 t27)) ?_;cases hc29;refine zz ⟨rfl,_,_,⟨rfl,rfl⟩,.p t30⟩
       have t32:=eq_false hg33;rw[if_neg hg33] at hc29;refine rnW 4 (aI t11 (aI t15 t27)) ?_;cases hc29;refine zz ⟨rfl,_,_,⟨rfl,rfl⟩,.p t32⟩
     rintro _ _ ⟨rfl,rfl⟩;refine rnW 1 (aI t11 (aI t15 t27)) ?_;refine nkN J ?_;cases h;exact rtA
   rw[if_neg hc26] at h;have t33:=eq_false hc26;apply zm;apply hZ25;refine rgW [3,16] (aI t11 (aI t15 t33)) ?_;refine yv rfl (fun hc34=>?_) (fun hc34=>?_)
   · rw[if_pos hc34] at h;have t35:=eq_true hc34;apply yl;apply hZ2
     refine zd fun Z36 hZ36=>?_
     refine rgW [4] (aI t11 (aI t15 (aI t33 t35))) ?_;cases h;exact rtA
   rw[if_neg hc34] at h;have t37:=eq_false hc34;apply zm;apply hZ7;apply yl;apply hZ1;refine rgW [4] (aI t11 (aI t15 (aI t33 t37))) ?_;cases h;exact rtA
 rintro _ _ ⟨rfl,rfl,h⟩;unfold wu.j5 at h
 refine zd fun Z6 hZ6=>?_
 refine rgW [4] qF ?_;cases h;exact rtA
def yi.j29 (x11:Int)(l9:List zp)(rec15:Int→List zp→Option (List zp×Bool))(m3_28:zp):Option (List zp×Bool):=
 (vaV (qa l9+1) 80).bind fun _u30=>(rec15 (x11+1) (l9++[m3_28]))
def yi.l15 (yd:zB→z8→zp→Option zp)(a0:zB)(a1:ZB):List zp→Int→List zp→Option (List zp×Bool)
 |[],x11,l9=>(if a1.fLabel=1 then (YI l9 0).bind fun y17=>bnd (YD y17) fun r20=>some (!r20) else some true).bind fun c17=>some (l9,c17)
 |y15::q15,x11,l9=>(if a1.fType.fKind=1 then bnd (Zl y15.fN) fun r34=>(yi.j29 x11 l9 (yi.l15 yd a0 a1 q15) (⟨y15.fKind,r34,y15.fS,y15.fEntries,y15.fRest⟩:zp)) else (if a1.fType.fKind=7 then bnd (yw a0 a1.fType.fName) fun r38=>(yd a0 r38.1 y15).bind fun r39=>(yi.j29 x11 l9 (yi.l15 yd a0 a1 q15) r39) else (yi.j29 x11 l9 (yi.l15 yd a0 a1 q15) y15)))
def yi.j7 (yd:zB→z8→zp→Option zp)(a0:zB)(a1:ZB)(x6:List zp):Option (List zp×Bool):=
 (yi.l15 yd a0 a1 x6 0 ([]:List zp))
def yi.l4 (yd:zB→z8→zp→Option zp)(a0:zB)(a1:ZB)(a2:List zp):List zp→Int→Option (List zp×Bool)
 |[],x2=>(if a1.fLabel=3 then (yi.j7 yd a0 a1 a2) else (grd ((0:Int)≤IntKind.i64.wrap ((qa a2:Int)-1)∧IntKind.i64.wrap ((qa a2:Int)-1)≤(qa a2:Int)∧(qa a2:Int)≤(qa a2:Int))).bind fun _u43=>(yi.j7 yd a0 a1 (vbV a2 (IntKind.i64.wrap ((qa a2:Int)-1)) (qa a2:Int))))
 |y4::q4,x2=>(wu a1.fType y4).bind fun r50=>(if (!r50)=true then some (([]:List zp),false) else ((yi.l4 yd a0 a1 a2 q4) (x2+1)))
def yi.body (xo:zB→ZB→(List zp)→Option (List zp×Bool))(yd:zB→z8→zp→Option zp)(a0:zB)(a1:ZB)(a2:List zp):Option (List zp×Bool):=
 (yi.l4 yd a0 a1 a2 a2 0)
theorem yi.step (xo:zB→ZB→(List zp)→Option (List zp×Bool))(yd:zB→z8→zp→Option zp)(XD:∀ (a0:zB) (a1:ZB) (a2:List zp) (r:List zp×Bool),xo a0 a1 a2=some r→ACalls qi 164 [.agg (za a0),.agg (yB a1),.ds true (qb yj a2) (qa a2) false] [] (fun r' _=>r'=.tup [.ds true (qb yj r.1) (qa r.1) false,.bool r.2]))(Y0:∀ (a0:zB) (a1:z8) (a2:zp) (r:zp),yd a0 a1 a2=some r→ACalls qi 119 [.agg (za a0),.agg (zh a1),.agg (zb a2)] [] (fun r' _=>r'=.agg (zb r)))(a0:zB)(a1:ZB)(a2:List zp)(r:List zp×Bool)(h:yi.body xo yd a0 a1 a2=some r):ACalls qi 164 [.agg (za a0),.agg (yB a1),.ds true (qb yj a2) (qa a2) false] [] (fun r' _=>r'=.tup [.ds true (qb yj r.1) (qa r.1) false,.bool r.2]):=by
 have ev_project_field:=fun a0 a1 a2 r h σ=>(XD a0 a1 a2 r h).c σ
 have ev_project_message:=fun a0 a1 a2 r h σ=>(Y0 a0 a1 a2 r h).c σ
 refine zx (rs:=[.tmp 6,.tmp 7]) U Tryz.func164 rfl Tryz.ntmps164 rfl Tryz.call164 (by simp) ?_;refine zK [(0,.agg (za a0)),(1,.agg (yB a1)),(2,.ds true (qb yj a2) (qa a2) false)] ⟨rfl,rfl,rfl,trivial⟩ ?_;unfold yi.body at h;refine rgW [2,3,4] (aI @yB.eq_1 (aI @za.eq_1 @xp.eq_1)) ?_
 refine zd fun Z1 hZ1=>?_
 refine O [2,3,4,15,16,17] ?_;apply zq
 refine xr 2 fun hb4=>?_
 replace hb4:qa a2≤9223372036854775807:=hb4.1;refine yp (fun m L τ=>∃ (p4 q4:List zp) (x2:Int),m=qa q4∧L=[(2,.ds true (qb yj a2) (qa a2) false),(3,.op 0 0 0),(4,.op 1 0 0),(15,.ds true (qb yj a2) (qa a2) false),(16,.int .i64 (qa a2:Int)),(17,.int .i64 x2)]∧τ=([.cells 0 (za a0),.cells 0 (yB a1)]:ze)∧a2=p4++q4∧x2=(qa p4:Int)∧yi.l4 yd a0 a1 a2 q4 x2=some r) _ ⟨[],a2,0,rfl,rfl,rfl,rfl,rfl,h⟩ .s ?_;rintro m L τ ⟨p4,q4,x2,rfl,rfl,rfl,hE4,hi4,h⟩
 rcases q4 with _|⟨y4,q4⟩
 · have hz4:=xM hE4 hi4;simp only[yi.l4] at h;refine rgW [2,3,4,15,16,17,18] hz4 ?_
   refine zd fun Z5 hZ5=>?_
   refine zQ rfl ?_;apply yl;apply hZ1;refine xV (fun L τ=>∃ (x6:List zp),L=[(2,.ds true (qb yj x6) (qa x6) false),(3,.op 0 0 0),(4,.op 1 0 0)]∧τ=([.cells 0 (za a0),.cells 0 (yB a1)]:ze)∧yi.j7 yd a0 a1 x6=some r) ?_ ?_
   · refine rgW [2,3,4,29] hz4 ?_;refine yv rfl (fun hc41=>?_) (fun hc41=>?_)
     · rw[if_neg hc41] at h;have t42:=eq_false hc41;obtain⟨_u43,hu43,h⟩:=bind_some h;have gu43:=ZP hu43;have f44:=E38.sl_lo gu43
       refine rgE U [2,3,4] fun K J=>?_
       simp only[go_sem,qh,qd,qc,qe,qf,qg,reduceIte,reduceCtorEq,Zp,hz4,t42,f44];apply J
       exact⟨_,_,⟨vbV a2 (IntKind.i64.wrap ((qa a2:Int)-1)) (qa a2:Int),rfl,rfl,h⟩,.s⟩
     rw[if_pos hc41] at h;have t45:=eq_true hc41;apply zm;exact⟨_,_,⟨a2,rfl,rfl,h⟩,.s⟩
   rintro _ _ ⟨x6,rfl,rfl,h⟩;unfold yi.j7 at h;refine rgW [2,3,4,10] hz4 ?_;refine vaA 10 5 rfl ?_;refine xB (L:=[(2,.ds true (qb yj x6) (qa x6) false),(3,.op 0 0 0),(4,.op 1 0 0),(10,.os true 5 2 0 0 (qa ([]:List zp)) false)]) (τ:=[.cells 0 (za a0),.cells 0 (yB a1),.cells 0 (qb yj ([]:List zp))]) .s ?_
   refine zd fun Z8 hZ8=>?_
   refine rgW [3,4,10,35,36,37] hz4 ?_;apply zq
   refine xr 35 fun hb15=>?_
   replace hb15:qa x6≤9223372036854775807:=hb15.1;refine yp (fun m L τ=>∃ (p15 q15:List zp) (x11:Int) (l9:List zp) (v10:Nat),m=qa q15∧L=[(3,.op 0 0 0),(4,.op 1 0 0),(10,.os true 5 2 v10 0 (qa l9) false),(35,.ds true (qb yj x6) (qa x6) false),(36,.int .i64 (qa x6:Int)),(37,.int .i64 x11)]∧τ=([.cells 0 (za a0),.cells 0 (yB a1),.cells v10 (qb yj l9)]:ze)∧x6=p15++q15∧x11=(qa p15:Int)∧yi.l15 yd a0 a1 q15 x11 l9=some r) _ ⟨[],x6,0,([]:List zp),0,rfl,rfl,rfl,rfl,rfl,h⟩ .s ?_;rintro m L τ ⟨p15,q15,x11,l9,v10,rfl,rfl,rfl,hE15,hi15,h⟩
   rcases q15 with _|⟨y15,q15⟩
   · have hz15:=xM hE15 hi15;simp only[yi.l15] at h;refine rgW [3,4,10,35,36,37,38] (aI hz4 hz15) ?_
     refine zd fun Z16 hZ16=>?_
     refine zQ rfl ?_;apply yl;apply hZ8
     refine rc [6,7] fun K J=>?_
     refine rnW 5 (aI hz4 hz15) ?_;obtain⟨c17,hc17,h⟩:=bind_some h;refine xi 6 (fun L τ=>L=[(69,.os true 5 2 v10 0 (qa l9) false),(79,.bool c17)]∧τ=([.cells 0 (za a0),.cells 0 (yB a1),.cells v10 (qb yj l9)]:ze)) ?_ ?_
     · refine Yw 73 rfl (fun hg73=>?_) (fun hg73=>?_)
       · have t18:=eq_false hg73;rw[if_neg hg73] at hc17;refine rnW 6 (aI @zb.eq_1 (aI @zf (aI hz4 hz15))) ?_;cases hc17;refine zz ⟨rfl,_,_,⟨rfl,rfl⟩,.p t18⟩
       have t19:=eq_true hg73;rw[if_pos hg73] at hc17;obtain⟨y20,hy20,hc17⟩:=bind_some hc17;have f21:=E38.idxO hy20;have f22:=E38.rdO hy20;obtain⟨r23,hr23,hc17⟩:=yq hc17;refine rnW 3 (aI @zb.eq_1 (aI @zf (aI hz4 (aI hz15 (aI f21 f22))))) ?_;refine clN rfl rfl rfl ((YD.ok hr23).c _) ?_;refine rnW 2 (aI @zb.eq_1 (aI @zf (aI hz4 hz15))) ?_;cases hc17;refine zz ⟨rfl,_,_,⟨rfl,rfl⟩,.p t19⟩
     rintro _ _ ⟨rfl,rfl⟩;refine rnW 2 (aI @zb.eq_1 (aI @zf (aI hz4 hz15))) ?_;refine nkN J ?_;cases h;exact rtA
   obtain⟨hz15,hw15,hx15,hE'15,hi'15⟩:=xq hE15 hi15 hb15;simp only[yi.l15] at h;refine rgW [3,4,10,35,36,37,38] (aI hz4 (aI hz15 hw15)) ?_
   refine zd fun Z24 hZ24=>?_
   refine zS rfl ?_;apply zm;apply hZ24
   refine zd fun Z25 hZ25=>?_
   apply zq;have f26:=E38.idxS hx15;have f27:=E38.loadS rfl rfl hx15;refine rgW [3,4,10,12,35,36,37] (aI @zb.eq_1 (aI @zf (aI hz4 (aI hz15 (aI hw15 (aI f26 f27)))))) ?_;refine xV (fun L τ=>∃ (m3_28:zp),L=[(3,.op 0 0 0),(4,.op 1 0 0),(10,.os true 5 2 v10 0 (qa l9) false),(12,.op 3 0 0),(35,.ds true (qb yj x6) (qa x6) false),(36,.int .i64 (qa x6:Int)),(37,.int .i64 x11)]∧τ=([.cells 0 (za a0),.cells 0 (yB a1),.cells v10 (qb yj l9),.cells 0 (zb m3_28)]:ze)∧yi.j29 x11 l9 (yi.l15 yd a0 a1 q15) m3_28=some r) ?_ ?_
   · refine rgW [3,4,10,12,35,36,37,43] (aI hz4 (aI hz15 hw15)) ?_;apply zq;refine rgW [3,4,10,12,35,36,37,43,44] (aI hz4 (aI hz15 hw15)) ?_;refine yv rfl (fun hc32=>?_) (fun hc32=>?_)
     · rw[if_pos hc32] at h;have t33:=eq_true hc32
       refine rcE [3,4,10,12,35,36,37] fun K J=>?_
       obtain⟨r34,hr34,h⟩:=yq h;refine rnW 2 (aI hz4 (aI hz15 (aI hw15 t33))) ?_;refine clN rfl rfl rfl ((Zl.ok hr34).c _) ?_;refine rnW 2 (aI @zb.eq_1 (aI @zf (aI hz4 (aI hz15 (aI hw15 t33))))) ?_;refine nkN J ?_;exact⟨_,_,⟨(⟨y15.fKind,r34,y15.fS,y15.fEntries,y15.fRest⟩:zp),rfl,rfl,h⟩,.s⟩
     rw[if_neg hc32] at h;have t35:=eq_false hc32;refine rgW [3,4,10,12,35,36,37,50] (aI hz4 (aI hz15 (aI hw15 t35))) ?_;refine yv rfl (fun hc36=>?_) (fun hc36=>?_)
     · rw[if_pos hc36] at h;have t37:=eq_true hc36
       refine rc [3,4,10,12,13,35,36,37] fun K J=>?_
       obtain⟨r38,hr38,h⟩:=yq h;refine rnW 4 (aI @za.eq_1 (aI hz4 (aI hz15 (aI hw15 (aI t35 t37))))) ?_;refine clN rfl rfl rfl ((yw.ok hr38).c _) ?_;refine rnW 6 (aI @zh.eq_1 (aI @za.eq_1 (aI hz4 (aI hz15 (aI hw15 (aI t35 t37)))))) ?_;refine nkN J ?_
       refine rcE [3,4,10,12,35,36,37] fun K J=>?_
       obtain⟨r39,hr39,h⟩:=bind_some h;refine rnW 3 (aI @zb.eq_1 (aI @zh.eq_1 (aI @za.eq_1 (aI @zf (aI hz4 (aI hz15 (aI hw15 (aI t35 t37)))))))) ?_;refine clN rfl rfl rfl (ev_project_message a0 r38.1 y15 r39 hr39 _) ?_;refine rnW 1 (aI @zb.eq_1 (aI @zh.eq_1 (aI @za.eq_1 (aI @zf (aI hz4 (aI hz15 (aI hw15 (aI t35 t37)))))))) ?_;refine nkN J ?_;exact⟨_,_,⟨r39,rfl,rfl,h⟩,(.t [0,1,2,3] false)⟩
     rw[if_neg hc36] at h;have t40:=eq_false hc36;apply zm;exact⟨_,_,⟨y15,rfl,rfl,h⟩,.s⟩
   rintro _ _ ⟨m3_28,rfl,rfl,h⟩;unfold yi.j29 at h;obtain⟨_u30,hu30,h⟩:=bind_some h;have gu30:=xF hu30;have f31:=(yf E38.len l9)
   refine rgE U [3,4,10,35,36,37] fun K J=>?_
   simp only[go_sem,qh,qd,qc,qe,qf,qg,reduceIte,reduceCtorEq,zV,yI,ug,qW,qU,true_and,uj,xj,yG,xg,zb,zf,hz4,hz15,hw15,gu30,f31,yW,ua,qZ,AV.one,qN,qo,gt_iff_lt,ym,qH,qE,qO,qD,qG,qj,qp,qB,qn,qA,qI];apply J
   apply hZ25
   refine rgE U [3,4,10,35,36,37] fun K J=>?_
   simp only[go_sem,qh,qd,qc,qe,qf,qg,reduceIte,reduceCtorEq,Zp,hz4,hz15,hw15];apply J
   exact⟨_,_,_,qK q15.length,⟨p15++[y15],q15,x11+1,l9++[m3_28],v10+1,rfl,rfl,rfl,hE'15,hi'15,h⟩,(.t [0,1,2] false)⟩
 obtain⟨hz4,hw4,hx4,hE'4,hi'4⟩:=xq hE4 hi4 hb4;simp only[yi.l4] at h;refine rgW [2,3,4,15,16,17,18] (aI hz4 hw4) ?_
 refine zd fun Z46 hZ46=>?_
 refine zS rfl ?_;apply zm;apply hZ46
 refine zd fun Z47 hZ47=>?_
 apply zq;have f48:=E38.idxS hx4;have f49:=E38.loadS rfl rfl hx4;refine rgW [2,3,4,9,15,16,17] (aI @zb.eq_1 (aI @zf (aI hz4 (aI hw4 (aI f48 f49))))) ?_
 refine rc [2,3,4,15,16,17,25] fun K J=>?_
 obtain⟨r50,hr50,h⟩:=bind_some h;refine rnW 3 (aI @zb.eq_1 (aI @zf (aI @xp.eq_1 (aI hz4 hw4)))) ?_;refine clN rfl rfl rfl ((wu.ok hr50).c _) ?_;refine rnW 1 (aI @zb.eq_1 (aI @zf (aI @xp.eq_1 (aI hz4 hw4)))) ?_;refine nkN J ?_;refine zY (b:=(!r50)) rfl (fun hc51=>?_) (fun hc51=>?_)
 · rw[if_pos hc51] at h;refine rgW [6,7] (aI hz4 hw4) ?_;cases h;exact rtA
 rw[Zc hc51] at h;apply zm;apply hZ47
 refine rgE U [2,3,4,15,16,17] fun K J=>?_
 simp only[go_sem,qh,qd,qc,qe,qf,qg,reduceIte,reduceCtorEq,Zp,hz4,hw4];apply J
 exact⟨_,_,_,qK q4.length,⟨p4++[y4],q4,x2+1,rfl,rfl,rfl,hE'4,hi'4,h⟩,(.t [0,1] false)⟩
def yo.j13 (x4:Int)(rec8:Int→List zv→Option zp)(l11:List zv):Option zp:=
 (rec8 (x4+1) l11)
def yo.l8 (xo:zB→ZB→(List zp)→Option (List zp×Bool))(a0:zB)(a1:z8):List zv→Int→List zv→Option zp
 |[],x4,l2=>some (⟨3,0,[],l2,([]:List yC)⟩:zp)
 |y8::q8,x4,l2=>bnd (zW a1 y8.fTag) fun r16=>(if (!r16.2)=true then (yo.j13 x4 (yo.l8 xo a0 a1 q8) l2) else (xo a0 r16.1 y8.fTrees).bind fun r19=>(if r19.2=true then (vaV (qa l2+1) 32).bind fun _u21=>(yo.j13 x4 (yo.l8 xo a0 a1 q8) (l2++[(⟨y8.fTag,r19.1⟩:zv)])) else (yo.j13 x4 (yo.l8 xo a0 a1 q8) l2)))
def yo.body (xo:zB→ZB→(List zp)→Option (List zp×Bool))(yd:zB→z8→zp→Option zp)(a0:zB)(a1:z8)(a2:zp):Option zp:=
 (yo.l8 xo a0 a1 a2.fEntries 0 ([]:List zv))
theorem yo.step (xo:zB→ZB→(List zp)→Option (List zp×Bool))(yd:zB→z8→zp→Option zp)(XD:∀ (a0:zB) (a1:ZB) (a2:List zp) (r:List zp×Bool),xo a0 a1 a2=some r→ACalls qi 164 [.agg (za a0),.agg (yB a1),.ds true (qb yj a2) (qa a2) false] [] (fun r' _=>r'=.tup [.ds true (qb yj r.1) (qa r.1) false,.bool r.2]))(Y0:∀ (a0:zB) (a1:z8) (a2:zp) (r:zp),yd a0 a1 a2=some r→ACalls qi 119 [.agg (za a0),.agg (zh a1),.agg (zb a2)] [] (fun r' _=>r'=.agg (zb r)))(a0:zB)(a1:z8)(a2:zp)(r:zp)(h:yo.body xo yd a0 a1 a2=some r):ACalls qi 119 [.agg (za a0),.agg (zh a1),.agg (zb a2)] [] (fun r' _=>r'=.agg (zb r)):=by
 have ev_project_field:=fun a0 a1 a2 r h σ=>(XD a0 a1 a2 r h).c σ
 have ev_project_message:=fun a0 a1 a2 r h σ=>(Y0 a0 a1 a2 r h).c σ
 refine zx (rs:=[.cell 6 37]) U Tryz.func119 rfl Tryz.ntmps119 rfl Tryz.call119 (by simp) ?_;refine zK [(0,.agg (za a0)),(1,.agg (zh a1)),(2,.agg (zb a2))] ⟨rfl,rfl,rfl,trivial⟩ ?_;unfold yo.body at h;refine rgW [3,4,5,6] (aI @zb.eq_1 (aI @zh.eq_1 (aI @za.eq_1 @zf))) ?_;refine rgW [3,4,5,6,7] (aI @zb.eq_1 @zf) ?_;refine Zw 4 3 2 rfl (by simp) rfl (L:=[(3,.op 0 0 0),(4,.op 1 0 0),(5,.op 2 0 0),(6,.op 3 0 0),(7,.op 4 0 0)]) (τ:=[.cells 0 (za a0),.cells 0 (zh a1),.cells 0 (zb a2),.cells 0 [.int .i64 0,.int .i64 0,.str [],.ds true [] 0 true,.ds true [] 0 true],.cells 0 [.int .i64 3,.int .i64 0,.str [],.os true 2 5 0 0 (qa ([]:List zv)) false,.ds true [] 0 true],.cells 0 (qb zD ([]:List zv))]) .s ?_
 refine zd fun Z1 hZ1=>?_
 refine O [3,4,6,7,16,17,18] ?_;apply zq
 refine xr 16 fun hb8=>?_
 replace hb8:qa a2.fEntries≤9223372036854775807:=hb8.1;refine yp (fun m L τ=>∃ (p8 q8:List zv) (x4:Int) (l2:List zv) (v3:Nat),m=qa q8∧L=[(3,.op 0 0 0),(4,.op 1 0 0),(6,.op 2 0 0),(7,.op 3 0 0),(16,.ds true (qb zD a2.fEntries) (qa a2.fEntries) false),(17,.int .i64 (qa a2.fEntries:Int)),(18,.int .i64 x4)]∧τ=([.cells 0 (za a0),.cells 0 (zh a1),.cells 0 [.int .i64 0,.int .i64 0,.str [],.ds true [] 0 true,.ds true [] 0 true],.cells 0 [.int .i64 3,.int .i64 0,.str [],.os true 2 4 v3 0 (qa l2) false,.ds true [] 0 true],.cells v3 (qb zD l2)]:ze)∧a2.fEntries=p8++q8∧x4=(qa p8:Int)∧yo.l8 xo a0 a1 q8 x4 l2=some r) _ ⟨[],a2.fEntries,0,([]:List zv),0,rfl,rfl,rfl,rfl,rfl,h⟩ (.t [0,1,3,4,5] false) ?_;rintro m L τ ⟨p8,q8,x4,l2,v3,rfl,rfl,rfl,hE8,hi8,h⟩
 rcases q8 with _|⟨y8,q8⟩
 · have hz8:=xM hE8 hi8;simp only[yo.l8] at h;refine rgW [3,4,6,7,16,17,18,19] hz8 ?_
   refine zd fun Z9 hZ9=>?_
   refine zQ rfl ?_;apply yl;apply hZ1;refine rgW [6] (aI @zb.eq_1 (aI @zf hz8)) ?_;cases h;exact rtA
 obtain⟨hz8,hw8,hx8,hE'8,hi'8⟩:=xq hE8 hi8 hb8;simp only[yo.l8] at h;refine rgW [3,4,6,7,16,17,18,19] (aI hz8 hw8) ?_
 refine zd fun Z10 hZ10=>?_
 refine zS rfl ?_;apply zm;apply hZ10;refine xV (fun L τ=>∃ (l11:List zv) (v12:Nat),L=[(3,.op 0 0 0),(4,.op 1 0 0),(6,.op 2 0 0),(7,.op 3 0 0),(16,.ds true (qb zD a2.fEntries) (qa a2.fEntries) false),(17,.int .i64 (qa a2.fEntries:Int)),(18,.int .i64 x4)]∧τ=([.cells 0 (za a0),.cells 0 (zh a1),.cells 0 [.int .i64 0,.int .i64 0,.str [],.ds true [] 0 true,.ds true [] 0 true],.cells 0 [.int .i64 3,.int .i64 0,.str [],.os true 2 4 v12 0 (qa l11) false,.ds true [] 0 true],.cells v12 (qb zD l11)]:ze)∧yo.j13 x4 (yo.l8 xo a0 a1 q8) l11=some r) ?_ ?_
 · apply zq;have f14:=E34.idxS hx8;have f15:=E34.loadS rfl rfl hx8;refine rgW [3,4,6,7,9,16,17,18] (aI @zU.eq_1 (aI @yD (aI hz8 (aI hw8 (aI f14 f15))))) ?_
   refine rc [3,4,6,7,9,10,11,16,17,18] fun K J=>?_
   obtain⟨r16,hr16,h⟩:=yq h;refine rnW 3 (aI @zh.eq_1 (aI hz8 hw8)) ?_;refine clN rfl rfl rfl ((zW.ok hr16).c _) ?_;refine rnW 6 (aI @yB.eq_1 (aI @zh.eq_1 (aI @xp.eq_1 (aI hz8 hw8)))) ?_;refine nkN J ?_
   refine zd fun Z17 hZ17=>?_
   refine rgW [3,4,6,7,9,10,16,17,18,30] (aI hz8 hw8) ?_;refine zY (b:=(!r16.2)) rfl (fun hc18=>?_) (fun hc18=>?_)
   · rw[if_pos hc18] at h;apply yl;exact⟨_,_,⟨l2,v3,rfl,rfl,h⟩,(.t [0,1,2,3,4] false)⟩
   rw[Zc hc18] at h;apply zm;apply hZ17
   refine rc [3,4,6,7,9,12,13,16,17,18] fun K J=>?_
   obtain⟨r19,hr19,h⟩:=bind_some h;refine rnW 4 (aI @yB.eq_1 (aI @za.eq_1 (aI @xp.eq_1 (aI hz8 hw8)))) ?_;refine clN rfl rfl rfl (ev_project_field a0 r16.1 y8.fTrees r19 hr19 _) ?_;refine rnW 5 (aI @yB.eq_1 (aI @za.eq_1 (aI @xp.eq_1 (aI hz8 hw8)))) ?_;refine nkN J ?_;refine rgW [3,4,6,7,9,12,16,17,18,39] (aI hz8 hw8) ?_;refine zY (b:=r19.2) rfl (fun hc20=>?_) (fun hc20=>?_)
   · rw[if_pos hc20] at h;obtain⟨_u21,hu21,h⟩:=bind_some h;have gu21:=xF hu21;have f22:=(yf E34.len l2)
     refine rgE U [3,4,6,7,16,17,18] fun K J=>?_
     simp only[go_sem,qh,qd,qc,qe,qf,qg,reduceIte,reduceCtorEq,zV,yI,ug,qW,qU,true_and,uj,xj,yG,xg,zU,zb,yD,zf,hz8,hw8,gu21,f22,yW,ua,qZ,AV.one,qN,qo,gt_iff_lt,ym,qH,qE,qO,qD,qG,qj,qp,qB,qn,qA,qI];apply J
     exact⟨_,_,⟨l2++[(⟨y8.fTag,r19.1⟩:zv)],v3+1,rfl,rfl,h⟩,(.t [0,1,2,3,4] false)⟩
   rw[Zc hc20] at h;apply zm;exact⟨_,_,⟨l2,v3,rfl,rfl,h⟩,(.t [0,1,2,3,4] false)⟩
 rintro _ _ ⟨l11,v12,rfl,rfl,h⟩;unfold yo.j13 at h
 refine rgE U [3,4,6,7,16,17,18] fun K J=>?_
 simp only[go_sem,qh,qd,qc,qe,qf,qg,reduceIte,reduceCtorEq,Zp,hz8,hw8];apply J
 exact⟨_,_,_,qK q8.length,⟨p8++[y8],q8,x4+1,l11,v12,rfl,rfl,rfl,hE'8,hi'8,h⟩,.s⟩
end
section
set_option maxRecDepth 4000
set_option maxHeartbeats 1000000
open AM
mutual
def yi : Nat→zB→ZB→(List zp)→Option (List zp×Bool)
 |0,_,_,_=>none
 |k+1,a0,a1,a2=>yi.body (yi k) (yo k) a0 a1 a2
def yo : Nat→zB→z8→zp→Option zp
 |0,_,_,_=>none
 |k+1,a0,a1,a2=>yo.body (yi k) (yo k) a0 a1 a2
end
theorem yi.all (k:Nat):(∀ (a0:zB) (a1:ZB) (a2:List zp) (r:List zp×Bool),yi k a0 a1 a2=some r→ACalls qi 164 [.agg (za a0),.agg (yB a1),.ds true (qb yj a2) (qa a2) false] [] (fun r' _=>r'=.tup [.ds true (qb yj r.1) (qa r.1) false,.bool r.2]))∧(∀ (a0:zB) (a1:z8) (a2:zp) (r:zp),yo k a0 a1 a2=some r→ACalls qi 119 [.agg (za a0),.agg (zh a1),.agg (zb a2)] [] (fun r' _=>r'=.agg (zb r))):=by
 induction k with
 |zero=>exact⟨(fun a0 a1 a2 r h=>by simp only[yi] at h; cases h),(fun a0 a1 a2 r h=>by simp only[yo] at h; cases h)⟩
 |succ k ih=>exact⟨(fun a0 a1 a2 r h=>yi.step _ _ ih.1 ih.2 a0 a1 a2 r (by simpa only [yi] using h)),(fun a0 a1 a2 r h=>yo.step _ _ ih.1 ih.2 a0 a1 a2 r (by simpa only [yo] using h))⟩
theorem yo.ev (k:Nat)(a0:zB)(a1:z8)(a2:zp)(r:zp)(h:yo k a0 a1 a2=some r)(σ:ze):ACalls qi 119 [.agg (za a0),.agg (zh a1),.agg (zb a2)] σ (fun r' σ'=>r'=.agg (zb r)∧σ'=σ):=
 ((yi.all k).2 a0 a1 a2 r h).c σ
def Zr (a0:zB)(a1:List UInt8)(a2:zp):Option (zp×Bool):=
 bnd (yw a0 a1) fun r1=>(if (!r1.2)=true then some true else (yN a0).bind fun r3=>some (!(decide (r3=0)))).bind fun c3=>(if (c3||(!(decide (a2.fKind=3))))=true then some true else (Yb a2).bind fun r5=>some (!r5)).bind fun c5=>(if c5=true then some ((⟨0,0,[],([]:List zv),([]:List yC)⟩:zp),false) else (yo xz a0 r1.1 a2).bind fun r8=>some (r8,true))
theorem Zr.ok {a0 a1 a2 r}(h:Zr a0 a1 a2=some r):ACalls qi 79 [.agg (za a0),.str a1,.agg (zb a2)] [] (fun r' _=>r'=.tup [.agg (zb r.1),.bool r.2]):=by
 refine zx (rs:=[.cell 6 37,.tmp 7]) U Tryz.func79 rfl Tryz.ntmps79 rfl Tryz.call79 (by simp) ?_;refine zK [(0,.agg (za a0)),(1,.str a1),(2,.agg (zb a2))] ⟨rfl,rfl,rfl,trivial⟩ ?_;unfold Zr at h;refine rgW [1,3,5,6] (aI @zb.eq_1 (aI @za.eq_1 @zf)) ?_
 refine rc [3,5,6,8,9] fun K J=>?_
 obtain⟨r1,hr1,h⟩:=yq h;refine rnW 2 @za.eq_1 ?_;refine clN rfl rfl rfl ((yw.ok hr1).c _) ?_;refine rnW 6 (aI @zh.eq_1 @za.eq_1) ?_;refine nkN J ?_
 refine zd fun Z2 hZ2=>?_
 refine rc [3,5,6,8,32] fun K J=>?_
 refine rnN 3 ?_;obtain⟨c3,hc3,h⟩:=bind_some h;refine xi 4 (fun L τ=>L=[(3,.op 0 0 0),(5,.op 1 0 0),(6,.op 2 0 0),(8,.op 3 0 0),(22,.bool c3)]∧τ=([.cells 0 (za a0),.cells 0 (zb a2),.cells 0 [.int .i64 0,.int .i64 0,.str [],.ds true [] 0 true,.ds true [] 0 true],.cells 0 (zh r1.1)]:ze)) ?_ ?_
 · refine wA (b:=(!r1.2)) 18 rfl (fun hg18=>?_) (fun hg18=>?_)
   · rw[if_pos hg18] at hc3;refine rnW 4 @za.eq_1 ?_;cases hc3;refine zz ⟨rfl,_,_,⟨rfl,rfl⟩,.b hg18⟩
   rw[Zc hg18] at hc3;obtain⟨r4,hr4,hc3⟩:=bind_some hc3;refine rnW 1 @za.eq_1 ?_;refine clN rfl rfl rfl ((yN.ok hr4).c _) ?_;refine rnW 2 @za.eq_1 ?_;cases hc3;refine zz ⟨rfl,_,_,⟨rfl,rfl⟩,.b hg18⟩
 rintro _ _ ⟨rfl,rfl⟩;refine rnW 1 @za.eq_1 ?_;refine cut (b:=c3) (hb:=boolP_eq _) 4 23 27 [3,5,6,8] (c3||(!(decide (a2.fKind=3)))) @za.eq_1 rfl ?_;refine rnW 1 @za.eq_1 ?_;obtain⟨c5,hc5,h⟩:=bind_some h;refine xi 4 (fun L τ=>L=[(3,.op 0 0 0),(5,.op 1 0 0),(6,.op 2 0 0),(8,.op 3 0 0),(32,.bool c5)]∧τ=([.cells 0 (za a0),.cells 0 (zb a2),.cells 0 [.int .i64 0,.int .i64 0,.str [],.ds true [] 0 true,.ds true [] 0 true],.cells 0 (zh r1.1)]:ze)) ?_ ?_
 · refine wA (b:=(c3||(!(decide (a2.fKind=3))))) 28 rfl (fun hg28=>?_) (fun hg28=>?_)
   · rw[if_pos hg28] at hc5;refine rnW 4 (aI @zb.eq_1 (aI @za.eq_1 @zf)) ?_;cases hc5;refine zz ⟨rfl,_,_,⟨rfl,rfl⟩,.b hg28⟩
   rw[Zc hg28] at hc5;obtain⟨r6,hr6,hc5⟩:=bind_some hc5;refine rnW 1 (aI @zb.eq_1 (aI @za.eq_1 @zf)) ?_;refine clN rfl rfl rfl ((Yb.ok hr6).c _) ?_;refine rnW 2 (aI @zb.eq_1 (aI @za.eq_1 @zf)) ?_;cases hc5;refine zz ⟨rfl,_,_,⟨rfl,rfl⟩,.b hg28⟩
 rintro _ _ ⟨rfl,rfl⟩;refine nkN J ?_;refine zY (b:=c5) rfl (fun hc7=>?_) (fun hc7=>?_)
 · rw[if_pos hc7] at h;refine rgW [6,7] (aI @zb.eq_1 @zf) ?_;cases h;exact rtA
 rw[Zc hc7] at h;apply zm;apply hZ2
 refine rc [6,7] fun K J=>?_
 obtain⟨r8,hr8,h⟩:=bind_some h;refine rnW 3 (aI @zb.eq_1 (aI @zh.eq_1 (aI @za.eq_1 @zf))) ?_;refine clN rfl rfl rfl (yo.ev xz a0 r1.1 a2 r8 hr8 _) ?_;refine rnW 2 (aI @zb.eq_1 (aI @zh.eq_1 (aI @za.eq_1 @zf))) ?_;refine nkN J ?_;cases h;exact rtA
def wo.l8 (a1:List yC):List yC→Int→Option Bool
 |[],x6=>some true
 |y8::q8,x6=>(YI a1 x6).bind fun y14=>(if (!(decide (y8.fTag=y14.fTag)&&(decide (y8.fWire=y14.fWire)&&(decide (y8.fN=y14.fN)&&decide (y8.fB=y14.fB)))))=true then some false else ((wo.l8 a1 q8) (x6+1)))
def wo (a0:List yC)(a1:List yC):Option Bool:=
 (if (qa a0:Int)=(qa a1:Int) then (wo.l8 a1 a0 0) else some false)
theorem wo.ok {a0 a1 r}(h:wo a0 a1=some r):ACalls qi 120 [.ds true (qb zy a0) (qa a0) false,.ds true (qb zy a1) (qa a1) false] [] (fun r' _=>r'=.bool r):=by
 refine zx (rs:=[.tmp 4]) U Tryz.func120 rfl Tryz.ntmps120 rfl Tryz.call120 (by simp) ?_;refine zK [(0,.ds true (qb zy a0) (qa a0) false),(1,.ds true (qb zy a1) (qa a1) false)] ⟨rfl,rfl,trivial⟩ ?_;unfold wo at h;refine O [0,1] ?_
 refine zd fun Z1 hZ1=>?_
 refine rgW [0,1,10] qF ?_;refine yv rfl (fun hc2=>?_) (fun hc2=>?_)
 · rw[if_neg hc2] at h;have t3:=eq_false hc2;refine rgW [4] t3 ?_;cases h;exact rtA
 rw[if_pos hc2] at h;have t4:=eq_true hc2;apply zm;apply hZ1
 refine zd fun Z5 hZ5=>?_
 refine rgW [0,1,12,13] t4 ?_;apply zq
 refine xr 0 fun hb8=>?_
 replace hb8:qa a0≤9223372036854775807:=hb8.1;refine yp (fun m L τ=>∃ (p8 q8:List yC) (x6:Int),m=qa q8∧L=[(0,.ds true (qb zy a0) (qa a0) false),(1,.ds true (qb zy a1) (qa a1) false),(12,.int .i64 (qa a0:Int)),(13,.int .i64 x6)]∧τ=([]:ze)∧a0=p8++q8∧x6=(qa p8:Int)∧wo.l8 a1 q8 x6=some r) _ ⟨[],a0,0,rfl,rfl,rfl,rfl,rfl,h⟩ .s ?_;rintro m L τ ⟨p8,q8,x6,rfl,rfl,rfl,hE8,hi8,h⟩
 rcases q8 with _|⟨y8,q8⟩
 · have hz8:=xM hE8 hi8;simp only[wo.l8] at h;refine rgW [0,1,12,13,14] (aI t4 hz8) ?_
   refine zd fun Z9 hZ9=>?_
   refine zQ rfl ?_;apply yl;apply hZ5;refine rgW [4] (aI t4 hz8) ?_;cases h;exact rtA
 obtain⟨hz8,hw8,hx8,hE'8,hi'8⟩:=xq hE8 hi8 hb8;simp only[wo.l8] at h;refine rgW [0,1,12,13,14] (aI t4 (aI hz8 hw8)) ?_
 refine zd fun Z10 hZ10=>?_
 refine zS rfl ?_;apply zm;apply hZ10
 refine zd fun Z11 hZ11=>?_
 apply zq;refine rgW [0,1,5,12,13] (aI t4 (aI hz8 hw8)) ?_;have f12:=E35.idxS hx8;have f13:=E35.loadS rfl rfl hx8;obtain⟨y14,hy14,h⟩:=bind_some h;have f15:=E35.idxS hy14;have f16:=E35.loadS rfl rfl hy14
 refine rd [0,1,12,13,24] fun K J=>?_
 refine DW.start (T:=tab) [.any,.any,.any,.at [],.any,.any,.any,.at [],.any] [] ?_;refine DW.runN U 8 ?_;simp only[go_sem,qh,qd,qc,qe,qf,qg,reduceIte,reduceCtorEq,zy,t4,hz8,hw8,f12,f13,f15,f16,evEqA,vab,ceq];refine DW.runN U 1 ?_;simp only[go_sem,qh,qd,qc,qe,qf,qg,reduceIte,reduceCtorEq,Zp,zy,t4,hz8,hw8,f12,f13,f15,f16,evEqA,vab,ceq];refine DW.fin U (by decide +kernel) rfl ?_;simp only[zH,ye,yx,Zn,upd,qc,reduceIte,xh,xO];apply J
 refine zY (b:=(!(decide (y8.fTag=y14.fTag)&&(decide (y8.fWire=y14.fWire)&&(decide (y8.fN=y14.fN)&&decide (y8.fB=y14.fB)))))) rfl (fun hc17=>?_) (fun hc17=>?_)
 · rw[if_pos hc17] at h;refine rgW [4] (aI t4 (aI hz8 hw8)) ?_;cases h;exact rtA
 rw[Zc hc17] at h;apply zm;apply hZ11
 refine rgE U [0,1,12,13] fun K J=>?_
 simp only[go_sem,qh,qd,qc,qe,qf,qg,reduceIte,reduceCtorEq,Zp,t4,hz8,hw8];apply J
 exact⟨_,_,_,qK q8.length,⟨p8++[y8],q8,x6+1,rfl,rfl,rfl,hE'8,hi'8,h⟩,.s⟩
def wz.body (xf:zp→zp→Option Bool)(yM:zv→zv→Option Bool)(zF:(List zv)→(List zv)→Option Bool)(zO:(List zp)→(List zp)→Option Bool)(a0:zp)(a1:zp):Option Bool:=
 (if (((decide (a0.fKind=a1.fKind))&&(decide (a0.fN=a1.fN)))&&(decide (a0.fS=a1.fS)))=true then (wo a0.fRest a1.fRest).bind fun r3=>some r3 else some false).bind fun c3=>(if c3=true then (zF a0.fEntries a1.fEntries).bind fun r5=>some r5 else some false).bind fun c5=>some c5
theorem wz.step (xf:zp→zp→Option Bool)(yM:zv→zv→Option Bool)(zF:(List zv)→(List zv)→Option Bool)(zO:(List zp)→(List zp)→Option Bool)(Yf:∀ (a0:zp) (a1:zp) (r:Bool),xf a0 a1=some r→ACalls qi 80 [.agg (zb a0),.agg (zb a1)] [] (fun r' _=>r'=.bool r))(Zt:∀ (a0:zv) (a1:zv) (r:Bool),yM a0 a1=some r→ACalls qi 122 [.agg (zU a0),.agg (zU a1)] [] (fun r' _=>r'=.bool r))(yS:∀ (a0:List zv) (a1:List zv) (r:Bool),zF a0 a1=some r→ACalls qi 121 [.ds true (qb zD a0) (qa a0) false,.ds true (qb zD a1) (qa a1) false,.fn (.func 122) [] []] [] (fun r' _=>r'=.bool r))(xb:∀ (a0:List zp) (a1:List zp) (r:Bool),zO a0 a1=some r→ACalls qi 123 [.ds true (qb yj a0) (qa a0) false,.ds true (qb yj a1) (qa a1) false,.fn (.func 80) [] []] [] (fun r' _=>r'=.bool r))(a0:zp)(a1:zp)(r:Bool)(h:wz.body xf yM zF zO a0 a1=some r):ACalls qi 80 [.agg (zb a0),.agg (zb a1)] [] (fun r' _=>r'=.bool r):=by
 have ev_value_Same:=fun a0 a1 r h σ=>(Yf a0 a1 r h).c σ
 have ev_value_Same_1:=fun a0 a1 r h σ=>(Zt a0 a1 r h).c σ
 have ev_slices_EqualFunc_Entry_value_Same_1:=fun a0 a1 r h σ=>(yS a0 a1 r h).c σ
 have ev_slices_EqualFunc_Tree_value_Same:=fun a0 a1 r h σ=>(xb a0 a1 r h).c σ
 refine zx (rs:=[.tmp 4]) U Tryz.func80 rfl Tryz.ntmps80 rfl Tryz.call80 (by simp) ?_;refine zK [(0,.agg (zb a0)),(1,.agg (zb a1))] ⟨rfl,rfl,trivial⟩ ?_;unfold wz.body at h;refine rgW [2,3] (aI @zb.eq_1 @zf) ?_
 refine rc [4] fun K J=>?_
 refine rnW 6 qF ?_;refine cut 6 10 16 [2,3] ((decide (a0.fKind=a1.fKind))&&(decide (a0.fN=a1.fN))) qF rfl ?_;refine rnN 1 ?_;refine cut (b:=((decide (a0.fKind=a1.fKind))&&(decide (a0.fN=a1.fN)))) (hb:=boolP_eq _) 6 17 23 [3,2] (((decide (a0.fKind=a1.fKind))&&(decide (a0.fN=a1.fN)))&&(decide (a0.fS=a1.fS))) qF rfl ?_;refine rnN 1 ?_;obtain⟨c3,hc3,h⟩:=bind_some h;refine xi 6 (fun L τ=>L=[(2,.op 0 0 0),(3,.op 1 0 0),(30,.bool c3)]∧τ=([.cells 0 (zb a0),.cells 0 (zb a1)]:ze)) ?_ ?_
 · refine wA (b:=(((decide (a0.fKind=a1.fKind))&&(decide (a0.fN=a1.fN)))&&(decide (a0.fS=a1.fS)))) 24 rfl (fun hg24=>?_) (fun hg24=>?_)
   · rw[if_pos hg24] at hc3;obtain⟨r4,hr4,hc3⟩:=bind_some hc3;refine rnN 4 ?_;refine clN rfl rfl rfl ((wo.ok hr4).c _) ?_;refine rnN 1 ?_;cases hc3;refine zz ⟨rfl,_,_,⟨rfl,rfl⟩,.b hg24⟩
   rw[Zc hg24] at hc3;refine rnN 6 ?_;cases hc3;refine zz ⟨rfl,_,_,⟨rfl,rfl⟩,.b hg24⟩
 rintro _ _ ⟨rfl,rfl⟩;refine rnN 1 ?_;obtain⟨c5,hc5,h⟩:=bind_some h;refine xi 6 (fun L τ=>L=[(37,.bool c5)]∧τ=([.cells 0 (zb a0),.cells 0 (zb a1)]:ze)) ?_ ?_
 · refine wA (b:=c3) 31 rfl (fun hg31=>?_) (fun hg31=>?_)
   · rw[if_pos hg31] at hc5;obtain⟨r6,hr6,hc5⟩:=bind_some hc5;refine rnN 4 ?_;refine clN rfl rfl rfl (ev_slices_EqualFunc_Entry_value_Same_1 a0.fEntries a1.fEntries r6 hr6 _) ?_;refine rnN 1 ?_;cases hc5;refine zz ⟨rfl,_,_,⟨rfl,rfl⟩,.b hg31⟩
   rw[Zc hg31] at hc5;refine rnN 6 ?_;cases hc5;refine zz ⟨rfl,_,_,⟨rfl,rfl⟩,.b hg31⟩
 rintro _ _ ⟨rfl,rfl⟩;refine rnN 1 ?_;refine nkN J ?_;cases h;exact rtA
def wK.body (xf:zp→zp→Option Bool)(yM:zv→zv→Option Bool)(zF:(List zv)→(List zv)→Option Bool)(zO:(List zp)→(List zp)→Option Bool)(a0:zv)(a1:zv):Option Bool:=
 (if a0.fTag=a1.fTag then (zO a0.fTrees a1.fTrees).bind fun r1=>some r1 else some false).bind fun c1=>some c1
theorem wK.step (xf:zp→zp→Option Bool)(yM:zv→zv→Option Bool)(zF:(List zv)→(List zv)→Option Bool)(zO:(List zp)→(List zp)→Option Bool)(Yf:∀ (a0:zp) (a1:zp) (r:Bool),xf a0 a1=some r→ACalls qi 80 [.agg (zb a0),.agg (zb a1)] [] (fun r' _=>r'=.bool r))(Zt:∀ (a0:zv) (a1:zv) (r:Bool),yM a0 a1=some r→ACalls qi 122 [.agg (zU a0),.agg (zU a1)] [] (fun r' _=>r'=.bool r))(yS:∀ (a0:List zv) (a1:List zv) (r:Bool),zF a0 a1=some r→ACalls qi 121 [.ds true (qb zD a0) (qa a0) false,.ds true (qb zD a1) (qa a1) false,.fn (.func 122) [] []] [] (fun r' _=>r'=.bool r))(xb:∀ (a0:List zp) (a1:List zp) (r:Bool),zO a0 a1=some r→ACalls qi 123 [.ds true (qb yj a0) (qa a0) false,.ds true (qb yj a1) (qa a1) false,.fn (.func 80) [] []] [] (fun r' _=>r'=.bool r))(a0:zv)(a1:zv)(r:Bool)(h:wK.body xf yM zF zO a0 a1=some r):ACalls qi 122 [.agg (zU a0),.agg (zU a1)] [] (fun r' _=>r'=.bool r):=by
 have ev_value_Same:=fun a0 a1 r h σ=>(Yf a0 a1 r h).c σ
 have ev_value_Same_1:=fun a0 a1 r h σ=>(Zt a0 a1 r h).c σ
 have ev_slices_EqualFunc_Entry_value_Same_1:=fun a0 a1 r h σ=>(yS a0 a1 r h).c σ
 have ev_slices_EqualFunc_Tree_value_Same:=fun a0 a1 r h σ=>(xb a0 a1 r h).c σ
 refine zx (rs:=[.tmp 4]) U Tryz.func122 rfl Tryz.ntmps122 rfl Tryz.call122 (by simp) ?_;refine zK [(0,.agg (zU a0)),(1,.agg (zU a1))] ⟨rfl,rfl,trivial⟩ ?_;unfold wK.body at h;refine rgW [2,3] (aI @zU.eq_1 @yD) ?_
 refine rc [4] fun K J=>?_
 refine rnW 6 qF ?_;obtain⟨c1,hc1,h⟩:=bind_some h;refine xi 6 (fun L τ=>L=[(16,.bool c1)]∧τ=([.cells 0 (zU a0),.cells 0 (zU a1)]:ze)) ?_ ?_
 · refine Yw 10 rfl (fun hg10=>?_) (fun hg10=>?_)
   · have t2:=eq_true hg10;rw[if_pos hg10] at hc1;obtain⟨r3,hr3,hc1⟩:=bind_some hc1;refine rnN 4 ?_;refine clN rfl rfl rfl (ev_slices_EqualFunc_Tree_value_Same a0.fTrees a1.fTrees r3 hr3 _) ?_;refine rnN 1 ?_;cases hc1;refine zz ⟨rfl,_,_,⟨rfl,rfl⟩,.p t2⟩
   have t4:=eq_false hg10;rw[if_neg hg10] at hc1;refine rnN 6 ?_;cases hc1;refine zz ⟨rfl,_,_,⟨rfl,rfl⟩,.p t4⟩
 rintro _ _ ⟨rfl,rfl⟩;refine rnN 1 ?_;refine nkN J ?_;cases h;exact rtA
def zE.l8 (yM:zv→zv→Option Bool)(a1:List zv):List zv→Int→Option Bool
 |[],x6=>some true
 |y8::q8,x6=>(YI a1 x6).bind fun y14=>(yM y8 y14).bind fun r17=>(if (!r17)=true then some false else ((zE.l8 yM a1 q8) (x6+1)))
def zE.body (xf:zp→zp→Option Bool)(yM:zv→zv→Option Bool)(zF:(List zv)→(List zv)→Option Bool)(zO:(List zp)→(List zp)→Option Bool)(a0:List zv)(a1:List zv):Option Bool:=
 (if (qa a0:Int)=(qa a1:Int) then (zE.l8 yM a1 a0 0) else some false)
theorem zE.step (xf:zp→zp→Option Bool)(yM:zv→zv→Option Bool)(zF:(List zv)→(List zv)→Option Bool)(zO:(List zp)→(List zp)→Option Bool)(Yf:∀ (a0:zp) (a1:zp) (r:Bool),xf a0 a1=some r→ACalls qi 80 [.agg (zb a0),.agg (zb a1)] [] (fun r' _=>r'=.bool r))(Zt:∀ (a0:zv) (a1:zv) (r:Bool),yM a0 a1=some r→ACalls qi 122 [.agg (zU a0),.agg (zU a1)] [] (fun r' _=>r'=.bool r))(yS:∀ (a0:List zv) (a1:List zv) (r:Bool),zF a0 a1=some r→ACalls qi 121 [.ds true (qb zD a0) (qa a0) false,.ds true (qb zD a1) (qa a1) false,.fn (.func 122) [] []] [] (fun r' _=>r'=.bool r))(xb:∀ (a0:List zp) (a1:List zp) (r:Bool),zO a0 a1=some r→ACalls qi 123 [.ds true (qb yj a0) (qa a0) false,.ds true (qb yj a1) (qa a1) false,.fn (.func 80) [] []] [] (fun r' _=>r'=.bool r))(a0:List zv)(a1:List zv)(r:Bool)(h:zE.body xf yM zF zO a0 a1=some r):ACalls qi 121 [.ds true (qb zD a0) (qa a0) false,.ds true (qb zD a1) (qa a1) false,.fn (.func 122) [] []] [] (fun r' _=>r'=.bool r):=by
 have ev_value_Same:=fun a0 a1 r h σ=>(Yf a0 a1 r h).c σ
 have ev_value_Same_1:=fun a0 a1 r h σ=>(Zt a0 a1 r h).c σ
 have ev_slices_EqualFunc_Entry_value_Same_1:=fun a0 a1 r h σ=>(yS a0 a1 r h).c σ
 have ev_slices_EqualFunc_Tree_value_Same:=fun a0 a1 r h σ=>(xb a0 a1 r h).c σ
 refine zx (rs:=[.tmp 6]) U Tryz.func121 rfl Tryz.ntmps121 rfl Tryz.call121 (by simp) ?_;refine zK [(0,.ds true (qb zD a0) (qa a0) false),(1,.ds true (qb zD a1) (qa a1) false),(2,.fn (.func 122) [] [])] ⟨rfl,rfl,rfl,trivial⟩ ?_;unfold zE.body at h;refine O [0,1,2] ?_
 refine zd fun Z1 hZ1=>?_
 refine rgW [0,1,2,14] qF ?_;refine yv rfl (fun hc2=>?_) (fun hc2=>?_)
 · rw[if_neg hc2] at h;have t3:=eq_false hc2;refine rgW [6] t3 ?_;cases h;exact rtA
 rw[if_pos hc2] at h;have t4:=eq_true hc2;apply zm;apply hZ1
 refine zd fun Z5 hZ5=>?_
 refine rgW [1,2,15,16,17] t4 ?_;apply zq
 refine xr 15 fun hb8=>?_
 replace hb8:qa a0≤9223372036854775807:=hb8.1;refine yp (fun m L τ=>∃ (p8 q8:List zv) (x6:Int),m=qa q8∧L=[(1,.ds true (qb zD a1) (qa a1) false),(2,.fn (.func 122) [] []),(15,.ds true (qb zD a0) (qa a0) false),(16,.int .i64 (qa a0:Int)),(17,.int .i64 x6)]∧τ=([]:ze)∧a0=p8++q8∧x6=(qa p8:Int)∧zE.l8 yM a1 q8 x6=some r) _ ⟨[],a0,0,rfl,rfl,rfl,rfl,rfl,h⟩ .s ?_;rintro m L τ ⟨p8,q8,x6,rfl,rfl,rfl,hE8,hi8,h⟩
 rcases q8 with _|⟨y8,q8⟩
 · have hz8:=xM hE8 hi8;simp only[zE.l8] at h;refine rgW [1,2,15,16,17,18] (aI t4 hz8) ?_
   refine zd fun Z9 hZ9=>?_
   refine zQ rfl ?_;apply yl;apply hZ5;refine rgW [6] (aI t4 hz8) ?_;cases h;exact rtA
 obtain⟨hz8,hw8,hx8,hE'8,hi'8⟩:=xq hE8 hi8 hb8;simp only[zE.l8] at h;refine rgW [1,2,15,16,17,18] (aI t4 (aI hz8 hw8)) ?_
 refine zd fun Z10 hZ10=>?_
 refine zS rfl ?_;apply zm;apply hZ10
 refine zd fun Z11 hZ11=>?_
 apply zq;have f12:=E34.idxS hx8;have f13:=E34.loadS rfl rfl hx8;refine rgW [1,2,7,8,15,16,17] (aI @zU.eq_1 (aI @yD (aI t4 (aI hz8 (aI hw8 (aI f12 f13)))))) ?_;obtain⟨y14,hy14,h⟩:=bind_some h;have f15:=E34.idxS hy14;have f16:=E34.loadS rfl rfl hy14;refine rgW [1,2,8,9,15,16,17] (aI @zU.eq_1 (aI @yD (aI t4 (aI hz8 (aI hw8 (aI f15 f16)))))) ?_
 refine rc [1,2,15,16,17,30] fun K J=>?_
 obtain⟨r17,hr17,h⟩:=bind_some h;refine rnW 3 (aI @zU.eq_1 (aI @yD (aI t4 (aI hz8 hw8)))) ?_;refine clN rfl rfl rfl (ev_value_Same_1 y8 y14 r17 hr17 _) ?_;refine rnW 1 (aI @zU.eq_1 (aI @yD (aI t4 (aI hz8 hw8)))) ?_;refine nkN J ?_;refine zY (b:=(!r17)) rfl (fun hc18=>?_) (fun hc18=>?_)
 · rw[if_pos hc18] at h;refine rgW [6] (aI t4 (aI hz8 hw8)) ?_;cases h;exact rtA
 rw[Zc hc18] at h;apply zm;apply hZ11
 refine rgE U [1,2,15,16,17] fun K J=>?_
 simp only[go_sem,qh,qd,qc,qe,qf,qg,reduceIte,reduceCtorEq,Zp,t4,hz8,hw8];apply J
 exact⟨_,_,_,qK q8.length,⟨p8++[y8],q8,x6+1,rfl,rfl,rfl,hE'8,hi'8,h⟩,(.t [] false)⟩
def zN.l8 (xf:zp→zp→Option Bool)(a1:List zp):List zp→Int→Option Bool
 |[],x6=>some true
 |y8::q8,x6=>(YI a1 x6).bind fun y14=>(xf y8 y14).bind fun r17=>(if (!r17)=true then some false else ((zN.l8 xf a1 q8) (x6+1)))
def zN.body (xf:zp→zp→Option Bool)(yM:zv→zv→Option Bool)(zF:(List zv)→(List zv)→Option Bool)(zO:(List zp)→(List zp)→Option Bool)(a0:List zp)(a1:List zp):Option Bool:=
 (if (qa a0:Int)=(qa a1:Int) then (zN.l8 xf a1 a0 0) else some false)
theorem zN.step (xf:zp→zp→Option Bool)(yM:zv→zv→Option Bool)(zF:(List zv)→(List zv)→Option Bool)(zO:(List zp)→(List zp)→Option Bool)(Yf:∀ (a0:zp) (a1:zp) (r:Bool),xf a0 a1=some r→ACalls qi 80 [.agg (zb a0),.agg (zb a1)] [] (fun r' _=>r'=.bool r))(Zt:∀ (a0:zv) (a1:zv) (r:Bool),yM a0 a1=some r→ACalls qi 122 [.agg (zU a0),.agg (zU a1)] [] (fun r' _=>r'=.bool r))(yS:∀ (a0:List zv) (a1:List zv) (r:Bool),zF a0 a1=some r→ACalls qi 121 [.ds true (qb zD a0) (qa a0) false,.ds true (qb zD a1) (qa a1) false,.fn (.func 122) [] []] [] (fun r' _=>r'=.bool r))(xb:∀ (a0:List zp) (a1:List zp) (r:Bool),zO a0 a1=some r→ACalls qi 123 [.ds true (qb yj a0) (qa a0) false,.ds true (qb yj a1) (qa a1) false,.fn (.func 80) [] []] [] (fun r' _=>r'=.bool r))(a0:List zp)(a1:List zp)(r:Bool)(h:zN.body xf yM zF zO a0 a1=some r):ACalls qi 123 [.ds true (qb yj a0) (qa a0) false,.ds true (qb yj a1) (qa a1) false,.fn (.func 80) [] []] [] (fun r' _=>r'=.bool r):=by
 have ev_value_Same:=fun a0 a1 r h σ=>(Yf a0 a1 r h).c σ
 have ev_value_Same_1:=fun a0 a1 r h σ=>(Zt a0 a1 r h).c σ
 have ev_slices_EqualFunc_Entry_value_Same_1:=fun a0 a1 r h σ=>(yS a0 a1 r h).c σ
 have ev_slices_EqualFunc_Tree_value_Same:=fun a0 a1 r h σ=>(xb a0 a1 r h).c σ
 refine zx (rs:=[.tmp 6]) U Tryz.func123 rfl Tryz.ntmps123 rfl Tryz.call123 (by simp) ?_;refine zK [(0,.ds true (qb yj a0) (qa a0) false),(1,.ds true (qb yj a1) (qa a1) false),(2,.fn (.func 80) [] [])] ⟨rfl,rfl,rfl,trivial⟩ ?_;unfold zN.body at h;refine O [0,1,2] ?_
 refine zd fun Z1 hZ1=>?_
 refine rgW [0,1,2,14] qF ?_;refine yv rfl (fun hc2=>?_) (fun hc2=>?_)
 · rw[if_neg hc2] at h;have t3:=eq_false hc2;refine rgW [6] t3 ?_;cases h;exact rtA
 rw[if_pos hc2] at h;have t4:=eq_true hc2;apply zm;apply hZ1
 refine zd fun Z5 hZ5=>?_
 refine rgW [1,2,15,16,17] t4 ?_;apply zq
 refine xr 15 fun hb8=>?_
 replace hb8:qa a0≤9223372036854775807:=hb8.1;refine yp (fun m L τ=>∃ (p8 q8:List zp) (x6:Int),m=qa q8∧L=[(1,.ds true (qb yj a1) (qa a1) false),(2,.fn (.func 80) [] []),(15,.ds true (qb yj a0) (qa a0) false),(16,.int .i64 (qa a0:Int)),(17,.int .i64 x6)]∧τ=([]:ze)∧a0=p8++q8∧x6=(qa p8:Int)∧zN.l8 xf a1 q8 x6=some r) _ ⟨[],a0,0,rfl,rfl,rfl,rfl,rfl,h⟩ .s ?_;rintro m L τ ⟨p8,q8,x6,rfl,rfl,rfl,hE8,hi8,h⟩
 rcases q8 with _|⟨y8,q8⟩
 · have hz8:=xM hE8 hi8;simp only[zN.l8] at h;refine rgW [1,2,15,16,17,18] (aI t4 hz8) ?_
   refine zd fun Z9 hZ9=>?_
   refine zQ rfl ?_;apply yl;apply hZ5;refine rgW [6] (aI t4 hz8) ?_;cases h;exact rtA
 obtain⟨hz8,hw8,hx8,hE'8,hi'8⟩:=xq hE8 hi8 hb8;simp only[zN.l8] at h;refine rgW [1,2,15,16,17,18] (aI t4 (aI hz8 hw8)) ?_
 refine zd fun Z10 hZ10=>?_
 refine zS rfl ?_;apply zm;apply hZ10
 refine zd fun Z11 hZ11=>?_
 apply zq;have f12:=E38.idxS hx8;have f13:=E38.loadS rfl rfl hx8;refine rgW [1,2,7,8,15,16,17] (aI @zb.eq_1 (aI @zf (aI t4 (aI hz8 (aI hw8 (aI f12 f13)))))) ?_;obtain⟨y14,hy14,h⟩:=bind_some h;have f15:=E38.idxS hy14;have f16:=E38.loadS rfl rfl hy14;refine rgW [1,2,8,9,15,16,17] (aI @zb.eq_1 (aI @zf (aI t4 (aI hz8 (aI hw8 (aI f15 f16)))))) ?_
 refine rc [1,2,15,16,17,30] fun K J=>?_
 obtain⟨r17,hr17,h⟩:=bind_some h;refine rnW 3 (aI @zb.eq_1 (aI @zf (aI t4 (aI hz8 hw8)))) ?_;refine clN rfl rfl rfl (ev_value_Same y8 y14 r17 hr17 _) ?_;refine rnW 1 (aI @zb.eq_1 (aI @zf (aI t4 (aI hz8 hw8)))) ?_;refine nkN J ?_;refine zY (b:=(!r17)) rfl (fun hc18=>?_) (fun hc18=>?_)
 · rw[if_pos hc18] at h;refine rgW [6] (aI t4 (aI hz8 hw8)) ?_;cases h;exact rtA
 rw[Zc hc18] at h;apply zm;apply hZ11
 refine rgE U [1,2,15,16,17] fun K J=>?_
 simp only[go_sem,qh,qd,qc,qe,qf,qg,reduceIte,reduceCtorEq,Zp,t4,hz8,hw8];apply J
 exact⟨_,_,_,qK q8.length,⟨p8++[y8],q8,x6+1,rfl,rfl,rfl,hE'8,hi'8,h⟩,(.t [] false)⟩
mutual
def wz : Nat→zp→zp→Option Bool
 |0,_,_=>none
 |k+1,a0,a1=>wz.body (wz k) (wK k) (zE k) (zN k) a0 a1
def wK : Nat→zv→zv→Option Bool
 |0,_,_=>none
 |k+1,a0,a1=>wK.body (wz k) (wK k) (zE k) (zN k) a0 a1
def zE : Nat→(List zv)→(List zv)→Option Bool
 |0,_,_=>none
 |k+1,a0,a1=>zE.body (wz k) (wK k) (zE k) (zN k) a0 a1
def zN : Nat→(List zp)→(List zp)→Option Bool
 |0,_,_=>none
 |k+1,a0,a1=>zN.body (wz k) (wK k) (zE k) (zN k) a0 a1
end
theorem wz.all (k:Nat):(∀ (a0:zp) (a1:zp) (r:Bool),wz k a0 a1=some r→ACalls qi 80 [.agg (zb a0),.agg (zb a1)] [] (fun r' _=>r'=.bool r))∧(∀ (a0:zv) (a1:zv) (r:Bool),wK k a0 a1=some r→ACalls qi 122 [.agg (zU a0),.agg (zU a1)] [] (fun r' _=>r'=.bool r))∧(∀ (a0:List zv) (a1:List zv) (r:Bool),zE k a0 a1=some r→ACalls qi 121 [.ds true (qb zD a0) (qa a0) false,.ds true (qb zD a1) (qa a1) false,.fn (.func 122) [] []] [] (fun r' _=>r'=.bool r))∧(∀ (a0:List zp) (a1:List zp) (r:Bool),zN k a0 a1=some r→ACalls qi 123 [.ds true (qb yj a0) (qa a0) false,.ds true (qb yj a1) (qa a1) false,.fn (.func 80) [] []] [] (fun r' _=>r'=.bool r)):=by
 induction k with
 |zero=>exact⟨(fun a0 a1 r h=>by simp only[wz] at h; cases h),(fun a0 a1 r h=>by simp only[wK] at h; cases h),(fun a0 a1 r h=>by simp only[zE] at h; cases h),(fun a0 a1 r h=>by simp only[zN] at h; cases h)⟩
 |succ k ih=>exact⟨(fun a0 a1 r h=>wz.step _ _ _ _ ih.1 ih.2.1 ih.2.2.1 ih.2.2.2 a0 a1 r (by simpa only [wz] using h)),(fun a0 a1 r h=>wK.step _ _ _ _ ih.1 ih.2.1 ih.2.2.1 ih.2.2.2 a0 a1 r (by simpa only [wK] using h)),(fun a0 a1 r h=>zE.step _ _ _ _ ih.1 ih.2.1 ih.2.2.1 ih.2.2.2 a0 a1 r (by simpa only [zE] using h)),(fun a0 a1 r h=>zN.step _ _ _ _ ih.1 ih.2.1 ih.2.2.1 ih.2.2.2 a0 a1 r (by simpa only [zN] using h))⟩
theorem wz.ev (k:Nat)(a0:zp)(a1:zp)(r:Bool)(h:wz k a0 a1=some r)(σ:ze):ACalls qi 80 [.agg (zb a0),.agg (zb a1)] σ (fun r' σ'=>r'=.bool r∧σ'=σ):=
 ((wz.all k).1 a0 a1 r h).c σ
def xx.j10 (x5:Int)(rec7:Int→Option zp):Option zp:=
 (rec7 (x5+1))
def xx.l7 (a0:zB)(a3:List UInt8)(a4:zp)(r1:wT×Bool):List GRow→Int→Option zp
 |[],x5=>some (⟨3,0,[],([]:List zv),([]:List yC)⟩:zp)
 |y7::q7,x5=>(if y7.fMethod=a3 then (Zr a0 r1.1.fIn y7.fIn).bind fun r17=>(Zr a0 r1.1.fOut y7.fOut).bind fun r18=>(if (r17.2&&r18.2)=true then (wz xz r17.1 a4).bind fun r19=>some r19 else some false).bind fun c19=>(if c19=true then some r18.1 else (xx.j10 x5 (xx.l7 a0 a3 a4 r1 q7))) else (xx.j10 x5 (xx.l7 a0 a3 a4 r1 q7)))
def xx (a0:zB)(a1:zB)(a2:List GRow)(a3:List UInt8)(a4:zp):Option zp:=
 bnd (wn a0 a3) fun r1=>(if (!r1.2)=true then some (⟨0,0,[],([]:List zv),([]:List yC)⟩:zp) else (xx.l7 a0 a3 a4 r1 a2 0))
theorem xx.ok {a0 a1 a2 a3 a4 r}(h:xx a0 a1 a2 a3 a4=some r):ACalls qi 42 [.agg (za a0),.agg (za a1),.ds true (qb yE a2) (qa a2) false,.str a3,.agg (zb a4)] [] (fun r' _=>r'=.agg (zb r)):=by
 refine zx (rs:=[.cell 10 37]) U Tryz.func42 rfl Tryz.ntmps42 rfl Tryz.call42 (by simp) ?_;refine zK [(0,.agg (za a0)),(1,.agg (za a1)),(2,.ds true (qb yE a2) (qa a2) false),(3,.str a3),(4,.agg (zb a4))] ⟨rfl,rfl,rfl,rfl,rfl,trivial⟩ ?_;unfold xx at h;refine rgW [2,3,5,9,10] (aI @zb.eq_1 (aI @za.eq_1 @zf)) ?_
 refine rc [2,3,5,9,10,11,12] fun K J=>?_
 obtain⟨r1,hr1,h⟩:=yq h;refine rnW 2 @za.eq_1 ?_;refine clN rfl rfl rfl ((wn.ok hr1).c _) ?_;refine rnW 6 (aI @zr.eq_1 @za.eq_1) ?_;refine nkN J ?_
 refine zd fun Z2 hZ2=>?_
 refine O [2,3,5,9,10,11,26] ?_;refine zY (b:=(!r1.2)) rfl (fun hc3=>?_) (fun hc3=>?_)
 · rw[if_pos hc3] at h;refine rgW [10] (aI @zb.eq_1 @zf) ?_;cases h;exact rtA
 rw[Zc hc3] at h;apply zm;apply hZ2
 refine zd fun Z4 hZ4=>?_
 refine O [3,5,9,10,11,28,29,30] ?_;apply zq
 refine xr 28 fun hb7=>?_
 replace hb7:qa a2≤9223372036854775807:=hb7.1;refine yp (fun m L τ=>∃ (p7 q7:List GRow) (x5:Int),m=qa q7∧L=[(3,.str a3),(5,.op 0 0 0),(9,.op 1 0 0),(10,.op 2 0 0),(11,.op 3 0 0),(28,.ds true (qb yE a2) (qa a2) false),(29,.int .i64 (qa a2:Int)),(30,.int .i64 x5)]∧τ=([.cells 0 (za a0),.cells 0 (zb a4),.cells 0 [.int .i64 0,.int .i64 0,.str [],.ds true [] 0 true,.ds true [] 0 true],.cells 0 [.str r1.1.fName,.str r1.1.fIn,.str r1.1.fOut]]:ze)∧a2=p7++q7∧x5=(qa p7:Int)∧xx.l7 a0 a3 a4 r1 q7 x5=some r) _ ⟨[],a2,0,rfl,rfl,rfl,rfl,rfl,h⟩ (.t [0,2,3,4] false) ?_;rintro m L τ ⟨p7,q7,x5,rfl,rfl,rfl,hE7,hi7,h⟩
 rcases q7 with _|⟨y7,q7⟩
 · have hz7:=xM hE7 hi7;simp only[xx.l7] at h;refine rgW [3,5,9,10,11,28,29,30,31] hz7 ?_
   refine zd fun Z8 hZ8=>?_
   refine zQ rfl ?_;apply yl;apply hZ4;refine rgW [10] (aI @zb.eq_1 (aI @zf hz7)) ?_;cases h;exact rtA
 obtain⟨hz7,hw7,hx7,hE'7,hi'7⟩:=xq hE7 hi7 hb7;simp only[xx.l7] at h;refine rgW [3,5,9,10,11,28,29,30,31] (aI hz7 hw7) ?_
 refine zd fun Z9 hZ9=>?_
 refine zS rfl ?_;apply zm;apply hZ9;refine xV (fun L τ=>L=[(3,.str a3),(5,.op 0 0 0),(9,.op 1 0 0),(10,.op 2 0 0),(11,.op 3 0 0),(28,.ds true (qb yE a2) (qa a2) false),(29,.int .i64 (qa a2:Int)),(30,.int .i64 x5)]∧τ=([.cells 0 (za a0),.cells 0 (zb a4),.cells 0 [.int .i64 0,.int .i64 0,.str [],.ds true [] 0 true,.ds true [] 0 true],.cells 0 [.str r1.1.fName,.str r1.1.fIn,.str r1.1.fOut]]:ze)∧xx.j10 x5 (xx.l7 a0 a3 a4 r1 q7)=some r) ?_ ?_
 · apply zq;have f11:=E82.idxS hx7;have f12:=E82.loadS rfl rfl hx7;refine rgW [3,5,9,10,11,14,28,29,30] (aI @zb.eq_1 (aI @yE.eq_1 (aI @zf (aI hz7 (aI hw7 (aI f11 f12)))))) ?_
   refine zd fun Z13 hZ13=>?_
   refine rgW [3,5,9,10,11,14,28,29,30,37] (aI hz7 hw7) ?_;refine yv rfl (fun hc14=>?_) (fun hc14=>?_)
   · rw[if_neg hc14] at h;have t15:=eq_false hc14;apply yl;exact⟨_,_,⟨rfl,rfl,h⟩,(.t [0,1,2,3] false)⟩
   rw[if_pos hc14] at h;have t16:=eq_true hc14;apply zm;apply hZ13
   refine rc [3,5,9,10,11,14,15,16,28,29,30] fun K J=>?_
   obtain⟨r17,hr17,h⟩:=bind_some h;refine rnW 5 (aI @zb.eq_1 (aI @za.eq_1 (aI @zf (aI hz7 (aI hw7 t16))))) ?_;refine clN rfl rfl rfl ((Zr.ok hr17).c _) ?_;refine rnW 6 (aI @zb.eq_1 (aI @za.eq_1 (aI @zf (aI hz7 (aI hw7 t16))))) ?_;refine nkN J ?_
   refine rc [3,5,9,10,11,15,16,17,18,28,29,30] fun K J=>?_
   obtain⟨r18,hr18,h⟩:=bind_some h;refine rnW 5 (aI @zb.eq_1 (aI @za.eq_1 (aI @zf (aI hz7 (aI hw7 t16))))) ?_;refine clN rfl rfl rfl ((Zr.ok hr18).c _) ?_;refine rnW 6 (aI @zb.eq_1 (aI @za.eq_1 (aI @zf (aI hz7 (aI hw7 t16))))) ?_;refine nkN J ?_
   refine rc [3,5,9,10,11,17,28,29,30,64] fun K J=>?_
   refine rnW 2 (aI hz7 (aI hw7 t16)) ?_;refine cut (b:=r17.2) (hb:=boolP_eq _) 2 57 59 [3,5,9,10,11,15,17,28,29,30] (r17.2&&r18.2) (aI hz7 (aI hw7 t16)) rfl ?_;refine rnW 1 (aI hz7 (aI hw7 t16)) ?_;obtain⟨c19,hc19,h⟩:=bind_some h;refine xi 4 (fun L τ=>L=[(3,.str a3),(5,.op 0 0 0),(9,.op 1 0 0),(10,.op 2 0 0),(11,.op 3 0 0),(17,.op 6 0 0),(28,.ds true (qb yE a2) (qa a2) false),(29,.int .i64 (qa a2:Int)),(30,.int .i64 x5),(64,.bool c19)]∧τ=([.cells 0 (za a0),.cells 0 (zb a4),.cells 0 [.int .i64 0,.int .i64 0,.str [],.ds true [] 0 true,.ds true [] 0 true],.cells 0 [.str r1.1.fName,.str r1.1.fIn,.str r1.1.fOut],.cells 0 (yE y7),.cells 0 (zb r17.1),.cells 0 (zb r18.1)]:ze)) ?_ ?_
   · refine wA (b:=(r17.2&&r18.2)) 60 rfl (fun hg60=>?_) (fun hg60=>?_)
     · rw[if_pos hg60] at hc19;obtain⟨r20,hr20,hc19⟩:=bind_some hc19;refine rnW 2 (aI @zb.eq_1 (aI @zf (aI hz7 (aI hw7 t16)))) ?_;refine clN rfl rfl rfl (wz.ev xz r17.1 a4 r20 hr20 _) ?_;refine rnW 1 (aI @zb.eq_1 (aI @zf (aI hz7 (aI hw7 t16)))) ?_;cases hc19;refine zz ⟨rfl,_,_,⟨rfl,rfl⟩,.b hg60⟩
     rw[Zc hg60] at hc19;refine rnW 4 (aI @zb.eq_1 (aI @zf (aI hz7 (aI hw7 t16)))) ?_;cases hc19;refine zz ⟨rfl,_,_,⟨rfl,rfl⟩,.b hg60⟩
   rintro _ _ ⟨rfl,rfl⟩;refine nkN J ?_;refine zY (b:=c19) rfl (fun hc21=>?_) (fun hc21=>?_)
   · rw[if_pos hc21] at h;refine rgW [10] (aI @zb.eq_1 (aI @zf (aI hz7 (aI hw7 t16)))) ?_;cases h;exact rtA
   rw[Zc hc21] at h;apply zm;exact⟨_,_,⟨rfl,rfl,h⟩,(.t [0,1,2,3] false)⟩
 rintro _ _ ⟨rfl,rfl,h⟩;unfold xx.j10 at h
 refine rgE U [3,5,9,10,11,28,29,30] fun K J=>?_
 simp only[go_sem,qh,qd,qc,qe,qf,qg,reduceIte,reduceCtorEq,Zp,hz7,hw7];apply J
 exact⟨_,_,_,qK q7.length,⟨p7++[y7],q7,x5+1,rfl,rfl,rfl,hE'7,hi'7,h⟩,.s⟩
def yU.j17 (a0:xX)(w12:YJ Int Int)(l14:List yK)(v15:Nat)(l16:YJ yK y3):Option (Int×xX):=
 some (0,(⟨a0.fsize,l14,v15,l16,w12⟩:xX))
def yU.j22 (a0:xX)(a1:Int)(a2:Int)(w9:YJ yK y3)(w12:YJ Int Int)(y18:yK)(x21:Bool):Option (Int×xX):=
 (if x21=true then (grd ((0:Int)≤1∧(1:Int)≤(qa (a0.forder++[(⟨a1,a2⟩:yK)]):Int))).bind fun _u25=>(yU.j17 a0 w12 (List.drop 1 (a0.forder++[(⟨a1,a2⟩:yK)])) (a0.vorder+1+1) (YJ.del w9 y18)) else (yU.j17 a0 w12 (a0.forder++[(⟨a1,a2⟩:yK)]) (a0.vorder+1) w9))
def yU (a0:xX)(a1:Int)(a2:Int)(a3:y3):Option (Int×xX):=
 bnd (xw a0 a1 a2) fun r2=>(if r2.2=1 then (vaV (qa a0.forder+1) 16).bind fun _u6=>(YJ.sto (YJ.ent (⟨0,0,0,0,0,[],0,[]⟩:y3) a0.freplies (⟨a1,a2⟩:yK)) (YJ.stamp a0.freplies (⟨a1,a2⟩:yK)) a3).bind fun w9=>(YJ.sto (YJ.ent 0 a0.flast a1) (YJ.stamp a0.flast a1) a2).bind fun w12=>(YI (a0.forder++[(⟨a1,a2⟩:yK)]) 0).bind fun y18=>(if a0.fsize<(qa (a0.forder++[(⟨a1,a2⟩:yK)]):Int) then (yU.j22 a0 a1 a2 w9 w12 y18 (!(decide (y18.ffrom=a1)&&decide (y18.fid=a2)))) else (yU.j22 a0 a1 a2 w9 w12 y18 false)) else some (20,a0))
theorem yU.ok {a0 a1 a2 a3 r}(h:yU a0 a1 a2 a3=some r):ACalls qi 134 [.op 0 0 0,.int .i64 a1,.int .i64 a2,.agg (zn a3)] [.cells 0 [.int .i64 a0.fsize,.os true 2 1 (a0.vorder) 0 (qa a0.forder) false,.mp 2,.mp 3],.cells (a0.vorder) (qb zl a0.forder),.map (y0 zC zT a0.freplies.l) (some (a0.freplies.bs,a0.freplies.ck)),.map (y0 (AV.int .i64) (AV.int .i64) a0.flast.l) (some (a0.flast.bs,a0.flast.ck))] (fun r' σ'=>r'=.int .i64 r.1∧σ'=[.cells 0 [.int .i64 r.2.fsize,.os true 2 1 (r.2.vorder) 0 (qa r.2.forder) false,.mp 2,.mp 3],.cells (r.2.vorder) (qb zl r.2.forder),.map (y0 zC zT r.2.freplies.l) (some (r.2.freplies.bs,r.2.freplies.ck)),.map (y0 (AV.int .i64) (AV.int .i64) r.2.flast.l) (some (r.2.flast.bs,r.2.flast.ck))]):=by
 refine Zx [0,1,2,3] (rs:=[.tmp 8]) U Tryz.func134 rfl Tryz.ntmps134 rfl Tryz.call134 (by simp) rfl ?_;refine zK [(0,.op 0 0 0),(1,.int .i64 a1),(2,.int .i64 a2),(3,.agg (zn a3))] ⟨rfl,rfl,rfl,rfl,trivial⟩ ?_;unfold yU at h;refine rgW [0,1,2,7] @zn.eq_1 ?_
 refine zd fun Z1 hZ1=>?_
 refine rc [0,1,2,7,10] fun K J=>?_
 obtain⟨r2,hr2,h⟩:=yq h;refine rnN 3 ?_;refine clN rfl rfl rfl (@id (ACalls qi 132 [.op 0 0 0,.int .i64 a1,.int .i64 a2] [.cells 0 [.int .i64 a0.fsize,.os true 2 1 (a0.vorder) 0 (qa a0.forder) false,.mp 2,.mp 3],.cells (a0.vorder) (qb zl a0.forder),.map (y0 zC zT a0.freplies.l) (some (a0.freplies.bs,a0.freplies.ck)),.map (y0 (AV.int .i64) (AV.int .i64) a0.flast.l) (some (a0.flast.bs,a0.flast.ck)),.cells 0 (zn a3)] (fun r' σ'=>r'=.tup [.agg (zn r2.1),.int .i64 r2.2]∧σ'=[.cells 0 [.int .i64 a0.fsize,.os true 2 1 (a0.vorder) 0 (qa a0.forder) false,.mp 2,.mp 3],.cells (a0.vorder) (qb zl a0.forder),.map (y0 zC zT a0.freplies.l) (some (a0.freplies.bs,a0.freplies.ck)),.map (y0 (AV.int .i64) (AV.int .i64) a0.flast.l) (some (a0.flast.bs,a0.flast.ck)),.cells 0 (zn a3)])) ((xw.ok hr2).ix [0,1,2,3])) ?_;refine rnW 6 @zn.eq_1 ?_;refine nkN J ?_;refine rgW [0,1,2,7,21] qF ?_;refine yv rfl (fun hc3=>?_) (fun hc3=>?_)
 · rw[if_neg hc3] at h;have t4:=eq_false hc3;refine rgW [8] t4 ?_;apply yg;cases h;simp only[ZA,yQ,y5,xN,exists_eq_left',go_sem,qh,qd,qc,qe,qf,qg,reduceIte,reduceCtorEq,zl];refine⟨by decide,by simp,?_,?_⟩
   · first|rfl|(simp only[go_sem,qh,qd,qc,qe,qf,qg,reduceIte,reduceCtorEq,push_cast,if_true,qq,qn,qu,qr,qs,qt,qz,qo,qw,qv,qm,zw,zl]<;>rfl)
   first|rfl|(simp only[go_sem,qh,qd,qc,qe,qf,qg,reduceIte,reduceCtorEq,push_cast,if_true,qq,qn,qu,qr,qs,qt,qz,qo,qw,qv,qm,zw,zl]<;>rfl)
 rw[if_pos hc3] at h;have t5:=eq_true hc3;apply zm;apply hZ1;refine rgW [0,1,2,7,11] (aI @zl.eq_1 t5) ?_;obtain⟨_u6,hu6,h⟩:=bind_some h;have gu6:=xF hu6;have f7:=(yf E207.len a0.forder)
 refine rd [0,1,2,7,11] fun K J=>?_
 refine DW.start (T:=tab) [.any,.any,.any,.any,.own 1 [],.at [],.eff,.eff,.any,.any,.eff] [(1,[])] ?_;refine DW.runN U 8 ?_;simp only[go_sem,qh,qd,qc,qe,qf,qg,reduceIte,reduceCtorEq,zV,yI,ug,qW,qU,true_and,uj,xj,yG,xg,zl,t5,gu6,f7,yW,ua,qZ,AV.one,qN,qo,gt_iff_lt,ym,qH,qE,qO,qD,qG,qj,qp,qB,qn,qA,qI];refine DW.runN U 3 ?_;simp only[go_sem,qh,qd,qc,qe,qf,qg,reduceIte,reduceCtorEq,zl,t5,gu6,f7,yW,ua,qZ,AV.one,qN,qo,gt_iff_lt,ym,qH,qE,qO,qD,qG,qj,qp,qB,qn,qA,qI];refine DW.fin U (by decide +kernel) rfl ?_;simp only[zH,ye,yx,Zn,upd,qc,reduceIte,xh,xO];apply J
 refine xB (L:=[(0,.op 0 0 0),(1,.int .i64 a1),(2,.int .i64 a2),(7,.op 4 0 0),(11,.op 6 0 0)]) (τ:=[.cells 0 [.int .i64 a0.fsize,.os true 2 1 (a0.vorder+1) 0 (qa (a0.forder++[(⟨a1,a2⟩:yK)])) false,.mp 2,.mp 3],.cells (a0.vorder+1) (qb zl (a0.forder++[(⟨a1,a2⟩:yK)])),.map (y0 zC zT a0.freplies.l) (some (a0.freplies.bs,a0.freplies.ck)),.map (y0 (AV.int .i64) (AV.int .i64) a0.flast.l) (some (a0.flast.bs,a0.flast.ck)),.cells 0 (zn a3),.cells 0 (zn r2.1),.cells 0 [.int .i64 a1,.int .i64 a2],.cells 0 [.int .i64 a1,.int .i64 a2]]) .s ?_
 have f8:=fun (o0:Yq) (o1:Yq) (x:ze)=>entry_B (T:=tab) (t:=205) (ek:=zC) (ev:=zT) (z:=(⟨0,0,0,0,0,[],0,[]⟩:y3)) KA268 rfl rfl rfl rfl a0.freplies (⟨a1,a2⟩:yK) (o0::o1::.map (y0 zC zT a0.freplies.l) (some (a0.freplies.bs,a0.freplies.ck))::x) 2 rfl rfl
 simp only[vaZ,zC,zl,zT,zn] at f8;obtain⟨w9,hw9,h⟩:=bind_some h
 have f10:=fun (o0:Yq) (o1:Yq) (x:ze)=>store_B (ek:=zC) (ev:=zT) hw9 (o0::o1::.map (y0 zC zT (YJ.ent (⟨0,0,0,0,0,[],0,[]⟩:y3) a0.freplies (⟨a1,a2⟩:yK)).l) (some ((YJ.ent (⟨0,0,0,0,0,[],0,[]⟩:y3) a0.freplies (⟨a1,a2⟩:yK)).bs,(YJ.ent (⟨0,0,0,0,0,[],0,[]⟩:y3) a0.freplies (⟨a1,a2⟩:yK)).ck))::x) 2 rfl rfl .i64
 simp only[vaZ,zT,zn] at f10
 have f11:=fun (o0:Yq) (o1:Yq) (o2:Yq) (x:ze)=>entry_B (T:=tab) (t:=206) (ek:=(AV.int .i64)) (ev:=(AV.int .i64)) (z:=0) (vc8.int rfl rfl rfl rfl) rfl rfl rfl rfl a0.flast a1 (o0::o1::o2::.map (y0 (AV.int .i64) (AV.int .i64) a0.flast.l) (some (a0.flast.bs,a0.flast.ck))::x) 3 rfl rfl
 simp only[vaZ] at f11;obtain⟨w12,hw12,h⟩:=bind_some h
 have f13:=fun (o0:Yq) (o1:Yq) (o2:Yq) (x:ze)=>store_B (ek:=(AV.int .i64)) (ev:=(AV.int .i64)) hw12 (o0::o1::o2::.map (y0 (AV.int .i64) (AV.int .i64) (YJ.ent 0 a0.flast a1).l) (some ((YJ.ent 0 a0.flast a1).bs,(YJ.ent 0 a0.flast a1).ck))::x) 3 rfl rfl .i64
 simp only[vaZ] at f13
 refine rd [0,11] fun K J=>?_
 refine DW.start (T:=tab) [.any,.any,.any,.at [],.at [],.any,.any,.any,.at [],.any,.own 1 [2],.any,.eff,.any,.eff,.eff,.any,.eff] [(1,[2])] ?_;refine DW.runN U 8 ?_;simp only[go_sem,qh,qd,qc,qe,qf,qg,reduceIte,reduceCtorEq,vaZ,zl,zn,zC,zT,t5,f8,f10,f11,f13];refine DW.runN U 8 ?_;simp only[go_sem,qh,qd,qc,qe,qf,qg,reduceIte,reduceCtorEq,vaZ,zl,zn,zC,zT,t5,f8,f10,f11,f13];refine DW.runN U 2 ?_;simp only[go_sem,qh,qd,qc,qe,qf,qg,reduceIte,reduceCtorEq,vaZ,zl,zn,zC,zT,t5,f8,f10,f11,f13];refine DW.fin U (by decide +kernel) rfl ?_;simp only[zH,ye,yx,Zn,upd,qc,reduceIte,xh,xO];apply J
 refine xV (fun L τ=>∃ (l14:List yK) (v15:Nat) (l16:YJ yK y3),L=[]∧τ=([.cells 0 [.int .i64 a0.fsize,.os true 2 1 v15 0 (qa l14) false,.mp 2,.mp 3],.cells v15 (qb zl l14),.map (y0 zC zT l16.l) (some (l16.bs,l16.ck)),.map (y0 (AV.int .i64) (AV.int .i64) w12.l) (some (w12.bs,w12.ck))]:ze)∧yU.j17 a0 w12 l14 v15 l16=some r) ?_ ?_
 · obtain⟨y18,hy18,h⟩:=bind_some h;have f19:=E207.idxO hy18;have f20:=E207.rdO hy18;refine rgW [0,11,12] (aI @zl.eq_1 (aI t5 (aI f19 f20))) ?_;refine xV (fun L τ=>∃ (x21:Bool),L=[(0,.op 0 0 0),(12,.op 4 0 0),(71,.bool x21)]∧τ=([.cells 0 [.int .i64 a0.fsize,.os true 2 1 (a0.vorder+1) 0 (qa (a0.forder++[(⟨a1,a2⟩:yK)])) false,.mp 2,.mp 3],.cells (a0.vorder+1) (qb zl (a0.forder++[(⟨a1,a2⟩:yK)])),.map (y0 zC zT w9.l) (some (w9.bs,w9.ck)),.map (y0 (AV.int .i64) (AV.int .i64) w12.l) (some (w12.bs,w12.ck)),.cells 0 [.int .i64 y18.ffrom,.int .i64 y18.fid]]:ze)∧yU.j22 a0 a1 a2 w9 w12 y18 x21=some r) ?_ ?_
   · refine rdE [0,12,71] fun K J=>?_
     refine DW.start (T:=tab) [.any,.any,.any,.at [],.at [],.any,.any,.any,.at [],.any,.any,.at [],.at [],.any,.any] [] ?_;refine DW.runN U 8 ?_;simp only[go_sem,qh,qd,qc,qe,qf,qg,reduceIte,reduceCtorEq,t5];refine DW.runN U 3 ?_;simp only[go_sem,qh,qd,qc,qe,qf,qg,reduceIte,reduceCtorEq,Zp,t5]
     refine DW.if 67 rfl (fun hg67=>?_) (fun hg67=>?_)
     · rw[if_pos hg67] at h;have t27:=eq_true hg67;refine DW.runN U 4 ?_;simp only[go_sem,qh,qd,qc,qe,qf,qg,reduceIte,reduceCtorEq,Zp,zl,t5,t27,evEqA,vab,ceq];refine DW.fin U (by decide +kernel) rfl ?_;simp only[zH,ye,yx,Zn,upd,qc,reduceIte,xh,xO];apply J
       exact⟨_,_,⟨!(decide (y18.ffrom=a1)&&decide (y18.fid=a2)),rfl,rfl,h⟩,(.t [0,1,2,3,8] false)⟩
     rw[if_neg hg67] at h;have t28:=eq_false hg67;refine DW.runN U 4 ?_;simp only[go_sem,qh,qd,qc,qe,qf,qg,reduceIte,reduceCtorEq,Zp,t5,t28];refine DW.fin U (by decide +kernel) rfl ?_;simp only[zH,ye,yx,Zn,upd,qc,reduceIte,xh,xO];apply J
     exact⟨_,_,⟨false,rfl,rfl,h⟩,(.t [0,1,2,3,8] false)⟩
   rintro _ _ ⟨x21,rfl,rfl,h⟩;unfold yU.j22 at h;refine zY (b:=x21) rfl (fun hc23=>?_) (fun hc23=>?_)
   · rw[if_pos hc23] at h
     have f24:=fun (o0:Yq) (o1:Yq) (x:ze)=>delete_B (T:=tab) (t:=205) (ek:=zC) (ev:=zT) KA268 rfl rfl w9 y18 (o0::o1::.map (y0 zC zT w9.l) (some (w9.bs,w9.ck))::x) 2 rfl rfl rfl
     simp only[vaZ,zC,zl,zT,zn] at f24
     refine rd [0] fun K J=>?_
     refine DW.start (T:=tab) [.any,.any,.any,.at [],.at [],.eff] [] ?_;refine DW.runN U 6 ?_;simp only[go_sem,qh,qd,qc,qe,qf,qg,reduceIte,reduceCtorEq,vaZ,zl,zn,zC,zT,t5,f24];refine DW.fin U (by decide +kernel) rfl ?_;simp only[zH,ye,yx,Zn,upd,qc,reduceIte,xh,xO];apply J
     obtain⟨_u25,hu25,h⟩:=bind_some h;have gu25:=ZP hu25
     have f26:=fun id ver=>E207.slO1 gu25 .i64 id ver false
     refine rgE U [] fun K J=>?_
     simp only[go_sem,qh,qd,qc,qe,qf,qg,reduceIte,reduceCtorEq,t5,f26];apply J
     exact⟨_,_,⟨List.drop 1 (a0.forder++[(⟨a1,a2⟩:yK)]),a0.vorder+1+1,YJ.del w9 y18,rfl,rfl,h⟩,(.cut gu25 1 0 1 [.cells 0 [.int .i64 a0.fsize,.os true 2 1 (a0.vorder+1+1) 0 (qa (List.drop 1 (a0.forder++[(⟨a1,a2⟩:yK)]))) false,.mp 2,.mp 3],.cells (a0.vorder+1+1) (qb zl (List.drop 1 (a0.forder++[(⟨a1,a2⟩:yK)]))),.map (y0 zC zT (YJ.del w9 y18).l) (some ((YJ.del w9 y18).bs,(YJ.del w9 y18).ck)),.map (y0 (AV.int .i64) (AV.int .i64) w12.l) (some (w12.bs,w12.ck)),.cells 0 [.int .i64 y18.ffrom,.int .i64 y18.fid]] (.t [0,1,2,3] false))⟩
   rw[Zc hc23] at h;apply zm;exact⟨_,_,⟨a0.forder++[(⟨a1,a2⟩:yK)],a0.vorder+1,w9,rfl,rfl,h⟩,(.t [0,1,2,3] false)⟩
 rintro _ _ ⟨l14,v15,l16,rfl,rfl,h⟩;unfold yU.j17 at h;refine rgW [8] t5 ?_;apply yg;cases h;simp only[ZA,yQ,y5,xN,exists_eq_left',go_sem,qh,qd,qc,qe,qf,qg,reduceIte,reduceCtorEq,zl];refine⟨by decide,by simp,?_,?_⟩
 · first|rfl|(simp only[go_sem,qh,qd,qc,qe,qf,qg,reduceIte,reduceCtorEq,push_cast,if_true,qq,qn,qu,qr,qs,qt,qz,qo,qw,qv,qm,zw,zl]<;>rfl)
 first|rfl|(simp only[go_sem,qh,qd,qc,qe,qf,qg,reduceIte,reduceCtorEq,push_cast,if_true,qq,qn,qu,qr,qs,qt,qz,qo,qw,qv,qm,zw,zl]<;>rfl)
end
section
set_option maxRecDepth 4000
set_option maxHeartbeats 1000000
open AM
def xd.j24 (a0:xy)(a1:y3)(r10:YQ×Int)(x22:Int)(x23:List UInt8):Option (y3×xy):=
 (yU a0.fcache a1.fFrom a1.fID (⟨4,a0.fself,a1.fFrom,a1.fID,a1.fVersion,a1.fMethod,x22,x23⟩:y3)).bind fun r26=>some ((⟨4,a0.fself,a1.fFrom,a1.fID,a1.fVersion,a1.fMethod,x22,x23⟩:y3),(⟨a0.fself,a0.fnumbers,a0.fschemas,a0.fnewest,a0.frows,r26.2,a0.feffects++[(⟨a1.fFrom,a1.fID,a1.fMethod,r10.1.fin⟩:yc)],a0.veffects+1⟩:xy))
def xd (a0:xy)(a1:y3):Option (y3×xy):=
 bnd (xw a0.fcache a1.fFrom a1.fID) fun r1=>(if r1.2=2 then some (r1.1,a0) else (if r1.2=3 then some ((⟨4,a0.fself,a1.fFrom,a1.fID,a1.fVersion,a1.fMethod,20,[]⟩:y3),a0) else (wI a0 a1).bind fun r10=>(if r10.2=0 then (YI a0.fschemas (IntKind.i64.wrap ((qa a0.fschemas:Int)-1))).bind fun y15=>(vaV (qa a0.feffects+1) 112).bind fun _u18=>(xx y15 a0.fnewest a0.frows a1.fMethod r10.1.fin).bind fun r20=>(xD y15 r10.1.fschema r10.1.fown.fOut r10.1.ftheirs.fOut).bind fun r21=>(wP r21.1 r20).bind fun r27=>(if r27.2=0 then (ZH r27.1).bind fun r30=>(xd.j24 a0 a1 r10 r30.2 r30.1) else (xd.j24 a0 a1 r10 r27.2 ([]:List UInt8))) else some ((⟨4,a0.fself,a1.fFrom,a1.fID,a1.fVersion,a1.fMethod,r10.2,[]⟩:y3),a0))))
theorem xd.ok {a0 a1 r}(h:xd a0 a1=some r):ACalls qi 87 [.op 0 0 0,.agg (zn a1)] [.cells 0 [.int .i64 a0.fself,.ds true (qb wJ a0.fnumbers) (qa a0.fnumbers) false,.ds true (qb za a0.fschemas) (qa a0.fschemas) false,.str a0.fnewest.fName,.ds true (qb zh a0.fnewest.fMessages) (qa a0.fnewest.fMessages) false,.ds true (qb zk a0.fnewest.fEnums) (qa a0.fnewest.fEnums) false,.ds true (qb zr a0.fnewest.fMethods) (qa a0.fnewest.fMethods) false,.ds true (qb yE a0.frows) (qa a0.frows) false,.op 1 0 0,.os true 8 5 (a0.veffects) 0 (qa a0.feffects) false],.cells 0 [.int .i64 a0.fcache.fsize,.os true 2 2 (a0.fcache.vorder) 0 (qa a0.fcache.forder) false,.mp 3,.mp 4],.cells (a0.fcache.vorder) (qb zl a0.fcache.forder),.map (y0 zC zT a0.fcache.freplies.l) (some (a0.fcache.freplies.bs,a0.fcache.freplies.ck)),.map (y0 (AV.int .i64) (AV.int .i64) a0.fcache.flast.l) (some (a0.fcache.flast.bs,a0.fcache.flast.ck)),.cells (a0.veffects) (qb zj a0.feffects)] (fun r' σ'=>r'=.agg (zn r.1)∧σ'=[.cells 0 [.int .i64 r.2.fself,.ds true (qb wJ r.2.fnumbers) (qa r.2.fnumbers) false,.ds true (qb za r.2.fschemas) (qa r.2.fschemas) false,.str r.2.fnewest.fName,.ds true (qb zh r.2.fnewest.fMessages) (qa r.2.fnewest.fMessages) false,.ds true (qb zk r.2.fnewest.fEnums) (qa r.2.fnewest.fEnums) false,.ds true (qb zr r.2.fnewest.fMethods) (qa r.2.fnewest.fMethods) false,.ds true (qb yE r.2.frows) (qa r.2.frows) false,.op 1 0 0,.os true 8 5 (r.2.veffects) 0 (qa r.2.feffects) false],.cells 0 [.int .i64 r.2.fcache.fsize,.os true 2 2 (r.2.fcache.vorder) 0 (qa r.2.fcache.forder) false,.mp 3,.mp 4],.cells (r.2.fcache.vorder) (qb zl r.2.fcache.forder),.map (y0 zC zT r.2.fcache.freplies.l) (some (r.2.fcache.freplies.bs,r.2.fcache.freplies.ck)),.map (y0 (AV.int .i64) (AV.int .i64) r.2.fcache.flast.l) (some (r.2.fcache.flast.bs,r.2.fcache.flast.ck)),.cells (r.2.veffects) (qb zj r.2.feffects)]):=by
 refine Zx [0,1,2,3,4,5] (rs:=[.cell 4 43]) U Tryz.func87 rfl Tryz.ntmps87 rfl Tryz.call87 (by simp) rfl ?_;refine zK [(0,.op 0 0 0),(1,.agg (zn a1))] ⟨rfl,rfl,trivial⟩ ?_;unfold xd at h;refine rgW [0,3,4] @zn.eq_1 ?_;obtain⟨r1,hr1,h⟩:=yq h
 refine rd [0,3,4,5,6] fun K J=>?_
 refine DW.start (T:=tab) [.any,.any,.any,.at [],.any,.at [],.any,.at [],.eff,.any,.any,.any,.flt,.eff,.any] [] ?_;refine DW.runN U 8 ?_;simp only[go_sem,qh,qd,qc,qe,qf,qg,reduceIte,reduceCtorEq,zn];refine DW.callS rfl rfl rfl (@id (ACalls qi 132 [.op 1 0 0,.int .i64 a1.fFrom,.int .i64 a1.fID] [.cells 0 [.int .i64 a0.fself,.ds true (qb wJ a0.fnumbers) (qa a0.fnumbers) false,.ds true (qb za a0.fschemas) (qa a0.fschemas) false,.str a0.fnewest.fName,.ds true (qb zh a0.fnewest.fMessages) (qa a0.fnewest.fMessages) false,.ds true (qb zk a0.fnewest.fEnums) (qa a0.fnewest.fEnums) false,.ds true (qb zr a0.fnewest.fMethods) (qa a0.fnewest.fMethods) false,.ds true (qb yE a0.frows) (qa a0.frows) false,.op 1 0 0,.os true 8 5 (a0.veffects) 0 (qa a0.feffects) false],.cells 0 [.int .i64 a0.fcache.fsize,.os true 2 2 (a0.fcache.vorder) 0 (qa a0.fcache.forder) false,.mp 3,.mp 4],.cells (a0.fcache.vorder) (qb zl a0.fcache.forder),.map (y0 zC zT a0.fcache.freplies.l) (some (a0.fcache.freplies.bs,a0.fcache.freplies.ck)),.map (y0 (AV.int .i64) (AV.int .i64) a0.fcache.flast.l) (some (a0.fcache.flast.bs,a0.fcache.flast.ck)),.cells (a0.veffects) (qb zj a0.feffects),.cells 0 (zn a1),.cells 0 [.int .i64 0,.int .i64 0,.int .i64 0,.int .i64 0,.int .i64 0,.str [],.int .i64 0,.str []]] (fun r' σ'=>r'=.tup [.agg (zn r1.1),.int .i64 r1.2]∧σ'=[.cells 0 [.int .i64 a0.fself,.ds true (qb wJ a0.fnumbers) (qa a0.fnumbers) false,.ds true (qb za a0.fschemas) (qa a0.fschemas) false,.str a0.fnewest.fName,.ds true (qb zh a0.fnewest.fMessages) (qa a0.fnewest.fMessages) false,.ds true (qb zk a0.fnewest.fEnums) (qa a0.fnewest.fEnums) false,.ds true (qb zr a0.fnewest.fMethods) (qa a0.fnewest.fMethods) false,.ds true (qb yE a0.frows) (qa a0.frows) false,.op 1 0 0,.os true 8 5 (a0.veffects) 0 (qa a0.feffects) false],.cells 0 [.int .i64 a0.fcache.fsize,.os true 2 2 (a0.fcache.vorder) 0 (qa a0.fcache.forder) false,.mp 3,.mp 4],.cells (a0.fcache.vorder) (qb zl a0.fcache.forder),.map (y0 zC zT a0.fcache.freplies.l) (some (a0.fcache.freplies.bs,a0.fcache.freplies.ck)),.map (y0 (AV.int .i64) (AV.int .i64) a0.fcache.flast.l) (some (a0.fcache.flast.bs,a0.fcache.flast.ck)),.cells (a0.veffects) (qb zj a0.feffects),.cells 0 (zn a1),.cells 0 [.int .i64 0,.int .i64 0,.int .i64 0,.int .i64 0,.int .i64 0,.str [],.int .i64 0,.str []]])) ((xw.ok hr1).ix [1,2,3,4])) (X0 (by simp only[go_sem,qh,qd,qc,qe,qf,qg,reduceIte,reduceCtorEq])) ?_;refine DW.runN U 6 ?_;simp only[go_sem,qh,qd,qc,qe,qf,qg,reduceIte,reduceCtorEq,zn];refine DW.fin U (by decide +kernel) rfl ?_;simp only[zH,ye,yx,Zn,upd,qc,reduceIte,xh,xO];apply J
 refine zd fun Z2 hZ2=>?_
 refine rgW [0,3,4,5,6,28] qF ?_;refine yv rfl (fun hc3=>?_) (fun hc3=>?_)
 · rw[if_pos hc3] at h;have t4:=eq_true hc3;refine rgW [4] (aI @zn.eq_1 t4) ?_;apply yg;cases h;simp only[ZA,yQ,y5,xN,exists_eq_left',go_sem,qh,qd,qc,qe,qf,qg,reduceIte,reduceCtorEq,zb,zl,zn,za,zj,zf];refine⟨by decide,by simp,?_,?_⟩
   · first|rfl|(simp only[go_sem,qh,qd,qc,qe,qf,qg,reduceIte,reduceCtorEq,push_cast,if_true,qq,qn,qu,qr,qs,qt,qz,qo,qw,qv,qm,zw,zb,zl,zn,za,zj,zf]<;>rfl)
   first|rfl|(simp only[go_sem,qh,qd,qc,qe,qf,qg,reduceIte,reduceCtorEq,push_cast,if_true,qq,qn,qu,qr,qs,qt,qz,qo,qw,qv,qm,zw,zb,zl,zn,za,zj,zf]<;>rfl)
 rw[if_neg hc3] at h;have t5:=eq_false hc3;apply zm;apply hZ2
 refine rd [0,3,4,6,7] fun K J=>?_
 refine DW.start (T:=tab) [.any,.any,.any,.own 1 [],.any,.own 1 [],.any,.own 1 [],.any,.own 1 [],.any,.own 1 [],.any,.eff,.eff] [(1,[])] ?_;refine DW.runN U 8 ?_;simp only[go_sem,qh,qd,qc,qe,qf,qg,reduceIte,reduceCtorEq,zn,t5];refine DW.runN U 7 ?_;simp only[go_sem,qh,qd,qc,qe,qf,qg,reduceIte,reduceCtorEq,zn,t5];refine DW.fin U (by decide +kernel) rfl ?_;simp only[zH,ye,yx,Zn,upd,qc,reduceIte,xh,xO];apply J
 refine zd fun Z6 hZ6=>?_
 refine rgW [0,3,4,7,44] t5 ?_;refine yv rfl (fun hc7=>?_) (fun hc7=>?_)
 · rw[if_pos hc7] at h;have t8:=eq_true hc7;refine rgW [4,7] (aI @zn.eq_1 (aI t5 t8)) ?_;refine rgW [4] (aI @zn.eq_1 (aI t5 t8)) ?_;apply yg;cases h;simp only[ZA,yQ,y5,xN,exists_eq_left',go_sem,qh,qd,qc,qe,qf,qg,reduceIte,reduceCtorEq,zb,zl,zn,za,zj,zf];refine⟨by decide,by simp,?_,?_⟩
   · first|rfl|(simp only[go_sem,qh,qd,qc,qe,qf,qg,reduceIte,reduceCtorEq,push_cast,if_true,qq,qn,qu,qr,qs,qt,qz,qo,qw,qv,qm,zw,zb,zl,zn,za,zj,zf]<;>rfl)
   first|rfl|(simp only[go_sem,qh,qd,qc,qe,qf,qg,reduceIte,reduceCtorEq,push_cast,if_true,qq,qn,qu,qr,qs,qt,qz,qo,qw,qv,qm,zw,zb,zl,zn,za,zj,zf]<;>rfl)
 rw[if_neg hc7] at h;have t9:=eq_false hc7;apply zm;apply hZ6
 refine rc [0,3,4,7,8,9] fun K J=>?_
 obtain⟨r10,hr10,h⟩:=bind_some h;refine rnW 2 (aI @zn.eq_1 (aI t5 t9)) ?_;refine clN rfl rfl rfl (@id (ACalls qi 133 [.op 0 0 0,.agg (zn a1)] [.cells 0 [.int .i64 a0.fself,.ds true (qb wJ a0.fnumbers) (qa a0.fnumbers) false,.ds true (qb za a0.fschemas) (qa a0.fschemas) false,.str a0.fnewest.fName,.ds true (qb zh a0.fnewest.fMessages) (qa a0.fnewest.fMessages) false,.ds true (qb zk a0.fnewest.fEnums) (qa a0.fnewest.fEnums) false,.ds true (qb zr a0.fnewest.fMethods) (qa a0.fnewest.fMethods) false,.ds true (qb yE a0.frows) (qa a0.frows) false,.op 1 0 0,.os true 8 5 (a0.veffects) 0 (qa a0.feffects) false],.cells 0 [.int .i64 a0.fcache.fsize,.os true 2 2 (a0.fcache.vorder) 0 (qa a0.fcache.forder) false,.mp 3,.mp 4],.cells (a0.fcache.vorder) (qb zl a0.fcache.forder),.map (y0 zC zT a0.fcache.freplies.l) (some (a0.fcache.freplies.bs,a0.fcache.freplies.ck)),.map (y0 (AV.int .i64) (AV.int .i64) a0.fcache.flast.l) (some (a0.fcache.flast.bs,a0.fcache.flast.ck)),.cells (a0.veffects) (qb zj a0.feffects),.cells 0 (zn a1),.cells 0 [.int .i64 0,.int .i64 0,.int .i64 0,.int .i64 0,.int .i64 0,.str [],.int .i64 0,.str []],.cells 0 (zn r1.1),.cells 0 [.int .i64 4,.int .i64 a0.fself,.int .i64 a1.fFrom,.int .i64 a1.fID,.int .i64 a1.fVersion,.str a1.fMethod,.int .i64 0,.str []]] (fun r' σ'=>r'=.tup [.agg (yn r10.1),.int .i64 r10.2]∧σ'=[.cells 0 [.int .i64 a0.fself,.ds true (qb wJ a0.fnumbers) (qa a0.fnumbers) false,.ds true (qb za a0.fschemas) (qa a0.fschemas) false,.str a0.fnewest.fName,.ds true (qb zh a0.fnewest.fMessages) (qa a0.fnewest.fMessages) false,.ds true (qb zk a0.fnewest.fEnums) (qa a0.fnewest.fEnums) false,.ds true (qb zr a0.fnewest.fMethods) (qa a0.fnewest.fMethods) false,.ds true (qb yE a0.frows) (qa a0.frows) false,.op 1 0 0,.os true 8 5 (a0.veffects) 0 (qa a0.feffects) false],.cells 0 [.int .i64 a0.fcache.fsize,.os true 2 2 (a0.fcache.vorder) 0 (qa a0.fcache.forder) false,.mp 3,.mp 4],.cells (a0.fcache.vorder) (qb zl a0.fcache.forder),.map (y0 zC zT a0.fcache.freplies.l) (some (a0.fcache.freplies.bs,a0.fcache.freplies.ck)),.map (y0 (AV.int .i64) (AV.int .i64) a0.fcache.flast.l) (some (a0.fcache.flast.bs,a0.fcache.flast.ck)),.cells (a0.veffects) (qb zj a0.feffects),.cells 0 (zn a1),.cells 0 [.int .i64 0,.int .i64 0,.int .i64 0,.int .i64 0,.int .i64 0,.str [],.int .i64 0,.str []],.cells 0 (zn r1.1),.cells 0 [.int .i64 4,.int .i64 a0.fself,.int .i64 a1.fFrom,.int .i64 a1.fID,.int .i64 a1.fVersion,.str a1.fMethod,.int .i64 0,.str []]])) ((wI.ok hr10).ix [0,1,2,3,4,5])) ?_;refine rnW 6 (aI @zb.eq_1 (aI @zr.eq_1 (aI @zn.eq_1 (aI @za.eq_1 (aI @yn.eq_1 (aI @zf (aI t5 t9))))))) ?_;refine nkN J ?_
 refine zd fun Z11 hZ11=>?_
 refine rgW [0,3,4,7,8,9,54] (aI t5 t9) ?_;refine yv rfl (fun hc12=>?_) (fun hc12=>?_)
 · rw[if_neg hc12] at h;have t13:=eq_false hc12;refine rgW [4,7] (aI @zn.eq_1 (aI t5 (aI t9 t13))) ?_;refine rgW [4] (aI @zn.eq_1 (aI t5 (aI t9 t13))) ?_;apply yg;cases h;simp only[ZA,yQ,y5,xN,exists_eq_left',go_sem,qh,qd,qc,qe,qf,qg,reduceIte,reduceCtorEq,zb,zl,zn,za,zj,zf];refine⟨by decide,by simp,?_,?_⟩
   · first|rfl|(simp only[go_sem,qh,qd,qc,qe,qf,qg,reduceIte,reduceCtorEq,push_cast,if_true,qq,qn,qu,qr,qs,qt,qz,qo,qw,qv,qm,zw,zb,zl,zn,za,zj,zf]<;>rfl)
   first|rfl|(simp only[go_sem,qh,qd,qc,qe,qf,qg,reduceIte,reduceCtorEq,push_cast,if_true,qq,qn,qu,qr,qs,qt,qz,qo,qw,qv,qm,zw,zb,zl,zn,za,zj,zf]<;>rfl)
 rw[if_pos hc12] at h;have t14:=eq_true hc12;apply zm;apply hZ11;obtain⟨y15,hy15,h⟩:=bind_some h;have f16:=E33.idxS hy15;have f17:=E33.loadS rfl rfl hy15
 refine rd [0,3,4,7,8,10] fun K J=>?_
 refine DW.start (T:=tab) [.any,.any,.any,.own 1 [],.any,.any,.any,.own 1 [],.own 1 [],.any,.any,.own 1 [],.eff,.eff] [(1,[])] ?_;refine DW.runN U 8 ?_;simp only[go_sem,qh,qd,qc,qe,qf,qg,reduceIte,reduceCtorEq,za,t5,t9,t14,f16,f17];refine DW.runN U 6 ?_;simp only[go_sem,qh,qd,qc,qe,qf,qg,reduceIte,reduceCtorEq,Zp,za,t5,t9,t14,f16,f17];refine DW.fin U (by decide +kernel) rfl ?_;simp only[zH,ye,yx,Zn,upd,qc,reduceIte,xh,xO];apply J
 obtain⟨_u18,hu18,h⟩:=bind_some h;have gu18:=xF hu18;have f19:=(yf E92.len a0.feffects)
 refine rd [0,3,4,7,8,10] fun K J=>?_
 refine DW.start (T:=tab) [.any,.any,.any,.any,.own 1 [],.any,.at [],.any,.at [],.any,.at [],.any,.at [],.any,.eff,.eff,.any,.any,.eff] [(1,[])] ?_;refine DW.runN U 8 ?_;simp only[go_sem,qh,qd,qc,qe,qf,qg,reduceIte,reduceCtorEq,zb,za,zj,zf,t5,t9,t14,gu18,f19,yW,ua,qZ,AV.one,qN,qo,gt_iff_lt,ym,qH,qE,qO,qD,qG,qj,qp,qB,qn,qA,qI];refine DW.runN U 8 ?_;simp only[go_sem,qh,qd,qc,qe,qf,qg,reduceIte,reduceCtorEq,zV,yI,ug,qW,qU,true_and,uj,xj,yG,xg,zb,za,zj,zf,t5,t9,t14,gu18,f19,yW,ua,qZ,AV.one,qN,qo,gt_iff_lt,ym,qH,qE,qO,qD,qG,qj,qp,qB,qn,qA,qI];refine DW.runN U 3 ?_;simp only[go_sem,qh,qd,qc,qe,qf,qg,reduceIte,reduceCtorEq,zb,za,zj,zf,t5,t9,t14,gu18,f19,yW,ua,qZ,AV.one,qN,qo,gt_iff_lt,ym,qH,qE,qO,qD,qG,qj,qp,qB,qn,qA,qI];refine DW.fin U (by decide +kernel) rfl ?_;simp only[zH,ye,yx,Zn,upd,qc,reduceIte,xh,xO];apply J
 refine xB (L:=[(0,.op 0 0 0),(3,.op 6 0 0),(4,.op 7 0 0),(7,.op 9 0 0),(8,.op 10 0 0),(10,.op 11 0 0)]) (τ:=[.cells 0 [.int .i64 a0.fself,.ds true (qb wJ a0.fnumbers) (qa a0.fnumbers) false,.ds true (qb za a0.fschemas) (qa a0.fschemas) false,.str a0.fnewest.fName,.ds true (qb zh a0.fnewest.fMessages) (qa a0.fnewest.fMessages) false,.ds true (qb zk a0.fnewest.fEnums) (qa a0.fnewest.fEnums) false,.ds true (qb zr a0.fnewest.fMethods) (qa a0.fnewest.fMethods) false,.ds true (qb yE a0.frows) (qa a0.frows) false,.op 1 0 0,.os true 8 5 (a0.veffects+1) 0 (qa (a0.feffects++[(⟨a1.fFrom,a1.fID,a1.fMethod,r10.1.fin⟩:yc)])) false],.cells 0 [.int .i64 a0.fcache.fsize,.os true 2 2 (a0.fcache.vorder) 0 (qa a0.fcache.forder) false,.mp 3,.mp 4],.cells (a0.fcache.vorder) (qb zl a0.fcache.forder),.map (y0 zC zT a0.fcache.freplies.l) (some (a0.fcache.freplies.bs,a0.fcache.freplies.ck)),.map (y0 (AV.int .i64) (AV.int .i64) a0.fcache.flast.l) (some (a0.fcache.flast.bs,a0.fcache.flast.ck)),.cells (a0.veffects+1) (qb zj (a0.feffects++[(⟨a1.fFrom,a1.fID,a1.fMethod,r10.1.fin⟩:yc)])),.cells 0 (zn a1),.cells 0 [.int .i64 0,.int .i64 0,.int .i64 0,.int .i64 0,.int .i64 0,.str [],.int .i64 0,.str []],.cells 0 (zn r1.1),.cells 0 [.int .i64 4,.int .i64 a0.fself,.int .i64 a1.fFrom,.int .i64 a1.fID,.int .i64 a1.fVersion,.str a1.fMethod,.int .i64 0,.str []],.cells 0 (yn r10.1),.cells 0 (za y15),.cells 0 [.int .i64 a1.fFrom,.int .i64 a1.fID,.str a1.fMethod,.int .i64 r10.1.fin.fKind,.int .i64 r10.1.fin.fN,.str r10.1.fin.fS,.ds true (qb zD r10.1.fin.fEntries) (qa r10.1.fin.fEntries) false,.ds true (qb zy r10.1.fin.fRest) (qa r10.1.fin.fRest) false]]) .s ?_;obtain⟨r20,hr20,h⟩:=bind_some h
 refine rd [0,3,4,7,8,10,11] fun K J=>?_
 refine DW.start (T:=tab) [.at [],.any,.any,.any,.at [],.any,.any,.any,.at [],.any,.at [],.any,.at [],.eff,.flt,.eff] [] ?_;refine DW.runN U 8 ?_;simp only[go_sem,qh,qd,qc,qe,qf,qg,reduceIte,reduceCtorEq,zb,za,zf,t5,t9,t14];refine DW.runN U 5 ?_;simp only[go_sem,qh,qd,qc,qe,qf,qg,reduceIte,reduceCtorEq,zb,za,zf,t5,t9,t14];refine DW.call rfl rfl rfl ((xx.ok hr20).c _) ?_;refine DW.runN U 2 ?_;simp only[go_sem,qh,qd,qc,qe,qf,qg,reduceIte,reduceCtorEq,zb,za,zf,t5,t9,t14];refine DW.fin U (by decide +kernel) rfl ?_;simp only[zH,ye,yx,Zn,upd,qc,reduceIte,xh,xO];apply J
 refine rc [0,3,4,7,11,12] fun K J=>?_
 obtain⟨r21,hr21,h⟩:=bind_some h;refine rnW 9 (aI @za.eq_1 (aI t5 (aI t9 t14))) ?_;refine clN rfl rfl rfl ((xD.ok hr21).c _) ?_;refine rnW 6 (aI @zt.eq_1 (aI @za.eq_1 (aI t5 (aI t9 t14)))) ?_;refine nkN J ?_;refine rgW [0,3,4,7,11,12,14] (aI t5 (aI t9 t14)) ?_;refine xV (fun L τ=>∃ (x22:Int) (x23:List UInt8),L=[(0,.op 0 0 0),(3,.op 6 0 0),(4,.op 7 0 0),(7,.op 8 0 0),(9,.int .i64 x22),(14,.ds true (qb Ym x23) (qa x23) false)]∧τ=([.cells 0 [.int .i64 a0.fself,.ds true (qb wJ a0.fnumbers) (qa a0.fnumbers) false,.ds true (qb za a0.fschemas) (qa a0.fschemas) false,.str a0.fnewest.fName,.ds true (qb zh a0.fnewest.fMessages) (qa a0.fnewest.fMessages) false,.ds true (qb zk a0.fnewest.fEnums) (qa a0.fnewest.fEnums) false,.ds true (qb zr a0.fnewest.fMethods) (qa a0.fnewest.fMethods) false,.ds true (qb yE a0.frows) (qa a0.frows) false,.op 1 0 0,.os true 8 5 (a0.veffects+1) 0 (qa (a0.feffects++[(⟨a1.fFrom,a1.fID,a1.fMethod,r10.1.fin⟩:yc)])) false],.cells 0 [.int .i64 a0.fcache.fsize,.os true 2 2 (a0.fcache.vorder) 0 (qa a0.fcache.forder) false,.mp 3,.mp 4],.cells (a0.fcache.vorder) (qb zl a0.fcache.forder),.map (y0 zC zT a0.fcache.freplies.l) (some (a0.fcache.freplies.bs,a0.fcache.freplies.ck)),.map (y0 (AV.int .i64) (AV.int .i64) a0.fcache.flast.l) (some (a0.fcache.flast.bs,a0.fcache.flast.ck)),.cells (a0.veffects+1) (qb zj (a0.feffects++[(⟨a1.fFrom,a1.fID,a1.fMethod,r10.1.fin⟩:yc)])),.cells 0 (zn a1),.cells 0 [.int .i64 0,.int .i64 0,.int .i64 0,.int .i64 0,.int .i64 0,.str [],.int .i64 0,.str []],.cells 0 [.int .i64 4,.int .i64 a0.fself,.int .i64 a1.fFrom,.int .i64 a1.fID,.int .i64 a1.fVersion,.str a1.fMethod,.int .i64 0,.str []]]:ze)∧xd.j24 a0 a1 r10 x22 x23=some r) ?_ ?_
 · refine rc [0,3,4,7,9,11,14] fun K J=>?_
   obtain⟨r27,hr27,h⟩:=bind_some h;refine rnW 2 (aI @zb.eq_1 (aI @zt.eq_1 (aI @zf (aI t5 (aI t9 t14))))) ?_;refine clN rfl rfl rfl ((wP.ok hr27).c _) ?_;refine rnW 5 (aI @zb.eq_1 (aI @zt.eq_1 (aI @zf (aI t5 (aI t9 t14))))) ?_;refine nkN J ?_;refine rgW [0,3,4,7,9,11,14,122] (aI t5 (aI t9 t14)) ?_;refine yv rfl (fun hc28=>?_) (fun hc28=>?_)
   · rw[if_pos hc28] at h;have t29:=eq_true hc28
     refine rcE [0,3,4,7,9,14] fun K J=>?_
     obtain⟨r30,hr30,h⟩:=bind_some h;refine rnW 1 (aI @zb.eq_1 (aI @zf (aI t5 (aI t9 (aI t14 t29))))) ?_;refine clN rfl rfl rfl ((ZH.ok hr30).c _) ?_;refine rnW 5 (aI @zb.eq_1 (aI @zf (aI t5 (aI t9 (aI t14 t29))))) ?_;refine nkN J ?_;exact⟨_,_,⟨r30.2,r30.1,rfl,rfl,h⟩,(.t [0,1,2,3,4,5,6,7,9] false)⟩
   rw[if_neg hc28] at h;have t31:=eq_false hc28;apply zm;exact⟨_,_,⟨r27.2,([]:List UInt8),rfl,rfl,h⟩,(.t [0,1,2,3,4,5,6,7,9] true)⟩
 rintro _ _ ⟨x22,x23,rfl,rfl,h⟩;unfold xd.j24 at h;have f25:=conv_b2s (T:=tab) (src:=48) (dst:=9) rfl rfl rfl rfl rfl rfl x23
 refine rd [0,3,4,7] fun K J=>?_
 refine DW.start (T:=tab) [.any,.any,.own 1 [8],.any,.eff,.any,.eff] [(1,[8])] ?_;refine DW.runN U 7 ?_;simp only[go_sem,qh,qd,qc,qe,qf,qg,reduceIte,reduceCtorEq,zn,t5,t9,t14,f25];refine DW.fin U (by decide +kernel) rfl ?_;simp only[zH,ye,yx,Zn,upd,qc,reduceIte,xh,xO];apply J
 obtain⟨r26,hr26,h⟩:=bind_some h
 refine rd [4,7] fun K J=>?_
 refine DW.start (T:=tab) [.any,.any,.any,.at [],.any,.at [],.any,.at [],.at [],.eff] [] ?_;refine DW.runN U 8 ?_;simp only[go_sem,qh,qd,qc,qe,qf,qg,reduceIte,reduceCtorEq,zn,t5,t9,t14];refine DW.runN U 1 ?_;simp only[go_sem,qh,qd,qc,qe,qf,qg,reduceIte,reduceCtorEq,zn,t5,t9,t14];refine DW.callS rfl rfl rfl (@id (ACalls qi 134 [.op 1 0 0,.int .i64 a1.fFrom,.int .i64 a1.fID,.agg [.int .i64 4,.int .i64 a0.fself,.int .i64 a1.fFrom,.int .i64 a1.fID,.int .i64 a1.fVersion,.str a1.fMethod,.int .i64 x22,.str x23]] [.cells 0 [.int .i64 a0.fself,.ds true (qb wJ a0.fnumbers) (qa a0.fnumbers) false,.ds true (qb za a0.fschemas) (qa a0.fschemas) false,.str a0.fnewest.fName,.ds true (qb zh a0.fnewest.fMessages) (qa a0.fnewest.fMessages) false,.ds true (qb zk a0.fnewest.fEnums) (qa a0.fnewest.fEnums) false,.ds true (qb zr a0.fnewest.fMethods) (qa a0.fnewest.fMethods) false,.ds true (qb yE a0.frows) (qa a0.frows) false,.op 1 0 0,.os true 8 5 (a0.veffects+1) 0 (qa (a0.feffects++[(⟨a1.fFrom,a1.fID,a1.fMethod,r10.1.fin⟩:yc)])) false],.cells 0 [.int .i64 a0.fcache.fsize,.os true 2 2 (a0.fcache.vorder) 0 (qa a0.fcache.forder) false,.mp 3,.mp 4],.cells (a0.fcache.vorder) (qb zl a0.fcache.forder),.map (y0 zC zT a0.fcache.freplies.l) (some (a0.fcache.freplies.bs,a0.fcache.freplies.ck)),.map (y0 (AV.int .i64) (AV.int .i64) a0.fcache.flast.l) (some (a0.fcache.flast.bs,a0.fcache.flast.ck)),.cells (a0.veffects+1) (qb zj (a0.feffects++[(⟨a1.fFrom,a1.fID,a1.fMethod,r10.1.fin⟩:yc)])),.cells 0 (zn a1),.cells 0 [.int .i64 0,.int .i64 0,.int .i64 0,.int .i64 0,.int .i64 0,.str [],.int .i64 0,.str []],.cells 0 [.int .i64 4,.int .i64 a0.fself,.int .i64 a1.fFrom,.int .i64 a1.fID,.int .i64 a1.fVersion,.str a1.fMethod,.int .i64 x22,.str x23]] (fun r' σ'=>r'=.int .i64 r26.1∧σ'=[.cells 0 [.int .i64 a0.fself,.ds true (qb wJ a0.fnumbers) (qa a0.fnumbers) false,.ds true (qb za a0.fschemas) (qa a0.fschemas) false,.str a0.fnewest.fName,.ds true (qb zh a0.fnewest.fMessages) (qa a0.fnewest.fMessages) false,.ds true (qb zk a0.fnewest.fEnums) (qa a0.fnewest.fEnums) false,.ds true (qb zr a0.fnewest.fMethods) (qa a0.fnewest.fMethods) false,.ds true (qb yE a0.frows) (qa a0.frows) false,.op 1 0 0,.os true 8 5 (a0.veffects+1) 0 (qa (a0.feffects++[(⟨a1.fFrom,a1.fID,a1.fMethod,r10.1.fin⟩:yc)])) false],.cells 0 [.int .i64 r26.2.fsize,.os true 2 2 (r26.2.vorder) 0 (qa r26.2.forder) false,.mp 3,.mp 4],.cells (r26.2.vorder) (qb zl r26.2.forder),.map (y0 zC zT r26.2.freplies.l) (some (r26.2.freplies.bs,r26.2.freplies.ck)),.map (y0 (AV.int .i64) (AV.int .i64) r26.2.flast.l) (some (r26.2.flast.bs,r26.2.flast.ck)),.cells (a0.veffects+1) (qb zj (a0.feffects++[(⟨a1.fFrom,a1.fID,a1.fMethod,r10.1.fin⟩:yc)])),.cells 0 (zn a1),.cells 0 [.int .i64 0,.int .i64 0,.int .i64 0,.int .i64 0,.int .i64 0,.str [],.int .i64 0,.str []],.cells 0 [.int .i64 4,.int .i64 a0.fself,.int .i64 a1.fFrom,.int .i64 a1.fID,.int .i64 a1.fVersion,.str a1.fMethod,.int .i64 x22,.str x23]])) ((yU.ok hr26).ix [1,2,3,4])) (X0 (by simp only[go_sem,qh,qd,qc,qe,qf,qg,reduceIte,reduceCtorEq])) ?_;refine DW.fin U (by decide +kernel) rfl ?_;simp only[zH,ye,yx,Zn,upd,qc,reduceIte,xh,xO];apply J
 refine rgW [4] (aI @zn.eq_1 (aI t5 (aI t9 t14))) ?_;apply yg;cases h;simp only[ZA,yQ,y5,xN,exists_eq_left',go_sem,qh,qd,qc,qe,qf,qg,reduceIte,reduceCtorEq,zb,zl,zn,za,zj,zf];refine⟨by decide,by simp,?_,?_⟩
 · first|rfl|(simp only[go_sem,qh,qd,qc,qe,qf,qg,reduceIte,reduceCtorEq,push_cast,if_true,qq,qn,qu,qr,qs,qt,qz,qo,qw,qv,qm,zw,zb,zl,zn,za,zj,zf]<;>rfl)
 first|rfl|(simp only[go_sem,qh,qd,qc,qe,qf,qg,reduceIte,reduceCtorEq,push_cast,if_true,qq,qn,qu,qr,qs,qt,qz,qo,qw,qv,qm,zw,zb,zl,zn,za,zj,zf]<;>rfl)
def xJ (a0:xy)(a1:y3):Option (y3×Bool×xy):=
 (if a1.fTo=a0.fself then (if a1.fKind=1 then (Zj a0 a1.fBody).bind fun r8=>some ((⟨2,a0.fself,a1.fFrom,a1.fID,r8,[],0,[]⟩:y3),true,a0) else (if a1.fKind=3 then (xd a0 a1).bind fun r12=>some (r12.1,true,r12.2) else some ((⟨0,0,0,0,0,[],0,[]⟩:y3),false,a0))) else some ((⟨0,0,0,0,0,[],0,[]⟩:y3),false,a0))
theorem xJ.ok {a0 a1 r}(h:xJ a0 a1=some r):ACalls qi 47 [.op 0 0 0,.agg (zn a1)] [.cells 0 [.int .i64 a0.fself,.ds true (qb wJ a0.fnumbers) (qa a0.fnumbers) false,.ds true (qb za a0.fschemas) (qa a0.fschemas) false,.str a0.fnewest.fName,.ds true (qb zh a0.fnewest.fMessages) (qa a0.fnewest.fMessages) false,.ds true (qb zk a0.fnewest.fEnums) (qa a0.fnewest.fEnums) false,.ds true (qb zr a0.fnewest.fMethods) (qa a0.fnewest.fMethods) false,.ds true (qb yE a0.frows) (qa a0.frows) false,.op 1 0 0,.os true 8 5 (a0.veffects) 0 (qa a0.feffects) false],.cells 0 [.int .i64 a0.fcache.fsize,.os true 2 2 (a0.fcache.vorder) 0 (qa a0.fcache.forder) false,.mp 3,.mp 4],.cells (a0.fcache.vorder) (qb zl a0.fcache.forder),.map (y0 zC zT a0.fcache.freplies.l) (some (a0.fcache.freplies.bs,a0.fcache.freplies.ck)),.map (y0 (AV.int .i64) (AV.int .i64) a0.fcache.flast.l) (some (a0.fcache.flast.bs,a0.fcache.flast.ck)),.cells (a0.veffects) (qb zj a0.feffects)] (fun r' σ'=>r'=.tup [.agg (zn r.1),.bool r.2.1]∧σ'=[.cells 0 [.int .i64 r.2.2.fself,.ds true (qb wJ r.2.2.fnumbers) (qa r.2.2.fnumbers) false,.ds true (qb za r.2.2.fschemas) (qa r.2.2.fschemas) false,.str r.2.2.fnewest.fName,.ds true (qb zh r.2.2.fnewest.fMessages) (qa r.2.2.fnewest.fMessages) false,.ds true (qb zk r.2.2.fnewest.fEnums) (qa r.2.2.fnewest.fEnums) false,.ds true (qb zr r.2.2.fnewest.fMethods) (qa r.2.2.fnewest.fMethods) false,.ds true (qb yE r.2.2.frows) (qa r.2.2.frows) false,.op 1 0 0,.os true 8 5 (r.2.2.veffects) 0 (qa r.2.2.feffects) false],.cells 0 [.int .i64 r.2.2.fcache.fsize,.os true 2 2 (r.2.2.fcache.vorder) 0 (qa r.2.2.fcache.forder) false,.mp 3,.mp 4],.cells (r.2.2.fcache.vorder) (qb zl r.2.2.fcache.forder),.map (y0 zC zT r.2.2.fcache.freplies.l) (some (r.2.2.fcache.freplies.bs,r.2.2.fcache.freplies.ck)),.map (y0 (AV.int .i64) (AV.int .i64) r.2.2.fcache.flast.l) (some (r.2.2.fcache.flast.bs,r.2.2.fcache.flast.ck)),.cells (r.2.2.veffects) (qb zj r.2.2.feffects)]):=by
 refine Zx [0,1,2,3,4,5] (rs:=[.cell 4 43,.tmp 5]) U Tryz.func47 rfl Tryz.ntmps47 rfl Tryz.call47 (by simp) rfl ?_;refine zK [(0,.op 0 0 0),(1,.agg (zn a1))] ⟨rfl,rfl,trivial⟩ ?_;unfold xJ at h;refine rgW [0,3,4] @zn.eq_1 ?_
 refine zd fun Z1 hZ1=>?_
 refine rd [0,3,4,12] fun K J=>?_
 refine DW.start (T:=tab) [.any,.at [],.any,.any,.any,.at [],.any] [] ?_;refine DW.runN U 7 ?_;simp only[go_sem,qh,qd,qc,qe,qf,qg,reduceIte,reduceCtorEq,Zp];refine DW.fin U (by decide +kernel) rfl ?_;simp only[zH,ye,yx,Zn,upd,qc,reduceIte,xh,xO];apply J
 refine yv rfl (fun hc2=>?_) (fun hc2=>?_)
 · rw[if_neg hc2] at h;have t3:=eq_false hc2;refine rgW [4,5] (aI @zn.eq_1 t3) ?_;apply yg;cases h;simp only[ZA,yQ,y5,xN,exists_eq_left',go_sem,qh,qd,qc,qe,qf,qg,reduceIte,reduceCtorEq,zb,zl,zn,za,zj,zf];refine⟨by decide,by simp,?_,?_⟩
   · first|rfl|(simp only[go_sem,qh,qd,qc,qe,qf,qg,reduceIte,reduceCtorEq,push_cast,if_true,qq,qn,qu,qr,qs,qt,qz,qo,qw,qv,qm,zw,zb,zl,zn,za,zj,zf]<;>rfl)
   first|rfl|(simp only[go_sem,qh,qd,qc,qe,qf,qg,reduceIte,reduceCtorEq,push_cast,if_true,qq,qn,qu,qr,qs,qt,qz,qo,qw,qv,qm,zw,zb,zl,zn,za,zj,zf]<;>rfl)
 rw[if_pos hc2] at h;have t4:=eq_true hc2;apply zm;apply hZ1
 refine zd fun Z5 hZ5=>?_
 refine rgW [0,3,4,15] t4 ?_;apply zq;refine rgW [0,3,4,15,16] t4 ?_;refine yv rfl (fun hc6=>?_) (fun hc6=>?_)
 · rw[if_pos hc6] at h;have t7:=eq_true hc6;obtain⟨r8,hr8,h⟩:=bind_some h
   refine rd [4,5] fun K J=>?_
   refine DW.start (T:=tab) [.any,.any,.any,.own 1 [],.any,.own 1 [],.any,.own 1 [],.any,.any,.at [],.eff,.any,.eff,.any] [(1,[])] ?_;refine DW.runN U 8 ?_;simp only[go_sem,qh,qd,qc,qe,qf,qg,reduceIte,reduceCtorEq,zn,t4,t7];refine DW.runN U 3 ?_;simp only[go_sem,qh,qd,qc,qe,qf,qg,reduceIte,reduceCtorEq,zn,t4,t7];refine DW.callS rfl rfl rfl (@id (ACalls qi 86 [.op 0 0 0,.str a1.fBody] [.cells 0 [.int .i64 a0.fself,.ds true (qb wJ a0.fnumbers) (qa a0.fnumbers) false,.ds true (qb za a0.fschemas) (qa a0.fschemas) false,.str a0.fnewest.fName,.ds true (qb zh a0.fnewest.fMessages) (qa a0.fnewest.fMessages) false,.ds true (qb zk a0.fnewest.fEnums) (qa a0.fnewest.fEnums) false,.ds true (qb zr a0.fnewest.fMethods) (qa a0.fnewest.fMethods) false,.ds true (qb yE a0.frows) (qa a0.frows) false,.op 1 0 0,.os true 8 5 (a0.veffects) 0 (qa a0.feffects) false],.cells 0 [.int .i64 a0.fcache.fsize,.os true 2 2 (a0.fcache.vorder) 0 (qa a0.fcache.forder) false,.mp 3,.mp 4],.cells (a0.fcache.vorder) (qb zl a0.fcache.forder),.map (y0 zC zT a0.fcache.freplies.l) (some (a0.fcache.freplies.bs,a0.fcache.freplies.ck)),.map (y0 (AV.int .i64) (AV.int .i64) a0.fcache.flast.l) (some (a0.fcache.flast.bs,a0.fcache.flast.ck)),.cells (a0.veffects) (qb zj a0.feffects),.cells 0 (zn a1),.cells 0 [.int .i64 0,.int .i64 0,.int .i64 0,.int .i64 0,.int .i64 0,.str [],.int .i64 0,.str []]] (fun r' σ'=>r'=.int .i64 r8∧σ'=[.cells 0 [.int .i64 a0.fself,.ds true (qb wJ a0.fnumbers) (qa a0.fnumbers) false,.ds true (qb za a0.fschemas) (qa a0.fschemas) false,.str a0.fnewest.fName,.ds true (qb zh a0.fnewest.fMessages) (qa a0.fnewest.fMessages) false,.ds true (qb zk a0.fnewest.fEnums) (qa a0.fnewest.fEnums) false,.ds true (qb zr a0.fnewest.fMethods) (qa a0.fnewest.fMethods) false,.ds true (qb yE a0.frows) (qa a0.frows) false,.op 1 0 0,.os true 8 5 (a0.veffects) 0 (qa a0.feffects) false],.cells 0 [.int .i64 a0.fcache.fsize,.os true 2 2 (a0.fcache.vorder) 0 (qa a0.fcache.forder) false,.mp 3,.mp 4],.cells (a0.fcache.vorder) (qb zl a0.fcache.forder),.map (y0 zC zT a0.fcache.freplies.l) (some (a0.fcache.freplies.bs,a0.fcache.freplies.ck)),.map (y0 (AV.int .i64) (AV.int .i64) a0.fcache.flast.l) (some (a0.fcache.flast.bs,a0.fcache.flast.ck)),.cells (a0.veffects) (qb zj a0.feffects),.cells 0 (zn a1),.cells 0 [.int .i64 0,.int .i64 0,.int .i64 0,.int .i64 0,.int .i64 0,.str [],.int .i64 0,.str []]])) ((Zj.ok a0 a1.fBody r8 hr8).ix [0,1,2,3,4,5])) (X0 (by simp only[go_sem,qh,qd,qc,qe,qf,qg,reduceIte,reduceCtorEq])) ?_;refine DW.runN U 3 ?_;simp only[go_sem,qh,qd,qc,qe,qf,qg,reduceIte,reduceCtorEq,zn,t4,t7];refine DW.fin U (by decide +kernel) rfl ?_;simp only[zH,ye,yx,Zn,upd,qc,reduceIte,xh,xO];apply J
   apply yg;cases h;simp only[ZA,yQ,y5,xN,exists_eq_left',go_sem,qh,qd,qc,qe,qf,qg,reduceIte,reduceCtorEq,zb,zl,zn,za,zj,zf];refine⟨by decide,by simp,?_,?_⟩
   · first|rfl|(simp only[go_sem,qh,qd,qc,qe,qf,qg,reduceIte,reduceCtorEq,push_cast,if_true,qq,qn,qu,qr,qs,qt,qz,qo,qw,qv,qm,zw,zb,zl,zn,za,zj,zf]<;>rfl)
   first|rfl|(simp only[go_sem,qh,qd,qc,qe,qf,qg,reduceIte,reduceCtorEq,push_cast,if_true,qq,qn,qu,qr,qs,qt,qz,qo,qw,qv,qm,zw,zb,zl,zn,za,zj,zf]<;>rfl)
 rw[if_neg hc6] at h;have t9:=eq_false hc6;refine rgW [0,3,4,31] (aI t4 t9) ?_;refine yv rfl (fun hc10=>?_) (fun hc10=>?_)
 · rw[if_pos hc10] at h;have t11:=eq_true hc10
   refine rc [4,5] fun K J=>?_
   obtain⟨r12,hr12,h⟩:=bind_some h;refine rnW 2 (aI @zn.eq_1 (aI t4 (aI t9 t11))) ?_;refine clN rfl rfl rfl (@id (ACalls qi 87 [.op 0 0 0,.agg (zn a1)] [.cells 0 [.int .i64 a0.fself,.ds true (qb wJ a0.fnumbers) (qa a0.fnumbers) false,.ds true (qb za a0.fschemas) (qa a0.fschemas) false,.str a0.fnewest.fName,.ds true (qb zh a0.fnewest.fMessages) (qa a0.fnewest.fMessages) false,.ds true (qb zk a0.fnewest.fEnums) (qa a0.fnewest.fEnums) false,.ds true (qb zr a0.fnewest.fMethods) (qa a0.fnewest.fMethods) false,.ds true (qb yE a0.frows) (qa a0.frows) false,.op 1 0 0,.os true 8 5 (a0.veffects) 0 (qa a0.feffects) false],.cells 0 [.int .i64 a0.fcache.fsize,.os true 2 2 (a0.fcache.vorder) 0 (qa a0.fcache.forder) false,.mp 3,.mp 4],.cells (a0.fcache.vorder) (qb zl a0.fcache.forder),.map (y0 zC zT a0.fcache.freplies.l) (some (a0.fcache.freplies.bs,a0.fcache.freplies.ck)),.map (y0 (AV.int .i64) (AV.int .i64) a0.fcache.flast.l) (some (a0.fcache.flast.bs,a0.fcache.flast.ck)),.cells (a0.veffects) (qb zj a0.feffects),.cells 0 (zn a1),.cells 0 [.int .i64 0,.int .i64 0,.int .i64 0,.int .i64 0,.int .i64 0,.str [],.int .i64 0,.str []]] (fun r' σ'=>r'=.agg (zn r12.1)∧σ'=[.cells 0 [.int .i64 r12.2.fself,.ds true (qb wJ r12.2.fnumbers) (qa r12.2.fnumbers) false,.ds true (qb za r12.2.fschemas) (qa r12.2.fschemas) false,.str r12.2.fnewest.fName,.ds true (qb zh r12.2.fnewest.fMessages) (qa r12.2.fnewest.fMessages) false,.ds true (qb zk r12.2.fnewest.fEnums) (qa r12.2.fnewest.fEnums) false,.ds true (qb zr r12.2.fnewest.fMethods) (qa r12.2.fnewest.fMethods) false,.ds true (qb yE r12.2.frows) (qa r12.2.frows) false,.op 1 0 0,.os true 8 5 (r12.2.veffects) 0 (qa r12.2.feffects) false],.cells 0 [.int .i64 r12.2.fcache.fsize,.os true 2 2 (r12.2.fcache.vorder) 0 (qa r12.2.fcache.forder) false,.mp 3,.mp 4],.cells (r12.2.fcache.vorder) (qb zl r12.2.fcache.forder),.map (y0 zC zT r12.2.fcache.freplies.l) (some (r12.2.fcache.freplies.bs,r12.2.fcache.freplies.ck)),.map (y0 (AV.int .i64) (AV.int .i64) r12.2.fcache.flast.l) (some (r12.2.fcache.flast.bs,r12.2.fcache.flast.ck)),.cells (r12.2.veffects) (qb zj r12.2.feffects),.cells 0 (zn a1),.cells 0 [.int .i64 0,.int .i64 0,.int .i64 0,.int .i64 0,.int .i64 0,.str [],.int .i64 0,.str []]])) ((xd.ok hr12).ix [0,1,2,3,4,5])) ?_;refine rnW 2 (aI @zn.eq_1 (aI t4 (aI t9 t11))) ?_;refine nkN J ?_;apply yg;cases h;simp only[ZA,yQ,y5,xN,exists_eq_left',go_sem,qh,qd,qc,qe,qf,qg,reduceIte,reduceCtorEq,zb,zl,zn,za,zj,zf];refine⟨by decide,by simp,?_,?_⟩
   · first|rfl|(simp only[go_sem,qh,qd,qc,qe,qf,qg,reduceIte,reduceCtorEq,push_cast,if_true,qq,qn,qu,qr,qs,qt,qz,qo,qw,qv,qm,zw,zb,zl,zn,za,zj,zf]<;>rfl)
   first|rfl|(simp only[go_sem,qh,qd,qc,qe,qf,qg,reduceIte,reduceCtorEq,push_cast,if_true,qq,qn,qu,qr,qs,qt,qz,qo,qw,qv,qm,zw,zb,zl,zn,za,zj,zf]<;>rfl)
 rw[if_neg hc10] at h;have t13:=eq_false hc10;apply zm;apply hZ5;refine rgW [4,5] (aI @zn.eq_1 (aI t4 (aI t9 t13))) ?_;apply yg;cases h;simp only[ZA,yQ,y5,xN,exists_eq_left',go_sem,qh,qd,qc,qe,qf,qg,reduceIte,reduceCtorEq,zb,zl,zn,za,zj,zf];refine⟨by decide,by simp,?_,?_⟩
 · first|rfl|(simp only[go_sem,qh,qd,qc,qe,qf,qg,reduceIte,reduceCtorEq,push_cast,if_true,qq,qn,qu,qr,qs,qt,qz,qo,qw,qv,qm,zw,zb,zl,zn,za,zj,zf]<;>rfl)
 first|rfl|(simp only[go_sem,qh,qd,qc,qe,qf,qg,reduceIte,reduceCtorEq,push_cast,if_true,qq,qn,qu,qr,qs,qt,qz,qo,qw,qv,qm,zw,zb,zl,zn,za,zj,zf]<;>rfl)
end
section
set_option maxRecDepth 4000
set_option maxHeartbeats 1000000
open AM
def Zq (a0:List yc):Option (List yc):=(vaV (qa a0) 112).bind fun _=>some a0
theorem Zq.lo (a0 r:List yc)(h:Zq a0=some r)(ver:Nat):ACalls qi 88 [.os true 8 0 ver 0 (qa a0) false] [.cells ver (qb zj a0)] (fun r' σ'=>r'=.ds true (qb zj r) (qa r) false∧σ'=[.cells ver (qb zj a0)]):=by
 obtain⟨_u,hu,h⟩:=bind_some h;have gu:=xF hu;cases h;have f2:=yf E92.len a0;have f3:=XJ zj a0
 have f1:∀ τ:ze,y1 (.cells ver (qb zj a0)::τ) 8 (.os true 8 0 ver 0 (qa a0) false)=some (qa a0,qb zj a0):=fun τ=>by
  simp only[y1,ze.at_hd,if_true,qq,qn,← f2,uk,qx,and_self]
 have fin:∀ σ id ver tt,ze.at σ id ver=some (qb zj a0)→Y2 [0] id 0=none→tell σ [0] true 12 (.os true 8 id ver 0 (qa a0) tt)=.ds true (qb zj a0) (qa a0) false:=by
  intro σ id ver tt hs hk
  simp only[ZC,hk,hs,qq,qn];rw[if_pos (by rw[f2]; exact qx _),← f2,uk,zw]
 refine Zx [0] (rs:=[.tmp 2]) U Tryz.func88 rfl Tryz.ntmps88 rfl Tryz.call88 (by simp) rfl ?_;refine zK [(0,.os true 8 0 ver 0 (qa a0) false)] ⟨rfl,trivial⟩ ?_;refine O [0] ?_
 refine zd fun Z1 hZ1=>?_
 refine rc [0,4] fun K J=>?_
 refine rnN 1 ?_
 refine Xe U rfl rfl rfl rfl rfl rfl fun b hnil=>?_
 have hb:b=true→a0=[]:=fun hb=>by
  have:=hnil hb;simp only[xg,go_sem,qh,qd,qc,qe,qf,qg,reduceIte,reduceCtorEq] at this;exact um this
 clear hnil
 refine nkN J ?_;cases b
 · refine zQ rfl ?_;apply zm;apply hZ1
   refine rg U [2] fun K J=>?_
   by_cases h0:qa a0=0
   · obtain rfl:=um h0;simp only[go_sem,qh,qd,qc,qe,qf,qg,reduceIte,reduceCtorEq,zV,yI,qW,qU,xj,yG,xg,y1,qO,qB,uy,ua,gt_iff_lt,List.drop_nil,List.take_nil,qF,and_self];apply J
     apply yg;simp only[ZA,yQ,y5,xN,exists_eq_left',go_sem,qh,qd,qc,qe,qf,qg,reduceIte,reduceCtorEq];refine⟨by decide,by simp,?_,?_⟩
     · first|rfl|(simp only[go_sem,qh,qd,qc,qe,qf,qg,reduceIte,reduceCtorEq,ZC,wU,Yl,qr]<;>rfl)
     first|rfl|(simp only[go_sem,qh,qd,qc,qe,qf,qg,reduceIte,reduceCtorEq,YR,Xu,Yr,YT,YS,qr]<;>rfl)
   have h1:=eq_false h0;simp only[go_sem,qh,qd,qc,qe,qf,qg,reduceIte,reduceCtorEq,zV,yI,qW,qU,xj,yG,xg,f1,f3,h1,gu,yW,gt_iff_lt,qr,qG,uy];apply J
   apply yg;simp only[ZA,yQ,y5,xN,exists_eq_left',go_sem,qh,qd,qc,qe,qf,qg,reduceIte,reduceCtorEq];refine⟨by decide,by simp,?_,?_⟩
   · exact fin _ _ _ _ (by simp only[ze.at_hd,ze.at_tl,if_true]) rfl
   first|rfl|(simp only[go_sem,qh,qd,qc,qe,qf,qg,reduceIte,reduceCtorEq,YR,Xu,Yr,YT,YS,zw,qr]<;>rfl)
 obtain rfl:=hb rfl;refine zS rfl ?_;refine O [2] ?_;apply yg;simp only[ZA,yQ,y5,xN,exists_eq_left',go_sem,qh,qd,qc,qe,qf,qg,reduceIte,reduceCtorEq];refine⟨by decide,by simp,?_,?_⟩
 · first|rfl|(simp only[go_sem,qh,qd,qc,qe,qf,qg,reduceIte,reduceCtorEq,Xa,qr,qt,qz,qv,qm,qo,qw]<;>rfl)
 first|rfl|(simp only[go_sem,qh,qd,qc,qe,qf,qg,reduceIte,reduceCtorEq,YR,Xu,Yr,YT,YS,zw,qr,qO]<;>rfl)
def xS (a0:xy):Option (List yc):=
 (Zq a0.feffects).bind fun r1=>some r1
theorem xS.ok {a0 r}(h:xS a0=some r):ACalls qi 48 [.op 0 0 0] [.cells 0 [.int .i64 a0.fself,.ds true (qb wJ a0.fnumbers) (qa a0.fnumbers) false,.ds true (qb za a0.fschemas) (qa a0.fschemas) false,.str a0.fnewest.fName,.ds true (qb zh a0.fnewest.fMessages) (qa a0.fnewest.fMessages) false,.ds true (qb zk a0.fnewest.fEnums) (qa a0.fnewest.fEnums) false,.ds true (qb zr a0.fnewest.fMethods) (qa a0.fnewest.fMethods) false,.ds true (qb yE a0.frows) (qa a0.frows) false,.op 1 0 0,.os true 8 5 (a0.veffects) 0 (qa a0.feffects) false],.cells 0 [.int .i64 a0.fcache.fsize,.os true 2 2 (a0.fcache.vorder) 0 (qa a0.fcache.forder) false,.mp 3,.mp 4],.cells (a0.fcache.vorder) (qb zl a0.fcache.forder),.map (y0 zC zT a0.fcache.freplies.l) (some (a0.fcache.freplies.bs,a0.fcache.freplies.ck)),.map (y0 (AV.int .i64) (AV.int .i64) a0.fcache.flast.l) (some (a0.fcache.flast.bs,a0.fcache.flast.ck)),.cells (a0.veffects) (qb zj a0.feffects)] (fun r' σ'=>r'=.ds true (qb zj r) (qa r) false∧σ'=[.cells 0 [.int .i64 a0.fself,.ds true (qb wJ a0.fnumbers) (qa a0.fnumbers) false,.ds true (qb za a0.fschemas) (qa a0.fschemas) false,.str a0.fnewest.fName,.ds true (qb zh a0.fnewest.fMessages) (qa a0.fnewest.fMessages) false,.ds true (qb zk a0.fnewest.fEnums) (qa a0.fnewest.fEnums) false,.ds true (qb zr a0.fnewest.fMethods) (qa a0.fnewest.fMethods) false,.ds true (qb yE a0.frows) (qa a0.frows) false,.op 1 0 0,.os true 8 5 (a0.veffects) 0 (qa a0.feffects) false],.cells 0 [.int .i64 a0.fcache.fsize,.os true 2 2 (a0.fcache.vorder) 0 (qa a0.fcache.forder) false,.mp 3,.mp 4],.cells (a0.fcache.vorder) (qb zl a0.fcache.forder),.map (y0 zC zT a0.fcache.freplies.l) (some (a0.fcache.freplies.bs,a0.fcache.freplies.ck)),.map (y0 (AV.int .i64) (AV.int .i64) a0.fcache.flast.l) (some (a0.fcache.flast.bs,a0.fcache.flast.ck)),.cells (a0.veffects) (qb zj a0.feffects)]):=by
 refine Zx [0,1,2,3,4,5] (rs:=[.tmp 2]) U Tryz.func48 rfl Tryz.ntmps48 rfl Tryz.call48 (by simp) rfl ?_;refine zK [(0,.op 0 0 0)] ⟨rfl,trivial⟩ ?_;unfold xS at h;refine O [0] ?_
 refine rc [2] fun K J=>?_
 obtain⟨r1,hr1,h⟩:=bind_some h;refine rnN 4 ?_;refine clN rfl rfl rfl (@id (ACalls qi 88 [.os true 8 5 (a0.veffects) 0 (qa a0.feffects) false] [.cells 0 [.int .i64 a0.fself,.ds true (qb wJ a0.fnumbers) (qa a0.fnumbers) false,.ds true (qb za a0.fschemas) (qa a0.fschemas) false,.str a0.fnewest.fName,.ds true (qb zh a0.fnewest.fMessages) (qa a0.fnewest.fMessages) false,.ds true (qb zk a0.fnewest.fEnums) (qa a0.fnewest.fEnums) false,.ds true (qb zr a0.fnewest.fMethods) (qa a0.fnewest.fMethods) false,.ds true (qb yE a0.frows) (qa a0.frows) false,.op 1 0 0,.os true 8 5 (a0.veffects) 0 (qa a0.feffects) false],.cells 0 [.int .i64 a0.fcache.fsize,.os true 2 2 (a0.fcache.vorder) 0 (qa a0.fcache.forder) false,.mp 3,.mp 4],.cells (a0.fcache.vorder) (qb zl a0.fcache.forder),.map (y0 zC zT a0.fcache.freplies.l) (some (a0.fcache.freplies.bs,a0.fcache.freplies.ck)),.map (y0 (AV.int .i64) (AV.int .i64) a0.fcache.flast.l) (some (a0.fcache.flast.bs,a0.fcache.flast.ck)),.cells (a0.veffects) (qb zj a0.feffects)] (fun r' σ'=>r'=.ds true (qb zj r1) (qa r1) false∧σ'=[.cells 0 [.int .i64 a0.fself,.ds true (qb wJ a0.fnumbers) (qa a0.fnumbers) false,.ds true (qb za a0.fschemas) (qa a0.fschemas) false,.str a0.fnewest.fName,.ds true (qb zh a0.fnewest.fMessages) (qa a0.fnewest.fMessages) false,.ds true (qb zk a0.fnewest.fEnums) (qa a0.fnewest.fEnums) false,.ds true (qb zr a0.fnewest.fMethods) (qa a0.fnewest.fMethods) false,.ds true (qb yE a0.frows) (qa a0.frows) false,.op 1 0 0,.os true 8 5 (a0.veffects) 0 (qa a0.feffects) false],.cells 0 [.int .i64 a0.fcache.fsize,.os true 2 2 (a0.fcache.vorder) 0 (qa a0.fcache.forder) false,.mp 3,.mp 4],.cells (a0.fcache.vorder) (qb zl a0.fcache.forder),.map (y0 zC zT a0.fcache.freplies.l) (some (a0.fcache.freplies.bs,a0.fcache.freplies.ck)),.map (y0 (AV.int .i64) (AV.int .i64) a0.fcache.flast.l) (some (a0.fcache.flast.bs,a0.fcache.flast.ck)),.cells (a0.veffects) (qb zj a0.feffects)])) ((Zq.lo a0.feffects r1 hr1 a0.veffects).i [5])) ?_;refine rnN 1 ?_;refine nkN J ?_;apply yg;cases h;simp only[ZA,yQ,y5,xN,exists_eq_left',go_sem,qh,qd,qc,qe,qf,qg,reduceIte,reduceCtorEq,zb,zl,za,zj,zf];refine⟨by decide,by simp,?_,?_⟩
 · first|rfl|(simp only[go_sem,qh,qd,qc,qe,qf,qg,reduceIte,reduceCtorEq,push_cast,if_true,qq,qn,qu,qr,qs,qt,qz,qo,qw,qv,qm,zw,zb,zl,za,zj,zf]<;>rfl)
 first|rfl|(simp only[go_sem,qh,qd,qc,qe,qf,qg,reduceIte,reduceCtorEq,push_cast,if_true,qq,qn,qu,qr,qs,qt,qz,qo,qw,qv,qm,zw,zb,zl,za,zj,zf]<;>rfl)
def ZM  : Option Bool:=
 bnd (Zs 1) fun r1=>bnd (Zs 1) fun r2=>bnd (YV 5) fun r3=>bnd (YV 7) fun r4=>(ZD 0 [1] [r1] r2 [(⟨[99],r3,r4⟩:GRow)] 4).bind fun r5=>(match r5.1 with|.none=>(if ((!(decide (r5.2=0)))||true)=true then some false else none)|.some y6=>(if ((!(decide (r5.2=0)))||false)=true then some false else (xJ y6 (⟨3,1,0,1,1,[99],0,[2,10]⟩:y3)).bind fun r15=>(xJ r15.2.2 (⟨3,1,0,1,1,[99],0,[2,10]⟩:y3)).bind fun r16=>(if (((r15.2.1&&r16.2.1)&&(decide (r15.1.fKind=r16.1.fKind)&&(decide (r15.1.fFrom=r16.1.fFrom)&&(decide (r15.1.fTo=r16.1.fTo)&&(decide (r15.1.fID=r16.1.fID)&&(decide (r15.1.fVersion=r16.1.fVersion)&&(decide (r15.1.fMethod=r16.1.fMethod)&&(decide (r15.1.fErr=r16.1.fErr)&&decide (r15.1.fBody=r16.1.fBody)))))))))&&(decide (r15.1.fBody=[2,14])))=true then (xS r16.2.2).bind fun r17=>some (decide ((qa r17:Int)=1)) else some false).bind fun c17=>some c17))
theorem ZM.ok  (r:Bool)(h:ZM=some r):ACalls qi 41 [] [] (fun r' _=>r'=.bool r):=by
 refine zx (rs:=[.tmp 0]) U Tryz.func41 rfl Tryz.ntmps41 rfl Tryz.call41 (by simp) ?_;refine zK [] trivial ?_;unfold ZM at h;refine O [] ?_
 refine rc [1,2] fun K J=>?_
 obtain⟨r1,hr1,h⟩:=yq h;refine xE U 1 ?_;simp only[go_sem,qh,qd,qc,qe,qf,qg,reduceIte,reduceCtorEq,zV,yI,ug,qW,qU,true_and,uj];refine clN rfl rfl rfl ((Zs.ok hr1).c _) ?_;obtain⟨r2,hr2,h⟩:=yq h;refine xE U 1 ?_;simp only[go_sem,qh,qd,qc,qe,qf,qg,reduceIte,reduceCtorEq,zV,yI,ug,qW,qU,true_and,uj,za];refine clN rfl rfl rfl ((Zs.ok hr2).c _) ?_;obtain⟨r3,hr3,h⟩:=yq h;refine clN rfl rfl rfl ((YV.ok hr3).c _) ?_;obtain⟨r4,hr4,h⟩:=yq h;refine clN rfl rfl rfl ((YV.ok hr4).c _) ?_;obtain⟨r5,hr5,h⟩:=bind_some h;refine xE U 2 ?_;simp only[go_sem,qh,qd,qc,qe,qf,qg,reduceIte,reduceCtorEq,zV,yI,ug,qW,qU,true_and,uj,zb,yE,za,zf];refine vbc (L:=[(9,.ds true (qb wJ [1]) (qa [1]) false),(11,.ds true (qb za [r1]) (qa [r1]) false),(12,.agg (za r2)),(16,.ds true (qb yE [(⟨[99],r3,r4⟩:GRow)]) (qa [(⟨[99],r3,r4⟩:GRow)]) false)]) (τ:=[]) (.t [] false) ?_;refine clN rfl rfl rfl (ZD.at hr5 _) ?_;refine rnW 5 (aI @zb.eq_1 (aI @yE.eq_1 (aI @za.eq_1 @zf))) ?_;refine nkN J ?_
 generalize hz6:r5.1=z6 at h ⊢
 rcases z6 with _|y6
 · try dsimp only at h
   simp only[Xx,Xw,wC];refine awp_eqS (τ:=[]) (by first|rfl|(simp only[qu,qr,qD,qG,qI,renO_mapE,renO_cells,vbx,AV.ren,vb4,XH,qe]<;>first|rfl|(and_intros<;>rfl))) ?_
   refine zd fun Z7 hZ7=>?_
   refine rc [1,25] fun K J=>?_
   refine rnW 3 qF ?_;refine cut 3 22 25 [1] ((!(decide (r5.2=0)))||true) qF rfl ?_;refine nkN J ?_;refine zY (b:=((!(decide (r5.2=0)))||true)) rfl (fun hc10=>?_) (fun hc10=>?_)
   · rw[if_pos hc10] at h;refine O [0] ?_;cases h;exact rtA
   rw[Zc hc10] at h;apply zm;apply hZ7;refine rgW [1,3] @zn.eq_1 ?_;cases h
 try dsimp only at h
 simp only[Xx,Xw,wC];refine awp_eqS (τ:=[.cells 0 [.int .i64 y6.fself,.ds true (qb wJ y6.fnumbers) (qa y6.fnumbers) false,.ds true (qb za y6.fschemas) (qa y6.fschemas) false,.str y6.fnewest.fName,.ds true (qb zh y6.fnewest.fMessages) (qa y6.fnewest.fMessages) false,.ds true (qb zk y6.fnewest.fEnums) (qa y6.fnewest.fEnums) false,.ds true (qb zr y6.fnewest.fMethods) (qa y6.fnewest.fMethods) false,.ds true (qb yE y6.frows) (qa y6.frows) false,.op 1 0 0,.os true 8 5 (y6.veffects) 0 (qa y6.feffects) false],.cells 0 [.int .i64 y6.fcache.fsize,.os true 2 2 (y6.fcache.vorder) 0 (qa y6.fcache.forder) false,.mp 3,.mp 4],.cells (y6.fcache.vorder) (qb zl y6.fcache.forder),.map (y0 zC zT y6.fcache.freplies.l) (some (y6.fcache.freplies.bs,y6.fcache.freplies.ck)),.map (y0 (AV.int .i64) (AV.int .i64) y6.fcache.flast.l) (some (y6.fcache.flast.bs,y6.fcache.flast.ck)),.cells (y6.veffects) (qb zj y6.feffects)]) (by first|rfl|(simp only[qu,qr,qD,qG,qI,renO_mapE,renO_cells,vbx,AV.ren,vb4,XH,qe]<;>first|rfl|(and_intros<;>rfl))) ?_
 refine zd fun Z11 hZ11=>?_
 refine rc [1,25] fun K J=>?_
 refine rnW 3 qF ?_;refine cut 3 22 25 [1] ((!(decide (r5.2=0)))||false) qF rfl ?_;refine nkN J ?_;refine zY (b:=((!(decide (r5.2=0)))||false)) rfl (fun hc14=>?_) (fun hc14=>?_)
 · rw[if_pos hc14] at h;refine O [0] ?_;cases h;exact rtA
 rw[Zc hc14] at h;apply zm;apply hZ11;refine rgW [1,3] @zn.eq_1 ?_
 refine rc [1,3,4,5] fun K J=>?_
 obtain⟨r15,hr15,h⟩:=bind_some h;refine rnW 2 @zn.eq_1 ?_;refine clN rfl rfl rfl (@id (ACalls qi 47 [.op 0 0 0,.agg [.int .i64 3,.int .i64 1,.int .i64 0,.int .i64 1,.int .i64 1,.str [99],.int .i64 0,.str [2,10]]] [.cells 0 [.int .i64 y6.fself,.ds true (qb wJ y6.fnumbers) (qa y6.fnumbers) false,.ds true (qb za y6.fschemas) (qa y6.fschemas) false,.str y6.fnewest.fName,.ds true (qb zh y6.fnewest.fMessages) (qa y6.fnewest.fMessages) false,.ds true (qb zk y6.fnewest.fEnums) (qa y6.fnewest.fEnums) false,.ds true (qb zr y6.fnewest.fMethods) (qa y6.fnewest.fMethods) false,.ds true (qb yE y6.frows) (qa y6.frows) false,.op 1 0 0,.os true 8 5 (y6.veffects) 0 (qa y6.feffects) false],.cells 0 [.int .i64 y6.fcache.fsize,.os true 2 2 (y6.fcache.vorder) 0 (qa y6.fcache.forder) false,.mp 3,.mp 4],.cells (y6.fcache.vorder) (qb zl y6.fcache.forder),.map (y0 zC zT y6.fcache.freplies.l) (some (y6.fcache.freplies.bs,y6.fcache.freplies.ck)),.map (y0 (AV.int .i64) (AV.int .i64) y6.fcache.flast.l) (some (y6.fcache.flast.bs,y6.fcache.flast.ck)),.cells (y6.veffects) (qb zj y6.feffects),.cells 0 [.int .i64 3,.int .i64 1,.int .i64 0,.int .i64 1,.int .i64 1,.str [99],.int .i64 0,.str [2,10]]] (fun r' σ'=>r'=.tup [.agg (zn r15.1),.bool r15.2.1]∧σ'=[.cells 0 [.int .i64 r15.2.2.fself,.ds true (qb wJ r15.2.2.fnumbers) (qa r15.2.2.fnumbers) false,.ds true (qb za r15.2.2.fschemas) (qa r15.2.2.fschemas) false,.str r15.2.2.fnewest.fName,.ds true (qb zh r15.2.2.fnewest.fMessages) (qa r15.2.2.fnewest.fMessages) false,.ds true (qb zk r15.2.2.fnewest.fEnums) (qa r15.2.2.fnewest.fEnums) false,.ds true (qb zr r15.2.2.fnewest.fMethods) (qa r15.2.2.fnewest.fMethods) false,.ds true (qb yE r15.2.2.frows) (qa r15.2.2.frows) false,.op 1 0 0,.os true 8 5 (r15.2.2.veffects) 0 (qa r15.2.2.feffects) false],.cells 0 [.int .i64 r15.2.2.fcache.fsize,.os true 2 2 (r15.2.2.fcache.vorder) 0 (qa r15.2.2.fcache.forder) false,.mp 3,.mp 4],.cells (r15.2.2.fcache.vorder) (qb zl r15.2.2.fcache.forder),.map (y0 zC zT r15.2.2.fcache.freplies.l) (some (r15.2.2.fcache.freplies.bs,r15.2.2.fcache.freplies.ck)),.map (y0 (AV.int .i64) (AV.int .i64) r15.2.2.fcache.flast.l) (some (r15.2.2.fcache.flast.bs,r15.2.2.fcache.flast.ck)),.cells (r15.2.2.veffects) (qb zj r15.2.2.feffects),.cells 0 [.int .i64 3,.int .i64 1,.int .i64 0,.int .i64 1,.int .i64 1,.str [99],.int .i64 0,.str [2,10]]])) ((xJ.ok hr15).ix [0,1,2,3,4,5])) ?_;refine rnW 6 @zn.eq_1 ?_;refine nkN J ?_
 refine rc [1,4,5,6,7] fun K J=>?_
 obtain⟨r16,hr16,h⟩:=bind_some h;refine rnW 2 @zn.eq_1 ?_;refine clN rfl rfl rfl (@id (ACalls qi 47 [.op 0 0 0,.agg [.int .i64 3,.int .i64 1,.int .i64 0,.int .i64 1,.int .i64 1,.str [99],.int .i64 0,.str [2,10]]] [.cells 0 [.int .i64 r15.2.2.fself,.ds true (qb wJ r15.2.2.fnumbers) (qa r15.2.2.fnumbers) false,.ds true (qb za r15.2.2.fschemas) (qa r15.2.2.fschemas) false,.str r15.2.2.fnewest.fName,.ds true (qb zh r15.2.2.fnewest.fMessages) (qa r15.2.2.fnewest.fMessages) false,.ds true (qb zk r15.2.2.fnewest.fEnums) (qa r15.2.2.fnewest.fEnums) false,.ds true (qb zr r15.2.2.fnewest.fMethods) (qa r15.2.2.fnewest.fMethods) false,.ds true (qb yE r15.2.2.frows) (qa r15.2.2.frows) false,.op 1 0 0,.os true 8 5 (r15.2.2.veffects) 0 (qa r15.2.2.feffects) false],.cells 0 [.int .i64 r15.2.2.fcache.fsize,.os true 2 2 (r15.2.2.fcache.vorder) 0 (qa r15.2.2.fcache.forder) false,.mp 3,.mp 4],.cells (r15.2.2.fcache.vorder) (qb zl r15.2.2.fcache.forder),.map (y0 zC zT r15.2.2.fcache.freplies.l) (some (r15.2.2.fcache.freplies.bs,r15.2.2.fcache.freplies.ck)),.map (y0 (AV.int .i64) (AV.int .i64) r15.2.2.fcache.flast.l) (some (r15.2.2.fcache.flast.bs,r15.2.2.fcache.flast.ck)),.cells (r15.2.2.veffects) (qb zj r15.2.2.feffects),.cells 0 [.int .i64 3,.int .i64 1,.int .i64 0,.int .i64 1,.int .i64 1,.str [99],.int .i64 0,.str [2,10]],.cells 0 (zn r15.1)] (fun r' σ'=>r'=.tup [.agg (zn r16.1),.bool r16.2.1]∧σ'=[.cells 0 [.int .i64 r16.2.2.fself,.ds true (qb wJ r16.2.2.fnumbers) (qa r16.2.2.fnumbers) false,.ds true (qb za r16.2.2.fschemas) (qa r16.2.2.fschemas) false,.str r16.2.2.fnewest.fName,.ds true (qb zh r16.2.2.fnewest.fMessages) (qa r16.2.2.fnewest.fMessages) false,.ds true (qb zk r16.2.2.fnewest.fEnums) (qa r16.2.2.fnewest.fEnums) false,.ds true (qb zr r16.2.2.fnewest.fMethods) (qa r16.2.2.fnewest.fMethods) false,.ds true (qb yE r16.2.2.frows) (qa r16.2.2.frows) false,.op 1 0 0,.os true 8 5 (r16.2.2.veffects) 0 (qa r16.2.2.feffects) false],.cells 0 [.int .i64 r16.2.2.fcache.fsize,.os true 2 2 (r16.2.2.fcache.vorder) 0 (qa r16.2.2.fcache.forder) false,.mp 3,.mp 4],.cells (r16.2.2.fcache.vorder) (qb zl r16.2.2.fcache.forder),.map (y0 zC zT r16.2.2.fcache.freplies.l) (some (r16.2.2.fcache.freplies.bs,r16.2.2.fcache.freplies.ck)),.map (y0 (AV.int .i64) (AV.int .i64) r16.2.2.fcache.flast.l) (some (r16.2.2.fcache.flast.bs,r16.2.2.fcache.flast.ck)),.cells (r16.2.2.veffects) (qb zj r16.2.2.feffects),.cells 0 [.int .i64 3,.int .i64 1,.int .i64 0,.int .i64 1,.int .i64 1,.str [99],.int .i64 0,.str [2,10]],.cells 0 (zn r15.1)])) ((xJ.ok hr16).ix [0,1,2,3,4,5])) ?_;refine rnW 6 @zn.eq_1 ?_;refine nkN J ?_
 refine rc [0] fun K J=>?_
 refine rnN 2 ?_;refine cut (b:=r15.2.1) (hb:=boolP_eq _) 2 40 42 [1,4,6] (r15.2.1&&r16.2.1) qF rfl ?_;refine rnN 1 ?_;refine xi 4 (fun L τ=>L=[(1,.op 0 0 0),(4,.op 7 0 0),(47,.bool ((r15.2.1&&r16.2.1)&&(decide (r15.1.fKind=r16.1.fKind)&&(decide (r15.1.fFrom=r16.1.fFrom)&&(decide (r15.1.fTo=r16.1.fTo)&&(decide (r15.1.fID=r16.1.fID)&&(decide (r15.1.fVersion=r16.1.fVersion)&&(decide (r15.1.fMethod=r16.1.fMethod)&&(decide (r15.1.fErr=r16.1.fErr)&&decide (r15.1.fBody=r16.1.fBody))))))))))]∧τ=([.cells 0 [.int .i64 r16.2.2.fself,.ds true (qb wJ r16.2.2.fnumbers) (qa r16.2.2.fnumbers) false,.ds true (qb za r16.2.2.fschemas) (qa r16.2.2.fschemas) false,.str r16.2.2.fnewest.fName,.ds true (qb zh r16.2.2.fnewest.fMessages) (qa r16.2.2.fnewest.fMessages) false,.ds true (qb zk r16.2.2.fnewest.fEnums) (qa r16.2.2.fnewest.fEnums) false,.ds true (qb zr r16.2.2.fnewest.fMethods) (qa r16.2.2.fnewest.fMethods) false,.ds true (qb yE r16.2.2.frows) (qa r16.2.2.frows) false,.op 1 0 0,.os true 8 5 (r16.2.2.veffects) 0 (qa r16.2.2.feffects) false],.cells 0 [.int .i64 r16.2.2.fcache.fsize,.os true 2 2 (r16.2.2.fcache.vorder) 0 (qa r16.2.2.fcache.forder) false,.mp 3,.mp 4],.cells (r16.2.2.fcache.vorder) (qb zl r16.2.2.fcache.forder),.map (y0 zC zT r16.2.2.fcache.freplies.l) (some (r16.2.2.fcache.freplies.bs,r16.2.2.fcache.freplies.ck)),.map (y0 (AV.int .i64) (AV.int .i64) r16.2.2.fcache.flast.l) (some (r16.2.2.fcache.flast.bs,r16.2.2.fcache.flast.ck)),.cells (r16.2.2.veffects) (qb zj r16.2.2.feffects),.cells 0 [.int .i64 3,.int .i64 1,.int .i64 0,.int .i64 1,.int .i64 1,.str [99],.int .i64 0,.str [2,10]],.cells 0 (zn r15.1),.cells 0 (zn r16.1)]:ze)) ?_ ?_
 · refine wA (b:=(r15.2.1&&r16.2.1)) 43 rfl (fun hg43=>?_) (fun hg43=>?_)
   · refine xE U 4 ?_;simp only[go_sem,qh,qd,qc,qe,qf,qg,reduceIte,reduceCtorEq,Zp,zn,evEqA,vab,ceq];refine zz ⟨rfl,_,_,⟨rfl,rfl⟩,.b hg43⟩
   refine rnW 4 @zn.eq_1 ?_;refine zz ⟨rfl,_,_,⟨rfl,rfl⟩,.b hg43⟩
 rintro _ _ ⟨rfl,rfl⟩;refine rnW 1 @zn.eq_1 ?_;refine cut (b:=((r15.2.1&&r16.2.1)&&(decide (r15.1.fKind=r16.1.fKind)&&(decide (r15.1.fFrom=r16.1.fFrom)&&(decide (r15.1.fTo=r16.1.fTo)&&(decide (r15.1.fID=r16.1.fID)&&(decide (r15.1.fVersion=r16.1.fVersion)&&(decide (r15.1.fMethod=r16.1.fMethod)&&(decide (r15.1.fErr=r16.1.fErr)&&decide (r15.1.fBody=r16.1.fBody)))))))))) (hb:=boolP_eq _) 4 48 52 [1] (((r15.2.1&&r16.2.1)&&(decide (r15.1.fKind=r16.1.fKind)&&(decide (r15.1.fFrom=r16.1.fFrom)&&(decide (r15.1.fTo=r16.1.fTo)&&(decide (r15.1.fID=r16.1.fID)&&(decide (r15.1.fVersion=r16.1.fVersion)&&(decide (r15.1.fMethod=r16.1.fMethod)&&(decide (r15.1.fErr=r16.1.fErr)&&decide (r15.1.fBody=r16.1.fBody)))))))))&&(decide (r15.1.fBody=[2,14]))) @zn.eq_1 rfl ?_;refine rnW 1 @zn.eq_1 ?_;obtain⟨c17,hc17,h⟩:=bind_some h;refine xi 5 (fun L τ=>L=[(58,.bool c17)]∧τ=([.cells 0 [.int .i64 r16.2.2.fself,.ds true (qb wJ r16.2.2.fnumbers) (qa r16.2.2.fnumbers) false,.ds true (qb za r16.2.2.fschemas) (qa r16.2.2.fschemas) false,.str r16.2.2.fnewest.fName,.ds true (qb zh r16.2.2.fnewest.fMessages) (qa r16.2.2.fnewest.fMessages) false,.ds true (qb zk r16.2.2.fnewest.fEnums) (qa r16.2.2.fnewest.fEnums) false,.ds true (qb zr r16.2.2.fnewest.fMethods) (qa r16.2.2.fnewest.fMethods) false,.ds true (qb yE r16.2.2.frows) (qa r16.2.2.frows) false,.op 1 0 0,.os true 8 5 (r16.2.2.veffects) 0 (qa r16.2.2.feffects) false],.cells 0 [.int .i64 r16.2.2.fcache.fsize,.os true 2 2 (r16.2.2.fcache.vorder) 0 (qa r16.2.2.fcache.forder) false,.mp 3,.mp 4],.cells (r16.2.2.fcache.vorder) (qb zl r16.2.2.fcache.forder),.map (y0 zC zT r16.2.2.fcache.freplies.l) (some (r16.2.2.fcache.freplies.bs,r16.2.2.fcache.freplies.ck)),.map (y0 (AV.int .i64) (AV.int .i64) r16.2.2.fcache.flast.l) (some (r16.2.2.fcache.flast.bs,r16.2.2.fcache.flast.ck)),.cells (r16.2.2.veffects) (qb zj r16.2.2.feffects),.cells 0 [.int .i64 3,.int .i64 1,.int .i64 0,.int .i64 1,.int .i64 1,.str [99],.int .i64 0,.str [2,10]],.cells 0 (zn r15.1),.cells 0 (zn r16.1)]:ze)) ?_ ?_
 · refine wA (b:=(((r15.2.1&&r16.2.1)&&(decide (r15.1.fKind=r16.1.fKind)&&(decide (r15.1.fFrom=r16.1.fFrom)&&(decide (r15.1.fTo=r16.1.fTo)&&(decide (r15.1.fID=r16.1.fID)&&(decide (r15.1.fVersion=r16.1.fVersion)&&(decide (r15.1.fMethod=r16.1.fMethod)&&(decide (r15.1.fErr=r16.1.fErr)&&decide (r15.1.fBody=r16.1.fBody)))))))))&&(decide (r15.1.fBody=[2,14])))) 53 rfl (fun hg53=>?_) (fun hg53=>?_)
   · rw[if_pos hg53] at hc17;obtain⟨r18,hr18,hc17⟩:=bind_some hc17;refine rnW 1 @zn.eq_1 ?_;refine clN rfl rfl rfl (@id (ACalls qi 48 [.op 0 0 0] [.cells 0 [.int .i64 r16.2.2.fself,.ds true (qb wJ r16.2.2.fnumbers) (qa r16.2.2.fnumbers) false,.ds true (qb za r16.2.2.fschemas) (qa r16.2.2.fschemas) false,.str r16.2.2.fnewest.fName,.ds true (qb zh r16.2.2.fnewest.fMessages) (qa r16.2.2.fnewest.fMessages) false,.ds true (qb zk r16.2.2.fnewest.fEnums) (qa r16.2.2.fnewest.fEnums) false,.ds true (qb zr r16.2.2.fnewest.fMethods) (qa r16.2.2.fnewest.fMethods) false,.ds true (qb yE r16.2.2.frows) (qa r16.2.2.frows) false,.op 1 0 0,.os true 8 5 (r16.2.2.veffects) 0 (qa r16.2.2.feffects) false],.cells 0 [.int .i64 r16.2.2.fcache.fsize,.os true 2 2 (r16.2.2.fcache.vorder) 0 (qa r16.2.2.fcache.forder) false,.mp 3,.mp 4],.cells (r16.2.2.fcache.vorder) (qb zl r16.2.2.fcache.forder),.map (y0 zC zT r16.2.2.fcache.freplies.l) (some (r16.2.2.fcache.freplies.bs,r16.2.2.fcache.freplies.ck)),.map (y0 (AV.int .i64) (AV.int .i64) r16.2.2.fcache.flast.l) (some (r16.2.2.fcache.flast.bs,r16.2.2.fcache.flast.ck)),.cells (r16.2.2.veffects) (qb zj r16.2.2.feffects),.cells 0 [.int .i64 3,.int .i64 1,.int .i64 0,.int .i64 1,.int .i64 1,.str [99],.int .i64 0,.str [2,10]],.cells 0 (zn r15.1),.cells 0 (zn r16.1)] (fun r' σ'=>r'=.ds true (qb zj r18) (qa r18) false∧σ'=[.cells 0 [.int .i64 r16.2.2.fself,.ds true (qb wJ r16.2.2.fnumbers) (qa r16.2.2.fnumbers) false,.ds true (qb za r16.2.2.fschemas) (qa r16.2.2.fschemas) false,.str r16.2.2.fnewest.fName,.ds true (qb zh r16.2.2.fnewest.fMessages) (qa r16.2.2.fnewest.fMessages) false,.ds true (qb zk r16.2.2.fnewest.fEnums) (qa r16.2.2.fnewest.fEnums) false,.ds true (qb zr r16.2.2.fnewest.fMethods) (qa r16.2.2.fnewest.fMethods) false,.ds true (qb yE r16.2.2.frows) (qa r16.2.2.frows) false,.op 1 0 0,.os true 8 5 (r16.2.2.veffects) 0 (qa r16.2.2.feffects) false],.cells 0 [.int .i64 r16.2.2.fcache.fsize,.os true 2 2 (r16.2.2.fcache.vorder) 0 (qa r16.2.2.fcache.forder) false,.mp 3,.mp 4],.cells (r16.2.2.fcache.vorder) (qb zl r16.2.2.fcache.forder),.map (y0 zC zT r16.2.2.fcache.freplies.l) (some (r16.2.2.fcache.freplies.bs,r16.2.2.fcache.freplies.ck)),.map (y0 (AV.int .i64) (AV.int .i64) r16.2.2.fcache.flast.l) (some (r16.2.2.fcache.flast.bs,r16.2.2.fcache.flast.ck)),.cells (r16.2.2.veffects) (qb zj r16.2.2.feffects),.cells 0 [.int .i64 3,.int .i64 1,.int .i64 0,.int .i64 1,.int .i64 1,.str [99],.int .i64 0,.str [2,10]],.cells 0 (zn r15.1),.cells 0 (zn r16.1)])) ((xS.ok hr18).ix [0,1,2,3,4,5])) ?_;refine rnW 3 @zn.eq_1 ?_;cases hc17;refine zz ⟨rfl,_,_,⟨rfl,rfl⟩,.b hg53⟩
   rw[Zc hg53] at hc17;refine rnW 5 @zn.eq_1 ?_;cases hc17;refine zz ⟨rfl,_,_,⟨rfl,rfl⟩,.b hg53⟩
 rintro _ _ ⟨rfl,rfl⟩;refine rnW 1 @zn.eq_1 ?_;refine nkN J ?_;cases h;exact rtA
def law24_ServerOnce.j27 (m0_26:y3):Option Bool:=
 none
def law24_ServerOnce.l10 (a0:List y3):Nat→Option Bool
 |0=>none
 |k10+1=>(if ((decide (0<(qa a0:Int)))&&(decide (0<60)))=true then (YI a0 0).bind fun y17=>(if 5000<(qa y17.fBody:Int) then (ZM).bind fun r22=>some r22 else (if ((decide ((qa y17.fBody:Int)=0))||(decide ((0:Int).tmod 2=0)))=true then (law24_ServerOnce.j27 (⟨3,y17.fFrom,0,y17.fID,1,[99],y17.fErr,[]⟩:y3)) else (law24_ServerOnce.j27 (⟨3,y17.fFrom,0,y17.fID,1,[99],y17.fErr,y17.fBody⟩:y3)))) else none)
def law24_ServerOnce.j79 (m0__036:Int)(m0__137:List Int)(m0__238:List zB)(m0__339:zB)(m0__440:List GRow)(m1__041:Int)(l42:List yK)(v43:Nat)(l44:YJ yK y3)(l45:YJ Int Int)(l46:List yc)(v47:Nat)(x48:Int)(rec62:Int→List Int→List zB→zB→List GRow→Int→List yK→Nat→YJ yK y3→YJ Int Int→List yc→Nat→Int→Option Bool)(m6_78:y3):Option Bool:=
 (xJ (⟨m0__036,m0__137,m0__238,m0__339,m0__440,(⟨m1__041,l42,v43,l44,l45⟩:xX),l46,v47⟩:xy) m6_78).bind fun r80=>(rec62 r80.2.2.fself r80.2.2.fnumbers r80.2.2.fschemas r80.2.2.fnewest r80.2.2.frows r80.2.2.fcache.fsize r80.2.2.fcache.forder r80.2.2.fcache.vorder r80.2.2.fcache.freplies r80.2.2.fcache.flast r80.2.2.feffects r80.2.2.veffects (IntKind.i64.wrap (x48+1)))
def law24_ServerOnce.j101 (x93:Int)(rec95:Int→Option Bool)(x100:Bool):Option Bool:=
 (if x100=true then some false else (rec95 (IntKind.i64.wrap (x93+1))))
def law24_ServerOnce.l95 (r84:List yc)(x86:Int)(rec88:Int→Option Bool)(y88:yc):Nat→Int→Option Bool
 |0,_=>none
 |k95+1,x93=>(if x93<x86 then (YI r84 x93).bind fun y105=>(if y88.fFrom=y105.fFrom then (law24_ServerOnce.j101 x93 (law24_ServerOnce.l95 r84 x86 rec88 y88 k95) (decide (y88.fID=y105.fID))) else (law24_ServerOnce.j101 x93 (law24_ServerOnce.l95 r84 x86 rec88 y88 k95) false)) else (rec88 (x86+1)))
def law24_ServerOnce.l88 (r84:List yc):List yc→Int→Option Bool
 |[],x86=>(ZM).bind fun r90=>some r90
 |y88::q88,x86=>(law24_ServerOnce.l95 r84 x86 (law24_ServerOnce.l88 r84 q88) y88 xz 0)
def law24_ServerOnce.l62 (a0:List y3):Nat→Int→List Int→List zB→zB→List GRow→Int→List yK→Nat→YJ yK y3→YJ Int Int→List yc→Nat→Int→Option Bool
 |0,_,_,_,_,_,_,_,_,_,_,_,_,_=>none
 |k62+1,m0__036,m0__137,m0__238,m0__339,m0__440,m1__041,l42,v43,l44,l45,l46,v47,x48=>(if ((decide (x48<(qa a0:Int)))&&(decide (x48<60)))=true then (YI a0 x48).bind fun y69=>(if 5000<(qa y69.fBody:Int) then (ZM).bind fun r74=>some r74 else (if ((decide ((qa y69.fBody:Int)=0))||(decide ((x48).tmod 2=0)))=true then (law24_ServerOnce.j79 m0__036 m0__137 m0__238 m0__339 m0__440 m1__041 l42 v43 l44 l45 l46 v47 x48 (law24_ServerOnce.l62 a0 k62) (⟨3,y69.fFrom,0,y69.fID,1,[99],y69.fErr,[]⟩:y3)) else (law24_ServerOnce.j79 m0__036 m0__137 m0__238 m0__339 m0__440 m1__041 l42 v43 l44 l45 l46 v47 x48 (law24_ServerOnce.l62 a0 k62) (⟨3,y69.fFrom,0,y69.fID,1,[99],y69.fErr,y69.fBody⟩:y3)))) else (xS (⟨m0__036,m0__137,m0__238,m0__339,m0__440,(⟨m1__041,l42,v43,l44,l45⟩:xX),l46,v47⟩:xy)).bind fun r84=>(law24_ServerOnce.l88 r84 r84 0))
def law24_ServerOnce (a0:List y3)(a1:Int):Option Bool:=
 bnd (Zs 2) fun r1=>bnd (Zs 2) fun r2=>(ZD 0 [1] [r1] r2 ([]:List GRow) a1).bind fun r3=>(match r3.1 with|.none=>(if r3.2=0 then (law24_ServerOnce.l10 a0 xz) else some false)|.some y4=>(if r3.2=0 then (law24_ServerOnce.l62 a0 xz y4.fself y4.fnumbers y4.fschemas y4.fnewest y4.frows y4.fcache.fsize y4.fcache.forder y4.fcache.vorder y4.fcache.freplies y4.fcache.flast y4.feffects y4.veffects 0) else some false))
theorem law24_ServerOnce.ok {a0 a1 r}(h:law24_ServerOnce a0 a1=some r):ACalls qi 9 [.ds true (qb zn a0) (qa a0) false,.int .i64 a1] [] (fun r' _=>r'=.bool r):=by
 refine zx (rs:=[.tmp 4]) U Tryz.func9 rfl Tryz.ntmps9 rfl Tryz.call9 (by simp) ?_;refine zK [(0,.ds true (qb zn a0) (qa a0) false),(1,.int .i64 a1)] ⟨rfl,rfl,trivial⟩ ?_;unfold law24_ServerOnce at h;refine O [0,1] ?_
 refine rc [0,5,6] fun K J=>?_
 obtain⟨r1,hr1,h⟩:=yq h;refine xE U 1 ?_;simp only[go_sem,qh,qd,qc,qe,qf,qg,reduceIte,reduceCtorEq,zV,yI,ug,qW,qU,true_and,uj];refine clN rfl rfl rfl ((Zs.ok hr1).c _) ?_;obtain⟨r2,hr2,h⟩:=yq h;refine xE U 1 ?_;simp only[go_sem,qh,qd,qc,qe,qf,qg,reduceIte,reduceCtorEq,zV,yI,ug,qW,qU,true_and,uj,za];refine clN rfl rfl rfl ((Zs.ok hr2).c _) ?_;obtain⟨r3,hr3,h⟩:=bind_some h;refine rnW 1 @za.eq_1 ?_;refine vbc (L:=[(0,.ds true (qb zn a0) (qa a0) false),(13,.ds true (qb wJ [1]) (qa [1]) false),(15,.ds true (qb za [r1]) (qa [r1]) false),(16,.agg (za r2)),(17,.int .i64 a1)]) (τ:=[]) (.t [] false) ?_;refine clN rfl rfl rfl (ACalls.loose (ZD.at hr3 _)) ?_;refine rnW 5 @za.eq_1 ?_;refine nkN J ?_
 generalize hz4:r3.1=z4 at h ⊢
 rcases z4 with _|y4
 · try dsimp only at h
   simp only[Xx,Xw,wC];refine awp_eqS (τ:=[]) (by first|rfl|(simp only[qu,qr,qD,qG,qI,renO_mapE,renO_cells,vbx,AV.ren,vb4,XH,qe]<;>first|rfl|(and_intros<;>rfl))) ?_
   refine zd fun Z5 hZ5=>?_
   refine rgW [0,5,22] qF ?_;refine yv rfl (fun hc6=>?_) (fun hc6=>?_)
   · rw[if_neg hc6] at h;have t7:=eq_false hc6;refine rgW [4] t7 ?_;cases h;exact rtA
   rw[if_pos hc6] at h;have t8:=eq_true hc6;apply zm;apply hZ5
   refine zd fun Z9 hZ9=>?_
   refine rgW [0,5,7] t8 ?_;apply zq;refine yp (fun m L τ=>∃ (k10:Nat),m=0+k10∧L=[(0,.ds true (qb zn a0) (qa a0) false),(5,.nilp),(7,.int .i64 0)]∧τ=([]:ze)∧law24_ServerOnce.l10 a0 k10=some r) _ ⟨xz,rfl,rfl,rfl,h⟩ .s ?_;rintro m L τ ⟨k10,rfl,rfl,rfl,h⟩
   rcases k10 with _|k10
   · cases h
   simp only[law24_ServerOnce.l10] at h
   refine zd fun Z11 hZ11=>?_
   refine rc [0,5,7,30] fun K J=>?_
   refine rnW 5 t8 ?_;refine cut 3 27 30 [0,5,7] ((decide (0<(qa a0:Int)))&&(decide (0<60))) t8 rfl ?_;refine nkN J ?_;refine zY (b:=((decide (0<(qa a0:Int)))&&(decide (0<60)))) rfl (fun hc14=>?_) (fun hc14=>?_)
   · rw[if_pos hc14] at h;apply zm;apply hZ11
     refine zd fun Z15 hZ15=>?_
     apply zq
     refine zd fun Z16 hZ16=>?_
     obtain⟨y17,hy17,h⟩:=bind_some h;have f18:=E88.idxS hy17;have f19:=E88.fldS (f:=9) rfl rfl hy17 (o:=7) (by decide);refine rgW [0,5,7,39] (aI @zn.eq_1 (aI t8 (aI f18 f19))) ?_;refine yv rfl (fun hc20=>?_) (fun hc20=>?_)
     · rw[if_pos hc20] at h;have t21:=eq_true hc20
       refine rc [4] fun K J=>?_
       obtain⟨r22,hr22,h⟩:=bind_some h;refine clN rfl rfl rfl ((ZM.ok r22 hr22).c _) ?_;refine rnW 1 (aI t8 t21) ?_;refine nkN J ?_;cases h;exact rtA
     rw[if_neg hc20] at h;have t23:=eq_false hc20;apply zm;apply hZ16;have f24:=E88.idxS hy17;have f25:=E88.loadS rfl rfl hy17;refine rgW [0,5,7,8] (aI @zn.eq_1 (aI t8 (aI t23 (aI f24 f25)))) ?_;refine rgW [0,5,7,8] (aI @zn.eq_1 (aI t8 t23)) ?_;refine xV (fun L τ=>∃ (m0_26:y3),L=[(0,.ds true (qb zn a0) (qa a0) false),(5,.nilp),(7,.int .i64 0),(8,.op 0 0 0)]∧τ=([.cells 0 (zn m0_26)]:ze)∧law24_ServerOnce.j27 m0_26=some r) ?_ ?_
     · refine rc [0,5,7,8,57] fun K J=>?_
       refine rnW 5 (aI t8 t23) ?_;refine xi 4 (fun L τ=>L=[(0,.ds true (qb zn a0) (qa a0) false),(5,.nilp),(7,.int .i64 0),(8,.op 0 0 0),(57,.bool ((decide ((qa y17.fBody:Int)=0))||(decide ((0:Int).tmod 2=0))))]∧τ=([.cells 0 [.int .i64 3,.int .i64 y17.fFrom,.int .i64 0,.int .i64 y17.fID,.int .i64 1,.str [99],.int .i64 y17.fErr,.str y17.fBody]]:ze)) ?_ ?_
       · refine Yw 53 rfl (fun hg53=>?_) (fun hg53=>?_)
         · have t28:=eq_true hg53;refine rnW 4 (aI t8 t23) ?_;refine zz ⟨rfl,_,_,⟨rfl,rfl⟩,.p t28⟩
         have t29:=eq_false hg53;refine xE U 4 ?_;simp only[go_sem,qh,qd,qc,qe,qf,qg,reduceIte,reduceCtorEq,Zp,t8,t23,Int.reduceEq];refine zz ⟨rfl,_,_,⟨rfl,rfl⟩,.p t29⟩
       rintro _ _ ⟨rfl,rfl⟩;refine nkN J ?_;refine zY (b:=((decide ((qa y17.fBody:Int)=0))||(decide ((0:Int).tmod 2=0)))) rfl (fun hc30=>?_) (fun hc30=>?_)
       · rw[if_pos hc30] at h
         refine rgE U [0,5,7,8] fun K J=>?_
         simp only[go_sem,qh,qd,qc,qe,qf,qg,reduceIte,reduceCtorEq,zn,t8,t23];apply J
         exact⟨_,_,⟨(⟨3,y17.fFrom,0,y17.fID,1,[99],y17.fErr,[]⟩:y3),rfl,rfl,h⟩,.s⟩
       rw[Zc hc30] at h;apply zm;exact⟨_,_,⟨(⟨3,y17.fFrom,0,y17.fID,1,[99],y17.fErr,y17.fBody⟩:y3),rfl,rfl,h⟩,.s⟩
     rintro _ _ ⟨m0_26,rfl,rfl,h⟩;unfold law24_ServerOnce.j27 at h;cases h
   rw[Zc hc14] at h;apply yl;apply hZ9;cases h
 try dsimp only at h
 simp only[Xx,Xw,wC];refine awp_eqS (τ:=[.cells 0 [.int .i64 y4.fself,.ds true (qb wJ y4.fnumbers) (qa y4.fnumbers) false,.ds true (qb za y4.fschemas) (qa y4.fschemas) false,.str y4.fnewest.fName,.ds true (qb zh y4.fnewest.fMessages) (qa y4.fnewest.fMessages) false,.ds true (qb zk y4.fnewest.fEnums) (qa y4.fnewest.fEnums) false,.ds true (qb zr y4.fnewest.fMethods) (qa y4.fnewest.fMethods) false,.ds true (qb yE y4.frows) (qa y4.frows) false,.op 1 0 0,.os true 8 5 (y4.veffects) 0 (qa y4.feffects) false],.cells 0 [.int .i64 y4.fcache.fsize,.os true 2 2 (y4.fcache.vorder) 0 (qa y4.fcache.forder) false,.mp 3,.mp 4],.cells (y4.fcache.vorder) (qb zl y4.fcache.forder),.map (y0 zC zT y4.fcache.freplies.l) (some (y4.fcache.freplies.bs,y4.fcache.freplies.ck)),.map (y0 (AV.int .i64) (AV.int .i64) y4.fcache.flast.l) (some (y4.fcache.flast.bs,y4.fcache.flast.ck)),.cells (y4.veffects) (qb zj y4.feffects)]) (by first|rfl|(simp only[qu,qr,qD,qG,qI,renO_mapE,renO_cells,vbx,AV.ren,vb4,XH,qe]<;>first|rfl|(and_intros<;>rfl))) ?_
 refine zd fun Z31 hZ31=>?_
 refine rgW [0,5,22] qF ?_;refine yv rfl (fun hc32=>?_) (fun hc32=>?_)
 · rw[if_neg hc32] at h;have t33:=eq_false hc32;refine rgW [4] t33 ?_;cases h;exact rtA
 rw[if_pos hc32] at h;have t34:=eq_true hc32;apply zm;apply hZ31
 refine zd fun Z35 hZ35=>?_
 refine rgW [0,5,7] t34 ?_;apply zq;refine yp (fun m L τ=>∃ (k62:Nat) (m0__036:Int) (m0__137:List Int) (m0__238:List zB) (m0__339:zB) (m0__440:List GRow) (m1__041:Int) (l42:List yK) (v43:Nat) (l44:YJ yK y3) (l45:YJ Int Int) (l46:List yc) (v47:Nat) (x48:Int),m=0+k62∧L=[(0,.ds true (qb zn a0) (qa a0) false),(5,.op 0 0 0),(7,.int .i64 x48)]∧τ=([.cells 0 [.int .i64 m0__036,.ds true (qb wJ m0__137) (qa m0__137) false,.ds true (qb za m0__238) (qa m0__238) false,.str m0__339.fName,.ds true (qb zh m0__339.fMessages) (qa m0__339.fMessages) false,.ds true (qb zk m0__339.fEnums) (qa m0__339.fEnums) false,.ds true (qb zr m0__339.fMethods) (qa m0__339.fMethods) false,.ds true (qb yE m0__440) (qa m0__440) false,.op 1 0 0,.os true 8 5 v47 0 (qa l46) false],.cells 0 [.int .i64 m1__041,.os true 2 2 v43 0 (qa l42) false,.mp 3,.mp 4],.cells v43 (qb zl l42),.map (y0 zC zT l44.l) (some (l44.bs,l44.ck)),.map (y0 (AV.int .i64) (AV.int .i64) l45.l) (some (l45.bs,l45.ck)),.cells v47 (qb zj l46)]:ze)∧law24_ServerOnce.l62 a0 k62 m0__036 m0__137 m0__238 m0__339 m0__440 m1__041 l42 v43 l44 l45 l46 v47 x48=some r) _ ⟨xz,y4.fself,y4.fnumbers,y4.fschemas,y4.fnewest,y4.frows,y4.fcache.fsize,y4.fcache.forder,y4.fcache.vorder,y4.fcache.freplies,y4.fcache.flast,y4.feffects,y4.veffects,0,rfl,rfl,rfl,h⟩ .s ?_;rintro m L τ ⟨k62,m0__036,m0__137,m0__238,m0__339,m0__440,m1__041,l42,v43,l44,l45,l46,v47,x48,rfl,rfl,rfl,h⟩
 rcases k62 with _|k62
 · cases h
 simp only[law24_ServerOnce.l62] at h
 refine zd fun Z63 hZ63=>?_
 refine rc [0,5,7,30] fun K J=>?_
 refine rnW 5 t34 ?_;refine cut 3 27 30 [0,5,7] ((decide (x48<(qa a0:Int)))&&(decide (x48<60))) t34 rfl ?_;refine nkN J ?_;refine zY (b:=((decide (x48<(qa a0:Int)))&&(decide (x48<60)))) rfl (fun hc66=>?_) (fun hc66=>?_)
 · rw[if_pos hc66] at h;apply zm;apply hZ63
   refine zd fun Z67 hZ67=>?_
   apply zq
   refine zd fun Z68 hZ68=>?_
   obtain⟨y69,hy69,h⟩:=bind_some h;have f70:=E88.idxS hy69;have f71:=E88.fldS (f:=9) rfl rfl hy69 (o:=7) (by decide);refine rgW [0,5,7,39] (aI @zn.eq_1 (aI t34 (aI f70 f71))) ?_;refine yv rfl (fun hc72=>?_) (fun hc72=>?_)
   · rw[if_pos hc72] at h;have t73:=eq_true hc72
     refine rc [4] fun K J=>?_
     obtain⟨r74,hr74,h⟩:=bind_some h;refine clN rfl rfl rfl ((ZM.ok r74 hr74).c _) ?_;refine rnW 1 (aI t34 t73) ?_;refine nkN J ?_;cases h;exact rtA
   rw[if_neg hc72] at h;have t75:=eq_false hc72;apply zm;apply hZ68;have f76:=E88.idxS hy69;have f77:=E88.loadS rfl rfl hy69;refine rgW [0,5,7,8] (aI @zn.eq_1 (aI t34 (aI t75 (aI f76 f77)))) ?_;refine rgW [0,5,7,8] (aI @zn.eq_1 (aI t34 t75)) ?_;refine xV (fun L τ=>∃ (m6_78:y3),L=[(0,.ds true (qb zn a0) (qa a0) false),(5,.op 0 0 0),(7,.int .i64 x48),(8,.op 6 0 0)]∧τ=([.cells 0 [.int .i64 m0__036,.ds true (qb wJ m0__137) (qa m0__137) false,.ds true (qb za m0__238) (qa m0__238) false,.str m0__339.fName,.ds true (qb zh m0__339.fMessages) (qa m0__339.fMessages) false,.ds true (qb zk m0__339.fEnums) (qa m0__339.fEnums) false,.ds true (qb zr m0__339.fMethods) (qa m0__339.fMethods) false,.ds true (qb yE m0__440) (qa m0__440) false,.op 1 0 0,.os true 8 5 v47 0 (qa l46) false],.cells 0 [.int .i64 m1__041,.os true 2 2 v43 0 (qa l42) false,.mp 3,.mp 4],.cells v43 (qb zl l42),.map (y0 zC zT l44.l) (some (l44.bs,l44.ck)),.map (y0 (AV.int .i64) (AV.int .i64) l45.l) (some (l45.bs,l45.ck)),.cells v47 (qb zj l46),.cells 0 (zn m6_78)]:ze)∧law24_ServerOnce.j79 m0__036 m0__137 m0__238 m0__339 m0__440 m1__041 l42 v43 l44 l45 l46 v47 x48 (law24_ServerOnce.l62 a0 k62) m6_78=some r) ?_ ?_
   · refine rc [0,5,7,8,57] fun K J=>?_
     refine rnW 5 (aI t34 t75) ?_;refine xi 4 (fun L τ=>L=[(0,.ds true (qb zn a0) (qa a0) false),(5,.op 0 0 0),(7,.int .i64 x48),(8,.op 6 0 0),(57,.bool ((decide ((qa y69.fBody:Int)=0))||(decide ((x48).tmod 2=0))))]∧τ=([.cells 0 [.int .i64 m0__036,.ds true (qb wJ m0__137) (qa m0__137) false,.ds true (qb za m0__238) (qa m0__238) false,.str m0__339.fName,.ds true (qb zh m0__339.fMessages) (qa m0__339.fMessages) false,.ds true (qb zk m0__339.fEnums) (qa m0__339.fEnums) false,.ds true (qb zr m0__339.fMethods) (qa m0__339.fMethods) false,.ds true (qb yE m0__440) (qa m0__440) false,.op 1 0 0,.os true 8 5 v47 0 (qa l46) false],.cells 0 [.int .i64 m1__041,.os true 2 2 v43 0 (qa l42) false,.mp 3,.mp 4],.cells v43 (qb zl l42),.map (y0 zC zT l44.l) (some (l44.bs,l44.ck)),.map (y0 (AV.int .i64) (AV.int .i64) l45.l) (some (l45.bs,l45.ck)),.cells v47 (qb zj l46),.cells 0 [.int .i64 3,.int .i64 y69.fFrom,.int .i64 0,.int .i64 y69.fID,.int .i64 1,.str [99],.int .i64 y69.fErr,.str y69.fBody]]:ze)) ?_ ?_
     · refine Yw 53 rfl (fun hg53=>?_) (fun hg53=>?_)
       · have t81:=eq_true hg53;refine rnW 4 (aI t34 t75) ?_;refine zz ⟨rfl,_,_,⟨rfl,rfl⟩,.p t81⟩
       have t82:=eq_false hg53;refine xE U 4 ?_;simp only[go_sem,qh,qd,qc,qe,qf,qg,reduceIte,reduceCtorEq,Zp,t34,t75,Int.reduceEq];refine zz ⟨rfl,_,_,⟨rfl,rfl⟩,.p t82⟩
     rintro _ _ ⟨rfl,rfl⟩;refine nkN J ?_;refine zY (b:=((decide ((qa y69.fBody:Int)=0))||(decide ((x48).tmod 2=0)))) rfl (fun hc83=>?_) (fun hc83=>?_)
     · rw[if_pos hc83] at h
       refine rgE U [0,5,7,8] fun K J=>?_
       simp only[go_sem,qh,qd,qc,qe,qf,qg,reduceIte,reduceCtorEq,zn,t34,t75];apply J
       exact⟨_,_,⟨(⟨3,y69.fFrom,0,y69.fID,1,[99],y69.fErr,[]⟩:y3),rfl,rfl,h⟩,.s⟩
     rw[Zc hc83] at h;apply zm;exact⟨_,_,⟨(⟨3,y69.fFrom,0,y69.fID,1,[99],y69.fErr,y69.fBody⟩:y3),rfl,rfl,h⟩,.s⟩
   rintro _ _ ⟨m6_78,rfl,rfl,h⟩;unfold law24_ServerOnce.j79 at h
   refine rcE [0,5,7] fun K J=>?_
   obtain⟨r80,hr80,h⟩:=bind_some h;refine rnW 2 (aI @zn.eq_1 (aI t34 t75)) ?_;refine clN rfl rfl rfl (@id (ACalls qi 47 [.op 0 0 0,.agg (zn m6_78)] [.cells 0 [.int .i64 m0__036,.ds true (qb wJ m0__137) (qa m0__137) false,.ds true (qb za m0__238) (qa m0__238) false,.str m0__339.fName,.ds true (qb zh m0__339.fMessages) (qa m0__339.fMessages) false,.ds true (qb zk m0__339.fEnums) (qa m0__339.fEnums) false,.ds true (qb zr m0__339.fMethods) (qa m0__339.fMethods) false,.ds true (qb yE m0__440) (qa m0__440) false,.op 1 0 0,.os true 8 5 v47 0 (qa l46) false],.cells 0 [.int .i64 m1__041,.os true 2 2 v43 0 (qa l42) false,.mp 3,.mp 4],.cells v43 (qb zl l42),.map (y0 zC zT l44.l) (some (l44.bs,l44.ck)),.map (y0 (AV.int .i64) (AV.int .i64) l45.l) (some (l45.bs,l45.ck)),.cells v47 (qb zj l46),.cells 0 (zn m6_78)] (fun r' σ'=>r'=.tup [.agg (zn r80.1),.bool r80.2.1]∧σ'=[.cells 0 [.int .i64 r80.2.2.fself,.ds true (qb wJ r80.2.2.fnumbers) (qa r80.2.2.fnumbers) false,.ds true (qb za r80.2.2.fschemas) (qa r80.2.2.fschemas) false,.str r80.2.2.fnewest.fName,.ds true (qb zh r80.2.2.fnewest.fMessages) (qa r80.2.2.fnewest.fMessages) false,.ds true (qb zk r80.2.2.fnewest.fEnums) (qa r80.2.2.fnewest.fEnums) false,.ds true (qb zr r80.2.2.fnewest.fMethods) (qa r80.2.2.fnewest.fMethods) false,.ds true (qb yE r80.2.2.frows) (qa r80.2.2.frows) false,.op 1 0 0,.os true 8 5 (r80.2.2.veffects) 0 (qa r80.2.2.feffects) false],.cells 0 [.int .i64 r80.2.2.fcache.fsize,.os true 2 2 (r80.2.2.fcache.vorder) 0 (qa r80.2.2.fcache.forder) false,.mp 3,.mp 4],.cells (r80.2.2.fcache.vorder) (qb zl r80.2.2.fcache.forder),.map (y0 zC zT r80.2.2.fcache.freplies.l) (some (r80.2.2.fcache.freplies.bs,r80.2.2.fcache.freplies.ck)),.map (y0 (AV.int .i64) (AV.int .i64) r80.2.2.fcache.flast.l) (some (r80.2.2.fcache.flast.bs,r80.2.2.fcache.flast.ck)),.cells (r80.2.2.veffects) (qb zj r80.2.2.feffects),.cells 0 (zn m6_78)])) ((xJ.ok hr80).ix [0,1,2,3,4,5])) ?_;refine nkN J ?_;apply hZ67
   refine rgE U [0,5,7] fun K J=>?_
   simp only[go_sem,qh,qd,qc,qe,qf,qg,reduceIte,reduceCtorEq,Zp,t34,t75];apply J
   exact⟨_,_,_,qK (0+k62),⟨k62,r80.2.2.fself,r80.2.2.fnumbers,r80.2.2.fschemas,r80.2.2.fnewest,r80.2.2.frows,r80.2.2.fcache.fsize,r80.2.2.fcache.forder,r80.2.2.fcache.vorder,r80.2.2.fcache.freplies,r80.2.2.fcache.flast,r80.2.2.feffects,r80.2.2.veffects,IntKind.i64.wrap (x48+1),rfl,rfl,rfl,h⟩,(.t [0,1,2,3,4,5] false)⟩
 rw[Zc hc66] at h;apply yl;apply hZ35
 refine rc [9] fun K J=>?_
 obtain⟨r84,hr84,h⟩:=bind_some h;refine rnW 1 t34 ?_;refine clN rfl rfl rfl (@id (ACalls qi 48 [.op 0 0 0] [.cells 0 [.int .i64 m0__036,.ds true (qb wJ m0__137) (qa m0__137) false,.ds true (qb za m0__238) (qa m0__238) false,.str m0__339.fName,.ds true (qb zh m0__339.fMessages) (qa m0__339.fMessages) false,.ds true (qb zk m0__339.fEnums) (qa m0__339.fEnums) false,.ds true (qb zr m0__339.fMethods) (qa m0__339.fMethods) false,.ds true (qb yE m0__440) (qa m0__440) false,.op 1 0 0,.os true 8 5 v47 0 (qa l46) false],.cells 0 [.int .i64 m1__041,.os true 2 2 v43 0 (qa l42) false,.mp 3,.mp 4],.cells v43 (qb zl l42),.map (y0 zC zT l44.l) (some (l44.bs,l44.ck)),.map (y0 (AV.int .i64) (AV.int .i64) l45.l) (some (l45.bs,l45.ck)),.cells v47 (qb zj l46)] (fun r' σ'=>r'=.ds true (qb zj r84) (qa r84) false∧σ'=[.cells 0 [.int .i64 m0__036,.ds true (qb wJ m0__137) (qa m0__137) false,.ds true (qb za m0__238) (qa m0__238) false,.str m0__339.fName,.ds true (qb zh m0__339.fMessages) (qa m0__339.fMessages) false,.ds true (qb zk m0__339.fEnums) (qa m0__339.fEnums) false,.ds true (qb zr m0__339.fMethods) (qa m0__339.fMethods) false,.ds true (qb yE m0__440) (qa m0__440) false,.op 1 0 0,.os true 8 5 v47 0 (qa l46) false],.cells 0 [.int .i64 m1__041,.os true 2 2 v43 0 (qa l42) false,.mp 3,.mp 4],.cells v43 (qb zl l42),.map (y0 zC zT l44.l) (some (l44.bs,l44.ck)),.map (y0 (AV.int .i64) (AV.int .i64) l45.l) (some (l45.bs,l45.ck)),.cells v47 (qb zj l46)])) ((xS.ok hr84).ix [0,1,2,3,4,5])) ?_;refine rnW 1 t34 ?_;refine nkN J ?_
 refine zd fun Z85 hZ85=>?_
 refine rgW [9,10] t34 ?_;apply zq
 refine xr 9 fun hb88=>?_
 replace hb88:qa r84≤9223372036854775807:=hb88.1;refine yp (fun m L τ=>∃ (p88 q88:List yc) (x86:Int),m=qa q88∧L=[(9,.ds true (qb zj r84) (qa r84) false),(10,.int .i64 x86)]∧τ=([]:ze)∧r84=p88++q88∧x86=(qa p88:Int)∧law24_ServerOnce.l88 r84 q88 x86=some r) _ ⟨[],r84,0,rfl,rfl,rfl,rfl,rfl,h⟩ (.t [] false) ?_;rintro m L τ ⟨p88,q88,x86,rfl,rfl,rfl,hE88,hi88,h⟩
 rcases q88 with _|⟨y88,q88⟩
 · have hz88:=xM hE88 hi88;simp only[law24_ServerOnce.l88] at h
   refine zd fun Z89 hZ89=>?_
   refine rgW [9,10,67] (aI t34 hz88) ?_;refine zQ rfl ?_;apply yl;apply hZ85
   refine rc [4] fun K J=>?_
   obtain⟨r90,hr90,h⟩:=bind_some h;refine clN rfl rfl rfl ((ZM.ok r90 hr90).c _) ?_;refine rnW 1 (aI t34 hz88) ?_;refine nkN J ?_;cases h;exact rtA
 obtain⟨hz88,hw88,hx88,hE'88,hi'88⟩:=xq hE88 hi88 hb88;simp only[law24_ServerOnce.l88] at h
 refine zd fun Z91 hZ91=>?_
 refine rgW [9,10,67] (aI t34 (aI hz88 hw88)) ?_;refine zS rfl ?_;apply zm;apply hZ91
 refine zd fun Z92 hZ92=>?_
 apply zq;refine rgW [9,10,11] (aI t34 (aI hz88 hw88)) ?_;apply zq;refine yp (fun m L τ=>∃ (k95:Nat) (x93:Int),m=0+k95∧L=[(9,.ds true (qb zj r84) (qa r84) false),(10,.int .i64 x86),(11,.int .i64 x93)]∧τ=([]:ze)∧law24_ServerOnce.l95 r84 x86 (law24_ServerOnce.l88 r84 q88) y88 k95 x93=some r) _ ⟨xz,0,rfl,rfl,rfl,h⟩ .s ?_;rintro m L τ ⟨k95,x93,rfl,rfl,rfl,h⟩
 rcases k95 with _|k95
 · cases h
 simp only[law24_ServerOnce.l95] at h
 refine zd fun Z96 hZ96=>?_
 refine rgW [9,10,11,72] (aI t34 (aI hz88 hw88)) ?_;refine yv rfl (fun hc97=>?_) (fun hc97=>?_)
 · rw[if_pos hc97] at h;have t98:=eq_true hc97;apply zm;apply hZ96
   refine zd fun Z99 hZ99=>?_
   apply zq;refine xV (fun L τ=>∃ (x100:Bool),L=[(9,.ds true (qb zj r84) (qa r84) false),(10,.int .i64 x86),(11,.int .i64 x93),(98,.bool x100)]∧τ=([]:ze)∧law24_ServerOnce.j101 x93 (law24_ServerOnce.l95 r84 x86 (law24_ServerOnce.l88 r84 q88) y88 k95) x100=some r) ?_ ?_
   · refine rdE [9,10,11,98] fun K J=>?_
     refine DW.start (T:=tab) [.any,.any,.any,.any,.at [],.any,.any,.any,.any,.at [],.any,.any,.any,.any,.any,.any,.at [],.any,.any,.any,.any,.at [],.any,.any] [] ?_;have f103:=E92.idxS hx88;have f104:=E92.fldS0 (f:=3) rfl rfl hx88;obtain⟨y105,hy105,h⟩:=bind_some h;have f106:=E92.idxS hy105;have f107:=E92.fldS0 (f:=3) rfl rfl hy105;refine DW.runN U 8 ?_;simp only[go_sem,qh,qd,qc,qe,qf,qg,reduceIte,reduceCtorEq,zb,zj,zf,t34,hz88,hw88,t98,f103,f104,f106,f107];refine DW.runN U 4 ?_;simp only[go_sem,qh,qd,qc,qe,qf,qg,reduceIte,reduceCtorEq,Zp,zb,zj,zf,t34,hz88,hw88,t98,f103,f104,f106,f107]
     refine DW.if 86 rfl (fun hg86=>?_) (fun hg86=>?_)
     · rw[if_pos hg86] at h;have t108:=eq_true hg86;have f109:=E92.idxS hx88;have f110:=E92.fldS (f:=3) rfl rfl hx88 (o:=1) (by decide);have f111:=E92.idxS hy105;have f112:=E92.fldS (f:=3) rfl rfl hy105 (o:=1) (by decide);refine DW.runN U 8 ?_;simp only[go_sem,qh,qd,qc,qe,qf,qg,reduceIte,reduceCtorEq,zb,zj,zf,t34,hz88,hw88,t98,t108,f109,f110,f111,f112];refine DW.runN U 4 ?_;simp only[go_sem,qh,qd,qc,qe,qf,qg,reduceIte,reduceCtorEq,Zp,zb,zj,zf,t34,hz88,hw88,t98,t108,f109,f110,f111,f112];refine DW.fin U (by decide +kernel) rfl ?_;simp only[zH,ye,yx,Zn,upd,qc,reduceIte,xh,xO];apply J
       exact⟨_,_,⟨decide (y88.fID=y105.fID),rfl,rfl,h⟩,.s⟩
     rw[if_neg hg86] at h;have t113:=eq_false hg86;refine DW.runN U 8 ?_;simp only[go_sem,qh,qd,qc,qe,qf,qg,reduceIte,reduceCtorEq,zb,zj,zf,t34,hz88,hw88,t98,t113];refine DW.runN U 4 ?_;simp only[go_sem,qh,qd,qc,qe,qf,qg,reduceIte,reduceCtorEq,Zp,zb,zj,zf,t34,hz88,hw88,t98,t113];refine DW.fin U (by decide +kernel) rfl ?_;simp only[zH,ye,yx,Zn,upd,qc,reduceIte,xh,xO];apply J
     exact⟨_,_,⟨false,rfl,rfl,h⟩,.s⟩
   rintro _ _ ⟨x100,rfl,rfl,h⟩;unfold law24_ServerOnce.j101 at h;refine zY (b:=x100) rfl (fun hc102=>?_) (fun hc102=>?_)
   · rw[if_pos hc102] at h;refine rgW [4] (aI t34 (aI hz88 (aI hw88 t98))) ?_;cases h;exact rtA
   rw[Zc hc102] at h;apply zm;apply hZ99
   refine rgE U [9,10,11] fun K J=>?_
   simp only[go_sem,qh,qd,qc,qe,qf,qg,reduceIte,reduceCtorEq,Zp,t34,hz88,hw88,t98];apply J
   exact⟨_,_,_,qK (0+k95),⟨k95,IntKind.i64.wrap (x93+1),rfl,rfl,rfl,h⟩,.s⟩
 rw[if_neg hc97] at h;have t114:=eq_false hc97;apply yl;apply hZ92
 refine rgE U [9,10] fun K J=>?_
 simp only[go_sem,qh,qd,qc,qe,qf,qg,reduceIte,reduceCtorEq,Zp,t34,hz88,hw88,t114];apply J
 exact⟨_,_,_,qK q88.length,⟨p88++[y88],q88,x86+1,rfl,rfl,rfl,hE'88,hi'88,h⟩,.s⟩
end
section
set_option maxRecDepth 4000
open AM
def vb (n:Nat):List UInt8:=if h:n<128 then [ur n] else ur (n % 128+128)::vb (n / 128)
termination_by n
decreasing_by omega
theorem vb_lt {n:Nat}(h:n<128):vb n=[ur n]:=by rw[vb,dif_pos h]
theorem vb_ge {n:Nat}(h:¬ n<128):vb n=ur (n % 128+128)::vb (n / 128):=by rw[vb,dif_neg h]
theorem vb_pos (n:Nat):0<(vb n).length:=by
 by_cases h:n<128
 · rw[vb_lt h]; exact Nat.one_pos
 rw[vb_ge h,qp]; omega
theorem vb_len : ∀ (k n:Nat),n<2^(7*(k+1))→(vb n).length≤k+1
 |0,n,h=>by rw[vb_lt (by simpa using h)]; exact qx _
 |k+1,n,h=>by
  by_cases h1:n<128
  · rw[vb_lt h1,qp,qB]; omega
  rw[vb_ge h1,qp]
  have:=vb_len k (n / 128) (by
   have e:2^(7*(k+1+1))=128*2^(7*(k+1)):=by rw[show 7*(k+1+1)=7+7*(k+1) by omega,Nat.pow_add]
   rw[e] at h
   exact Nat.div_lt_of_lt_mul h)
  omega
theorem vbW {n:Nat}(h:n<2^64):(vb n).length≤10:=vb_len 9 n (ui h (by decide))
theorem vcX {p:Prop} [Decidable p](h:p):grd p=some ():=if_pos h
theorem ZU {n b:Nat}(h:n*b≤140737488355328):vaV n b=some ():=if_pos h
theorem u64w {n:Nat}(h:n<2^64):IntKind.u64.wrap (n:Int)=(n:Int):=by rw[IntKind.wrap_u64]; omega
theorem u64i {x:Int}(h:0≤x)(h':x<18446744073709551616):IntKind.u64.wrap x=x:=by rw[IntKind.wrap_u64]; omega
theorem u8w (n:Nat):IntKind.u8.wrap (n:Int)=((n % 256:Nat):Int):=by
 simp only[IntKind.wrap,IntKind.bits,IntKind.signed,u0]
 simp
theorem vcJ (n:Nat)(h:n<256):(ur n).toNat=n:=by
 rw[UInt8.toNat_ofNat']; omega
theorem or128 : ∀ m:Fin 256,(qM 8 ((m.val:Nat):Int) ||| qM 8 128).toNat=m.val % 128+128:=by decide
theorem and127 : ∀ m:Fin 256,(qM 8 ((m.val:Nat):Int) &&& ~~~(qM 8 128)).toNat=m.val % 128:=by decide
theorem moreByte (n:Nat):ur (qT (IntKind.u8.wrap ((uz (qM 8 (IntKind.u8.wrap (n:Int)) ||| qM 8 128):Nat):Int)))=ur (n % 128+128):=by
 have h:=or128 ⟨n % 256,Nat.mod_lt _ (by decide)⟩;simp only at h;rw[u8w n,h,u8w (n % 256 % 128+128),uc]
 congr 1
 have:=Nat.mod_mod_of_dvd n (show 128 ∣ 256 by decide)
 omega
theorem lastByte (n:Nat)(h:n<128):ur (qT (IntKind.u8.wrap (n:Int)))=ur n:=by
 rw[u8w,uc]; congr 1; omega
theorem shr7 (n:Nat):Int.fdiv (n:Int) (2^(min (qT 7) 64))=((n / 128:Nat):Int):=by
 rw[show ((2:Int)^(min (qT 7) 64))=128 from by decide,Int.fdiv_eq_ediv_of_nonneg _ (by decide)]
 omega
theorem vint_Put_l : ∀ (k n:Nat) (l:List UInt8),n<2^(7*k)→l.length+k≤140737488355328→wy.l9 k l (n:Int)=some (l++vb n)∨k=0
 |0,_,_,_,_=>Or.inr rfl
 |k+1,n,l,h,hl=>by
  left
  by_cases h1:n<128
  · rw[wy.l9,if_neg (by omega),ZU (by omega),qk,lastByte n h1,vb_lt h1]
  rw[wy.l9,if_pos (by omega),ZU (by omega),qk,moreByte,shr7,vb_ge h1]
  have hk:n / 128<2^(7*k):=by
   have e:2^(7*(k+1))=128*2^(7*k):=by rw[show 7*(k+1)=7+7*k by omega,Nat.pow_add]
   rw[e] at h; exact Nat.div_lt_of_lt_mul h
  rcases vint_Put_l k (n / 128) (l++[ur (n % 128+128)]) hk (by rw[qj,ub]; omega) with e|e
  · rw[e,qA]; rfl
  exfalso; subst e; simp at hk; omega
theorem vint_Put_m : ∀ (k j n:Nat) (l r:List UInt8),wy.l9 k l (n:Int)=some r→wy.l9 (k+j) l (n:Int)=some r
 |0,_,_,_,_,h=>by cases h
 |k+1,j,n,l,r,h=>by
  rw[Nat.succ_add_eq_add_succ,Nat.add_succ]
  by_cases h1:(128:Int)≤(n:Int)
  · rw[wy.l9,if_pos h1] at h ⊢
    cases hr:vaV (qa l+1) 1 with
    |none=>rw[hr] at h; cases h
    |some u=>
     rw[hr,qk,shr7] at h
     rw[qk,shr7]; exact vint_Put_m k j _ _ _ h
  rw[wy.l9,if_neg h1] at h ⊢; exact h
theorem vbE (a:List UInt8){n:Nat}(h:n<2^64)(ha:a.length≤140737488355000):wy a (n:Int)=some (a++vb n):=by
 by_cases h1:n<128
 · rw[wy,if_neg (by omega),ZU (by omega),qk,lastByte n h1,vb_lt h1]
 rw[wy,if_pos (by omega),ZU (by omega),qk,moreByte,shr7,vb_ge h1]
 rcases vint_Put_l 10 (n / 128) (a++[ur (n % 128+128)]) (by omega) (by rw[qj,ub]; omega) with e|e
 · have:=vint_Put_m 10 999999999999999999990 _ _ _ e;rw[show 10+999999999999999999990=xz from rfl] at this
   rw[this,qA]; rfl
 cases e
theorem orAdd {i acc d:Nat}(h:acc<2^i):acc ||| d*2^i=acc+d*2^i:=by
 rw[Nat.or_comm,Nat.mul_comm,← Nat.two_pow_add_eq_or_of_lt h]; omega
theorem bv64 {n:Nat}(h:n<2^64):(qM 64 (n:Int)).toNat=n:=by
 rw[BitVec.ofInt_natCast,BitVec.toNat_ofNat]; exact Nat.mod_eq_of_lt h
theorem stepv {acc i:Nat}{y:UInt8}(hi:i≤9)(ha:acc<2^(7*i))(h9:i=9→y.toNat≤1):IntKind.u64.wrap ((uz (qM 64 (acc:Int) ||| qM 64 (IntKind.u64.wrap ((IntKind.u64.wrap (IntKind.u8.wrap ((uz (qM 8 (y.toNat:Int) &&& ~~~(qM 8 128)):Nat):Int)))*2^(min (qT (IntKind.i64.wrap (7*(i:Int)))) 64)))):Nat):Int)=((acc+(y.toNat % 128)*2^(7*i):Nat):Int)∧acc+(y.toNat % 128)*2^(7*i)<2^64∧(i<9→acc+(y.toNat % 128)*2^(7*i)<2^(7*(i+1))):=by
 have hy:y.toNat<256:=y.toNat_lt;have h:=and127 ⟨y.toNat,hy⟩;simp only at h
 have e:IntKind.i64.wrap (7*(i:Int))=((7*i:Nat):Int):=by rw[Za (by omega) (by omega)]; omega
 have hm:min (7*i) 64=7*i:=by omega
 have hd:y.toNat % 128<128:=Nat.mod_lt _ (by decide)
 have hp:2^(7*(i+1))=128*2^(7*i):=by rw[show 7*(i+1)=7+7*i by omega,Nat.pow_add]
 have hs:i<9→acc+(y.toNat % 128)*2^(7*i)<2^(7*(i+1)):=by
  intro _
  rw[hp];have:(y.toNat % 128)*2^(7*i)≤127*2^(7*i):=ud _ (by omega)
  omega
 have hb:acc+(y.toNat % 128)*2^(7*i)<2^64:=by
  by_cases h8:i<9
  · have:=hs h8;have h2:2^(7*(i+1))≤2^63:=Nat.pow_le_pow_right (by decide) (by omega)
    omega
  have hi9:i=9:=by omega
  have h1:=h9 hi9;subst hi9
  have:y.toNat % 128≤1:=by omega
  have h2:(y.toNat % 128)*2^(7*9)≤1*2^(7*9):=ud _ this
  omega
 refine⟨?_,hb,hs⟩;rw[h,u8w,Nat.mod_eq_of_lt (show y.toNat % 128<256 by omega),e,uc,hm]
 have hc:((((y.toNat % 128:Nat):Int))*2^(7*i))=(((y.toNat % 128)*2^(7*i):Nat):Int):=by
  rw[Int.natCast_mul,Int.natCast_pow]; rfl
 have hu:IntKind.u64.wrap ((y.toNat % 128:Nat):Int)=((y.toNat % 128:Nat):Int):=u64w (by omega);rw[hu,hc,u64w (n:=y.toNat % 128*2^(7*i)) (by omega),BitVec.toNat_or,bv64 (by omega),bv64 (by omega),orAdd ha,u64w hb]
theorem vdc (a:Nat)(hA:a≤4611686018427387904):∀ (q post:List UInt8) (v i acc:Nat),q=vb v++post→i≤9→acc<2^(7*i)→v*2^(7*i)<2^64→(0<i→v≠0)→
 wN.l12 (a:Int) q (i:Int) (acc:Int)=some (((acc+v*2^(7*i):Nat):Int),((a+i+(vb v).length:Nat):Int),0)
 |[],post,v,i,acc,h,_,_,_,_=>by
  have:=vb_pos v;have h2:=congrArg qa h
  rw[qj,qB] at h2; omega
 |y::q,post,v,i,acc,h,hi,ha,hv,h0=>by
  by_cases h1:v<128
  · rw[vb_lt h1] at h ⊢
    obtain⟨rfl,rfl⟩:y=ur v∧q=post:=by injection h with h2 h3; exact⟨h2,h3⟩
    have hy:(ur v).toNat=v:=vcJ v (by omega)
    have h9:i=9→v≤1:=by
     intro e; subst e
     apply u7; intro hc
     have:2*2^(7*9)≤v*2^(7*9):=ud _ hc
     omega
    have st:=(stepv (y:=ur v) hi ha (by rw[hy]; exact h9)).1;have hw1:IntKind.i64.wrap (7*(i:Int))=7*(i:Int):=Za (by omega) (by omega);rw[wN.l12,st,hy];rw[if_neg (by simp only[qJ,decide_eq_true_eq,not_and]; intro e; have:=h9 (by omega); omega),vcX (by rw[Za (by omega) (by omega)]; omega),qk,if_neg (by omega),if_neg (by simp only[qJ,decide_eq_true_eq,not_and]; intro e e2; exact h0 (by omega) (by omega))];rw[Nat.mod_eq_of_lt h1,Za (x:=(a:Int)+(i:Int)) (by omega) (by omega),Za (x:=(a:Int)+(i:Int)+1) (by omega) (by omega),ub];simp only[Int.natCast_add,Int.natCast_one]
  rw[vb_ge h1] at h ⊢
  obtain⟨rfl,rfl⟩:y=ur (v % 128+128)∧q=vb (v / 128)++post:=by injection h with h2 h3; exact⟨h2,h3⟩
  have hy:(ur (v % 128+128)).toNat=v % 128+128:=vcJ _ (by omega)
  have hi8:i<9:=by
   apply Nat.lt_of_not_le; intro hc
   have:i=9:=by omega
   subst this;have:128*2^(7*9)≤v*2^(7*9):=ud _ (by omega)
   omega
  obtain⟨st,sb,sn⟩:=stepv (y:=ur (v % 128+128)) hi ha (by intro e; omega);rw[wN.l12,st,hy,if_neg (by simp only[qJ,decide_eq_true_eq,not_and]; intro e; omega),vcX (by rw[Za (by omega) (by omega)]; omega),qk,if_pos (by omega)];rw[hy] at sn
  have hm:(v % 128+128) % 128=v % 128:=by omega
  rw[hm] at sn ⊢
  have hp:2^(7*(i+1))=128*2^(7*i):=by rw[show 7*(i+1)=7+7*i by omega,Nat.pow_add]
  have hvd:v=128*(v / 128)+v % 128:=(Nat.div_add_mod v 128).symm
  have hmul:v*2^(7*i)=(v / 128)*2^(7*(i+1))+(v % 128)*2^(7*i):=by
   rw[hp]
   calc v*2^(7*i)=(128*(v / 128)+v % 128)*2^(7*i):=by rw[← hvd]
    _=_:=by rw[u6,Nat.mul_comm 128,Nat.mul_assoc]
  have ih:=vdc a hA (vb (v / 128)++post) post (v / 128) (i+1) (acc+v % 128*2^(7*i)) rfl (by omega) (sn hi8) (by rw[hmul] at hv; omega) (by intro _; omega);rw[show ((i:Int)+1)=((i+1:Nat):Int) by omega,ih,hmul,qp]
  congr 2
  · congr 1; omega
  congr 2; omega
theorem vdb (a:Nat)(hA:a≤4611686018427387904):∀ (q:List UInt8) (i acc:Nat),i+q.length≤10→acc<2^(7*i)→∃ r,wN.l12 (a:Int) q (i:Int) (acc:Int)=some r∧
 (r.2.2=0→∃ v post,q=vb v++post∧v*2^(7*i)<2^64∧(0<i→v≠0))∧0≤r.2.2
 |[],i,acc,_,_=>⟨_,rfl,(by intro h; cases h),by decide⟩
 |y::q,i,acc,hl,ha=>by
  rw[qp] at hl;rw[wN.l12]
  by_cases h9:((decide ((i:Int)=9))&&(decide (1<(y.toNat:Int))))=true
  · rw[if_pos h9]; exact⟨_,rfl,(by intro h; cases h),by decide⟩
  rw[if_neg h9]
  have h9':i=9→y.toNat≤1:=by
   intro e
   simp only[qJ,decide_eq_true_eq,not_and] at h9
   have:=h9 (by omega); omega
  obtain⟨st,sb,sn⟩:=stepv (y:=y) (show i≤9 by omega) ha h9';rw[st,vcX (by rw[Za (by omega) (by omega)]; omega),qk];have hy:y.toNat<256:=y.toNat_lt
  by_cases h1:(128:Int)≤(y.toNat:Int)
  · rw[if_pos h1]
    have hi8:i<9:=by
     apply Nat.lt_of_not_le; intro hc
     have:=h9' (by omega); omega
    obtain⟨r,e,hr,h0⟩:=vdb a hA q (i+1) (acc+y.toNat % 128*2^(7*i)) (by omega) (sn hi8);rw[show ((i:Int)+1)=((i+1:Nat):Int) by omega];refine⟨r,e,?_,h0⟩
    intro hz
    obtain⟨v,post,hq,hv,hn⟩:=hr hz
    have hp:2^(7*(i+1))=128*2^(7*i):=by rw[show 7*(i+1)=7+7*i by omega,Nat.pow_add]
    have hvn:=hn (by omega)
    have hw:¬ (v*128+y.toNat % 128)<128:=by omega
    refine⟨v*128+y.toNat % 128,post,?_,?_,by intro _; omega⟩
    · rw[vb_ge hw,show (v*128+y.toNat % 128) % 128+128=y.toNat by omega,show (v*128+y.toNat % 128) / 128=v by omega,UInt8.ofNat_toNat,hq]; rfl
    rw[hp] at hv
    have hmul:(v*128+y.toNat % 128)*2^(7*i)=v*(128*2^(7*i))+y.toNat % 128*2^(7*i):=by rw[u6,Nat.mul_assoc]
    rw[hmul]
    by_cases hi7:i<9
    · have hd:y.toNat % 128*2^(7*i)<128*2^(7*i):=Nat.mul_lt_mul_of_pos_right (by omega) (Nat.pow_pos (by decide))
      have h64:128*2^(7*i) ∣ 2^64:=by rw[← hp]; exact Nat.pow_dvd_pow 2 (by omega)
      obtain⟨c,hc⟩:=h64;rw[hc] at hv ⊢
      have hvc:v<c:=by
       apply Nat.lt_of_not_le; intro hle
       have:=ud (128*2^(7*i)) hle
       rw[Nat.mul_comm c] at this; omega
      have h3:(v+1)*(128*2^(7*i))≤c*(128*2^(7*i)):=ud _ hvc;rw[u6,Nat.one_mul] at h3
      rw[Nat.mul_comm (128*2^(7*i)) c]; omega
    omega
  rw[if_neg h1]
  by_cases h2:((decide ((y.toNat:Int)=0))&&(decide (0<(i:Int))))=true
  · rw[if_pos h2]; exact⟨_,rfl,(by intro h; cases h),by decide⟩
  rw[if_neg h2];refine⟨_,rfl,?_,Int.le_refl 0⟩
  intro _
  refine⟨y.toNat,q,?_,?_,?_⟩
  · rw[vb_lt (by omega),UInt8.ofNat_toNat]; rfl
  · rw[Nat.mod_eq_of_lt (by omega)] at sb; omega
  intro hi e
  apply h2
  simp only[qJ,decide_eq_true_eq]; omega
theorem get_head {b:List UInt8}{n:Nat}(hb:b.length≤4096)(hn:n≤b.length):wN b (n:Int)=wN.l12 (n:Int) ((b.drop n).take 10) 0 0:=by
 have e1:IntKind.i64.wrap ((qa b:Int)-(n:Int))=((b.length-n:Nat):Int):=by rw[Za (by omega) (by omega)]; omega
 rw[wN,if_neg (by simp only[ut,decide_eq_true_eq]; omega),e1]
 by_cases h:(10:Int)<((b.length-n:Nat):Int)
 · rw[if_pos h]
   have e2:IntKind.i64.wrap ((n:Int)+10)=((n+10:Nat):Int):=by rw[Za (by omega) (by omega)]; omega
   rw[e2,vcX (by omega),qk,vbV,uc,uc,show n+10-n=10 by omega]
 rw[if_neg h]
 have e2:IntKind.i64.wrap ((n:Int)+((b.length-n:Nat):Int))=(b.length:Int):=by rw[Za (by omega) (by omega)]; omega
 rw[e2,vcX (by omega),qk,vbV,uc,uc,uu (by rw[uU]; exact qx _),uu (by rw[uU]; omega)]
theorem get_ok {b post:List UInt8}{n v:Nat}(hb:b.length≤4096)(hn:n≤b.length)(h:b.drop n=vb v++post)(hv:v<2^64):wN b (n:Int)=some ((v:Int),((n+(vb v).length:Nat):Int),0):=by
 have:=vdc n (by omega) ((b.drop n).take 10) (post.take (10-(vb v).length)) v 0 0 (by rw[h,List.take_append,uu (vbW hv)]) (by omega) (by decide) (by omega) (by omega);rw[get_head hb hn]
 simpa using this
theorem get_inv {b:List UInt8}{n:Nat}(hb:b.length≤4096)(hn:n≤b.length):∃ r,wN b (n:Int)=some r∧(r.2.2=0→∃ v post,b.drop n=vb v++post∧v<2^64∧r=((v:Int),((n+(vb v).length:Nat):Int),0))∧0≤r.2.2:=by
 obtain⟨r,e,hr,h0⟩:=vdb n (by omega) ((b.drop n).take 10) 0 0 (by rw[uR]; omega) (by decide);rw[get_head hb hn];refine⟨r,e,?_,h0⟩
 intro hz
 obtain⟨v,post,hq,hv,_⟩:=hr hz
 have hv':v<2^64:=by omega
 have hd:b.drop n=vb v++(post++(b.drop n).drop 10):=by
  rw[← qA,← hq,uA]
 refine⟨v,_,hd,hv',?_⟩;have:=get_ok hb hn hd hv';rw[get_head hb hn] at this;exact Option.some.inj (e.symm.trans this)
end
section
set_option maxRecDepth 4000
open AM
def vbU (n:Int):Prop := -9223372036854775808≤n∧n<9223372036854775808
def zg (n:Int):Nat:=if 0≤n then (2*n).toNat else (-2*n-1).toNat
def zu (v:Nat):Int:=if v % 2=0 then ((v / 2:Nat):Int) else -((v / 2:Nat):Int)-1
theorem zg_lt {n:Int}(h:vbU n):zg n<2^64:=by
 unfold zg; obtain⟨h1,h2⟩:=h; split<;>omega
theorem zu_zg (n:Int):zu (zg n)=n:=by
 unfold zg zu; split<;>split<;>omega
theorem zg_zu (v:Nat):zg (zu v)=v:=by
 unfold zg zu; split<;>split<;>omega
theorem zu_in {v:Nat}(h:v<2^64):vbU (zu v):=by
 unfold zu vbU; split<;>omega
theorem bvm1 : qM 64 (-1)=BitVec.allOnes 64:=by decide
theorem bv0 : qM 64 0=0#64:=by decide
theorem fdiv2 (n:Int)(k:Nat):Int.fdiv n (2^k)=n / (2^k):=Int.fdiv_eq_ediv_of_nonneg _ (Int.le_of_lt (Int.pow_pos (by decide)))
theorem vint_Zig_eq {n:Int}(h:vbU n):vaD n=(zg n:Int):=by
 obtain⟨h1,h2⟩:=h;unfold vaD zg;rw[show min (qT 1) 64=1 from rfl,show min (qT 63) 64=63 from rfl,fdiv2]
 by_cases h0:0≤n
 · have e:n / 2^63=0:=Int.ediv_eq_zero_of_lt h0 (by omega);rw[if_pos h0,e,show IntKind.u64.wrap 0=0 from by rw[IntKind.wrap_u64]; rfl,bv0,BitVec.xor_zero]
   have e2:IntKind.u64.wrap (IntKind.u64.wrap n*2^1)=(((2*n).toNat:Nat):Int):=by rw[IntKind.wrap_u64,IntKind.wrap_u64]; omega
   rw[e2,bv64 (by omega),u64w (by omega)]
 have e:n / 2^63 = -1:=by omega
 have e1:IntKind.u64.wrap (-1)=18446744073709551615:=by rw[IntKind.wrap_u64]; rfl
 have e3:qM 64 18446744073709551615=BitVec.allOnes 64:=by decide
 rw[if_neg h0,e,e1,e3,BitVec.xor_allOnes,BitVec.toNat_not]
 have e2:IntKind.u64.wrap (IntKind.u64.wrap n*2^1)=(((2*n+18446744073709551616).toNat:Nat):Int):=by rw[IntKind.wrap_u64,IntKind.wrap_u64]; omega
 rw[e2,bv64 (by omega),u64w (by omega)]
 omega
theorem vint_Zag_eq {v:Nat}(h:v<2^64):vaE (v:Int)=zu v:=by
 unfold vaE zu;rw[show min (qT 1) 64=1 from rfl,fdiv2]
 have ea:(qM 64 (v:Int) &&& qM 64 1).toNat=v % 2:=by
  rw[BitVec.toNat_and,bv64 h,show (qM 64 1).toNat=1 from by decide,Nat.and_one_is_mod]
 have e1:IntKind.i64.wrap ((v:Int) / 2^1)=((v / 2:Nat):Int):=by rw[Za (by omega) (by omega)]; omega
 rw[ea,e1,u64w (n:=v % 2) (by omega)]
 by_cases h0:v % 2=0
 · rw[if_pos h0,h0]
   have e2:IntKind.i64.wrap (0-IntKind.i64.wrap ((0:Nat):Int))=0:=by decide
   rw[e2,bv0,BitVec.xor_zero,bv64 (by omega),Za (by omega) (by omega)]
 have h1:v % 2=1:=by omega
 rw[if_neg h0,h1]
 have e2:IntKind.i64.wrap (0-IntKind.i64.wrap ((1:Nat):Int)) = -1:=by decide
 rw[e2,bvm1,BitVec.xor_allOnes,BitVec.toNat_not,bv64 (by omega),IntKind.wrap_i64]
 omega
def vaJ (r:yC):Prop:=xY r=true∧vbU r.fN
def vcW (r:yC):Nat:=(2*r.fTag+r.fWire).toNat
def vby (r:yC):List UInt8:=vb (vcW r)++(if r.fWire=0 then vb (zg r.fN) else vb r.fB.length++r.fB)
def ZV (l:List yC):List UInt8:=l.flatMap vby
theorem Xj {r:yC}(h:xY r=true):1≤r.fTag∧r.fTag≤500∧((r.fWire=0∧r.fB=[])∨(r.fWire=1∧r.fN=0∧r.fB.length≤4096)):=by
 unfold xY at h
 split at h
 · cases h
 rename_i h1
 simp only[ut,decide_eq_true_eq,not_or] at h1;refine⟨by omega,by omega,?_⟩
 split at h
 · left; exact⟨‹_›,by simpa using h⟩
 split at h
 · right
   simp only[qJ,decide_eq_true_eq] at h;exact⟨‹_›,h.1,by omega⟩
 cases h
theorem check_num {t n:Int}(h1:1≤t)(h2:t≤500):xY ⟨t,0,n,[]⟩=true:=by
 unfold xY
 rw[if_neg (by simp only[ut,decide_eq_true_eq]; omega)]; rfl
theorem vcA {t:Int}{s:List UInt8}(h1:1≤t)(h2:t≤500)(h3:s.length≤4096):xY ⟨t,1,0,s⟩=true:=by
 unfold xY;rw[if_neg (by simp only[ut,decide_eq_true_eq]; omega)];simp only[decide_true,uh]
 rw[if_neg (by decide),if_pos trivial]; exact decide_eq_true (by omega)
theorem rawB_pos (r:yC):2≤(vby r).length:=by
 unfold vby;have h1:=vb_pos (vcW r);have h2:=vb_pos (zg r.fN);have h3:=vb_pos r.fB.length
 split<;>simp only[qj]<;>omega
theorem wire_Put_eq {a:List UInt8}{r:yC}(h:vaJ r)(ha:a.length≤1000000):vaC a r=some (a++vby r,true):=by
 obtain⟨hc,hn⟩:=h;obtain⟨h1,h2,h3⟩:=Xj hc;unfold vaC bnd
 rw[hc]; simp only[]
 have ek:IntKind.u64.wrap (IntKind.i64.wrap ((IntKind.i64.wrap (2*r.fTag))+r.fWire))=((vcW r:Nat):Int):=by
  rw[Za (x:=2*r.fTag) (by omega) (by omega),Za (by omega) (by omega),u64i (by omega) (by omega),vcW]; omega
 have k1:vcW r<2^64:=by unfold vcW; omega
 have kl:=vbW k1;rw[if_neg (by decide),ek,vbE a k1 (by omega),qk]
 rcases h3 with ⟨h3,h4⟩|⟨h3,h4,h5⟩
 · rw[if_pos h3,vint_Zig_eq hn,vbE _ (zg_lt hn) (by rw[qj]; omega),qk,vby,if_pos h3,qA]
 have hb:=vbW (n:=r.fB.length) (by omega);rw[if_neg (by omega),u64w (by omega),vbE _ (by omega) (by rw[qj]; omega),qk,ZU (by simp only[qj]; omega),qk,vby,if_neg (by omega)];simp only[qA]
theorem putAll_l11 : ∀ (q:List yC) (x:Int) (acc:List UInt8),(∀ r∈q,vaJ r)→acc.length≤4096→xm.l11 q x acc=some (if 4096<(acc++ZV q).length then ([],4) else (acc++ZV q,0))
 |[],x,acc,_,ha=>by
  rw[xm.l11,ZV,qO,qD,if_neg (by omega)]
 |r::q,x,acc,h,ha=>by
  have hr:=h r (qP ..)
  rw[xm.l11,wire_Put_eq hr (by omega),qk]; dsimp only
  have e:acc++ZV (r::q)=(acc++vby r)++ZV q:=by rw[ZV,qE,qA]; rfl
  rw[e]
  by_cases h1:4096<(acc++vby r).length
  · rw[if_pos (by omega),if_pos (by rw[qj]; omega)]
  rw[if_neg (by omega),putAll_l11 q (x+1) _ (fun s hs=>h s (qL _ hs)) (by omega)]
theorem putAll_l4 (a:List yC):∀ (q:List yC) (x:Int),xm.l4 a q x=if q.all xY then xm.l11 a 0 [] else some ([],1)
 |[],x=>by rw[xm.l4]; rfl
 |r::q,x=>by
  rw[xm.l4,bnd,qZ]
  by_cases h:xY r=true
  · rw[h,if_neg (by decide),putAll_l4 a q]; rfl
  rw[if_pos (by simpa using h),if_neg (by rw[qJ]; exact fun hh=>h hh.1)]
theorem putAll_eq {l:List yC}(h:∀ r∈l,vbU r.fN):xm l=some (if l.all xY then (if 4096<(ZV l).length then ([],4) else (ZV l,0)) else ([],1)):=by
 rw[xm,putAll_l4]
 by_cases h1:l.all xY=true
 · rw[if_pos h1,if_pos h1,putAll_l11 l 0 [] (fun r hr=>⟨un.1 h1 r hr,h r hr⟩) (by decide)]; rfl
 rw[if_neg h1,if_neg h1]
theorem vaQ {b x post:List UInt8}{n:Nat}(h:b.drop n=x++post):b.drop (n+x.length)=post:=by
 rw[← vo,h,List.drop_left' rfl]
theorem vcg {b x post:List UInt8}{n:Nat}(hn:n≤b.length)(h:b.drop n=x++post):n+x.length+post.length=b.length:=by
 have:=congrArg qa h
 rw[uU,qj] at this; omega
theorem one_ok {b post:List UInt8}{n:Nat}{r:yC}(hb:b.length≤4096)(hn:n≤b.length)(h:b.drop n=vby r++post)(hr:vaJ r):YM b (n:Int)=some (r,((n+(vby r).length:Nat):Int),0):=by
 obtain⟨hc,hN⟩:=hr;obtain⟨h1,h2,h3⟩:=Xj hc
 have k1:vcW r<2^64:=by unfold vcW; omega
 rw[vby,qA] at h;have hl:=vcg hn h;unfold YM;rw[get_ok hb hn h k1,qk];have hk:vcW r=(2*r.fTag+r.fWire).toNat:=rfl
 have d1:((vcW r:Nat):Int).tdiv 2=r.fTag:=by rw[Int.tdiv_eq_ediv_of_nonneg (by omega),hk]; rcases h3 with h3|h3<;>omega
 have d2:((vcW r:Nat):Int).tmod 2=r.fWire:=by rw[Int.tmod_eq_emod_of_nonneg (by omega),hk]; rcases h3 with h3|h3<;>omega
 simp only[d1,d2];rw[if_pos trivial,if_neg (by rw[u64i (by omega) (by omega)]; simp only[ut,decide_eq_true_eq]; omega),u64i (x:=r.fTag) (by omega) (by omega),Za (x:=r.fTag) (by omega) (by omega),Za (x:=r.fWire) (by omega) (by omega)];have h':=vaQ h
 rcases h3 with ⟨h3,h4⟩|⟨h3,h4,h5⟩
 · rw[if_pos h3] at h';rw[get_ok hb (by omega) h' (zg_lt hN),qk];simp only[];rw[if_pos trivial,if_pos h3,bnd,vint_Zag_eq (zg_lt hN),zu_zg,vby,if_pos h3]
   have e:r=⟨r.fTag,r.fWire,r.fN,[]⟩:=by cases r; simp only at h4; subst h4; rfl
   rw[← e,qj,ux]
 rw[if_neg (by omega)] at h' hl;rw[qA] at h';have hl':=vcg (by omega) h';rw[qj] at hl';rw[get_ok hb (by omega) h' (show r.fB.length<2^64 by omega),qk];simp only[];have h'':=vaQ h'
 have e1:IntKind.i64.wrap ((b.length:Int)-((n+(vb (vcW r)).length+(vb r.fB.length).length:Nat):Int))=((r.fB.length+post.length:Nat):Int):=by rw[Za (by omega) (by omega)]; omega
 have e2:IntKind.i64.wrap (r.fB.length:Int)=(r.fB.length:Int):=Za (by omega) (by omega)
 have e3:IntKind.i64.wrap (((n+(vb (vcW r)).length+(vb r.fB.length).length:Nat):Int)+(r.fB.length:Int))=((n+(vb (vcW r)).length+(vb r.fB.length).length+r.fB.length:Nat):Int):=by rw[Za (by omega) (by omega)]; omega
 rw[if_pos trivial,if_neg (by omega),e1,u64w (by omega),if_neg (by omega),e2,e3,vcX (by omega),qk,vbV,uc,uc,h'',Nat.add_sub_cancel_left,List.take_left' rfl,vby,if_neg (by omega),qj,qj]
 have e:r=⟨r.fTag,r.fWire,0,r.fB⟩:=by cases r; simp only at h4; subst h4; rfl
 rw[← e,show n+(vb (vcW r)).length+(vb r.fB.length).length+r.fB.length=n+((vb (vcW r)).length+((vb r.fB.length).length+r.fB.length)) by omega]
theorem one_inv {b:List UInt8}{n:Nat}(hb:b.length≤4096)(hn:n≤b.length):∃ r,YM b (n:Int)=some r∧
 (r.2.2=0→∃ x post,b.drop n=vby x++post∧vaJ x∧r=(x,((n+(vby x).length:Nat):Int),0))∧0≤r.2.2:=by
 obtain⟨r1,e1,i1,p1⟩:=get_inv hb hn
 by_cases z1:r1.2.2=0
 · obtain⟨v,post,hd,hv,rfl⟩:=i1 z1;have hl:=vcg hn hd;have hd':=vaQ hd
   by_cases c1:(decide ((v:Int)<2)||decide ((500:Int)<IntKind.u64.wrap ((v:Int).tdiv 2)))=true
   · refine⟨_,by unfold YM; rw[e1,qk,if_pos rfl,if_pos c1],?_,by decide⟩
     intro h; exact absurd h (by decide)
   have c1':=c1;simp only[ut,decide_eq_true_eq,not_or] at c1;obtain⟨c2,c3⟩:=c1
   have d1:(v:Int).tdiv 2=((v / 2:Nat):Int):=by rw[Int.tdiv_eq_ediv_of_nonneg (by omega)]; omega
   have d2:(v:Int).tmod 2=((v % 2:Nat):Int):=by rw[Int.tmod_eq_emod_of_nonneg (by omega)]; omega
   rw[d1,u64w (by omega)] at c3;obtain⟨r2,e2,i2,p2⟩:=get_inv hb (n:=n+(vb v).length) (by omega)
   by_cases z2:r2.2.2=0
   · obtain⟨w,post2,hd2,hw,rfl⟩:=i2 z2;have hl2:=vcg (by omega) hd2
     by_cases c4:v % 2=0
     · have ok:vaJ ⟨((v / 2:Nat):Int),0,zu w,[]⟩:=⟨check_num (by omega) (by omega),zu_in hw⟩
       have hkey:vcW ⟨((v / 2:Nat):Int),0,zu w,[]⟩=v:=by unfold vcW; simp only[]; omega
       have hdr:b.drop n=vby ⟨((v / 2:Nat):Int),0,zu w,[]⟩++post2:=by
        rw[vby,hkey,if_pos rfl]; simp only[zg_zu]; rw[hd,← hd',hd2,qA]
       refine⟨_,one_ok hb hn hdr ok,?_,Int.le_refl 0⟩
       intro _; exact⟨_,_,hdr,ok,rfl⟩
     have c5:v % 2=1:=by omega
     by_cases c6:w≤post2.length
     · have ok:vaJ ⟨((v / 2:Nat):Int),1,0,post2.take w⟩:=⟨vcA (by omega) (by omega) (by rw[uR]; omega),(show vbU 0 from ⟨by decide,by decide⟩)⟩
       have hkey:vcW ⟨((v / 2:Nat):Int),1,0,post2.take w⟩=v:=by unfold vcW; simp only[]; omega
       have hdr:b.drop n=vby ⟨((v / 2:Nat):Int),1,0,post2.take w⟩++post2.drop w:=by
        rw[vby,hkey,if_neg (show ¬ (1:Int)=0 by decide)];simp only[uR,Nat.min_eq_left c6];rw[hd,← hd',hd2,qA,qA,uA]
       refine⟨_,one_ok hb hn hdr ok,?_,Int.le_refl 0⟩
       intro _; exact⟨_,_,hdr,ok,rfl⟩
     have e3:IntKind.i64.wrap ((b.length:Int)-((n+(vb v).length+(vb w).length:Nat):Int))=((post2.length:Nat):Int):=by rw[Za (by omega) (by omega)]; omega
     refine⟨_,by unfold YM; rw[e1,qk,if_pos rfl,if_neg c1',e2,qk,if_pos rfl,d2,if_neg (by rw[Za (by omega) (by omega)]; omega),e3,u64w (by omega),if_pos (by omega)],?_,by decide⟩
     intro h; exact absurd h (by decide)
   refine⟨_,by unfold YM; rw[e1,qk,if_pos rfl,if_neg c1',e2,qk,if_neg z2],?_,p2⟩
   intro h; exact absurd h z2
 refine⟨_,by unfold YM; rw[e1,qk,if_neg z1],?_,p1⟩
 intro h; exact absurd h z1
theorem Zo (r:yC)(l:List yC):ZV (r::l)=vby r++ZV l:=by rw[ZV,qE]; rfl
theorem YY (l m:List yC):ZV (l++m)=ZV l++ZV m:=by rw[ZV,qH]; rfl
theorem get_l_inv {b:List UInt8}(hb:b.length≤4096):∀ (k n:Nat) (acc:List yC),n≤b.length→2*acc.length≤n→b.length<k+n→
 ∃ r,Zk.l12 b k acc (n:Int)=some r∧(r.2=0→∃ l,b.drop n=ZV l∧(∀ r∈l,vaJ r)∧r=(acc++l,0))∧0≤r.2∧(r.2≠0→r.1=[])
 |0,n,acc,hn,_,hk=>by omega
 |k+1,n,acc,hn,ha,hk=>by
  by_cases h:n<b.length
  · obtain⟨r1,e1,i1,p1⟩:=one_inv hb hn
    by_cases z1:r1.2.2=0
    · obtain⟨x,post,hd,ok,rfl⟩:=i1 z1;have hl:=vcg hn hd;have h2:=rawB_pos x;obtain⟨r2,e2,i2,p2⟩:=get_l_inv hb k (n+(vby x).length) (acc++[x]) (by omega) (by rw[qj,ub]; omega) (by omega);refine⟨r2,by rw[Zk.l12,if_pos (by omega),e1,qk,if_pos rfl,ZU (by omega),qk]; exact e2,?_,p2⟩
      intro hz
      obtain⟨l,hd2,hok,rfl⟩:=i2 hz;refine⟨x::l,?_,?_,by rw[qA]; rfl⟩
      · rw[Zo,hd,← hd2,vaQ hd]
      intro s hs
      rcases q9.1 hs with rfl|hs
      · exact ok
      exact hok s hs
    refine⟨_,by rw[Zk.l12,if_pos (by omega),e1,qk,if_neg z1],fun h=>absurd h z1,p1,fun _=>rfl⟩
  refine⟨_,by rw[Zk.l12,if_neg (by omega)],fun _=>⟨[],?_,(fun r hr=>by cases hr),by rw[qD]⟩,Int.le_refl 0,fun h=>absurd rfl h⟩
  rw[List.drop_eq_nil_of_le (by omega)]; rfl
theorem get_rounds : 4097≤xz:=by decide
theorem vcF (b:List UInt8):∃ r,Zk b=some r∧(r.2=0→b=ZV r.1∧b.length≤4096∧∀ x∈r.1,vaJ x)∧0≤r.2∧(r.2≠0→r.1=[]):=by
 by_cases hb:b.length≤4096
 · obtain⟨r,e,i,p,q⟩:=get_l_inv hb xz 0 [] (qU _) (qx _) (by have:=get_rounds; omega);refine⟨r,by rw[Zk,if_neg (by omega)]; exact e,?_,p,q⟩
   intro hz
   obtain⟨l,hd,ok,rfl⟩:=i hz;exact⟨hd,hb,ok⟩
 refine⟨_,by rw[Zk,if_pos (by omega)],fun h=>absurd h (by decide),by decide,fun _=>rfl⟩
end
end Go.Proofs.YtaahlckibpiphaaGreatDoor
