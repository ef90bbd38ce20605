/- Parts of the proof, cut down to what it needs. -/
import Derived.Test.YtaahlckibpiphaaGreatDoorVFB
import Derived.Test.YtaahlckibpiphaaGreatDoorVFBa
set_option linter.constructorNameAsVariable false
set_option linter.unusedSimpArgs false
set_option linter.unusedVariables false
namespace Go.Proofs.YtaahlckibpiphaaGreatDoor
open _root_.List renaming length → qa, flatMap → qb, length_cons → qk, length_nil → qp, map_nil → qq, length_append → qt, drop_zero → qw, getD_eq_getElem?_getD → qx, map_cons → qy, mem_cons_of_mem → qB, nil_append → qC, map_append → qE, mem_cons_self → qG, length_eq_zero_iff → qH, cons_append → qK, range_zero → qL, replicate → qN, append_assoc → qP, all_cons → qQ, getElem?_append_left → qR, append_nil → qT, range_succ → qV, all_nil → qW, getElem?_eq_getElem → qY, length_singleton → qZ, eq_nil_of_length_eq_zero → q1, flatMap_cons → ua, mem_cons → uc, length_map → ud, getElem?_set_ne → ue, take_length → uh, getElem?_append_right → uj, all_eq_true → uk, flatMap_append → um, flatMap_nil → uo, getElem?_set_self → uu, take_append_drop → uz, getElem?_eq_none → uA, mem_map → uB, take_succ_cons → uC, drop_succ_cons → uD, range → uG, getElem?_cons_zero → uH, mem_append_left → uL, take_zero → uO, set_cons_zero → uP, set_cons_succ → uQ, mem_append_right → uR, length_drop → uT, drop_eq_getElem_cons → uU, length_take → u0, mem_append → u4, drop_drop → u7
open _root_.Option renaming bind_some → qh
open _root_.Nat renaming reduceEqDiff → qc, reduceLT → qd, reduceAdd → qe, reduceLeDiff → qg, reduceMul → qj, zero_add → ql, lt_succ_self → qo, reduceSub → qr, le_refl → qA, add_zero → qF, reduceMod → q5, mul_le_mul_right → uf, lt_of_lt_of_le → un, zero_mul → uq, le_trans → uv, zero_le → ux, sub_zero → uK, sub_self → uV, add_mul → u6
open _root_.Bool renaming not_false → qn, and_eq_true → qs, not_true → qu, or_true → qv, and_false → qz, and_self → qD, and_true → qI, or_false → qM, or_eq_true → qS, false_eq_true → qU, true_and → qX, false_and → ub, true_or → ug, false_or → ur, not_eq_true' → uZ
open _root_.Int renaming toNat → q2, toNat_natCast → uw
open _root_.BitVec renaming ofInt → q3, toNat → uX

open Result renaming andThen_ok → qi
open Sem renaming run_bind → qm, run_pure → qJ
open _root_.Go.Proofs.Tryz renaming prog → qf
section
set_option maxRecDepth 4000
set_option maxHeartbeats 1000000
open AM
def Y7 (a0:List Int):Option (List Int):=
 (vao (qa a0) 8).bind fun _u2=>some a0
theorem Y7.own {a0 r}(h:Y7 a0=some r):ACalls qf 34 [.ds true (qb ZC a0) (qa a0) false] [] (fun r' σ'=>r'=.os true 1 0 0 0 (qa r) false∧σ'=[.cells 0 (qb ZC r)]):=by
 refine ACalls.own0 (by simp only[push_cast]) ?_;refine XT (rs:=[.tmp 2]) U Tryz.func34 rfl Tryz.ntmps34 rfl Tryz.call34 (by simp) ?_;refine zu [(0,.ds true (qb ZC a0) (qa a0) false)] ⟨rfl,trivial⟩ ?_;unfold Y7 at h;refine O [0] ?_
 have f1:=fun nl tt σ=>Ze E26.len a0 nl tt σ
 obtain⟨_u2,hu2,h⟩:=bind_some h;have gu2:=yR hu2
 refine rg U [2] fun K J=>?_
 simp only[go_sem,qd,qc,reduceCtorEq,yG,yf,yJ,true_and,f1,gu2,Xd,qC,qp,ql];apply J
 refine yX (L:=[(2,.os true 1 0 0 0 (qa a0) false)]) (τ:=[.cells 0 (qb ZC a0)]) .s ?_;apply yE;cases h;simp only[Yk,xg,xw,wu,exists_eq_left',go_sem];refine⟨0,0,by simp,?_,?_⟩
 · first|rfl|(simp only[go_sem,qd,qg,qc,qe,qj,qr,reduceIte,reduceCtorEq,push_cast,if_true,qw,ql,qy,qq,qE,qv,qM,qI,qz,qu,qn,zL]<;>rfl)
 first|rfl|(simp only[go_sem,push_cast,qq,zL]<;>rfl)
theorem Y7.ok {a0 r}(h:Y7 a0=some r):ACalls qf 34 [.ds true (qb ZC a0) (qa a0) false] [] (fun r' _=>r'=.ds true (qb ZC r) (qa r) false):=
 (Y7.own h).ownData (zU E26.len r) (by simp only[push_cast])
def xd.l19 (a0:zm)(l4:List zz):List zT→Int→List zT→Option zm
 |[],x15,l13=>some (⟨a0.fName,l4,l13,a0.fMethods⟩:zm)
 |y19::q19,x15,l13=>(vao (qa y19.fValues) 24).bind fun _u28=>(vao (qa l13+1) 40).bind fun _u29=>((xd.l19 a0 l4 q19) (x15+1) (l13++[(⟨y19.fName,y19.fValues⟩:zT)]))
def xd.l10 (a0:zm):List zz→Int→List zz→Option zm
 |[],x6,l4=>(xd.l19 a0 l4 a0.fEnums 0 ([]:List zT))
 |y10::q10,x6,l4=>(vao (qa y10.fFields) 56).bind fun _u36=>(Y7 y10.fReserved).bind fun r37=>(vao (qa l4+1) 64).bind fun _u38=>((xd.l10 a0 q10) (x6+1) (l4++[(⟨y10.fName,y10.fFields,r37⟩:zz)]))
def xd (a0:zm):Option zm:=
 (vao (qa a0.fMethods) 48).bind fun _u2=>(xd.l10 a0 a0.fMessages 0 ([]:List zz))
theorem xd.ok {a0 r}(h:xd a0=some r):ACalls qf 29 [.agg (zd a0)] [] (fun r' _=>r'=.agg (zd r)):=by
 refine zk (rs:=[.cell 2 31]) U Tryz.func29 rfl Tryz.ntmps29 rfl Tryz.call29 (by simp) ?_;refine zu [(0,.agg (zd a0))] ⟨rfl,trivial⟩ ?_;unfold xd at h;refine rgW [1,2] @zd.eq_1 ?_
 have f1:=fun nl tt σ=>Ze E29.len a0.fMethods nl tt σ
 obtain⟨_u2,hu2,h⟩:=bind_some h;have gu2:=yR hu2
 refine rd [1,2,3] fun K J=>?_
 refine DW.start (T:=tab) [.any,.own 2 [],.any,.at [],.eff,.any,.flt,.eff] [(2,[])] ?_;refine DW.runN U 8 ?_;simp only[go_sem,qd,qg,qc,qe,yG,yf,yJ,true_and,zd,f1,gu2,Xd,qW,qQ,AV.one,qD,qC,qk,qp,ql,qK];refine DW.fin U (by decide +kernel) rfl ?_;simp only[zq,upd,qc,reduceIte,yD,xj];apply J
 refine wV 3 1 3 rfl (by simp) rfl (L:=[(1,.op 0 0 0),(2,.op 1 0 0),(3,.op 3 0 0)]) (τ:=[.cells 0 (zd a0),.cells 0 [.str [],.ds true [] 0 true,.ds true [] 0 true,.ds true [] 0 true],.cells 0 (qb zv a0.fMethods),.cells 0 [.str a0.fName,.os true 3 4 0 0 (qa ([]:List zz)) false,.ds true [] 0 true,.os true 3 2 0 0 (qa a0.fMethods) false],.cells 0 (qb ze ([]:List zz))]) .s ?_;refine wV 3 2 2 rfl (by simp) rfl (L:=[(1,.op 0 0 0),(2,.op 1 0 0),(3,.op 3 0 0)]) (τ:=[.cells 0 (zd a0),.cells 0 [.str [],.ds true [] 0 true,.ds true [] 0 true,.ds true [] 0 true],.cells 0 (qb zv a0.fMethods),.cells 0 [.str a0.fName,.os true 3 4 0 0 (qa ([]:List zz)) false,.os true 2 5 0 0 (qa ([]:List zT)) false,.os true 3 2 0 0 (qa a0.fMethods) false],.cells 0 (qb ze ([]:List zz)),.cells 0 (qb zh ([]:List zT))]) .s ?_;refine yX (L:=[(1,.op 0 0 0),(2,.op 1 0 0),(3,.op 3 0 0)]) (τ:=[.cells 0 (zd a0),.cells 0 [.str [],.ds true [] 0 true,.ds true [] 0 true,.ds true [] 0 true],.cells 0 (qb zv a0.fMethods),.cells 0 [.str a0.fName,.os true 3 4 0 0 (qa ([]:List zz)) false,.os true 2 5 0 0 (qa ([]:List zT)) false,.os true 3 2 0 0 (qa a0.fMethods) false],.cells 0 (qb ze ([]:List zz)),.cells 0 (qb zh ([]:List zT))]) .s ?_
 refine za fun Z3 hZ3=>?_
 refine O [1,2,3,4] ?_;apply zj
 refine xT 0 rfl fun hb10=>?_
 replace hb10:qa a0.fMessages≤9223372036854775807:=hb10.2.1.1;refine zG (fun m L τ=>∃ (p10 q10:List zz) (x6:Int) (l4:List zz) (v5:Nat),m=qa q10∧L=[(1,.op 0 0 0),(2,.op 1 0 0),(3,.op 3 0 0),(4,.int .i64 x6)]∧τ=([.cells 0 (zd a0),.cells 0 [.str [],.ds true [] 0 true,.ds true [] 0 true,.ds true [] 0 true],.cells 0 (qb zv a0.fMethods),.cells 0 [.str a0.fName,.os true 3 4 v5 0 (qa l4) false,.os true 2 5 0 0 (qa ([]:List zT)) false,.os true 3 2 0 0 (qa a0.fMethods) false],.cells v5 (qb ze l4),.cells 0 (qb zh ([]:List zT))]:zf)∧a0.fMessages=p10++q10∧x6=(qa p10:Int)∧xd.l10 a0 q10 x6 l4=some r) _ ⟨[],a0.fMessages,0,([]:List zz),0,rfl,rfl,rfl,rfl,rfl,h⟩ .s ?_;rintro m L τ ⟨p10,q10,x6,l4,v5,rfl,rfl,rfl,hE10,hi10,h⟩
 rcases q10 with _|⟨y10,q10⟩
 · have hz10:=yH hE10 hi10;simp only[xd.l10] at h
   refine za fun Z11 hZ11=>?_
   refine rgW [1,2,3,4,17] hz10 ?_;refine zD rfl ?_;apply zJ;apply hZ3
   refine za fun Z12 hZ12=>?_
   refine O [1,2,3,6] ?_;apply zj
   refine xT 0 rfl fun hb19=>?_
   replace hb19:qa a0.fEnums≤9223372036854775807:=hb19.2.2.1.1;refine zG (fun m L τ=>∃ (p19 q19:List zT) (x15:Int) (l13:List zT) (v14:Nat),m=qa q19∧L=[(1,.op 0 0 0),(2,.op 1 0 0),(3,.op 3 0 0),(6,.int .i64 x15)]∧τ=([.cells 0 (zd a0),.cells 0 [.str [],.ds true [] 0 true,.ds true [] 0 true,.ds true [] 0 true],.cells 0 (qb zv a0.fMethods),.cells 0 [.str a0.fName,.os true 3 4 v5 0 (qa l4) false,.os true 2 5 v14 0 (qa l13) false,.os true 3 2 0 0 (qa a0.fMethods) false],.cells v5 (qb ze l4),.cells v14 (qb zh l13)]:zf)∧a0.fEnums=p19++q19∧x15=(qa p19:Int)∧xd.l19 a0 l4 q19 x15 l13=some r) _ ⟨[],a0.fEnums,0,([]:List zT),0,rfl,rfl,rfl,rfl,rfl,h⟩ .s ?_;rintro m L τ ⟨p19,q19,x15,l13,v14,rfl,rfl,rfl,hE19,hi19,h⟩
   rcases q19 with _|⟨y19,q19⟩
   · have hz19:=yH hE19 hi19;simp only[xd.l19] at h
     refine za fun Z20 hZ20=>?_
     refine rgW [1,2,3,6,43] hz19 ?_;refine zD rfl ?_;apply zJ;apply hZ12;refine O [2] ?_;cases h;exact rtA
   obtain⟨hz19,hw19,hx19,hE'19,hi'19⟩:=yo hE19 hi19 hb19;simp only[xd.l19] at h
   refine za fun Z21 hZ21=>?_
   refine rgW [1,2,3,6,43] hz19 ?_;refine zE rfl ?_;apply zg;apply hZ21
   refine za fun Z22 hZ22=>?_
   apply zj;have f23:=E28.idxS hx19;have f24:=E28.fldS0 (f:=9) rfl rfl hx19;have f25:=E28.idxS hx19;have f26:=E28.fldS (f:=140) rfl rfl hx19 (o:=1) (by decide)
   have f27:=fun nl tt σ=>Ze E140.len y19.fValues nl tt σ
   obtain⟨_u28,hu28,h⟩:=bind_some h;have gu28:=yR hu28;obtain⟨_u29,hu29,h⟩:=bind_some h;have gu29:=yR hu29;have f30:=(zU E28.len l13)
   refine rdE [1,2,3,6] fun K J=>?_
   refine DW.start (T:=tab) [.any,.own 2 [],.any,.own 1 [],.any,.any,.any,.own 1 [],.any,.at [],.any,.any,.any,.at [],.eff,.any,.eff,.eff,.any,.eff] [(2,[]),(1,[])] ?_;refine DW.runN U 8 ?_;simp only[go_sem,qd,qc,qe,zh,zd,f23,f24,qk,qp,ql];refine DW.runN U 8 ?_;simp only[go_sem,qd,qg,qc,qe,yG,yf,yJ,true_and,zh,f23,f26,f27,gu28,Xd,qW,qQ,AV.one,qD,qC,qk,qp,ql,qK];refine DW.runN U 4 ?_;simp only[go_sem,qd,qg,qc,qe,qj,zM,yz,qV,qL,true_and,q5,yG,yf,yJ,gu29,f30,qW,qQ,AV.one,qD,qC,qk,qp,ql,qK,yZ];refine DW.fin U (by decide +kernel) rfl ?_;simp only[zq,upd,qc,reduceIte,yD,xj];apply J
   apply hZ22
   refine rgE U [1,2,3,6] fun K J=>?_
   simp only[go_sem,qd,qc,hw19];apply J
   exact⟨_,_,_,qo q19.length,⟨p19++[y19],q19,x15+1,l13++[(⟨y19.fName,y19.fValues⟩:zT)],v14+1,rfl,rfl,rfl,hE'19,hi'19,h⟩,(.t [0,1,2,3,4,5] false)⟩
 obtain⟨hz10,hw10,hx10,hE'10,hi'10⟩:=yo hE10 hi10 hb10;simp only[xd.l10] at h
 refine za fun Z31 hZ31=>?_
 refine rgW [1,2,3,4,17] hz10 ?_;refine zE rfl ?_;apply zg;apply hZ31
 refine za fun Z32 hZ32=>?_
 apply zj;have f33:=E27.idxS hx10;have f34:=E27.loadS rfl rfl hx10;refine rgW [1,2,3,4,5] (aI @ze.eq_1 (aI f33 f34)) ?_
 have f35:=fun nl tt σ=>Ze E127.len y10.fFields nl tt σ
 obtain⟨_u36,hu36,h⟩:=bind_some h;have gu36:=yR hu36;obtain⟨r37,hr37,h⟩:=bind_some h;obtain⟨_u38,hu38,h⟩:=bind_some h;have gu38:=yR hu38;have f39:=(zU E27.len l4)
 refine rdE [1,2,3,4] fun K J=>?_
 refine DW.start (T:=tab) [.any,.own 3 [],.any,.own 2 [],.any,.at [],.eff,.any,.own 1 [],.eff,.any,.eff,.eff,.any,.eff] [(3,[]),(2,[]),(1,[])] ?_;refine DW.runN U 8 ?_;simp only[go_sem,qd,qg,qc,qe,yG,yf,yJ,true_and,zd,f35,gu36,Xd,uo,qC,qk,qp,ql,qK];refine DW.runN U 1 ?_;simp only[go_sem,qd,qc,qe,qk,qp,ql];refine DW.call rfl rfl rfl ((Y7.ok hr37).c _) ?_;refine DW.runN U 5 ?_;simp only[go_sem,qd,qg,qc,qe,qj,zM,yz,qV,qL,true_and,q5,yG,yf,yJ,gu38,f39,qW,qQ,AV.one,qD,qC,qk,qp,ql,qK,yZ];refine DW.fin U (by decide +kernel) rfl ?_;simp only[zq,upd,qc,reduceIte,yD,xj];apply J
 apply hZ32
 refine rgE U [1,2,3,4] fun K J=>?_
 simp only[go_sem,qd,qc,hw10];apply J
 exact⟨_,_,_,qo q10.length,⟨p10++[y10],q10,x6+1,l4++[(⟨y10.fName,y10.fFields,r37⟩:zz)],v5+1,rfl,rfl,rfl,hE'10,hi'10,h⟩,(.t [0,1,2,3,4,5] false)⟩
def vai (a0:zi):Bool:=
 ((((((decide (1≤a0.fKind))&&(decide (a0.fKind≤3)))&&(decide (a0.fN=0)))&&(decide (a0.fS=[])))&&(decide ((qa a0.fEntries:Int)=0)))&&(decide ((qa a0.fRest:Int)=0)))
theorem vai.ok {a0 r}(h:vai a0=r):ACalls qf 114 [.agg (zb a0)] [] (fun r' _=>r'=.bool r):=by
 refine zk (rs:=[.tmp 2]) U Tryz.func114 rfl Tryz.ntmps114 rfl Tryz.call114 (by simp) ?_;refine zu [(0,.agg (zb a0))] ⟨rfl,trivial⟩ ?_;unfold vai at h;refine rgW [1] @zb.eq_1 ?_
 refine rc [2] fun K J=>?_
 refine κ 4 ?_;refine cut 4 6 10 [1] ((decide (1≤a0.fKind))&&(decide (a0.fKind≤3))) qF rfl ?_;refine κ 1 ?_;refine cut (b:=((decide (1≤a0.fKind))&&(decide (a0.fKind≤3)))) (hb:=boolP_eq _) 4 11 15 [1] (((decide (1≤a0.fKind))&&(decide (a0.fKind≤3)))&&(decide (a0.fN=0))) qF rfl ?_;refine κ 1 ?_;refine cut (b:=(((decide (1≤a0.fKind))&&(decide (a0.fKind≤3)))&&(decide (a0.fN=0)))) (hb:=boolP_eq _) 4 16 20 [1] ((((decide (1≤a0.fKind))&&(decide (a0.fKind≤3)))&&(decide (a0.fN=0)))&&(decide (a0.fS=[]))) qF rfl ?_;refine κ 1 ?_;refine cut (b:=((((decide (1≤a0.fKind))&&(decide (a0.fKind≤3)))&&(decide (a0.fN=0)))&&(decide (a0.fS=[])))) (hb:=boolP_eq _) 5 21 26 [1] (((((decide (1≤a0.fKind))&&(decide (a0.fKind≤3)))&&(decide (a0.fN=0)))&&(decide (a0.fS=[])))&&(decide ((qa a0.fEntries:Int)=0))) qF rfl ?_;refine κ 1 ?_;refine cut (b:=(((((decide (1≤a0.fKind))&&(decide (a0.fKind≤3)))&&(decide (a0.fN=0)))&&(decide (a0.fS=[])))&&(decide ((qa a0.fEntries:Int)=0)))) (hb:=boolP_eq _) 5 27 32 [] ((((((decide (1≤a0.fKind))&&(decide (a0.fKind≤3)))&&(decide (a0.fN=0)))&&(decide (a0.fS=[])))&&(decide ((qa a0.fEntries:Int)=0)))&&(decide ((qa a0.fRest:Int)=0))) qF rfl ?_;refine κ 1 ?_;refine nkN J ?_;cases h;exact rtA
def Y6 (a0:List xF):Option (List xF):=
 (vao (qa a0) 40).bind fun _u2=>some a0
theorem Y6.own {a0 r}(h:Y6 a0=some r):ACalls qf 73 [.ds true (qb zA a0) (qa a0) false] [] (fun r' σ'=>r'=.os true 4 0 0 0 (qa r) false∧σ'=[.cells 0 (qb zA r)]):=by
 refine ACalls.own0 (by simp only[push_cast]) ?_;refine XT (rs:=[.tmp 2]) U Tryz.func73 rfl Tryz.ntmps73 rfl Tryz.call73 (by simp) ?_;refine zu [(0,.ds true (qb zA a0) (qa a0) false)] ⟨rfl,trivial⟩ ?_;unfold Y6 at h;refine O [0] ?_
 have f1:=fun nl tt σ=>Ze E35.len a0 nl tt σ
 obtain⟨_u2,hu2,h⟩:=bind_some h;have gu2:=yR hu2
 refine rg U [2] fun K J=>?_
 simp only[go_sem,qd,qc,reduceCtorEq,yG,yf,yJ,true_and,f1,gu2,Xd,qC,qp,ql];apply J
 refine yX (L:=[(2,.os true 4 0 0 0 (qa a0) false)]) (τ:=[.cells 0 (qb zA a0)]) .s ?_;apply yE;cases h;simp only[Yk,xg,xw,wu,exists_eq_left',go_sem];refine⟨0,0,by simp,?_,?_⟩
 · first|rfl|(simp only[go_sem,qd,qg,qc,qe,qj,qr,reduceIte,reduceCtorEq,push_cast,if_true,qw,ql,qy,qq,qE,qv,qM,qI,qz,qu,qn,zL,zA]<;>rfl)
 first|rfl|(simp only[go_sem,push_cast,qq,zL]<;>rfl)
theorem Y6.ok {a0 r}(h:Y6 a0=some r):ACalls qf 73 [.ds true (qb zA a0) (qa a0) false] [] (fun r' _=>r'=.ds true (qb zA r) (qa r) false):=
 (Y6.own h).ownData (zU E35.len r) (by simp only[push_cast])
def yI.l22 (wj:zi→Option zi)(x5:Int)(l3:List zp)(rec9:Int→List zp→Option zi)(y9:zp):List zi→Int→List zi→Option zi
 |[],x18,l16=>(vao (qa l3+1) 32).bind fun _u26=>(rec9 (x5+1) (l3++[(⟨y9.fTag,l16⟩:zp)]))
 |y22::q22,x18,l16=>(wj y22).bind fun r36=>(vao (qa l16+1) 80).bind fun _u37=>((yI.l22 wj x5 l3 rec9 y9 q22) (x18+1) (l16++[r36]))
def yI.l9 (wj:zi→Option zi)(a0:zi)(r1:List xF):List zp→Int→List zp→Option zi
 |[],x5,l3=>some (⟨a0.fKind,a0.fN,a0.fS,l3,r1⟩:zi)
 |y9::q9,x5,l3=>(yI.l22 wj x5 l3 (yI.l9 wj a0 r1 q9) y9 y9.fTrees 0 ([]:List zi))
def yI.body (wj:zi→Option zi)(a0:zi):Option zi:=
 (Y6 a0.fRest).bind fun r1=>(yI.l9 wj a0 r1 a0.fEntries 0 ([]:List zp))
theorem yI.step (wj:zi→Option zi)(ih_law00_Tree:∀ (a0:zi) (r:zi),wj a0=some r→ACalls qf 31 [.agg (zb a0)] [] (fun r' _=>r'=.agg (zb r)))(a0:zi)(r:zi)(h:yI.body wj a0=some r):ACalls qf 31 [.agg (zb a0)] [] (fun r' _=>r'=.agg (zb r)):=by
 have ev_law00_Tree:=fun a0 r h σ=>(ih_law00_Tree a0 r h).c σ
 refine zk (rs:=[.cell 2 37]) U Tryz.func31 rfl Tryz.ntmps31 rfl Tryz.call31 (by simp) ?_;refine zu [(0,.agg (zb a0))] ⟨rfl,trivial⟩ ?_;unfold yI.body at h;refine rgW [1,2] @zb.eq_1 ?_;obtain⟨r1,hr1,h⟩:=bind_some h
 refine rd [1,2,3] fun K J=>?_
 refine DW.start (T:=tab) [.any,.own 2 [],.any,.own 2 [],.any,.own 2 [],.any,.at [],.eff,.any,.flt,.eff] [(2,[])] ?_;refine DW.runN U 8 ?_;simp only[go_sem,qd,qc,qe,zb];refine DW.call rfl rfl rfl ((Y6.ok hr1).c _) ?_;refine DW.runN U 3 ?_;simp only[go_sem,qd,qg,qc,qe];refine DW.fin U (by decide +kernel) rfl ?_;simp only[zq,upd,qc,reduceIte,yD,xj];apply J
 refine wV 2 3 2 rfl (by simp) rfl (L:=[(1,.op 0 0 0),(2,.op 1 0 0),(3,.op 2 0 0)]) (τ:=[.cells 0 (zb a0),.cells 0 [.int .i64 0,.int .i64 0,.str [],.ds true [] 0 true,.ds true [] 0 true],.cells 0 [.int .i64 a0.fKind,.int .i64 a0.fN,.str a0.fS,.os true 2 3 0 0 (qa ([]:List zp)) false,.ds true (qb zA r1) (qa r1) false],.cells 0 (qb zx ([]:List zp))]) .s ?_
 refine za fun Z2 hZ2=>?_
 refine O [1,2,3,4] ?_;apply zj
 refine xT 0 rfl fun hb9=>?_
 replace hb9:qa a0.fEntries≤9223372036854775807:=hb9.2.2.2.1.1;refine zG (fun m L τ=>∃ (p9 q9:List zp) (x5:Int) (l3:List zp) (v4:Nat),m=qa q9∧L=[(1,.op 0 0 0),(2,.op 1 0 0),(3,.op 2 0 0),(4,.int .i64 x5)]∧τ=([.cells 0 (zb a0),.cells 0 [.int .i64 0,.int .i64 0,.str [],.ds true [] 0 true,.ds true [] 0 true],.cells 0 [.int .i64 a0.fKind,.int .i64 a0.fN,.str a0.fS,.os true 2 3 v4 0 (qa l3) false,.ds true (qb zA r1) (qa r1) false],.cells v4 (qb zx l3)]:zf)∧a0.fEntries=p9++q9∧x5=(qa p9:Int)∧yI.l9 wj a0 r1 q9 x5 l3=some r) _ ⟨[],a0.fEntries,0,([]:List zp),0,rfl,rfl,rfl,rfl,rfl,h⟩ .s ?_;rintro m L τ ⟨p9,q9,x5,l3,v4,rfl,rfl,rfl,hE9,hi9,h⟩
 rcases q9 with _|⟨y9,q9⟩
 · have hz9:=yH hE9 hi9;simp only[yI.l9] at h
   refine za fun Z10 hZ10=>?_
   refine rgW [1,2,3,4,21] hz9 ?_;refine zD rfl ?_;apply zJ;apply hZ2;refine O [2] ?_;cases h;exact rtA
 obtain⟨hz9,hw9,hx9,hE'9,hi'9⟩:=yo hE9 hi9 hb9;simp only[yI.l9] at h
 refine za fun Z11 hZ11=>?_
 refine rgW [1,2,3,4,21] hz9 ?_;refine zE rfl ?_;apply zg;apply hZ11
 refine za fun Z12 hZ12=>?_
 apply zj;have f13:=E34.idxS hx9;have f14:=E34.fldS0 (f:=3) rfl rfl hx9;refine rgW [1,2,3,4,5] (aI @zK.eq_1 (aI @yh (aI f13 f14))) ?_;refine wV 4 1 5 rfl (by simp) rfl (L:=[(1,.op 0 0 0),(2,.op 1 0 0),(3,.op 2 0 0),(4,.int .i64 x5),(5,.op 4 0 0)]) (τ:=[.cells 0 (zb a0),.cells 0 [.int .i64 0,.int .i64 0,.str [],.ds true [] 0 true,.ds true [] 0 true],.cells 0 [.int .i64 a0.fKind,.int .i64 a0.fN,.str a0.fS,.os true 2 3 v4 0 (qa l3) false,.ds true (qb zA r1) (qa r1) false],.cells v4 (qb zx l3),.cells 0 [.int .i64 y9.fTag,.os true 5 5 0 0 (qa ([]:List zi)) false],.cells 0 (qb ya ([]:List zi))]) .s ?_
 refine za fun Z15 hZ15=>?_
 refine O [1,2,3,4,5,6] ?_;apply zj
 refine xT 0 rfl fun hb22=>?_
 replace hb22:=vbJ hb22.2.2.2.1.2 hx9;rw[yh] at hb22;replace hb22:qa y9.fTrees≤9223372036854775807:=hb22.2.1.1;refine zG (fun m L τ=>∃ (p22 q22:List zi) (x18:Int) (l16:List zi) (v17:Nat),m=qa q22∧L=[(1,.op 0 0 0),(2,.op 1 0 0),(3,.op 2 0 0),(4,.int .i64 x5),(5,.op 4 0 0),(6,.int .i64 x18)]∧τ=([.cells 0 (zb a0),.cells 0 [.int .i64 0,.int .i64 0,.str [],.ds true [] 0 true,.ds true [] 0 true],.cells 0 [.int .i64 a0.fKind,.int .i64 a0.fN,.str a0.fS,.os true 2 3 v4 0 (qa l3) false,.ds true (qb zA r1) (qa r1) false],.cells v4 (qb zx l3),.cells 0 [.int .i64 y9.fTag,.os true 5 5 v17 0 (qa l16) false],.cells v17 (qb ya l16)]:zf)∧y9.fTrees=p22++q22∧x18=(qa p22:Int)∧yI.l22 wj x5 l3 (yI.l9 wj a0 r1 q9) y9 q22 x18 l16=some r) _ ⟨[],y9.fTrees,0,([]:List zi),0,rfl,rfl,rfl,rfl,rfl,h⟩ .s ?_;rintro m L τ ⟨p22,q22,x18,l16,v17,rfl,rfl,rfl,hE22,hi22,h⟩
 rcases q22 with _|⟨y22,q22⟩
 · have hz22:=yH hE22 hi22;simp only[yI.l22] at h
   refine za fun Z23 hZ23=>?_
   have f24:=E34.idxS hx9;have f25:=E34.fldS (f:=38) rfl rfl hx9 (o:=1) (by decide);refine rgW [1,2,3,4,5,6,39] (aI @zK.eq_1 (aI @yh (aI hz22 (aI f24 f25)))) ?_;refine zD rfl ?_;apply zJ;apply hZ15;obtain⟨_u26,hu26,h⟩:=bind_some h;have gu26:=yR hu26;have f27:=(zU E34.len l3)
   refine rgE U [1,2,3,4] fun K J=>?_
   simp only[go_sem,qd,qg,qc,qe,qj,zM,yz,qV,qL,true_and,q5,yG,yf,yJ,gu26,f27,yZ,qW,qQ,AV.one,qD,qC,qk,qp,ql,qK];apply J
   apply hZ12
   refine rgE U [1,2,3,4] fun K J=>?_
   simp only[go_sem,qd,qc,hw9];apply J
   exact⟨_,_,_,qo q9.length,⟨p9++[y9],q9,x5+1,l3++[(⟨y9.fTag,l16⟩:zp)],v4+1,rfl,rfl,rfl,hE'9,hi'9,h⟩,(.t [0,1,2,3] false)⟩
 obtain⟨hz22,hw22,hx22,hE'22,hi'22⟩:=yo hE22 hi22 hb22;simp only[yI.l22] at h
 refine za fun Z28 hZ28=>?_
 have f29:=E34.idxS hx9;have f30:=E34.fldS (f:=38) rfl rfl hx9 (o:=1) (by decide);refine rgW [1,2,3,4,5,6,39] (aI @zK.eq_1 (aI @yh (aI hz22 (aI f29 f30)))) ?_;refine zE rfl ?_;apply zg;apply hZ28
 refine za fun Z31 hZ31=>?_
 apply zj;have f32:=E34.idxS hx9;have f33:=E34.fldS (f:=38) rfl rfl hx9 (o:=1) (by decide);have f34:=E38.idxS hx22;have f35:=E38.loadS rfl rfl hx22;obtain⟨r36,hr36,h⟩:=bind_some h;obtain⟨_u37,hu37,h⟩:=bind_some h;have gu37:=yR hu37;have f38:=(zU E38.len l16)
 refine rdE [1,2,3,4,5,6] fun K J=>?_
 refine DW.start (T:=tab) [.any,.own 2 [],.any,.at [],.any,.any,.any,.at [],.any,.any,.at [],.eff,.eff,.eff,.any,.eff] [(2,[])] ?_;refine DW.runN U 8 ?_;simp only[go_sem,qd,qc,qe,zK,zb,yh,f32,f33,qk,qp,ql];refine DW.runN U 3 ?_;simp only[go_sem,qd,qc,zb,yC,f34,f35];refine DW.call rfl rfl rfl (ev_law00_Tree y22 r36 hr36 _) ?_;refine DW.runN U 4 ?_;simp only[go_sem,qd,qg,qc,qe,qj,zM,yz,qV,qL,true_and,q5,yG,yf,yJ,zb,gu37,f38,yZ,qW,qQ,AV.one,qD,qC,qk,qp,ql,qK];refine DW.fin U (by decide +kernel) rfl ?_;simp only[zq,upd,qc,reduceIte,yD,xj];apply J
 apply hZ31
 refine rgE U [1,2,3,4,5,6] fun K J=>?_
 simp only[go_sem,qd,qc,hw22];apply J
 exact⟨_,_,_,qo q22.length,⟨p22++[y22],q22,x18+1,l16++[r36],v17+1,rfl,rfl,rfl,hE'22,hi'22,h⟩,(.t [0,1,2,3,4,5] false)⟩
def yI : Nat→zi→Option zi
 |0,_=>none
 |k+1,a0=>yI.body (yI k) a0
theorem yI.all (k:Nat):(∀ (a0:zi) (r:zi),yI k a0=some r→ACalls qf 31 [.agg (zb a0)] [] (fun r' _=>r'=.agg (zb r))):=by
 induction k with
 |zero=>exact (fun a0 r h=>by simp only[yI] at h; cases h)
 |succ k ih=>exact (fun a0 r h=>yI.step _ ih a0 r (by simpa only [yI] using h))
theorem yI.ev (k:Nat)(a0:zi)(r:zi)(h:yI k a0=some r)(σ:zf):ACalls qf 31 [.agg (zb a0)] σ (fun r' σ'=>r'=.agg (zb r)∧σ'=σ):=
 ((yI.all k) a0 r h).c σ
def yj.l29 (xr:zi→Int→Int→Option (Bool×Int))(a1:Int)(x12:Int)(rec15:Int→Int→Option (Bool×Int)):List zi→Int→Int→Option (Bool×Int)
 |[],x26,m0_25=>(rec15 (x12+1) m0_25)
 |y29::q29,x26,m0_25=>(xr y29 (IntKind.i64.wrap (a1+1)) m0_25).bind fun r41=>(if (!r41.1)=true then some (false,r41.2) else ((yj.l29 xr a1 x12 rec15 q29) (x26+1) r41.2))
def yj.l15 (xr:zi→Int→Int→Option (Bool×Int))(a1:Int):List zp→Int→Int→Option (Bool×Int)
 |[],x12,m0_11=>some (true,m0_11)
 |y15::q15,x12,m0_11=>(if 70<(qa y15.fTrees:Int) then some (false,m0_11) else (yj.l29 xr a1 x12 (yj.l15 xr a1 q15) y15.fTrees 0 m0_11))
def yj.l8 (xr:zi→Int→Int→Option (Bool×Int))(a0:zi)(a1:Int)(a2:Int):List xF→Int→Option (Bool×Int)
 |[],x6=>(yj.l15 xr a1 a0.fEntries 0 (IntKind.i64.wrap (a2+1)))
 |y8::q8,x6=>(if 5000<(qa y8.fB:Int) then some (false,IntKind.i64.wrap (a2+1)) else ((yj.l8 xr a0 a1 a2 q8) (x6+1)))
def yj.body (xr:zi→Int→Int→Option (Bool×Int))(a0:zi)(a1:Int)(a2:Int):Option (Bool×Int):=
 (if (((((decide (200<IntKind.i64.wrap (a2+1)))||(decide (13<a1)))||(decide (5000<(qa a0.fS:Int))))||(decide (40<(qa a0.fRest:Int))))||(decide (40<(qa a0.fEntries:Int))))=true then some (false,IntKind.i64.wrap (a2+1)) else (yj.l8 xr a0 a1 a2 a0.fRest 0))
theorem yj.step (xr:zi→Int→Int→Option (Bool×Int))(ih_law00_small:∀ (a0:zi) (a1:Int) (a2:Int) (r:Bool×Int),xr a0 a1 a2=some r→ACalls qf 74 [.agg (zb a0),.int .i64 a1,.op 0 0 0] [.cells 0 [.int .i64 a2]] (fun r' σ'=>r'=.bool r.1∧σ'=[.cells 0 [.int .i64 r.2]]))(a0:zi)(a1:Int)(a2:Int)(r:Bool×Int)(h:yj.body xr a0 a1 a2=some r):ACalls qf 74 [.agg (zb a0),.int .i64 a1,.op 0 0 0] [.cells 0 [.int .i64 a2]] (fun r' σ'=>r'=.bool r.1∧σ'=[.cells 0 [.int .i64 r.2]]):=by
 refine ZH [0] (rs:=[.tmp 6]) U Tryz.func74 rfl Tryz.ntmps74 rfl Tryz.call74 (by simp) rfl ?_;refine zu [(0,.agg (zb a0)),(1,.int .i64 a1),(2,.op 0 0 0)] ⟨rfl,rfl,rfl,trivial⟩ ?_;unfold yj.body at h;refine rgW [1,2,3] @zb.eq_1 ?_;refine O [1,2,3] ?_
 refine za fun Z1 hZ1=>?_
 refine rc [1,2,3,40] fun K J=>?_
 refine κ 5 ?_;refine cut 3 19 22 [1,2,3] ((decide (200<IntKind.i64.wrap (a2+1)))||(decide (13<a1))) qF rfl ?_;refine κ 1 ?_;refine cut (b:=((decide (200<IntKind.i64.wrap (a2+1)))||(decide (13<a1)))) (hb:=boolP_eq _) 5 23 28 [1,2,3] (((decide (200<IntKind.i64.wrap (a2+1)))||(decide (13<a1)))||(decide (5000<(qa a0.fS:Int)))) qF rfl ?_;refine κ 1 ?_;refine cut (b:=(((decide (200<IntKind.i64.wrap (a2+1)))||(decide (13<a1)))||(decide (5000<(qa a0.fS:Int))))) (hb:=boolP_eq _) 5 29 34 [1,2,3] ((((decide (200<IntKind.i64.wrap (a2+1)))||(decide (13<a1)))||(decide (5000<(qa a0.fS:Int))))||(decide (40<(qa a0.fRest:Int)))) qF rfl ?_;refine κ 1 ?_;refine cut (b:=((((decide (200<IntKind.i64.wrap (a2+1)))||(decide (13<a1)))||(decide (5000<(qa a0.fS:Int))))||(decide (40<(qa a0.fRest:Int))))) (hb:=boolP_eq _) 5 35 40 [1,2,3] (((((decide (200<IntKind.i64.wrap (a2+1)))||(decide (13<a1)))||(decide (5000<(qa a0.fS:Int))))||(decide (40<(qa a0.fRest:Int))))||(decide (40<(qa a0.fEntries:Int)))) qF rfl ?_;refine nkN J ?_;refine zB (b:=(((((decide (200<IntKind.i64.wrap (a2+1)))||(decide (13<a1)))||(decide (5000<(qa a0.fS:Int))))||(decide (40<(qa a0.fRest:Int))))||(decide (40<(qa a0.fEntries:Int))))) rfl (fun hc4=>?_) (fun hc4=>?_)
 · rw[if_pos hc4] at h;refine O [6] ?_;apply yE;cases h;simp only[Yk,xg,xw,wu,exists_eq_left',go_sem,qe];refine⟨by decide,by simp,?_,?_⟩
   · first|rfl|(simp only[go_sem,qd,qg,qc,qe,qj,qr,reduceIte,reduceCtorEq,push_cast,if_true,qw,ql,qy,qq,qE,qv,qM,qI,qz,qu,qn,zL]<;>rfl)
   first|rfl|(simp only[go_sem,qd,qg,qc,qe,qj,qr,reduceIte,reduceCtorEq,push_cast,if_true,qw,ql,qy,qq,qE,qv,qM,qI,qz,qu,qn,zL]<;>rfl)
 rw[wn hc4] at h;apply zg;apply hZ1
 refine za fun Z5 hZ5=>?_
 refine O [1,2,3,7] ?_;apply zj
 refine xT 1 rfl fun hb8=>?_
 replace hb8:qa a0.fRest≤9223372036854775807:=hb8.2.2.2.2.1.1;refine zG (fun m L τ=>∃ (p8 q8:List xF) (x6:Int),m=qa q8∧L=[(1,.int .i64 a1),(2,.op 0 0 0),(3,.op 1 0 0),(7,.int .i64 x6)]∧τ=([.cells 0 [.int .i64 (IntKind.i64.wrap (a2+1))],.cells 0 (zb a0)]:zf)∧a0.fRest=p8++q8∧x6=(qa p8:Int)∧yj.l8 xr a0 a1 a2 q8 x6=some r) _ ⟨[],a0.fRest,0,rfl,rfl,rfl,rfl,rfl,h⟩ .s ?_;rintro m L τ ⟨p8,q8,x6,rfl,rfl,rfl,hE8,hi8,h⟩
 rcases q8 with _|⟨y8,q8⟩
 · have hz8:=yH hE8 hi8;simp only[yj.l8] at h
   refine za fun Z9 hZ9=>?_
   refine rgW [1,2,3,7,45] hz8 ?_;refine zD rfl ?_;apply zJ;apply hZ5
   refine za fun Z10 hZ10=>?_
   refine O [1,2,3,8] ?_;apply zj
   refine xT 1 rfl fun hb15=>?_
   replace hb15:qa a0.fEntries≤9223372036854775807:=hb15.2.2.2.1.1;refine zG (fun m L τ=>∃ (p15 q15:List zp) (x12:Int) (m0_11:Int),m=qa q15∧L=[(1,.int .i64 a1),(2,.op 0 0 0),(3,.op 1 0 0),(8,.int .i64 x12)]∧τ=([.cells 0 [.int .i64 m0_11],.cells 0 (zb a0)]:zf)∧a0.fEntries=p15++q15∧x12=(qa p15:Int)∧yj.l15 xr a1 q15 x12 m0_11=some r) _ ⟨[],a0.fEntries,0,IntKind.i64.wrap (a2+1),rfl,rfl,rfl,rfl,rfl,h⟩ .s ?_;rintro m L τ ⟨p15,q15,x12,m0_11,rfl,rfl,rfl,hE15,hi15,h⟩
   rcases q15 with _|⟨y15,q15⟩
   · have hz15:=yH hE15 hi15;simp only[yj.l15] at h
     refine za fun Z16 hZ16=>?_
     refine rgW [1,2,3,8,60] hz15 ?_;refine zD rfl ?_;apply zJ;apply hZ10;refine O [6] ?_;apply yE;cases h;simp only[Yk,xg,xw,wu,exists_eq_left',go_sem,qe];refine⟨by decide,by simp,?_,?_⟩
     · first|rfl|(simp only[go_sem,qd,qg,qc,qe,qj,qr,reduceIte,reduceCtorEq,push_cast,if_true,qw,ql,qy,qq,qE,qv,qM,qI,qz,qu,qn,zL]<;>rfl)
     first|rfl|(simp only[go_sem,qd,qg,qc,qe,qj,qr,reduceIte,reduceCtorEq,push_cast,if_true,qw,ql,qy,qq,qE,qv,qM,qI,qz,qu,qn,zL]<;>rfl)
   obtain⟨hz15,hw15,hx15,hE'15,hi'15⟩:=yo hE15 hi15 hb15;simp only[yj.l15] at h
   refine za fun Z17 hZ17=>?_
   refine rgW [1,2,3,8,60] hz15 ?_;refine zE rfl ?_;apply zg;apply hZ17
   refine za fun Z18 hZ18=>?_
   apply zj
   refine za fun Z19 hZ19=>?_
   have f20:=E34.idxS hx15;have f21:=E34.fldS (f:=38) rfl rfl hx15 (o:=1) (by decide);refine rgW [1,2,3,8,70] (aI @zK.eq_1 (aI @yh (aI f20 f21))) ?_;refine zR rfl (fun hc22=>?_) (fun hc22=>?_)
   · rw[if_pos hc22] at h;have t23:=eq_true hc22;refine rgW [6] t23 ?_;apply yE;cases h;simp only[Yk,xg,xw,wu,exists_eq_left',go_sem,qe];refine⟨by decide,by simp,?_,?_⟩
     · first|rfl|(simp only[go_sem,qd,qg,qc,qe,qj,qr,reduceIte,reduceCtorEq,push_cast,if_true,qw,ql,qy,qq,qE,qv,qM,qI,qz,qu,qn,zL]<;>rfl)
     first|rfl|(simp only[go_sem,qd,qg,qc,qe,qj,qr,reduceIte,reduceCtorEq,push_cast,if_true,qw,ql,qy,qq,qE,qv,qM,qI,qz,qu,qn,zL]<;>rfl)
   rw[if_neg hc22] at h;have t24:=eq_false hc22;apply zg;apply hZ19;refine rgW [1,2,3,8,9] t24 ?_;apply zj
   refine xT 1 rfl fun hb29=>?_
   replace hb29:=vbJ hb29.2.2.2.1.2 hx15;rw[yh] at hb29;replace hb29:qa y15.fTrees≤9223372036854775807:=hb29.2.1.1;refine zG (fun m L τ=>∃ (p29 q29:List zi) (x26:Int) (m0_25:Int),m=qa q29∧L=[(1,.int .i64 a1),(2,.op 0 0 0),(3,.op 1 0 0),(8,.int .i64 x12),(9,.int .i64 x26)]∧τ=([.cells 0 [.int .i64 m0_25],.cells 0 (zb a0)]:zf)∧y15.fTrees=p29++q29∧x26=(qa p29:Int)∧yj.l29 xr a1 x12 (yj.l15 xr a1 q15) q29 x26 m0_25=some r) _ ⟨[],y15.fTrees,0,m0_11,rfl,rfl,rfl,rfl,rfl,h⟩ .s ?_;rintro m L τ ⟨p29,q29,x26,m0_25,rfl,rfl,rfl,hE29,hi29,h⟩
   rcases q29 with _|⟨y29,q29⟩
   · have hz29:=yH hE29 hi29;simp only[yj.l29] at h
     refine za fun Z30 hZ30=>?_
     have f31:=E34.idxS hx15;have f32:=E34.fldS (f:=38) rfl rfl hx15 (o:=1) (by decide);refine rgW [1,2,3,8,9,79] (aI @zK.eq_1 (aI @yh (aI hz29 (aI f31 f32)))) ?_;refine zD rfl ?_;apply zJ;apply hZ18
     refine rgE U [1,2,3,8] fun K J=>?_
     simp only[go_sem,qd,qc,hw15];apply J
     exact⟨_,_,_,qo q15.length,⟨p15++[y15],q15,x12+1,m0_25,rfl,rfl,rfl,hE'15,hi'15,h⟩,.s⟩
   obtain⟨hz29,hw29,hx29,hE'29,hi'29⟩:=yo hE29 hi29 hb29;simp only[yj.l29] at h
   refine za fun Z33 hZ33=>?_
   have f34:=E34.idxS hx15;have f35:=E34.fldS (f:=38) rfl rfl hx15 (o:=1) (by decide);refine rgW [1,2,3,8,9,79] (aI @zK.eq_1 (aI @yh (aI hz29 (aI f34 f35)))) ?_;refine zE rfl ?_;apply zg;apply hZ33
   refine za fun Z36 hZ36=>?_
   apply zj
   refine rc [1,2,3,8,9,95] fun K J=>?_
   have f37:=E34.idxS hx15;have f38:=E34.fldS (f:=38) rfl rfl hx15 (o:=1) (by decide);have f39:=E38.idxS hx29;have f40:=E38.loadS rfl rfl hx29;obtain⟨r41,hr41,h⟩:=bind_some h;refine rnW 10 (aI @zK.eq_1 (aI @zb.eq_1 (aI @yh (aI @yC (aI f37 (aI f38 (aI f39 f40))))))) ?_;refine κ 2 ?_;refine clN rfl rfl rfl (@id (ACalls qf 74 [.agg (zb y29),.int .i64 (IntKind.i64.wrap (a1+1)),.op 0 0 0] [.cells 0 [.int .i64 m0_25],.cells 0 (zb a0)] (fun r' σ'=>r'=.bool r41.1∧σ'=[.cells 0 [.int .i64 r41.2],.cells 0 (zb a0)])) ((ih_law00_small y29 (IntKind.i64.wrap (a1+1)) m0_25 r41 hr41).i [0])) ?_;refine κ 1 ?_;refine nkN J ?_;refine zB (b:=(!r41.1)) rfl (fun hc42=>?_) (fun hc42=>?_)
   · rw[if_pos hc42] at h;refine O [6] ?_;apply yE;cases h;simp only[Yk,xg,xw,wu,exists_eq_left',go_sem,qe];refine⟨by decide,by simp,?_,?_⟩
     · first|rfl|(simp only[go_sem,qd,qg,qc,qe,qj,qr,reduceIte,reduceCtorEq,push_cast,if_true,qw,ql,qy,qq,qE,qv,qM,qI,qz,qu,qn,zL]<;>rfl)
     first|rfl|(simp only[go_sem,qd,qg,qc,qe,qj,qr,reduceIte,reduceCtorEq,push_cast,if_true,qw,ql,qy,qq,qE,qv,qM,qI,qz,qu,qn,zL]<;>rfl)
   rw[wn hc42] at h;apply zg;apply hZ36
   refine rgE U [1,2,3,8,9] fun K J=>?_
   simp only[go_sem,qd,qc,hw29];apply J
   exact⟨_,_,_,qo q29.length,⟨p29++[y29],q29,x26+1,r41.2,rfl,rfl,rfl,hE'29,hi'29,h⟩,.s⟩
 obtain⟨hz8,hw8,hx8,hE'8,hi'8⟩:=yo hE8 hi8 hb8;simp only[yj.l8] at h
 refine za fun Z43 hZ43=>?_
 refine rgW [1,2,3,7,45] hz8 ?_;refine zE rfl ?_;apply zg;apply hZ43
 refine za fun Z44 hZ44=>?_
 apply zj;have f45:=E35.idxS hx8;have f46:=E35.fldS (f:=9) rfl rfl hx8 (o:=3) (by decide);refine rgW [1,2,3,7,55] (aI @zA.eq_1 (aI f45 f46)) ?_;refine zR rfl (fun hc47=>?_) (fun hc47=>?_)
 · rw[if_pos hc47] at h;have t48:=eq_true hc47;refine rgW [6] t48 ?_;apply yE;cases h;simp only[Yk,xg,xw,wu,exists_eq_left',go_sem,qe];refine⟨by decide,by simp,?_,?_⟩
   · first|rfl|(simp only[go_sem,qd,qg,qc,qe,qj,qr,reduceIte,reduceCtorEq,push_cast,if_true,qw,ql,qy,qq,qE,qv,qM,qI,qz,qu,qn,zL]<;>rfl)
   first|rfl|(simp only[go_sem,qd,qg,qc,qe,qj,qr,reduceIte,reduceCtorEq,push_cast,if_true,qw,ql,qy,qq,qE,qv,qM,qI,qz,qu,qn,zL]<;>rfl)
 rw[if_neg hc47] at h;have t49:=eq_false hc47;apply zg;apply hZ44
 refine rgE U [1,2,3,7] fun K J=>?_
 simp only[go_sem,qd,qc,hw8,t49];apply J
 exact⟨_,_,_,qo q8.length,⟨p8++[y8],q8,x6+1,rfl,rfl,rfl,hE'8,hi'8,h⟩,.s⟩
def yj : Nat→zi→Int→Int→Option (Bool×Int)
 |0,_,_,_=>none
 |k+1,a0,a1,a2=>yj.body (yj k) a0 a1 a2
theorem yj.all (k:Nat):(∀ (a0:zi) (a1:Int) (a2:Int) (r:Bool×Int),yj k a0 a1 a2=some r→ACalls qf 74 [.agg (zb a0),.int .i64 a1,.op 0 0 0] [.cells 0 [.int .i64 a2]] (fun r' σ'=>r'=.bool r.1∧σ'=[.cells 0 [.int .i64 r.2]])):=by
 induction k with
 |zero=>exact (fun a0 a1 a2 r h=>by simp only[yj] at h; cases h)
 |succ k ih=>exact (fun a0 a1 a2 r h=>yj.step _ ih a0 a1 a2 r (by simpa only [yj] using h))
theorem yj.ok {k a0 a1 a2 r}(h:yj k a0 a1 a2=some r):ACalls qf 74 [.agg (zb a0),.int .i64 a1,.op 0 0 0] [.cells 0 [.int .i64 a2]] (fun r' σ'=>r'=.bool r.1∧σ'=[.cells 0 [.int .i64 r.2]]):=(yj.all k) a0 a1 a2 r h
def ZP (a0:zi):Option Bool:=
 (yj yp a0 0 0).bind fun r1=>some r1.1
theorem ZP.ok {a0 r}(h:ZP a0=some r):ACalls qf 37 [.agg (zb a0)] [] (fun r' _=>r'=.bool r):=by
 refine zk (rs:=[.tmp 2]) U Tryz.func37 rfl Tryz.ntmps37 rfl Tryz.call37 (by simp) ?_;refine zu [(0,.agg (zb a0))] ⟨rfl,trivial⟩ ?_;unfold ZP at h;refine rgW [1] @zb.eq_1 ?_;refine O [1,3] ?_
 refine rc [2] fun K J=>?_
 obtain⟨r1,hr1,h⟩:=bind_some h;refine κ 1 ?_;refine clN rfl rfl rfl (@id (ACalls qf 74 [.agg (zb a0),.int .i64 0,.op 1 0 0] [.cells 0 (zb a0),.cells 0 [.int .i64 0]] (fun r' σ'=>r'=.bool r1.1∧σ'=[.cells 0 (zb a0),.cells 0 [.int .i64 r1.2]])) ((yj.ok hr1).i [1])) ?_;refine κ 1 ?_;refine nkN J ?_;cases h;exact rtA
def w5.l4 (a1:List UInt8):List Zk→Int→Zk×Bool
 |[],x2=>((⟨[],[],[]⟩:Zk),false)
 |y4::q4,x2=>(if y4.fName=a1 then (y4,true) else ((w5.l4 a1 q4) (x2+1)))
def w5 (a0:zm)(a1:List UInt8):Zk×Bool:=
 (w5.l4 a1 a0.fMethods 0)
theorem w5.ok {a0 a1 r}(h:w5 a0 a1=r):ACalls qf 55 [.agg (zd a0),.str a1] [] (fun r' _=>r'=.tup [.agg (zv r.1),.bool r.2]):=by
 refine zk (rs:=[.cell 4 61,.tmp 5]) U Tryz.func55 rfl Tryz.ntmps55 rfl Tryz.call55 (by simp) ?_;refine zu [(0,.agg (zd a0)),(1,.str a1)] ⟨rfl,rfl,trivial⟩ ?_;unfold w5 at h;refine rgW [1,2,4] @zd.eq_1 ?_
 refine za fun Z1 hZ1=>?_
 refine O [1,2,4,6] ?_;apply zj
 refine xT 0 rfl fun hb4=>?_
 replace hb4:qa a0.fMethods≤9223372036854775807:=hb4.2.2.2.1.1;refine zG (fun m L τ=>∃ (p4 q4:List Zk) (x2:Int),m=qa q4∧L=[(1,.str a1),(2,.op 0 0 0),(4,.op 1 0 0),(6,.int .i64 x2)]∧τ=([.cells 0 (zd a0),.cells 0 [.str [],.str [],.str []]]:zf)∧a0.fMethods=p4++q4∧x2=(qa p4:Int)∧w5.l4 a1 q4 x2=r) _ ⟨[],a0.fMethods,0,rfl,rfl,rfl,rfl,rfl,h⟩ .s ?_;rintro m L τ ⟨p4,q4,x2,rfl,rfl,rfl,hE4,hi4,h⟩
 rcases q4 with _|⟨y4,q4⟩
 · have hz4:=yH hE4 hi4;simp only[w5.l4] at h
   refine za fun Z5 hZ5=>?_
   refine rgW [1,2,4,6,11] hz4 ?_;refine zD rfl ?_;apply zJ;apply hZ1;refine O [4,5] ?_;cases h;exact rtA
 obtain⟨hz4,hw4,hx4,hE'4,hi'4⟩:=yo hE4 hi4 hb4;simp only[w5.l4] at h
 refine za fun Z6 hZ6=>?_
 refine rgW [1,2,4,6,11] hz4 ?_;refine zE rfl ?_;apply zg;apply hZ6
 refine za fun Z7 hZ7=>?_
 apply zj;have f8:=E29.idxS hx4;have f9:=E29.fldS0 (f:=9) rfl rfl hx4;refine rgW [1,2,4,6,21] (aI @zv.eq_1 (aI f8 f9)) ?_;refine zR rfl (fun hc10=>?_) (fun hc10=>?_)
 · rw[if_pos hc10] at h;have t11:=eq_true hc10;have f12:=E29.idxS hx4;have f13:=E29.loadS rfl rfl hx4;refine rgW [4,5] (aI @zv.eq_1 (aI t11 (aI f12 f13))) ?_;cases h;exact rtA
 rw[if_neg hc10] at h;have t14:=eq_false hc10;apply zg;apply hZ7
 refine rgE U [1,2,4,6] fun K J=>?_
 simp only[go_sem,qd,qc,hw4,t14];apply J
 exact⟨_,_,_,qo q4.length,⟨p4++[y4],q4,x2+1,rfl,rfl,rfl,hE'4,hi'4,h⟩,.s⟩
def Zs.j3 (a0:YE)(x2:Bool):Int:=
 (if x2=true then 2 else (if a0.fKind=7 then 3 else 1))
def Zs (a0:YE):Int:=
 (if a0.fKind=4 then (Zs.j3 a0 (decide (a0.fKind=4))) else (Zs.j3 a0 (decide (a0.fKind=5))))
theorem Zs.ok {a0 r}(h:Zs a0=r):ACalls qf 209 [.agg (wd a0)] [] (fun r' _=>r'=.int .i64 r):=by
 refine zk (rs:=[.tmp 2]) U Tryz.func209 rfl Tryz.ntmps209 rfl Tryz.call209 (by simp) ?_;refine zu [(0,.agg (wd a0))] ⟨rfl,trivial⟩ ?_;unfold Zs at h;refine rgW [1] @wd.eq_1 ?_
 refine za fun Z1 hZ1=>?_
 refine O [4] ?_;apply zj;refine we (fun L τ=>∃ (x2:Bool),L=[(4,.int .i64 a0.fKind),(5,.bool x2)]∧τ=([]:zf)∧Zs.j3 a0 x2=r) ?_ ?_
 · refine O [4,5] ?_;refine zR rfl (fun hc8=>?_) (fun hc8=>?_)
   · rw[if_pos hc8] at h;have t9:=eq_true hc8;apply zg;exact⟨_,_,⟨decide (a0.fKind=4),rfl,rfl,h⟩,(.t [] false)⟩
   rw[if_neg hc8] at h;have t10:=eq_false hc8
   refine rgE U [4,5] fun K J=>?_
   simp only[go_sem,qd,qc,t10];apply J
   exact⟨_,_,⟨decide (a0.fKind=5),rfl,rfl,h⟩,(.t [] false)⟩
 rintro _ _ ⟨x2,rfl,rfl,h⟩;unfold Zs.j3 at h;refine zB (b:=x2) rfl (fun hc4=>?_) (fun hc4=>?_)
 · rw[if_pos hc4] at h;refine O [2] ?_;cases h;exact rtA
 rw[wn hc4] at h;refine O [8] ?_;refine zR rfl (fun hc5=>?_) (fun hc5=>?_)
 · rw[if_pos hc5] at h;have t6:=eq_true hc5;refine rgW [2] t6 ?_;cases h;exact rtA
 rw[if_neg hc5] at h;have t7:=eq_false hc5;apply zg;apply hZ1;refine rgW [2] t7 ?_;cases h;exact rtA
def YS (a0:YE)(a1:Int):Bool:=
 (if a0.fKind=1 then ((decide ((-2147483648)≤a1))&&(decide (a1≤2147483647))) else (if a0.fKind=2 then true else (if a0.fKind=3 then ((decide (a1=0))||(decide (a1=1))) else (if a0.fKind=6 then ((decide (0≤a1))&&(decide (a1≤2147483647))) else false))))
theorem YS.ok {a0 a1 r}(h:YS a0 a1=r):ACalls qf 210 [.agg (wd a0),.int .i64 a1] [] (fun r' _=>r'=.bool r):=by
 refine zk (rs:=[.tmp 4]) U Tryz.func210 rfl Tryz.ntmps210 rfl Tryz.call210 (by simp) ?_;refine zu [(0,.agg (wd a0)),(1,.int .i64 a1)] ⟨rfl,rfl,trivial⟩ ?_;unfold YS at h;refine rgW [1,2] @wd.eq_1 ?_
 refine za fun Z1 hZ1=>?_
 refine O [1,6] ?_;apply zj;refine O [1,6,7] ?_;refine zR rfl (fun hc2=>?_) (fun hc2=>?_)
 · rw[if_pos hc2] at h;have t3:=eq_true hc2
   refine rc [4] fun K J=>?_
   refine rnW 3 t3 ?_;refine cut 3 11 14 [] ((decide ((-2147483648)≤a1))&&(decide (a1≤2147483647))) t3 rfl ?_;refine κ 1 ?_;refine nkN J ?_;cases h;exact rtA
 rw[if_neg hc2] at h;have t6:=eq_false hc2;refine rgW [1,6,15] t6 ?_;refine zR rfl (fun hc7=>?_) (fun hc7=>?_)
 · rw[if_pos hc7] at h;have t8:=eq_true hc7;refine rgW [4] t8 ?_;cases h;exact rtA
 rw[if_neg hc7] at h;have t9:=eq_false hc7;refine rgW [1,6,17] t9 ?_;refine zR rfl (fun hc10=>?_) (fun hc10=>?_)
 · rw[if_pos hc10] at h;have t11:=eq_true hc10
   refine rc [4] fun K J=>?_
   refine rnW 3 t11 ?_;refine cut 3 21 24 [] ((decide (a1=0))||(decide (a1=1))) (aI t6 (aI t9 t11)) rfl ?_;refine κ 1 ?_;refine nkN J ?_;cases h;exact rtA
 rw[if_neg hc10] at h;have t14:=eq_false hc10;refine rgW [1,25] t14 ?_;refine zR rfl (fun hc15=>?_) (fun hc15=>?_)
 · rw[if_pos hc15] at h;have t16:=eq_true hc15
   refine rc [4] fun K J=>?_
   refine rnW 3 t16 ?_;refine cut 3 29 32 [] ((decide (0≤a1))&&(decide (a1≤2147483647))) (aI t6 (aI t9 (aI t14 t16))) rfl ?_;refine κ 1 ?_;refine nkN J ?_;cases h;exact rtA
 rw[if_neg hc15] at h;have t19:=eq_false hc15;apply zg;apply hZ1;refine rgW [4] t19 ?_;cases h;exact rtA
def YT (a0:List UInt8):Option Bool:=
 (Zv a0).bind fun r1=>some r1.2
theorem YT.ok {a0 r}(h:YT a0=some r):ACalls qf 211 [.str a0] [] (fun r' _=>r'=.bool r):=by
 refine zk (rs:=[.tmp 2]) U Tryz.func211 rfl Tryz.ntmps211 rfl Tryz.call211 (by simp) ?_;refine zu [(0,.str a0)] ⟨rfl,trivial⟩ ?_;unfold YT at h;refine O [0] ?_
 refine rc [4] fun K J=>?_
 obtain⟨r1,hr1,h⟩:=bind_some h;refine κ 1 ?_;refine clN rfl rfl rfl ((Zv.ok hr1).c _) ?_;refine κ 5 ?_;refine nkN J ?_;refine O [2] ?_;cases h;exact rtA
def ZN.l4 (a0:List vay):Nat→Int→Option Bool
 |0,_=>none
 |k4+1,x2=>(if ((decide (x2<(qa a0:Int)))&&(decide (x2<40)))=true then (Yl a0 x2).bind fun y10=>(ZP y10.fIn).bind fun r13=>(if (!r13)=true then some true else (ZP y10.fOut).bind fun r16=>some (!r16)).bind fun c14=>(if c14=true then some false else ((ZN.l4 a0 k4) (IntKind.i64.wrap (x2+1)))) else some (decide ((qa a0:Int)≤40)))
def ZN (a0:List vay):Option Bool:=
 (ZN.l4 a0 yp 0)
theorem ZN.ok {a0 r}(h:ZN a0=some r):ACalls qf 40 [.ds true (qb yd a0) (qa a0) false] [] (fun r' _=>r'=.bool r):=by
 refine zk (rs:=[.tmp 2]) U Tryz.func40 rfl Tryz.ntmps40 rfl Tryz.call40 (by simp) ?_;refine zu [(0,.ds true (qb yd a0) (qa a0) false)] ⟨rfl,trivial⟩ ?_;unfold ZN at h;refine O [0] ?_
 refine za fun Z1 hZ1=>?_
 refine O [0,3] ?_;apply zj;refine zG (fun m L τ=>∃ (k4:Nat) (x2:Int),m=0+k4∧L=[(0,.ds true (qb yd a0) (qa a0) false),(3,.int .i64 x2)]∧τ=([]:zf)∧ZN.l4 a0 k4 x2=some r) _ ⟨yp,0,rfl,rfl,rfl,h⟩ .s ?_;rintro m L τ ⟨k4,x2,rfl,rfl,rfl,h⟩
 rcases k4 with _|k4
 · cases h
 simp only[ZN.l4] at h
 refine za fun Z5 hZ5=>?_
 refine rc [0,3,11] fun K J=>?_
 refine κ 5 ?_;refine cut 3 8 11 [0,3] ((decide (x2<(qa a0:Int)))&&(decide (x2<40))) qF rfl ?_;refine nkN J ?_;refine zB (b:=((decide (x2<(qa a0:Int)))&&(decide (x2<40)))) rfl (fun hc8=>?_) (fun hc8=>?_)
 · rw[if_pos hc8] at h;apply zg;apply hZ5
   refine za fun Z9 hZ9=>?_
   apply zj
   refine rc [0,3,29] fun K J=>?_
   obtain⟨y10,hy10,h⟩:=bind_some h;have f11:=E82.idxS hy10;have f12:=E82.fldAS (f:=37) rfl rfl hy10 (o:=1) (by decide);obtain⟨r13,hr13,h⟩:=bind_some h;refine xO U 5 ?_;simp only[go_sem,qd,qc,reduceCtorEq,yd,f11,f12,uD,qw,uC,uO];refine clN rfl rfl rfl ((ZP.ok hr13).c _) ?_;refine κ 2 ?_;obtain⟨c14,hc14,h⟩:=bind_some h;refine yv 8 (fun L τ=>L=[(0,.ds true (qb yd a0) (qa a0) false),(3,.int .i64 x2),(29,.bool c14)]∧τ=([]:zf)) ?_ ?_
   · refine xm (b:=(!r13)) 21 rfl (fun hg21=>?_) (fun hg21=>?_)
     · rw[if_pos hg21] at hc14;refine κ 8 ?_;cases hc14;refine zl ⟨rfl,_,_,⟨rfl,rfl⟩,.b hg21⟩
     rw[wn hg21] at hc14;have f15:=E82.idxS hy10;have f16:=E82.fldAS (f:=37) rfl rfl hy10 (o:=6) (by decide);obtain⟨r17,hr17,hc14⟩:=bind_some hc14;refine xO U 5 ?_;simp only[go_sem,qd,qc,reduceCtorEq,yd,f15,f16,uD,qw,uC,uO];refine clN rfl rfl rfl ((ZP.ok hr17).c _) ?_;refine κ 2 ?_;cases hc14;refine zl ⟨rfl,_,_,⟨rfl,rfl⟩,.b hg21⟩
   rintro _ _ ⟨rfl,rfl⟩;refine nkN J ?_;refine zB (b:=c14) rfl (fun hc18=>?_) (fun hc18=>?_)
   · rw[if_pos hc18] at h;refine O [2] ?_;cases h;exact rtA
   rw[wn hc18] at h;apply zg;apply hZ9
   refine rgE U [0,3] fun K J=>?_
   simp only[go_sem,qd,qc,reduceCtorEq];apply J
   exact⟨_,_,_,qo (0+k4),⟨k4,IntKind.i64.wrap (x2+1),rfl,rfl,rfl,h⟩,.s⟩
 rw[wn hc8] at h;apply zJ;apply hZ1;refine O [2] ?_;cases h;exact rtA
def vap (a0:Int):zm:=
 (⟨[97],[(⟨[109],[(⟨[120],1,1,(⟨a0,[]⟩:YE)⟩:yY)],([]:List Int)⟩:zz)],([]:List zT),[(⟨[99],[109],[109]⟩:Zk)]⟩:zm)
theorem vap.ok {a0 r}(h:vap a0=r):ACalls qf 46 [.int .i64 a0] [] (fun r' _=>r'=.agg (zd r)):=by
 refine zk (rs:=[.cell 2 31]) U Tryz.func46 rfl Tryz.ntmps46 rfl Tryz.call46 (by simp) ?_;refine zu [(0,.int .i64 a0)] ⟨rfl,trivial⟩ ?_;unfold vap at h;refine O [0,2] ?_
 refine rg U [2] fun K J=>?_
 simp only[go_sem,qd,qg,qc,qe,qj,reduceCtorEq,zM,yz,qV,qL,true_and,q5];apply J
 cases h;exact rtA
def XM (a0:Int):zi:=
 (if a0=0 then (⟨3,0,[],([]:List zp),([]:List xF)⟩:zi) else (⟨3,0,[],[(⟨1,[(⟨1,a0,[],([]:List zp),([]:List xF)⟩:zi)]⟩:zp)],([]:List xF)⟩:zi))
theorem XM.ok {a0 r}(h:XM a0=r):ACalls qf 49 [.int .i64 a0] [] (fun r' _=>r'=.agg (zb r)):=by
 refine zk (rs:=[.cell 2 37]) U Tryz.func49 rfl Tryz.ntmps49 rfl Tryz.call49 (by simp) ?_;refine zu [(0,.int .i64 a0)] ⟨rfl,trivial⟩ ?_;unfold XM at h;refine O [0,2] ?_;refine O [0,2,3] ?_
 refine za fun Z1 hZ1=>?_
 refine O [0,2,3,6] ?_;refine zR rfl (fun hc2=>?_) (fun hc2=>?_)
 · rw[if_neg hc2] at h;have t3:=eq_false hc2
   refine rgE U [2,3] fun K J=>?_
   simp only[go_sem,qd,qg,qc,qe,qj,reduceCtorEq,zM,yz,qV,qL,true_and,q5,t3];apply J
   apply hZ1;refine O [2] ?_;cases h;exact rtA
 rw[if_pos hc2] at h;have t4:=eq_true hc2;apply zg;apply hZ1;refine rgW [2] t4 ?_;cases h;exact rtA
def ZB (a0:List vay):Option (List vay):=(vao (qa a0) 176).bind fun _=>some a0
theorem ZB.ok (a0 r:List vay)(h:ZB a0=some r):ACalls qf 83 [.ds true (qb yd a0) (qa a0) false] [] (fun r' _=>r'=.ds true (qb yd r) (qa r) false):=by
 obtain⟨_u,hu,h⟩:=bind_some h;have gu:=yR hu;cases h
 have f1:=fun nl tt σ=>Ze E82.len a0 nl tt σ
 have f2:=zU E82.len a0;have f3:=Xd yd a0
 have fin:∀ σ id ver tt,zf.at σ id ver=some (qb yd a0)→tell σ [] true 12 (.os true 11 id ver 0 (qa a0) tt)=.ds true (qb yd a0) (qa a0) false:=by
  intro σ id ver tt hs
  simp only[ZS,Zp,hs,qw,ql];rw[if_pos (by rw[f2]; exact qA _),← f2,uh,zL]
 refine zk (rs:=[.tmp 2]) U Tryz.func83 rfl Tryz.ntmps83 rfl Tryz.call83 (by simp) ?_;refine zu [(0,.ds true (qb yd a0) (qa a0) false)] ⟨rfl,trivial⟩ ?_;refine O [0] ?_
 refine za fun Z1 hZ1=>?_
 refine rc [0,4] fun K J=>?_
 refine κ 1 ?_
 refine XK U rfl rfl rfl rfl rfl rfl fun b hnil=>?_
 have hb:b=true→a0=[]:=fun hb=>by
  have:=hnil hb;simp only[yJ,go_sem,reduceCtorEq] at this;exact q1 this
 clear hnil
 refine nkN J ?_;cases b
 · refine zD rfl ?_;apply zg;apply hZ1
   refine rg U [2] fun K J=>?_
   by_cases h0:qa a0=0
   · obtain rfl:=q1 h0;simp only[go_sem,qd,qc,qe,reduceCtorEq,zM,yz,qL,ux,yG,yf,yJ,y0,uo,qp,uq,qW];apply J
     apply yE;simp only[Yk,xg,xw,wu,exists_eq_left',go_sem]
     first|rfl|(simp only[go_sem,qd,qg,qc,qe,qj,qr,reduceIte,reduceCtorEq,ZS,Zp,qq]<;>rfl)
   have h1:=eq_false h0;simp only[go_sem,qd,qc,qe,reduceCtorEq,zM,yz,qL,ux,yG,yf,yJ,f1,f3,h1,gu,yZ,qq,qC,uq];apply J
   apply yE;simp only[Yk,xg,xw,wu,exists_eq_left',go_sem];exact fin _ _ _ _ (by simp only[zf.at_hd,zf.at_tl,if_true])
 obtain rfl:=hb rfl;refine zE rfl ?_;refine O [2] ?_;apply yE;simp only[Yk,xg,xw,wu,exists_eq_left',go_sem]
 first|rfl|(simp only[go_sem,qd,qg,qc,qe,qj,qr,reduceIte,reduceCtorEq,XF,qq,qv,qu,qz]<;>rfl)
theorem ZB.ev (a0 r:List vay)(h:ZB a0=some r)(σ:zf):ACalls qf 83 [.ds true (qb yd a0) (qa a0) false] σ (fun r' σ'=>r'=.ds true (qb yd r) (qa r) false∧σ'=σ):=
 (ZB.ok a0 r h).pureAt (by simp only[AV.canon,xo,xA,qD,qn,ug]) (by simp only[AV.canon,xA,qD,qn,ug]) σ
def va2 (a0:Int):Yw:=
 (⟨(if 1<(if 8<a0 then 8 else a0) then (if 8<a0 then 8 else a0) else 1),([]:List wb),0,(⟨[],[],0⟩:vbX wb Zd),(⟨[],[],0⟩:vbX Int Int)⟩:Yw)
theorem va2.ok {a0 r}(h:va2 a0=r):ACalls qf 84 [.int .i64 a0] [] (fun r' σ'=>r'=.op 0 0 0∧σ'=[.cells 0 [.int .i64 r.fsize,.os true 2 1 (r.vorder) 0 (qa r.forder) false,.mp 2,.mp 3],.cells (r.vorder) (qb zC r.forder),.map (xp zV yw r.freplies.l) (some (r.freplies.bs,r.freplies.ck)),.map (xp (AV.int .i64) (AV.int .i64) r.flast.l) (some (r.flast.bs,r.flast.ck))]):=by
 refine acalls_ptr (rs:=[.tmp 2]) U Tryz.func84 rfl Tryz.ntmps84 rfl Tryz.call84 (by simp) ?_;refine zu [(0,.int .i64 a0)] ⟨rfl,trivial⟩ ?_;unfold va2 at h;refine O [0] ?_
 refine rg U [2] fun K J=>?_
 simp only[go_sem,qd,qg,qc,qe,reduceCtorEq,vbo,vdv,vb5,vb6];apply J
 refine wV 2 1 2 rfl (by simp) rfl (L:=[(2,.op 2 0 0)]) (τ:=[.map (xp zV yw []) (some ([],0)),.map (xp (AV.int .i64) (AV.int .i64) []) (some ([],0)),.cells 0 [.int .i64 (if 1<(if 8<a0 then 8 else a0) then (if 8<a0 then 8 else a0) else 1),.os true 2 3 0 0 (qa ([]:List wb)) false,.mp 0,.mp 1],.cells 0 (qb zC ([]:List wb))]) .s ?_;refine yX (L:=[(2,.op 2 0 0)]) (τ:=[.map (xp zV yw []) (some ([],0)),.map (xp (AV.int .i64) (AV.int .i64) []) (some ([],0)),.cells 0 [.int .i64 (if 1<(if 8<a0 then 8 else a0) then (if 8<a0 then 8 else a0) else 1),.os true 2 3 0 0 (qa ([]:List wb)) false,.mp 0,.mp 1],.cells 0 (qb zC ([]:List wb))]) .s ?_;apply yE;obtain rfl:=h;simp only[Yk,xg,xw,wu,exists_eq_left',go_sem,qe];refine⟨[2,3,0,1],by decide,by simp,?_,?_⟩
 · first|rfl|(simp only[go_sem,qd,qg,qc,qe,qj,qr,reduceIte,reduceCtorEq,push_cast,if_true,qw,ql,qy,qq,qE,qv,qM,qI,qz,qu,qn,zL,zC]<;>rfl)
 first|rfl|(simp only[go_sem,qd,qg,qc,qe,qj,qr,reduceIte,reduceCtorEq,push_cast,if_true,qw,ql,qy,qq,qE,qv,qM,qI,qz,qu,qn,zL,zC]<;>rfl)
def ZA (a0:List Int):Option (List Int):=(vao (qa a0) 8).bind fun _=>some a0
theorem ZA.ok (a0 r:List Int)(h:ZA a0=some r):ACalls qf 129 [.ds true (qb ZC a0) (qa a0) false] [] (fun r' _=>r'=.ds true (qb ZC r) (qa r) false):=by
 obtain⟨_u,hu,h⟩:=bind_some h;have gu:=yR hu;cases h
 have f1:=fun nl tt σ=>Ze E26.len a0 nl tt σ
 have f2:=zU E26.len a0;have f3:=Xd ZC a0
 have fin:∀ σ id ver tt,zf.at σ id ver=some (qb ZC a0)→tell σ [] true 12 (.os true 1 id ver 0 (qa a0) tt)=.ds true (qb ZC a0) (qa a0) false:=by
  intro σ id ver tt hs
  simp only[ZS,Zp,hs,qw,ql];rw[if_pos (by rw[f2]; exact qA _),← f2,uh,zL]
 refine zk (rs:=[.tmp 2]) U Tryz.func129 rfl Tryz.ntmps129 rfl Tryz.call129 (by simp) ?_;refine zu [(0,.ds true (qb ZC a0) (qa a0) false)] ⟨rfl,trivial⟩ ?_;refine O [0] ?_
 refine za fun Z1 hZ1=>?_
 refine rc [0,4] fun K J=>?_
 refine κ 1 ?_
 refine XK U rfl rfl rfl rfl rfl rfl fun b hnil=>?_
 have hb:b=true→a0=[]:=fun hb=>by
  have:=hnil hb;simp only[yJ,go_sem,reduceCtorEq] at this;exact q1 this
 clear hnil
 refine nkN J ?_;cases b
 · refine zD rfl ?_;apply zg;apply hZ1
   refine rg U [2] fun K J=>?_
   by_cases h0:qa a0=0
   · obtain rfl:=q1 h0;simp only[go_sem,qd,qc,reduceCtorEq,zM,yz,qL,ux,yG,yf,yJ,y0,uo,qp,uq,qW];apply J
     apply yE;simp only[Yk,xg,xw,wu,exists_eq_left',go_sem]
     first|rfl|(simp only[go_sem,qd,qg,qc,qe,qj,qr,reduceIte,reduceCtorEq,ZS,Zp,qq]<;>rfl)
   have h1:=eq_false h0;simp only[go_sem,qd,qc,reduceCtorEq,zM,yz,qL,ux,yG,yf,yJ,f1,f3,h1,gu,yZ,qq,qC,uq];apply J
   apply yE;simp only[Yk,xg,xw,wu,exists_eq_left',go_sem];exact fin _ _ _ _ (by simp only[zf.at_hd,zf.at_tl,if_true])
 obtain rfl:=hb rfl;refine zE rfl ?_;refine O [2] ?_;apply yE;simp only[Yk,xg,xw,wu,exists_eq_left',go_sem]
 first|rfl|(simp only[go_sem,qd,qg,qc,qe,qj,qr,reduceIte,reduceCtorEq,XF,qq,qv,qu,qz]<;>rfl)
theorem ZA.ev (a0 r:List Int)(h:ZA a0=some r)(σ:zf):ACalls qf 129 [.ds true (qb ZC a0) (qa a0) false] σ (fun r' σ'=>r'=.ds true (qb ZC r) (qa r) false∧σ'=σ):=
 (ZA.ok a0 r h).pureAt (by simp only[AV.canon,xo,xA,qD,qn,ug]) (by simp only[AV.canon,xA,qD,qn,ug]) σ
def Zc (a0:List zm):Option (List zm):=(vao (qa a0) 88).bind fun _=>some a0
theorem Zc.ok (a0 r:List zm)(h:Zc a0=some r):ACalls qf 130 [.ds true (qb zd a0) (qa a0) false] [] (fun r' _=>r'=.ds true (qb zd r) (qa r) false):=by
 obtain⟨_u,hu,h⟩:=bind_some h;have gu:=yR hu;cases h
 have f1:=fun nl tt σ=>Ze E33.len a0 nl tt σ
 have f2:=zU E33.len a0;have f3:=Xd zd a0
 have fin:∀ σ id ver tt,zf.at σ id ver=some (qb zd a0)→tell σ [] true 12 (.os true 4 id ver 0 (qa a0) tt)=.ds true (qb zd a0) (qa a0) false:=by
  intro σ id ver tt hs
  simp only[ZS,Zp,hs,qw,ql];rw[if_pos (by rw[f2]; exact qA _),← f2,uh,zL]
 refine zk (rs:=[.tmp 2]) U Tryz.func130 rfl Tryz.ntmps130 rfl Tryz.call130 (by simp) ?_;refine zu [(0,.ds true (qb zd a0) (qa a0) false)] ⟨rfl,trivial⟩ ?_;refine O [0] ?_
 refine za fun Z1 hZ1=>?_
 refine rc [0,4] fun K J=>?_
 refine κ 1 ?_
 refine XK U rfl rfl rfl rfl rfl rfl fun b hnil=>?_
 have hb:b=true→a0=[]:=fun hb=>by
  have:=hnil hb;simp only[yJ,go_sem,reduceCtorEq] at this;exact q1 this
 clear hnil
 refine nkN J ?_;cases b
 · refine zD rfl ?_;apply zg;apply hZ1
   refine rg U [2] fun K J=>?_
   by_cases h0:qa a0=0
   · obtain rfl:=q1 h0;simp only[go_sem,qd,qc,qe,reduceCtorEq,zM,yz,qL,ux,yG,yf,yJ,y0,uo,qp,uq,qW];apply J
     apply yE;simp only[Yk,xg,xw,wu,exists_eq_left',go_sem]
     first|rfl|(simp only[go_sem,qd,qg,qc,qe,qj,qr,reduceIte,reduceCtorEq,ZS,Zp,qq]<;>rfl)
   have h1:=eq_false h0;simp only[go_sem,qd,qc,qe,reduceCtorEq,zM,yz,qL,ux,yG,yf,yJ,f1,f3,h1,gu,yZ,qq,qC,uq];apply J
   apply yE;simp only[Yk,xg,xw,wu,exists_eq_left',go_sem];exact fin _ _ _ _ (by simp only[zf.at_hd,zf.at_tl,if_true])
 obtain rfl:=hb rfl;refine zE rfl ?_;refine O [2] ?_;apply yE;simp only[Yk,xg,xw,wu,exists_eq_left',go_sem]
 first|rfl|(simp only[go_sem,qd,qg,qc,qe,qj,qr,reduceIte,reduceCtorEq,XF,qq,qv,qu,qz]<;>rfl)
theorem Zc.ev (a0 r:List zm)(h:Zc a0=some r)(σ:zf):ACalls qf 130 [.ds true (qb zd a0) (qa a0) false] σ (fun r' σ'=>r'=.ds true (qb zd r) (qa r) false∧σ'=σ):=
 (Zc.ok a0 r h).pureAt (by simp only[AV.canon,xo,xA,qD,qn,ug]) (by simp only[AV.canon,xA,qD,qn,ug]) σ
def Yd (a0:wx)(a1:List Int)(a2:List zm):Option wx:=
 (ZA a1).bind fun r1=>(Zc a2).bind fun r2=>some (⟨a0.fself,r1,r2,a0.fnewest,a0.frows,a0.fcache,a0.feffects,a0.veffects⟩:wx)
theorem Yd.ok {a0 a1 a2 r}(h:Yd a0 a1 a2=some r):ACalls qf 85 [.op 0 0 0,.ds true (qb ZC a1) (qa a1) false,.ds true (qb zd a2) (qa a2) false] [.cells 0 [.int .i64 a0.fself,.ds true (qb ZC a0.fnumbers) (qa a0.fnumbers) false,.ds true (qb zd a0.fschemas) (qa a0.fschemas) false,.str a0.fnewest.fName,.ds true (qb ze a0.fnewest.fMessages) (qa a0.fnewest.fMessages) false,.ds true (qb zh a0.fnewest.fEnums) (qa a0.fnewest.fEnums) false,.ds true (qb zv a0.fnewest.fMethods) (qa a0.fnewest.fMethods) false,.ds true (qb yd a0.frows) (qa a0.frows) false,.op 1 0 0,.os true 8 5 (a0.veffects) 0 (qa a0.feffects) false],.cells 0 [.int .i64 a0.fcache.fsize,.os true 2 2 (a0.fcache.vorder) 0 (qa a0.fcache.forder) false,.mp 3,.mp 4],.cells (a0.fcache.vorder) (qb zC a0.fcache.forder),.map (xp zV yw a0.fcache.freplies.l) (some (a0.fcache.freplies.bs,a0.fcache.freplies.ck)),.map (xp (AV.int .i64) (AV.int .i64) a0.fcache.flast.l) (some (a0.fcache.flast.bs,a0.fcache.flast.ck)),.cells (a0.veffects) (qb zo a0.feffects)] (fun r' σ'=>r'=.tup []∧σ'=[.cells 0 [.int .i64 r.fself,.ds true (qb ZC r.fnumbers) (qa r.fnumbers) false,.ds true (qb zd r.fschemas) (qa r.fschemas) false,.str r.fnewest.fName,.ds true (qb ze r.fnewest.fMessages) (qa r.fnewest.fMessages) false,.ds true (qb zh r.fnewest.fEnums) (qa r.fnewest.fEnums) false,.ds true (qb zv r.fnewest.fMethods) (qa r.fnewest.fMethods) false,.ds true (qb yd r.frows) (qa r.frows) false,.op 1 0 0,.os true 8 5 (r.veffects) 0 (qa r.feffects) false],.cells 0 [.int .i64 r.fcache.fsize,.os true 2 2 (r.fcache.vorder) 0 (qa r.fcache.forder) false,.mp 3,.mp 4],.cells (r.fcache.vorder) (qb zC r.fcache.forder),.map (xp zV yw r.fcache.freplies.l) (some (r.fcache.freplies.bs,r.fcache.freplies.ck)),.map (xp (AV.int .i64) (AV.int .i64) r.fcache.flast.l) (some (r.fcache.flast.bs,r.fcache.flast.ck)),.cells (r.veffects) (qb zo r.feffects)]):=by
 refine ZH [0,1,2,3,4,5] (rs:=[]) U Tryz.func85 rfl Tryz.ntmps85 rfl Tryz.call85 (by simp) rfl ?_;refine zu [(0,.op 0 0 0),(1,.ds true (qb ZC a1) (qa a1) false),(2,.ds true (qb zd a2) (qa a2) false)] ⟨rfl,rfl,rfl,trivial⟩ ?_;unfold Yd at h
 refine rcE [] fun K J=>?_
 obtain⟨r1,hr1,h⟩:=bind_some h;refine κ 3 ?_;refine clN rfl rfl rfl (ZA.ev a1 r1 hr1 _) ?_;obtain⟨r2,hr2,h⟩:=bind_some h;refine κ 1 ?_;refine clN rfl rfl rfl (Zc.ev a2 r2 hr2 _) ?_;refine κ 6 ?_;refine nkN J ?_
 -- end
 cases h;simp only[Yk,xg,wu,exists_eq_left',go_sem,qe];refine⟨by decide,by simp,?_,?_⟩
 · first|rfl|(simp only[go_sem,qd,qg,qc,qe,qj,qr,reduceIte,reduceCtorEq,push_cast,if_true,qw,ql,qy,qq,qE,qv,qM,qI,qz,qu,qn,zL,zb,zC,zd,zo,yC]<;>rfl)
 first|rfl|(simp only[go_sem,qc,qe,reduceCtorEq,push_cast,if_true,ql,qy,qq,qv,qz,qu,zL]<;>rfl)
def ZW (o:Option wx):zf:=match o with
 |none=>[]
 |some x=>[.cells 0 [.int .i64 x.fself,.ds true (qb ZC x.fnumbers) (qa x.fnumbers) false,.ds true (qb zd x.fschemas) (qa x.fschemas) false,.str x.fnewest.fName,.ds true (qb ze x.fnewest.fMessages) (qa x.fnewest.fMessages) false,.ds true (qb zh x.fnewest.fEnums) (qa x.fnewest.fEnums) false,.ds true (qb zv x.fnewest.fMethods) (qa x.fnewest.fMethods) false,.ds true (qb yd x.frows) (qa x.frows) false,.op 1 0 0,.os true 8 5 (x.veffects) 0 (qa x.feffects) false],.cells 0 [.int .i64 x.fcache.fsize,.os true 2 2 (x.fcache.vorder) 0 (qa x.fcache.forder) false,.mp 3,.mp 4],.cells (x.fcache.vorder) (qb zC x.fcache.forder),.map (xp zV yw x.fcache.freplies.l) (some (x.fcache.freplies.bs,x.fcache.freplies.ck)),.map (xp (AV.int .i64) (AV.int .i64) x.fcache.flast.l) (some (x.fcache.flast.bs,x.fcache.flast.ck)),.cells (x.veffects) (qb zo x.feffects)]
def Xo (a0:Int)(a1:List Int)(a2:List zm)(a3:zm)(a4:List vay)(a5:Int):Option (Option wx×Int):=
 (Zw a0 a1 a2).bind fun r2=>(if ((!r2)||(decide (32<(qa a4:Int))))=true then some true else (zZ a3).bind fun r3=>some (!(decide (r3=0)))).bind fun c3=>(if c3=true then none else (ZB a4).bind fun r6=>bnd (va2 a5) fun r7=>(Yd (⟨a0,([]:List Int),([]:List zm),a3,r6,r7,([]:List xy),0⟩:wx) a1 a2).bind fun r8=>some ((some r8),0))
theorem Xo.ok {a0 a1 a2 a3 a4 a5 r}(h:Xo a0 a1 a2 a3 a4 a5=some r):ACalls qf 45 [.int .i64 a0,.ds true (qb ZC a1) (qa a1) false,.ds true (qb zd a2) (qa a2) false,.agg (zd a3),.ds true (qb yd a4) (qa a4) false,.int .i64 a5] [] (fun r' σ'=>r'=.tup [newV r.1 0,.int .i64 r.2]∧σ'=ZW r.1):=by
 refine acalls_ptr (rs:=[.tmp 12,.tmp 13]) U Tryz.func45 rfl Tryz.ntmps45 rfl Tryz.call45 (by simp) ?_;refine zu [(0,.int .i64 a0),(1,.ds true (qb ZC a1) (qa a1) false),(2,.ds true (qb zd a2) (qa a2) false),(3,.agg (zd a3)),(4,.ds true (qb yd a4) (qa a4) false),(5,.int .i64 a5)] ⟨rfl,rfl,rfl,rfl,rfl,rfl,trivial⟩ ?_;unfold Xo at h;refine rgW [0,1,2,4,5,9] @zd.eq_1 ?_
 refine za fun Z1 hZ1=>?_
 refine rc [0,1,2,4,5,9,29] fun K J=>?_
 obtain⟨r2,hr2,h⟩:=bind_some h;refine κ 3 ?_;refine clN rfl rfl rfl ((Zw.ok hr2).c _) ?_;refine κ 2 ?_;refine cut (b:=(!r2)) (hb:=boolP_eq _) 4 20 24 [0,1,2,4,5,9] ((!r2)||(decide (32<(qa a4:Int)))) qF rfl ?_;refine κ 1 ?_;obtain⟨c3,hc3,h⟩:=bind_some h;refine yv 4 (fun L τ=>L=[(0,.int .i64 a0),(1,.ds true (qb ZC a1) (qa a1) false),(2,.ds true (qb zd a2) (qa a2) false),(4,.ds true (qb yd a4) (qa a4) false),(5,.int .i64 a5),(9,.op 0 0 0),(29,.bool c3)]∧τ=([.cells 0 (zd a3)]:zf)) ?_ ?_
 · refine xm (b:=((!r2)||(decide (32<(qa a4:Int))))) 25 rfl (fun hg25=>?_) (fun hg25=>?_)
   · rw[if_pos hg25] at hc3;refine κ 4 ?_;cases hc3;refine zl ⟨rfl,_,_,⟨rfl,rfl⟩,.b hg25⟩
   rw[wn hg25] at hc3;obtain⟨r4,hr4,hc3⟩:=bind_some hc3;refine κ 1 ?_;refine clN rfl rfl rfl ((zZ.ok hr4).c _) ?_;refine κ 2 ?_;cases hc3;refine zl ⟨rfl,_,_,⟨rfl,rfl⟩,.b hg25⟩
 rintro _ _ ⟨rfl,rfl⟩;refine nkN J ?_;refine zB (b:=c3) rfl (fun hc5=>?_) (fun hc5=>?_)
 · rw[if_pos hc5] at h;cases h
 rw[wn hc5] at h;apply zg;apply hZ1;obtain⟨r6,hr6,h⟩:=bind_some h;obtain⟨r7,hr7,h⟩:=yb h
 refine rd [1,2,14] fun K J=>?_
 refine DW.start (T:=tab) [.any,.own 2 [],.any,.eff,.any,.eff,.any,.eff,.any] [(2,[])] ?_;refine DW.runN U 3 ?_;simp only[go_sem,qd,qg,qc,qe,reduceCtorEq];refine DW.call rfl rfl rfl (ZB.ev a4 r6 hr6 _) ?_;refine DW.runN U 1 ?_;simp only[go_sem,qd,qc,reduceCtorEq];refine DW.callS rfl rfl rfl (@id (ACalls qf 84 [.int .i64 a5] [.cells 0 (zd a3)] (fun r' σ'=>r'=.op 1 0 0∧σ'=[.cells 0 (zd a3),.cells 0 [.int .i64 r7.fsize,.os true 2 2 (r7.vorder) 0 (qa r7.forder) false,.mp 3,.mp 4],.cells (r7.vorder) (qb zC r7.forder),.map (xp zV yw r7.freplies.l) (some (r7.freplies.bs,r7.freplies.ck)),.map (xp (AV.int .i64) (AV.int .i64) r7.flast.l) (some (r7.flast.bs,r7.flast.ck))])) ((va2.ok hr7).ix [])) (vbM (by simp only[go_sem,qg,qe])) ?_;refine DW.runN U 3 ?_;simp only[go_sem,qd,qg,qc,qe,reduceCtorEq];refine DW.fin U (by decide +kernel) rfl ?_;simp only[zq,upd,qc,reduceIte,yD,xj];apply J
 refine wV 5 9 8 rfl (by simp) rfl (L:=[(1,.ds true (qb ZC a1) (qa a1) false),(2,.ds true (qb zd a2) (qa a2) false),(14,.op 5 0 0)]) (τ:=[.cells 0 (zd a3),.cells 0 [.int .i64 r7.fsize,.os true 2 2 (r7.vorder) 0 (qa r7.forder) false,.mp 3,.mp 4],.cells (r7.vorder) (qb zC r7.forder),.map (xp zV yw r7.freplies.l) (some (r7.freplies.bs,r7.freplies.ck)),.map (xp (AV.int .i64) (AV.int .i64) r7.flast.l) (some (r7.flast.bs,r7.flast.ck)),.cells 0 [.int .i64 a0,.ds true [] 0 true,.ds true [] 0 true,.str a3.fName,.ds true (qb ze a3.fMessages) (qa a3.fMessages) false,.ds true (qb zh a3.fEnums) (qa a3.fEnums) false,.ds true (qb zv a3.fMethods) (qa a3.fMethods) false,.ds true (qb yd r6) (qa r6) false,.op 1 0 0,.os true 8 6 0 0 (qa ([]:List xy)) false],.cells 0 (qb zo ([]:List xy))]) .s ?_;refine yX (L:=[(1,.ds true (qb ZC a1) (qa a1) false),(2,.ds true (qb zd a2) (qa a2) false),(14,.op 4 0 0)]) (τ:=[.cells 0 [.int .i64 r7.fsize,.os true 2 1 (r7.vorder) 0 (qa r7.forder) false,.mp 2,.mp 3],.cells (r7.vorder) (qb zC r7.forder),.map (xp zV yw r7.freplies.l) (some (r7.freplies.bs,r7.freplies.ck)),.map (xp (AV.int .i64) (AV.int .i64) r7.flast.l) (some (r7.flast.bs,r7.flast.ck)),.cells 0 [.int .i64 a0,.ds true (qb ZC ([]:List Int)) (qa ([]:List Int)) false,.ds true (qb zd ([]:List zm)) (qa ([]:List zm)) false,.str a3.fName,.ds true (qb ze a3.fMessages) (qa a3.fMessages) false,.ds true (qb zh a3.fEnums) (qa a3.fEnums) false,.ds true (qb zv a3.fMethods) (qa a3.fMethods) false,.ds true (qb yd r6) (qa r6) false,.op 0 0 0,.os true 8 5 0 0 (qa ([]:List xy)) false],.cells 0 (qb zo ([]:List xy))]) (.t [1,2,3,4,5,6] true) ?_
 refine rc [14] fun K J=>?_
 obtain⟨r8,hr8,h⟩:=bind_some h;refine κ 3 ?_;refine clN rfl rfl rfl (@id (ACalls qf 85 [.op 4 0 0,.ds true (qb ZC a1) (qa a1) false,.ds true (qb zd a2) (qa a2) false] [.cells 0 [.int .i64 r7.fsize,.os true 2 1 (r7.vorder) 0 (qa r7.forder) false,.mp 2,.mp 3],.cells (r7.vorder) (qb zC r7.forder),.map (xp zV yw r7.freplies.l) (some (r7.freplies.bs,r7.freplies.ck)),.map (xp (AV.int .i64) (AV.int .i64) r7.flast.l) (some (r7.flast.bs,r7.flast.ck)),.cells 0 [.int .i64 a0,.ds true (qb ZC ([]:List Int)) (qa ([]:List Int)) false,.ds true (qb zd ([]:List zm)) (qa ([]:List zm)) false,.str a3.fName,.ds true (qb ze a3.fMessages) (qa a3.fMessages) false,.ds true (qb zh a3.fEnums) (qa a3.fEnums) false,.ds true (qb zv a3.fMethods) (qa a3.fMethods) false,.ds true (qb yd r6) (qa r6) false,.op 0 0 0,.os true 8 5 0 0 (qa ([]:List xy)) false],.cells 0 (qb zo ([]:List xy))] (fun r' σ'=>r'=.tup []∧σ'=[.cells 0 [.int .i64 r8.fcache.fsize,.os true 2 1 (r8.fcache.vorder) 0 (qa r8.fcache.forder) false,.mp 2,.mp 3],.cells (r8.fcache.vorder) (qb zC r8.fcache.forder),.map (xp zV yw r8.fcache.freplies.l) (some (r8.fcache.freplies.bs,r8.fcache.freplies.ck)),.map (xp (AV.int .i64) (AV.int .i64) r8.fcache.flast.l) (some (r8.fcache.flast.bs,r8.fcache.flast.ck)),.cells 0 [.int .i64 r8.fself,.ds true (qb ZC r8.fnumbers) (qa r8.fnumbers) false,.ds true (qb zd r8.fschemas) (qa r8.fschemas) false,.str r8.fnewest.fName,.ds true (qb ze r8.fnewest.fMessages) (qa r8.fnewest.fMessages) false,.ds true (qb zh r8.fnewest.fEnums) (qa r8.fnewest.fEnums) false,.ds true (qb zv r8.fnewest.fMethods) (qa r8.fnewest.fMethods) false,.ds true (qb yd r8.frows) (qa r8.frows) false,.op 0 0 0,.os true 8 5 (r8.veffects) 0 (qa r8.feffects) false],.cells (r8.veffects) (qb zo r8.feffects)])) ((Yd.ok hr8).ix [4,0,1,2,3,5])) ?_;refine nkN J ?_;refine O [12,13] ?_;apply yE;cases h;simp only[Yk,xg,xw,wu,exists_eq_left',vdX,ZW,go_sem,qc,qe];refine⟨[4,0,1,2,3,5],by decide,by simp,?_,?_⟩
 · first|rfl|(simp only[go_sem,qd,qg,qc,qe,qj,qr,reduceIte,reduceCtorEq,push_cast,if_true,qw,ql,qy,qq,qE,qv,qM,qI,qz,qu,qn,zL,zb,zC,zd,zo,yC]<;>rfl)
 first|rfl|(simp only[go_sem,qc,qe,reduceCtorEq,push_cast,if_true,ql,qy,qq,qv,qz,qu,zL]<;>rfl)
theorem Xo.at {a0 a1 a2 a3 a4 a5 r}(h:Xo a0 a1 a2 a3 a4 a5=some r)(σ:zf):ACalls qf 45 [.int .i64 a0,.ds true (qb ZC a1) (qa a1) false,.ds true (qb zd a2) (qa a2) false,.agg (zd a3),.ds true (qb yd a4) (qa a4) false,.int .i64 a5] σ (fun r' σ'=>r'=.tup [newV r.1 σ.length,.int .i64 r.2]∧σ'=σ++(ZW r.1).map (vdS fun i=>σ.length+i)):=
 ACalls.newAt (x:=fun n=>.tup [newV r.1 n,.int .i64 r.2]) (Xo.ok h) (fun n=>by obtain⟨o,e⟩:=r; cases o<;>simp only[newV_none,vdX,AV.ren,vcj,qF]) (by simp only[push_cast]) σ
def ZD (a0:Yw)(a1:Int)(a2:Int):Option (Zd×Int):=
 (if ((vax a0.freplies.l (⟨a1,a2⟩:wb)).isSome)=true then some ((vax a0.freplies.l (⟨a1,a2⟩:wb)).getD (⟨0,0,0,0,0,[],0,[]⟩:Zd),2) else (if (((vax a0.flast.l a1).isSome)&&(decide (a2≤(vax a0.flast.l a1).getD 0)))=true then none else some ((⟨0,0,0,0,0,[],0,[]⟩:Zd),1)))
theorem ZD.ok {a0 a1 a2 r}(h:ZD a0 a1 a2=some r):ACalls qf 132 [.op 0 0 0,.int .i64 a1,.int .i64 a2] [.cells 0 [.int .i64 a0.fsize,.os true 2 1 (a0.vorder) 0 (qa a0.forder) false,.mp 2,.mp 3],.cells (a0.vorder) (qb zC a0.forder),.map (xp zV yw a0.freplies.l) (some (a0.freplies.bs,a0.freplies.ck)),.map (xp (AV.int .i64) (AV.int .i64) a0.flast.l) (some (a0.flast.bs,a0.flast.ck))] (fun r' σ'=>r'=.tup [.agg (zH r.1),.int .i64 r.2]∧σ'=[.cells 0 [.int .i64 a0.fsize,.os true 2 1 (a0.vorder) 0 (qa a0.forder) false,.mp 2,.mp 3],.cells (a0.vorder) (qb zC a0.forder),.map (xp zV yw a0.freplies.l) (some (a0.freplies.bs,a0.freplies.ck)),.map (xp (AV.int .i64) (AV.int .i64) a0.flast.l) (some (a0.flast.bs,a0.flast.ck))]):=by
 refine ZH [0,1,2,3] (rs:=[.cell 6 43,.tmp 7]) U Tryz.func132 rfl Tryz.ntmps132 rfl Tryz.call132 (by simp) rfl ?_;refine zu [(0,.op 0 0 0),(1,.int .i64 a1),(2,.int .i64 a2)] ⟨rfl,rfl,rfl,trivial⟩ ?_;unfold ZD at h;refine O [0,1,2,6] ?_
 refine za fun Z1 hZ1=>?_
 have f2:=fun (o0:Y3) (o1:Y3) (x:zf)=>vbe (T:=tab) (t:=205) (ek:=zV) (ev:=yw) (z:=(⟨0,0,0,0,0,[],0,[]⟩:Zd)) KA268 rfl rfl rfl rfl a0.freplies.l (⟨a1,a2⟩:wb) true (o0::o1::.map (xp zV yw a0.freplies.l) (some (a0.freplies.bs,a0.freplies.ck))::x) 2 rfl
 simp only[zV,zC,yw,zH] at f2
 refine rg U [0,1,2,6,8,9] fun K J=>?_
 simp only[go_sem,qd,qg,qc,qe,reduceCtorEq,vaT,if_false,if_true,f2];apply J
 refine O [0,1,2,6,8,23] ?_;refine zB (b:=((vax a0.freplies.l (⟨a1,a2⟩:wb)).isSome)) rfl (fun hc3=>?_) (fun hc3=>?_)
 · rw[if_pos hc3] at h;refine O [6,7] ?_;apply yE;cases h;simp only[Yk,xg,xw,wu,exists_eq_left',go_sem,qg,qc,qe,zH];refine⟨by decide,by simp,?_,?_⟩
   · first|rfl|(simp only[go_sem,qd,qg,qc,qe,qj,qr,reduceIte,reduceCtorEq,push_cast,if_true,qw,ql,qy,qq,qE,qv,qM,qI,qz,qu,qn,zL,zC,zH]<;>rfl)
   first|rfl|(simp only[go_sem,qc,qe,reduceCtorEq,push_cast,if_true,ql,qy,qq,zL]<;>rfl)
 rw[wn hc3] at h;apply zg;apply hZ1
 refine za fun Z4 hZ4=>?_
 have f5:=fun (o0:Y3) (o1:Y3) (o2:Y3) (x:zf)=>vbe (T:=tab) (t:=206) (ek:=(AV.int .i64)) (ev:=(AV.int .i64)) (z:=0) (veh.int rfl rfl rfl rfl) rfl rfl rfl rfl a0.flast.l a1 true (o0::o1::o2::.map (xp (AV.int .i64) (AV.int .i64) a0.flast.l) (some (a0.flast.bs,a0.flast.ck))::x) 3 rfl
 refine rg U [2,6,10,11] fun K J=>?_
 simp only[go_sem,qd,qc,qe,reduceCtorEq,vaT,if_false,if_true,f5];apply J
 refine rc [6,39] fun K J=>?_
 refine κ 2 ?_;refine cut (b:=((vax a0.flast.l a1).isSome)) (hb:=boolP_eq _) 4 35 39 [6] (((vax a0.flast.l a1).isSome)&&(decide (a2≤(vax a0.flast.l a1).getD 0))) qF rfl ?_;refine nkN J ?_;refine zB (b:=(((vax a0.flast.l a1).isSome)&&(decide (a2≤(vax a0.flast.l a1).getD 0)))) rfl (fun hc6=>?_) (fun hc6=>?_)
 · rw[if_pos hc6] at h;cases h
 rw[wn hc6] at h;apply zg;apply hZ4;refine O [6,7] ?_;apply yE;cases h;simp only[Yk,xg,xw,wu,exists_eq_left',go_sem,qg,qc,qe,zH];refine⟨by decide,by simp,?_,?_⟩
 · first|rfl|(simp only[go_sem,qd,qg,qc,qe,qj,qr,reduceIte,reduceCtorEq,push_cast,if_true,qw,ql,qy,qq,qE,qv,qM,qI,qz,qu,qn,zL,zC,zH]<;>rfl)
 first|rfl|(simp only[go_sem,qc,qe,reduceCtorEq,push_cast,if_true,ql,qy,qq,zL]<;>rfl)
def w8.l2 (a0:List Int)(a1:Int):Nat→Option Int
 |0=>none
 |k2+1=>(if 0<(qa a0:Int) then (Yl a0 0).bind fun y7=>(if a1=y7 then some 0 else none) else none)
def w8 (a0:List Int)(a1:Int):Option Int:=
 (w8.l2 a0 a1 yp)
theorem w8.ok {a0 a1 r}(h:w8 a0 a1=some r):ACalls qf 174 [.ds true (qb ZC a0) (qa a0) false,.int .i64 a1] [] (fun r' _=>r'=.int .i64 r):=by
 refine zk (rs:=[.tmp 4]) U Tryz.func174 rfl Tryz.ntmps174 rfl Tryz.call174 (by simp) ?_;refine zu [(0,.ds true (qb ZC a0) (qa a0) false),(1,.int .i64 a1)] ⟨rfl,rfl,trivial⟩ ?_;unfold w8 at h;refine O [0,1] ?_
 refine za fun Z1 hZ1=>?_
 refine O [0,1,7,8] ?_;apply zj;refine zG (fun m L τ=>∃ (k2:Nat),m=0+k2∧L=[(0,.ds true (qb ZC a0) (qa a0) false),(1,.int .i64 a1),(7,.int .i64 (qa a0:Int)),(8,.int .i64 0)]∧τ=([]:zf)∧w8.l2 a0 a1 k2=some r) _ ⟨yp,rfl,rfl,rfl,h⟩ .s ?_;rintro m L τ ⟨k2,rfl,rfl,rfl,h⟩
 rcases k2 with _|k2
 · cases h
 simp only[w8.l2] at h;refine O [0,1,7,8,9] ?_
 refine za fun Z3 hZ3=>?_
 refine zR rfl (fun hc4=>?_) (fun hc4=>?_)
 · rw[if_pos hc4] at h;have t5:=eq_true hc4;apply zg;apply hZ3
   refine za fun Z6 hZ6=>?_
   apply zj;refine rgW [0,1,5,7,8] t5 ?_;obtain⟨y7,hy7,h⟩:=bind_some h;have f8:=E26.idxS hy7;have f9:=E26.fldS0 (f:=3) rfl rfl hy7
   refine rg U [0,1,5,7,8,16] fun K J=>?_
   simp only[go_sem,qd,qc,reduceCtorEq,ZC,f8,f9];apply J
   refine zR rfl (fun hc10=>?_) (fun hc10=>?_)
   · rw[if_pos hc10] at h;have t11:=eq_true hc10;refine rgW [4] t11 ?_;cases h;exact rtA
   rw[if_neg hc10] at h;have t12:=eq_false hc10;apply zg;apply hZ6;cases h
 rw[if_neg hc4] at h;have t13:=eq_false hc4;apply zJ;apply hZ1;cases h
def ZO (a0:wx)(a1:Zd):Option (vbi×Int):=
 (w8 a0.fnumbers a1.fVersion).bind fun r1=>(if r1<0 then none else (Yl a0.fschemas (IntKind.i64.wrap ((qa a0.fschemas:Int)-1))).bind fun y6=>(Yl a0.fschemas r1).bind fun y9=>bnd (wa y9 a1.fMethod) fun r12=>bnd (wa y6 a1.fMethod) fun r13=>(if ((!r12.2)||(!r13.2))=true then none else (grd (qa a1.fBody≤9223372036854775807)).bind fun _u16=>(XB y9 r12.1.fIn a1.fBody).bind fun r18=>(if r18.2=0 then (xR y9 y6 r12.1.fIn r13.1.fIn).bind fun r23=>(XO r23.1 r18.1).bind fun r24=>some ((⟨y9,r13.1,r12.1,r24.1⟩:vbi),r24.2) else none)))
theorem ZO.ok {a0 a1 r}(h:ZO a0 a1=some r):ACalls qf 133 [.op 0 0 0,.agg (zH a1)] [.cells 0 [.int .i64 a0.fself,.ds true (qb ZC a0.fnumbers) (qa a0.fnumbers) false,.ds true (qb zd a0.fschemas) (qa a0.fschemas) false,.str a0.fnewest.fName,.ds true (qb ze a0.fnewest.fMessages) (qa a0.fnewest.fMessages) false,.ds true (qb zh a0.fnewest.fEnums) (qa a0.fnewest.fEnums) false,.ds true (qb zv a0.fnewest.fMethods) (qa a0.fnewest.fMethods) false,.ds true (qb yd a0.frows) (qa a0.frows) false,.op 1 0 0,.os true 8 5 (a0.veffects) 0 (qa a0.feffects) false],.cells 0 [.int .i64 a0.fcache.fsize,.os true 2 2 (a0.fcache.vorder) 0 (qa a0.fcache.forder) false,.mp 3,.mp 4],.cells (a0.fcache.vorder) (qb zC a0.fcache.forder),.map (xp zV yw a0.fcache.freplies.l) (some (a0.fcache.freplies.bs,a0.fcache.freplies.ck)),.map (xp (AV.int .i64) (AV.int .i64) a0.fcache.flast.l) (some (a0.fcache.flast.bs,a0.fcache.flast.ck)),.cells (a0.veffects) (qb zo a0.feffects)] (fun r' σ'=>r'=.tup [.agg (xL r.1),.int .i64 r.2]∧σ'=[.cells 0 [.int .i64 a0.fself,.ds true (qb ZC a0.fnumbers) (qa a0.fnumbers) false,.ds true (qb zd a0.fschemas) (qa a0.fschemas) false,.str a0.fnewest.fName,.ds true (qb ze a0.fnewest.fMessages) (qa a0.fnewest.fMessages) false,.ds true (qb zh a0.fnewest.fEnums) (qa a0.fnewest.fEnums) false,.ds true (qb zv a0.fnewest.fMethods) (qa a0.fnewest.fMethods) false,.ds true (qb yd a0.frows) (qa a0.frows) false,.op 1 0 0,.os true 8 5 (a0.veffects) 0 (qa a0.feffects) false],.cells 0 [.int .i64 a0.fcache.fsize,.os true 2 2 (a0.fcache.vorder) 0 (qa a0.fcache.forder) false,.mp 3,.mp 4],.cells (a0.fcache.vorder) (qb zC a0.fcache.forder),.map (xp zV yw a0.fcache.freplies.l) (some (a0.fcache.freplies.bs,a0.fcache.freplies.ck)),.map (xp (AV.int .i64) (AV.int .i64) a0.fcache.flast.l) (some (a0.fcache.flast.bs,a0.fcache.flast.ck)),.cells (a0.veffects) (qb zo a0.feffects)]):=by
 refine ZH [0,1,2,3,4,5] (rs:=[.cell 4 216,.tmp 5]) U Tryz.func133 rfl Tryz.ntmps133 rfl Tryz.call133 (by simp) rfl ?_;refine zu [(0,.op 0 0 0),(1,.agg (zH a1))] ⟨rfl,rfl,trivial⟩ ?_;unfold ZO at h;refine rgW [0,3,4] @zH.eq_1 ?_;obtain⟨r1,hr1,h⟩:=bind_some h
 refine rd [0,3,4,6] fun K J=>?_
 refine DW.start (T:=tab) [.any,.any,.any,.at [],.any,.at [],.eff,.any] [] ?_;refine DW.runN U 6 ?_;simp only[go_sem,qd,qc,qe,reduceCtorEq];refine DW.call rfl rfl rfl ((w8.ok hr1).c _) ?_;refine DW.runN U 1 ?_;simp only[go_sem,qd,qc,reduceCtorEq];refine DW.fin U (by decide +kernel) rfl ?_;simp only[zq,upd,qc,reduceIte,yD,xj];apply J
 refine za fun Z2 hZ2=>?_
 refine O [0,3,4,6,23] ?_;refine zR rfl (fun hc3=>?_) (fun hc3=>?_)
 · rw[if_pos hc3] at h;have t4:=eq_true hc3;cases h
 rw[if_neg hc3] at h;have t5:=eq_false hc3;apply zg;apply hZ2;obtain⟨y6,hy6,h⟩:=bind_some h;have f7:=E33.idxS hy6;have f8:=E33.loadS rfl rfl hy6
 refine rd [0,3,4,6,7] fun K J=>?_
 refine DW.start (T:=tab) [.any,.any,.any,.own 1 [],.any,.any,.any,.own 1 [],.own 1 [],.any,.any,.own 1 [],.eff,.eff] [(1,[])] ?_;refine DW.runN U 8 ?_;simp only[go_sem,qd,qc,qe,reduceCtorEq,t5];refine DW.runN U 6 ?_;simp only[go_sem,qd,qg,qc,qe,reduceCtorEq,zd,f7,f8];refine DW.fin U (by decide +kernel) rfl ?_;simp only[zq,upd,qc,reduceIte,yD,xj];apply J
 obtain⟨y9,hy9,h⟩:=bind_some h;have f10:=E33.idxS hy9;have f11:=E33.loadS rfl rfl hy9;refine rgW [3,4,7,8] (aI @zd.eq_1 (aI f10 f11)) ?_;refine O [3,4,7,8] ?_
 refine rc [3,4,7,8,9] fun K J=>?_
 obtain⟨r12,hr12,h⟩:=yb h;refine κ 4 ?_;refine clN rfl rfl rfl ((wa.ok hr12).c _) ?_;refine rnW 6 (aI @zv.eq_1 @xL.eq_1) ?_;refine nkN J ?_
 refine rc [3,4,7,8,9,10] fun K J=>?_
 obtain⟨r13,hr13,h⟩:=yb h;refine κ 3 ?_;refine clN rfl rfl rfl ((wa.ok hr13).c _) ?_;refine rnW 6 (aI @zv.eq_1 @xL.eq_1) ?_;refine nkN J ?_
 refine za fun Z14 hZ14=>?_
 refine rc [3,4,7,8,67] fun K J=>?_
 refine κ 3 ?_;refine cut (b:=(!r12.2)) (hb:=boolP_eq _) 3 64 67 [3,4,7,8] ((!r12.2)||(!r13.2)) t5 rfl ?_;refine nkN J ?_;refine zB (b:=((!r12.2)||(!r13.2))) rfl (fun hc15=>?_) (fun hc15=>?_)
 · rw[if_pos hc15] at h;cases h
 rw[wn hc15] at h;apply zg;apply hZ14
 refine rc [4,7,8,11,12] fun K J=>?_
 obtain⟨_u16,hu16,h⟩:=bind_some h;have gu16:=Yb hu16;have gu16t:=eq_true gu16;have f17:=conv_s2b (T:=tab) (src:=9) (dst:=48) rfl rfl rfl rfl rfl rfl (Yb hu16);obtain⟨r18,hr18,h⟩:=bind_some h;refine rnW 8 f17 ?_;refine vcz (L:=[(4,.op 6 0 0),(7,.op 7 0 0),(8,.op 8 0 0),(71,.agg (zd y9)),(74,.str r12.1.fIn),(77,.ds true (qb XD a1.fBody) (qa a1.fBody) false)]) (τ:=[.cells 0 [.int .i64 a0.fself,.ds true (qb ZC a0.fnumbers) (qa a0.fnumbers) false,.ds true (qb zd a0.fschemas) (qa a0.fschemas) false,.str a0.fnewest.fName,.ds true (qb ze a0.fnewest.fMessages) (qa a0.fnewest.fMessages) false,.ds true (qb zh a0.fnewest.fEnums) (qa a0.fnewest.fEnums) false,.ds true (qb zv a0.fnewest.fMethods) (qa a0.fnewest.fMethods) false,.ds true (qb yd a0.frows) (qa a0.frows) false,.op 1 0 0,.os true 8 5 (a0.veffects) 0 (qa a0.feffects) false],.cells 0 [.int .i64 a0.fcache.fsize,.os true 2 2 (a0.fcache.vorder) 0 (qa a0.fcache.forder) false,.mp 3,.mp 4],.cells (a0.fcache.vorder) (qb zC a0.fcache.forder),.map (xp zV yw a0.fcache.freplies.l) (some (a0.fcache.freplies.bs,a0.fcache.freplies.ck)),.map (xp (AV.int .i64) (AV.int .i64) a0.fcache.flast.l) (some (a0.fcache.flast.bs,a0.fcache.flast.ck)),.cells (a0.veffects) (qb zo a0.feffects),.cells 0 [.str [],.ds true [] 0 true,.ds true [] 0 true,.ds true [] 0 true,.str [],.str [],.str [],.str [],.str [],.str [],.int .i64 0,.int .i64 0,.str [],.ds true [] 0 true,.ds true [] 0 true],.cells 0 (zd y6),.cells 0 [.str y9.fName,.ds true (qb ze y9.fMessages) (qa y9.fMessages) false,.ds true (qb zh y9.fEnums) (qa y9.fEnums) false,.ds true (qb zv y9.fMethods) (qa y9.fMethods) false,.str r13.1.fName,.str r13.1.fIn,.str r13.1.fOut,.str r12.1.fName,.str r12.1.fIn,.str r12.1.fOut,.int .i64 0,.int .i64 0,.str [],.ds true [] 0 true,.ds true [] 0 true]]) (.t [0,1,2,3,4,5,7,8,9] false) ?_;refine clN rfl rfl rfl ((XB.ok hr18).c _) ?_;refine rnW 6 (aI @zb.eq_1 @zd.eq_1) ?_;refine nkN J ?_
 refine za fun Z19 hZ19=>?_
 refine O [4,7,8,11,12,82] ?_;refine zR rfl (fun hc20=>?_) (fun hc20=>?_)
 · rw[if_neg hc20] at h;have t21:=eq_false hc20;cases h
 rw[if_pos hc20] at h;have t22:=eq_true hc20;apply zg;apply hZ19
 refine rc [4,8,11,13] fun K J=>?_
 obtain⟨r23,hr23,h⟩:=bind_some h;refine rnW 9 t22 ?_;refine clN rfl rfl rfl ((xR.ok hr23).c _) ?_;refine rnW 6 @yr.eq_1 ?_;refine nkN J ?_
 refine rc [4,8,12] fun K J=>?_
 obtain⟨r24,hr24,h⟩:=bind_some h;refine κ 2 ?_;refine clN rfl rfl rfl ((XO.ok hr24).c _) ?_;refine rnW 6 (aI @zb.eq_1 @xL.eq_1) ?_;refine nkN J ?_;refine O [4,5] ?_;apply yE;cases h;simp only[Yk,xg,xw,wu,exists_eq_left',go_sem,qg,qc,qe,xL];refine⟨by decide,by simp,?_,?_⟩
 · first|rfl|(simp only[go_sem,push_cast,qy,qq,qv,qz,qu,zL]<;>rfl)
 first|rfl|(simp only[go_sem,qc,qe,reduceCtorEq,push_cast,if_true,ql,qy,qq,qv,qz,qu,zL]<;>rfl)
def xI.j5 (a1:zi):Option Bool:=
 some (decide (a1.fKind=1))
def xI.j18 (a0:YE)(a1:zi)(x17:Bool):Option Bool:=
 (if x17=true then bnd (if a1.fKind=1 then bnd (Zo a0 a1.fN) fun r21=>r21 else false) fun c21=>some c21 else (if a0.fKind=4 then (if a1.fKind=2 then (xD a1.fS).bind fun r29=>some r29 else some false).bind fun c29=>some c29 else (if a0.fKind=5 then some (decide (a1.fKind=2)) else some (decide (a1.fKind=3)))))
def xI (a0:YE)(a1:zi):Option Bool:=
 (if a0.fKind=1 then (xI.j5 a1) else (if a0.fKind=2 then (xI.j5 a1) else (if a0.fKind=3 then (xI.j18 a0 a1 (decide (a0.fKind=3))) else (xI.j18 a0 a1 (decide (a0.fKind=6))))))
theorem xI.ok {a0 a1 r}(h:xI a0 a1=some r):ACalls qf 207 [.agg (wd a0),.agg (zb a1)] [] (fun r' _=>r'=.bool r):=by
 refine zk (rs:=[.tmp 4]) U Tryz.func207 rfl Tryz.ntmps207 rfl Tryz.call207 (by simp) ?_;refine zu [(0,.agg (wd a0)),(1,.agg (zb a1))] ⟨rfl,rfl,trivial⟩ ?_;unfold xI at h;refine rgW [2,3] (aI @zb.eq_1 @wd.eq_1) ?_
 refine za fun Z1 hZ1=>?_
 refine O [2,3,6] ?_;apply zj
 refine za fun Z2 hZ2=>?_
 apply zj
 refine za fun Z3 hZ3=>?_
 apply zj
 refine za fun Z4 hZ4=>?_
 apply zj;refine we (fun L τ=>L=[(3,.op 0 0 0)]∧τ=([.cells 0 (zb a1)]:zf)∧xI.j5 a1=some r) ?_ ?_
 · apply zj;apply zj
   refine za fun Z7 hZ7=>?_
   refine za fun Z8 hZ8=>?_
   refine O [2,3,6,7] ?_;refine zR rfl (fun hc9=>?_) (fun hc9=>?_)
   · rw[if_pos hc9] at h;have t10:=eq_true hc9;apply zJ;exact⟨_,_,⟨rfl,rfl,h⟩,(.t [1] false)⟩
   rw[if_neg hc9] at h;have t11:=eq_false hc9;apply zg;apply hZ8
   refine za fun Z12 hZ12=>?_
   refine rgW [2,3,6,9] t11 ?_;refine zR rfl (fun hc13=>?_) (fun hc13=>?_)
   · rw[if_pos hc13] at h;have t14:=eq_true hc13;apply zJ;exact⟨_,_,⟨rfl,rfl,h⟩,(.t [1] false)⟩
   rw[if_neg hc13] at h;have t15:=eq_false hc13;apply zg;apply hZ12
   refine za fun Z16 hZ16=>?_
   refine we (fun L τ=>∃ (x17:Bool),L=[(2,.op 0 0 0),(3,.op 1 0 0),(6,.int .i64 a0.fKind),(11,.bool x17)]∧τ=([.cells 0 [.int .i64 a0.fKind,.str a0.fName],.cells 0 (zb a1)]:zf)∧xI.j18 a0 a1 x17=some r) ?_ ?_
   · refine rgW [2,3,6,11] t15 ?_;refine zR rfl (fun hc38=>?_) (fun hc38=>?_)
     · rw[if_pos hc38] at h;have t39:=eq_true hc38;apply zg;exact⟨_,_,⟨decide (a0.fKind=3),rfl,rfl,h⟩,.s⟩
     rw[if_neg hc38] at h;have t40:=eq_false hc38
     refine rgE U [2,3,6,11] fun K J=>?_
     simp only[go_sem,qd,qc,t40];apply J
     exact⟨_,_,⟨decide (a0.fKind=6),rfl,rfl,h⟩,.s⟩
   rintro _ _ ⟨x17,rfl,rfl,h⟩;unfold xI.j18 at h;refine zB (b:=x17) rfl (fun hc19=>?_) (fun hc19=>?_)
   · rw[if_pos hc19] at h;apply zJ;apply hZ4
     refine za fun Z20 hZ20=>?_
     refine rc [4] fun K J=>?_
     refine κ 4 ?_;obtain⟨c21,hc21,h⟩:=yb h;refine yv 5 (fun L τ=>L=[(29,.bool c21)]∧τ=([.cells 0 [.int .i64 a0.fKind,.str a0.fName],.cells 0 (zb a1)]:zf)) ?_ ?_
     · refine Yz 24 rfl (fun hg24=>?_) (fun hg24=>?_)
       · have t22:=eq_true hg24;rw[if_pos hg24] at hc21;obtain⟨r23,hr23,hc21⟩:=yb hc21;refine κ 3 ?_;refine clN rfl rfl rfl ((Zo.ok hr23).c _) ?_;refine κ 1 ?_;subst hc21;refine zl ⟨rfl,_,_,⟨rfl,rfl⟩,.p t22⟩
       have t24:=eq_false hg24;rw[if_neg hg24] at hc21;refine κ 5 ?_;subst hc21;refine zl ⟨rfl,_,_,⟨rfl,rfl⟩,.p t24⟩
     rintro _ _ ⟨rfl,rfl⟩;refine κ 1 ?_;refine nkN J ?_;cases h;exact rtA
   rw[wn hc19] at h;apply zg;apply hZ16
   refine za fun Z25 hZ25=>?_
   refine O [3,6,14] ?_;refine zR rfl (fun hc26=>?_) (fun hc26=>?_)
   · rw[if_pos hc26] at h;have t27:=eq_true hc26;apply zJ;apply hZ3
     refine za fun Z28 hZ28=>?_
     refine rc [4] fun K J=>?_
     refine rnW 4 t27 ?_;obtain⟨c29,hc29,h⟩:=bind_some h;refine yv 4 (fun L τ=>L=[(37,.bool c29)]∧τ=([.cells 0 [.int .i64 a0.fKind,.str a0.fName],.cells 0 (zb a1)]:zf)) ?_ ?_
     · refine Yz 33 rfl (fun hg33=>?_) (fun hg33=>?_)
       · have t30:=eq_true hg33;rw[if_pos hg33] at hc29;obtain⟨r31,hr31,hc29⟩:=bind_some hc29;refine κ 2 ?_;refine clN rfl rfl rfl ((xD.ok hr31).c _) ?_;refine κ 1 ?_;cases hc29;refine zl ⟨rfl,_,_,⟨rfl,rfl⟩,.p t30⟩
       have t32:=eq_false hg33;rw[if_neg hg33] at hc29;refine κ 4 ?_;cases hc29;refine zl ⟨rfl,_,_,⟨rfl,rfl⟩,.p t32⟩
     rintro _ _ ⟨rfl,rfl⟩;refine κ 1 ?_;refine nkN J ?_;cases h;exact rtA
   rw[if_neg hc26] at h;have t33:=eq_false hc26;apply zg;apply hZ25;refine rgW [3,16] t33 ?_;refine zR rfl (fun hc34=>?_) (fun hc34=>?_)
   · rw[if_pos hc34] at h;have t35:=eq_true hc34;apply zJ;apply hZ2
     refine za fun Z36 hZ36=>?_
     refine rgW [4] t35 ?_;cases h;exact rtA
   rw[if_neg hc34] at h;have t37:=eq_false hc34;apply zg;apply hZ7;apply zJ;apply hZ1;refine rgW [4] t37 ?_;cases h;exact rtA
 rintro _ _ ⟨rfl,rfl,h⟩;unfold xI.j5 at h
 refine za fun Z6 hZ6=>?_
 refine O [4] ?_;cases h;exact rtA
def zN.j29 (x11:Int)(l9:List zi)(rec15:Int→List zi→Option (List zi×Bool))(m3_28:zi):Option (List zi×Bool):=
 (vao (qa l9+1) 80).bind fun _u30=>(rec15 (x11+1) (l9++[m3_28]))
def zN.l15 (yg:zm→zz→zi→Option zi)(a0:zm)(a1:yY):List zi→Int→List zi→Option (List zi×Bool)
 |[],x11,l9=>(if a1.fLabel=1 then (Yl l9 0).bind fun y17=>bnd (YF y17) fun r20=>some (!r20) else some true).bind fun c17=>some (l9,c17)
 |y15::q15,x11,l9=>(if a1.fType.fKind=1 then bnd (ZV y15.fN) fun r34=>(zN.j29 x11 l9 (zN.l15 yg a0 a1 q15) (⟨y15.fKind,r34,y15.fS,y15.fEntries,y15.fRest⟩:zi)) else (if a1.fType.fKind=7 then bnd (zP a0 a1.fType.fName) fun r38=>(yg a0 r38.1 y15).bind fun r39=>(zN.j29 x11 l9 (zN.l15 yg a0 a1 q15) r39) else (zN.j29 x11 l9 (zN.l15 yg a0 a1 q15) y15)))
def zN.j7 (yg:zm→zz→zi→Option zi)(a0:zm)(a1:yY)(x6:List zi):Option (List zi×Bool):=
 (zN.l15 yg a0 a1 x6 0 ([]:List zi))
def zN.l4 (yg:zm→zz→zi→Option zi)(a0:zm)(a1:yY)(a2:List zi):List zi→Int→Option (List zi×Bool)
 |[],x2=>(if a1.fLabel=3 then (zN.j7 yg a0 a1 a2) else (grd ((0:Int)≤IntKind.i64.wrap ((qa a2:Int)-1)∧IntKind.i64.wrap ((qa a2:Int)-1)≤(qa a2:Int)∧(qa a2:Int)≤(qa a2:Int))).bind fun _u43=>(zN.j7 yg a0 a1 (va3 a2 (IntKind.i64.wrap ((qa a2:Int)-1)) (qa a2:Int))))
 |y4::q4,x2=>(xI a1.fType y4).bind fun r50=>(if (!r50)=true then some (([]:List zi),false) else ((zN.l4 yg a0 a1 a2 q4) (x2+1)))
def zN.body (xl:zm→yY→(List zi)→Option (List zi×Bool))(yg:zm→zz→zi→Option zi)(a0:zm)(a1:yY)(a2:List zi):Option (List zi×Bool):=
 (zN.l4 yg a0 a1 a2 a2 0)
theorem zN.step (xl:zm→yY→(List zi)→Option (List zi×Bool))(yg:zm→zz→zi→Option zi)(X5:∀ (a0:zm) (a1:yY) (a2:List zi) (r:List zi×Bool),xl a0 a1 a2=some r→ACalls qf 164 [.agg (zd a0),.agg (z7 a1),.ds true (qb ya a2) (qa a2) false] [] (fun r' _=>r'=.tup [.ds true (qb ya r.1) (qa r.1) false,.bool r.2]))(Xt:∀ (a0:zm) (a1:zz) (a2:zi) (r:zi),yg a0 a1 a2=some r→ACalls qf 119 [.agg (zd a0),.agg (ze a1),.agg (zb a2)] [] (fun r' _=>r'=.agg (zb r)))(a0:zm)(a1:yY)(a2:List zi)(r:List zi×Bool)(h:zN.body xl yg a0 a1 a2=some r):ACalls qf 164 [.agg (zd a0),.agg (z7 a1),.ds true (qb ya a2) (qa a2) false] [] (fun r' _=>r'=.tup [.ds true (qb ya r.1) (qa r.1) false,.bool r.2]):=by
 have ev_project_field:=fun a0 a1 a2 r h σ=>(X5 a0 a1 a2 r h).c σ
 have ev_project_message:=fun a0 a1 a2 r h σ=>(Xt a0 a1 a2 r h).c σ
 refine zk (rs:=[.tmp 6,.tmp 7]) U Tryz.func164 rfl Tryz.ntmps164 rfl Tryz.call164 (by simp) ?_;refine zu [(0,.agg (zd a0)),(1,.agg (z7 a1)),(2,.ds true (qb ya a2) (qa a2) false)] ⟨rfl,rfl,rfl,trivial⟩ ?_;unfold zN.body at h;refine rgW [2,3,4] (aI @z7.eq_1 @zd.eq_1) ?_
 refine za fun Z1 hZ1=>?_
 refine O [2,3,4,15,16,17] ?_;apply zj
 refine xq 2 fun hb4=>?_
 replace hb4:qa a2≤9223372036854775807:=hb4.1;refine zG (fun m L τ=>∃ (p4 q4:List zi) (x2:Int),m=qa q4∧L=[(2,.ds true (qb ya a2) (qa a2) false),(3,.op 0 0 0),(4,.op 1 0 0),(15,.ds true (qb ya a2) (qa a2) false),(16,.int .i64 (qa a2:Int)),(17,.int .i64 x2)]∧τ=([.cells 0 (zd a0),.cells 0 (z7 a1)]:zf)∧a2=p4++q4∧x2=(qa p4:Int)∧zN.l4 yg a0 a1 a2 q4 x2=some r) _ ⟨[],a2,0,rfl,rfl,rfl,rfl,rfl,h⟩ .s ?_;rintro m L τ ⟨p4,q4,x2,rfl,rfl,rfl,hE4,hi4,h⟩
 rcases q4 with _|⟨y4,q4⟩
 · have hz4:=yH hE4 hi4;simp only[zN.l4] at h;refine rgW [2,3,4,15,16,17,18] hz4 ?_
   refine za fun Z5 hZ5=>?_
   refine zD rfl ?_;apply zJ;apply hZ1;refine we (fun L τ=>∃ (x6:List zi),L=[(2,.ds true (qb ya x6) (qa x6) false),(3,.op 0 0 0),(4,.op 1 0 0)]∧τ=([.cells 0 (zd a0),.cells 0 (z7 a1)]:zf)∧zN.j7 yg a0 a1 x6=some r) ?_ ?_
   · refine O [2,3,4,29] ?_;refine zR rfl (fun hc41=>?_) (fun hc41=>?_)
     · rw[if_neg hc41] at h;have t42:=eq_false hc41;obtain⟨_u43,hu43,h⟩:=bind_some h;have gu43:=Yb hu43;have f44:=E38.sl_lo gu43
       refine rgE U [2,3,4] fun K J=>?_
       simp only[go_sem,qd,qc,t42,f44];apply J
       exact⟨_,_,⟨va3 a2 (IntKind.i64.wrap ((qa a2:Int)-1)) (qa a2:Int),rfl,rfl,h⟩,.s⟩
     rw[if_pos hc41] at h;have t45:=eq_true hc41;apply zg;exact⟨_,_,⟨a2,rfl,rfl,h⟩,.s⟩
   rintro _ _ ⟨x6,rfl,rfl,h⟩;unfold zN.j7 at h;refine O [2,3,4,10] ?_;refine YA 10 5 rfl ?_;refine yX (L:=[(2,.ds true (qb ya x6) (qa x6) false),(3,.op 0 0 0),(4,.op 1 0 0),(10,.os true 5 2 0 0 (qa ([]:List zi)) false)]) (τ:=[.cells 0 (zd a0),.cells 0 (z7 a1),.cells 0 (qb ya ([]:List zi))]) .s ?_
   refine za fun Z8 hZ8=>?_
   refine O [3,4,10,35,36,37] ?_;apply zj
   refine xq 35 fun hb15=>?_
   replace hb15:qa x6≤9223372036854775807:=hb15.1;refine zG (fun m L τ=>∃ (p15 q15:List zi) (x11:Int) (l9:List zi) (v10:Nat),m=qa q15∧L=[(3,.op 0 0 0),(4,.op 1 0 0),(10,.os true 5 2 v10 0 (qa l9) false),(35,.ds true (qb ya x6) (qa x6) false),(36,.int .i64 (qa x6:Int)),(37,.int .i64 x11)]∧τ=([.cells 0 (zd a0),.cells 0 (z7 a1),.cells v10 (qb ya l9)]:zf)∧x6=p15++q15∧x11=(qa p15:Int)∧zN.l15 yg a0 a1 q15 x11 l9=some r) _ ⟨[],x6,0,([]:List zi),0,rfl,rfl,rfl,rfl,rfl,h⟩ .s ?_;rintro m L τ ⟨p15,q15,x11,l9,v10,rfl,rfl,rfl,hE15,hi15,h⟩
   rcases q15 with _|⟨y15,q15⟩
   · have hz15:=yH hE15 hi15;simp only[zN.l15] at h;refine rgW [3,4,10,35,36,37,38] hz15 ?_
     refine za fun Z16 hZ16=>?_
     refine zD rfl ?_;apply zJ;apply hZ8
     refine rc [6,7] fun K J=>?_
     refine κ 5 ?_;obtain⟨c17,hc17,h⟩:=bind_some h;refine yv 6 (fun L τ=>L=[(69,.os true 5 2 v10 0 (qa l9) false),(79,.bool c17)]∧τ=([.cells 0 (zd a0),.cells 0 (z7 a1),.cells v10 (qb ya l9)]:zf)) ?_ ?_
     · refine Yz 73 rfl (fun hg73=>?_) (fun hg73=>?_)
       · have t18:=eq_false hg73;rw[if_neg hg73] at hc17;refine κ 6 ?_;cases hc17;refine zl ⟨rfl,_,_,⟨rfl,rfl⟩,.p t18⟩
       have t19:=eq_true hg73;rw[if_pos hg73] at hc17;obtain⟨y20,hy20,hc17⟩:=bind_some hc17;have f21:=E38.idxO hy20;have f22:=E38.rdO hy20;obtain⟨r23,hr23,hc17⟩:=yb hc17;refine rnW 3 (aI @zb.eq_1 (aI @yC (aI f21 f22))) ?_;refine clN rfl rfl rfl ((YF.ok hr23).c _) ?_;refine κ 2 ?_;cases hc17;refine zl ⟨rfl,_,_,⟨rfl,rfl⟩,.p t19⟩
     rintro _ _ ⟨rfl,rfl⟩;refine κ 2 ?_;refine nkN J ?_;cases h;exact rtA
   obtain⟨hz15,hw15,hx15,hE'15,hi'15⟩:=yo hE15 hi15 hb15;simp only[zN.l15] at h;refine rgW [3,4,10,35,36,37,38] hz15 ?_
   refine za fun Z24 hZ24=>?_
   refine zE rfl ?_;apply zg;apply hZ24
   refine za fun Z25 hZ25=>?_
   apply zj;have f26:=E38.idxS hx15;have f27:=E38.loadS rfl rfl hx15;refine rgW [3,4,10,12,35,36,37] (aI @zb.eq_1 (aI @yC (aI f26 f27))) ?_;refine we (fun L τ=>∃ (m3_28:zi),L=[(3,.op 0 0 0),(4,.op 1 0 0),(10,.os true 5 2 v10 0 (qa l9) false),(12,.op 3 0 0),(35,.ds true (qb ya x6) (qa x6) false),(36,.int .i64 (qa x6:Int)),(37,.int .i64 x11)]∧τ=([.cells 0 (zd a0),.cells 0 (z7 a1),.cells v10 (qb ya l9),.cells 0 (zb m3_28)]:zf)∧zN.j29 x11 l9 (zN.l15 yg a0 a1 q15) m3_28=some r) ?_ ?_
   · refine O [3,4,10,12,35,36,37,43] ?_;apply zj;refine O [3,4,10,12,35,36,37,43,44] ?_;refine zR rfl (fun hc32=>?_) (fun hc32=>?_)
     · rw[if_pos hc32] at h;have t33:=eq_true hc32
       refine rcE [3,4,10,12,35,36,37] fun K J=>?_
       obtain⟨r34,hr34,h⟩:=yb h;refine rnW 2 t33 ?_;refine clN rfl rfl rfl ((ZV.ok hr34).c _) ?_;refine κ 2 ?_;refine nkN J ?_;exact⟨_,_,⟨(⟨y15.fKind,r34,y15.fS,y15.fEntries,y15.fRest⟩:zi),rfl,rfl,h⟩,.s⟩
     rw[if_neg hc32] at h;have t35:=eq_false hc32;refine rgW [3,4,10,12,35,36,37,50] t35 ?_;refine zR rfl (fun hc36=>?_) (fun hc36=>?_)
     · rw[if_pos hc36] at h;have t37:=eq_true hc36
       refine rc [3,4,10,12,13,35,36,37] fun K J=>?_
       obtain⟨r38,hr38,h⟩:=yb h;refine rnW 4 t37 ?_;refine clN rfl rfl rfl ((zP.ok hr38).c _) ?_;refine rnW 6 @ze.eq_1 ?_;refine nkN J ?_
       refine rcE [3,4,10,12,35,36,37] fun K J=>?_
       obtain⟨r39,hr39,h⟩:=bind_some h;refine κ 3 ?_;refine clN rfl rfl rfl (ev_project_message a0 r38.1 y15 r39 hr39 _) ?_;refine rnW 1 @zb.eq_1 ?_;refine nkN J ?_;exact⟨_,_,⟨r39,rfl,rfl,h⟩,(.t [0,1,2,3] false)⟩
     rw[if_neg hc36] at h;have t40:=eq_false hc36;apply zg;exact⟨_,_,⟨y15,rfl,rfl,h⟩,.s⟩
   rintro _ _ ⟨m3_28,rfl,rfl,h⟩;unfold zN.j29 at h;obtain⟨_u30,hu30,h⟩:=bind_some h;have gu30:=yR hu30;have f31:=(zU E38.len l9)
   refine rgE U [3,4,10,35,36,37] fun K J=>?_
   simp only[go_sem,qd,qg,qc,qe,qj,zM,yz,qV,qL,true_and,q5,yG,yf,yJ,gu30,f31,yZ,qW,qQ,AV.one,qD,qC,qk,qp,ql,qK];apply J
   apply hZ25
   refine rgE U [3,4,10,35,36,37] fun K J=>?_
   simp only[go_sem,qd,qc,hw15];apply J
   exact⟨_,_,_,qo q15.length,⟨p15++[y15],q15,x11+1,l9++[m3_28],v10+1,rfl,rfl,rfl,hE'15,hi'15,h⟩,(.t [0,1,2] false)⟩
 obtain⟨hz4,hw4,hx4,hE'4,hi'4⟩:=yo hE4 hi4 hb4;simp only[zN.l4] at h;refine rgW [2,3,4,15,16,17,18] hz4 ?_
 refine za fun Z46 hZ46=>?_
 refine zE rfl ?_;apply zg;apply hZ46
 refine za fun Z47 hZ47=>?_
 apply zj;have f48:=E38.idxS hx4;have f49:=E38.loadS rfl rfl hx4;refine rgW [2,3,4,9,15,16,17] (aI @zb.eq_1 (aI @yC (aI f48 f49))) ?_
 refine rc [2,3,4,15,16,17,25] fun K J=>?_
 obtain⟨r50,hr50,h⟩:=bind_some h;refine κ 3 ?_;refine clN rfl rfl rfl ((xI.ok hr50).c _) ?_;refine κ 1 ?_;refine nkN J ?_;refine zB (b:=(!r50)) rfl (fun hc51=>?_) (fun hc51=>?_)
 · rw[if_pos hc51] at h;refine O [6,7] ?_;cases h;exact rtA
 rw[wn hc51] at h;apply zg;apply hZ47
 refine rgE U [2,3,4,15,16,17] fun K J=>?_
 simp only[go_sem,qd,qc,hw4];apply J
 exact⟨_,_,_,qo q4.length,⟨p4++[y4],q4,x2+1,rfl,rfl,rfl,hE'4,hi'4,h⟩,(.t [0,1] false)⟩
def zS.j13 (x4:Int)(rec8:Int→List zp→Option zi)(l11:List zp):Option zi:=
 (rec8 (x4+1) l11)
def zS.l8 (xl:zm→yY→(List zi)→Option (List zi×Bool))(a0:zm)(a1:zz):List zp→Int→List zp→Option zi
 |[],x4,l2=>some (⟨3,0,[],l2,([]:List xF)⟩:zi)
 |y8::q8,x4,l2=>bnd (zQ a1 y8.fTag) fun r16=>(if (!r16.2)=true then (zS.j13 x4 (zS.l8 xl a0 a1 q8) l2) else (xl a0 r16.1 y8.fTrees).bind fun r19=>(if r19.2=true then (vao (qa l2+1) 32).bind fun _u21=>(zS.j13 x4 (zS.l8 xl a0 a1 q8) (l2++[(⟨y8.fTag,r19.1⟩:zp)])) else (zS.j13 x4 (zS.l8 xl a0 a1 q8) l2)))
def zS.body (xl:zm→yY→(List zi)→Option (List zi×Bool))(yg:zm→zz→zi→Option zi)(a0:zm)(a1:zz)(a2:zi):Option zi:=
 (zS.l8 xl a0 a1 a2.fEntries 0 ([]:List zp))
theorem zS.step (xl:zm→yY→(List zi)→Option (List zi×Bool))(yg:zm→zz→zi→Option zi)(X5:∀ (a0:zm) (a1:yY) (a2:List zi) (r:List zi×Bool),xl a0 a1 a2=some r→ACalls qf 164 [.agg (zd a0),.agg (z7 a1),.ds true (qb ya a2) (qa a2) false] [] (fun r' _=>r'=.tup [.ds true (qb ya r.1) (qa r.1) false,.bool r.2]))(Xt:∀ (a0:zm) (a1:zz) (a2:zi) (r:zi),yg a0 a1 a2=some r→ACalls qf 119 [.agg (zd a0),.agg (ze a1),.agg (zb a2)] [] (fun r' _=>r'=.agg (zb r)))(a0:zm)(a1:zz)(a2:zi)(r:zi)(h:zS.body xl yg a0 a1 a2=some r):ACalls qf 119 [.agg (zd a0),.agg (ze a1),.agg (zb a2)] [] (fun r' _=>r'=.agg (zb r)):=by
 have ev_project_field:=fun a0 a1 a2 r h σ=>(X5 a0 a1 a2 r h).c σ
 have ev_project_message:=fun a0 a1 a2 r h σ=>(Xt a0 a1 a2 r h).c σ
 refine zk (rs:=[.cell 6 37]) U Tryz.func119 rfl Tryz.ntmps119 rfl Tryz.call119 (by simp) ?_;refine zu [(0,.agg (zd a0)),(1,.agg (ze a1)),(2,.agg (zb a2))] ⟨rfl,rfl,rfl,trivial⟩ ?_;unfold zS.body at h;refine rgW [3,4,5,6] (aI @zb.eq_1 (aI @ze.eq_1 @zd.eq_1)) ?_;refine O [3,4,5,6,7] ?_;refine wV 4 3 2 rfl (by simp) rfl (L:=[(3,.op 0 0 0),(4,.op 1 0 0),(5,.op 2 0 0),(6,.op 3 0 0),(7,.op 4 0 0)]) (τ:=[.cells 0 (zd a0),.cells 0 (ze a1),.cells 0 (zb a2),.cells 0 [.int .i64 0,.int .i64 0,.str [],.ds true [] 0 true,.ds true [] 0 true],.cells 0 [.int .i64 3,.int .i64 0,.str [],.os true 2 5 0 0 (qa ([]:List zp)) false,.ds true [] 0 true],.cells 0 (qb zx ([]:List zp))]) .s ?_
 refine za fun Z1 hZ1=>?_
 refine O [3,4,6,7,16,17,18] ?_;apply zj
 refine xq 16 fun hb8=>?_
 replace hb8:qa a2.fEntries≤9223372036854775807:=hb8.1;refine zG (fun m L τ=>∃ (p8 q8:List zp) (x4:Int) (l2:List zp) (v3:Nat),m=qa q8∧L=[(3,.op 0 0 0),(4,.op 1 0 0),(6,.op 2 0 0),(7,.op 3 0 0),(16,.ds true (qb zx a2.fEntries) (qa a2.fEntries) false),(17,.int .i64 (qa a2.fEntries:Int)),(18,.int .i64 x4)]∧τ=([.cells 0 (zd a0),.cells 0 (ze a1),.cells 0 [.int .i64 0,.int .i64 0,.str [],.ds true [] 0 true,.ds true [] 0 true],.cells 0 [.int .i64 3,.int .i64 0,.str [],.os true 2 4 v3 0 (qa l2) false,.ds true [] 0 true],.cells v3 (qb zx l2)]:zf)∧a2.fEntries=p8++q8∧x4=(qa p8:Int)∧zS.l8 xl a0 a1 q8 x4 l2=some r) _ ⟨[],a2.fEntries,0,([]:List zp),0,rfl,rfl,rfl,rfl,rfl,h⟩ (.t [0,1,3,4,5] false) ?_;rintro m L τ ⟨p8,q8,x4,l2,v3,rfl,rfl,rfl,hE8,hi8,h⟩
 rcases q8 with _|⟨y8,q8⟩
 · have hz8:=yH hE8 hi8;simp only[zS.l8] at h;refine rgW [3,4,6,7,16,17,18,19] hz8 ?_
   refine za fun Z9 hZ9=>?_
   refine zD rfl ?_;apply zJ;apply hZ1;refine O [6] ?_;cases h;exact rtA
 obtain⟨hz8,hw8,hx8,hE'8,hi'8⟩:=yo hE8 hi8 hb8;simp only[zS.l8] at h;refine rgW [3,4,6,7,16,17,18,19] hz8 ?_
 refine za fun Z10 hZ10=>?_
 refine zE rfl ?_;apply zg;apply hZ10;refine we (fun L τ=>∃ (l11:List zp) (v12:Nat),L=[(3,.op 0 0 0),(4,.op 1 0 0),(6,.op 2 0 0),(7,.op 3 0 0),(16,.ds true (qb zx a2.fEntries) (qa a2.fEntries) false),(17,.int .i64 (qa a2.fEntries:Int)),(18,.int .i64 x4)]∧τ=([.cells 0 (zd a0),.cells 0 (ze a1),.cells 0 [.int .i64 0,.int .i64 0,.str [],.ds true [] 0 true,.ds true [] 0 true],.cells 0 [.int .i64 3,.int .i64 0,.str [],.os true 2 4 v12 0 (qa l11) false,.ds true [] 0 true],.cells v12 (qb zx l11)]:zf)∧zS.j13 x4 (zS.l8 xl a0 a1 q8) l11=some r) ?_ ?_
 · apply zj;have f14:=E34.idxS hx8;have f15:=E34.loadS rfl rfl hx8;refine rgW [3,4,6,7,9,16,17,18] (aI @zK.eq_1 (aI @yh (aI f14 f15))) ?_
   refine rc [3,4,6,7,9,10,11,16,17,18] fun K J=>?_
   obtain⟨r16,hr16,h⟩:=yb h;refine κ 3 ?_;refine clN rfl rfl rfl ((zQ.ok hr16).c _) ?_;refine rnW 6 @z7.eq_1 ?_;refine nkN J ?_
   refine za fun Z17 hZ17=>?_
   refine O [3,4,6,7,9,10,16,17,18,30] ?_;refine zB (b:=(!r16.2)) rfl (fun hc18=>?_) (fun hc18=>?_)
   · rw[if_pos hc18] at h;apply zJ;exact⟨_,_,⟨l2,v3,rfl,rfl,h⟩,(.t [0,1,2,3,4] false)⟩
   rw[wn hc18] at h;apply zg;apply hZ17
   refine rc [3,4,6,7,9,12,13,16,17,18] fun K J=>?_
   obtain⟨r19,hr19,h⟩:=bind_some h;refine κ 4 ?_;refine clN rfl rfl rfl (ev_project_field a0 r16.1 y8.fTrees r19 hr19 _) ?_;refine κ 5 ?_;refine nkN J ?_;refine O [3,4,6,7,9,12,16,17,18,39] ?_;refine zB (b:=r19.2) rfl (fun hc20=>?_) (fun hc20=>?_)
   · rw[if_pos hc20] at h;obtain⟨_u21,hu21,h⟩:=bind_some h;have gu21:=yR hu21;have f22:=(zU E34.len l2)
     refine rgE U [3,4,6,7,16,17,18] fun K J=>?_
     simp only[go_sem,qd,qg,qc,qe,qj,zM,yz,qV,qL,true_and,q5,yG,yf,yJ,gu21,f22,yZ,qW,qQ,AV.one,qD,qC,qk,qp,ql,qK];apply J
     exact⟨_,_,⟨l2++[(⟨y8.fTag,r19.1⟩:zp)],v3+1,rfl,rfl,h⟩,(.t [0,1,2,3,4] false)⟩
   rw[wn hc20] at h;apply zg;exact⟨_,_,⟨l2,v3,rfl,rfl,h⟩,(.t [0,1,2,3,4] false)⟩
 rintro _ _ ⟨l11,v12,rfl,rfl,h⟩;unfold zS.j13 at h
 refine rgE U [3,4,6,7,16,17,18] fun K J=>?_
 simp only[go_sem,qd,qc,hw8];apply J
 exact⟨_,_,_,qo q8.length,⟨p8++[y8],q8,x4+1,l11,v12,rfl,rfl,rfl,hE'8,hi'8,h⟩,.s⟩
mutual
def zN : Nat→zm→yY→(List zi)→Option (List zi×Bool)
 |0,_,_,_=>none
 |k+1,a0,a1,a2=>zN.body (zN k) (zS k) a0 a1 a2
def zS : Nat→zm→zz→zi→Option zi
 |0,_,_,_=>none
 |k+1,a0,a1,a2=>zS.body (zN k) (zS k) a0 a1 a2
end
theorem zN.all (k:Nat):(∀ (a0:zm) (a1:yY) (a2:List zi) (r:List zi×Bool),zN k a0 a1 a2=some r→ACalls qf 164 [.agg (zd a0),.agg (z7 a1),.ds true (qb ya a2) (qa a2) false] [] (fun r' _=>r'=.tup [.ds true (qb ya r.1) (qa r.1) false,.bool r.2]))∧(∀ (a0:zm) (a1:zz) (a2:zi) (r:zi),zS k a0 a1 a2=some r→ACalls qf 119 [.agg (zd a0),.agg (ze a1),.agg (zb a2)] [] (fun r' _=>r'=.agg (zb r))):=by
 induction k with
 |zero=>exact⟨(fun a0 a1 a2 r h=>by simp only[zN] at h; cases h),(fun a0 a1 a2 r h=>by simp only[zS] at h; cases h)⟩
 |succ k ih=>exact⟨(fun a0 a1 a2 r h=>zN.step _ _ ih.1 ih.2 a0 a1 a2 r (by simpa only [zN] using h)),(fun a0 a1 a2 r h=>zS.step _ _ ih.1 ih.2 a0 a1 a2 r (by simpa only [zS] using h))⟩
theorem zS.ev (k:Nat)(a0:zm)(a1:zz)(a2:zi)(r:zi)(h:zS k a0 a1 a2=some r)(σ:zf):ACalls qf 119 [.agg (zd a0),.agg (ze a1),.agg (zb a2)] σ (fun r' σ'=>r'=.agg (zb r)∧σ'=σ):=
 ((zN.all k).2 a0 a1 a2 r h).c σ
def Zi (a0:zm)(a1:List UInt8)(a2:zi):Option (zi×Bool):=
 bnd (zP a0 a1) fun r1=>(if (!r1.2)=true then some true else (zZ a0).bind fun r3=>some (!(decide (r3=0)))).bind fun c3=>(if (c3||(!(decide (a2.fKind=3))))=true then some true else (Yn a2).bind fun r5=>some (!r5)).bind fun c5=>(if c5=true then some ((⟨0,0,[],([]:List zp),([]:List xF)⟩:zi),false) else (zS yp a0 r1.1 a2).bind fun r8=>some (r8,true))
theorem Zi.ok {a0 a1 a2 r}(h:Zi a0 a1 a2=some r):ACalls qf 79 [.agg (zd a0),.str a1,.agg (zb a2)] [] (fun r' _=>r'=.tup [.agg (zb r.1),.bool r.2]):=by
 refine zk (rs:=[.cell 6 37,.tmp 7]) U Tryz.func79 rfl Tryz.ntmps79 rfl Tryz.call79 (by simp) ?_;refine zu [(0,.agg (zd a0)),(1,.str a1),(2,.agg (zb a2))] ⟨rfl,rfl,rfl,trivial⟩ ?_;unfold Zi at h;refine rgW [1,3,5,6] (aI @zb.eq_1 @zd.eq_1) ?_
 refine rc [3,5,6,8,9] fun K J=>?_
 obtain⟨r1,hr1,h⟩:=yb h;refine κ 2 ?_;refine clN rfl rfl rfl ((zP.ok hr1).c _) ?_;refine rnW 6 @ze.eq_1 ?_;refine nkN J ?_
 refine za fun Z2 hZ2=>?_
 refine rc [3,5,6,8,32] fun K J=>?_
 refine κ 3 ?_;obtain⟨c3,hc3,h⟩:=bind_some h;refine yv 4 (fun L τ=>L=[(3,.op 0 0 0),(5,.op 1 0 0),(6,.op 2 0 0),(8,.op 3 0 0),(22,.bool c3)]∧τ=([.cells 0 (zd a0),.cells 0 (zb a2),.cells 0 [.int .i64 0,.int .i64 0,.str [],.ds true [] 0 true,.ds true [] 0 true],.cells 0 (ze r1.1)]:zf)) ?_ ?_
 · refine xm (b:=(!r1.2)) 18 rfl (fun hg18=>?_) (fun hg18=>?_)
   · rw[if_pos hg18] at hc3;refine κ 4 ?_;cases hc3;refine zl ⟨rfl,_,_,⟨rfl,rfl⟩,.b hg18⟩
   rw[wn hg18] at hc3;obtain⟨r4,hr4,hc3⟩:=bind_some hc3;refine κ 1 ?_;refine clN rfl rfl rfl ((zZ.ok hr4).c _) ?_;refine κ 2 ?_;cases hc3;refine zl ⟨rfl,_,_,⟨rfl,rfl⟩,.b hg18⟩
 rintro _ _ ⟨rfl,rfl⟩;refine κ 1 ?_;refine cut (b:=c3) (hb:=boolP_eq _) 4 23 27 [3,5,6,8] (c3||(!(decide (a2.fKind=3)))) @zd.eq_1 rfl ?_;refine κ 1 ?_;obtain⟨c5,hc5,h⟩:=bind_some h;refine yv 4 (fun L τ=>L=[(3,.op 0 0 0),(5,.op 1 0 0),(6,.op 2 0 0),(8,.op 3 0 0),(32,.bool c5)]∧τ=([.cells 0 (zd a0),.cells 0 (zb a2),.cells 0 [.int .i64 0,.int .i64 0,.str [],.ds true [] 0 true,.ds true [] 0 true],.cells 0 (ze r1.1)]:zf)) ?_ ?_
 · refine xm (b:=(c3||(!(decide (a2.fKind=3))))) 28 rfl (fun hg28=>?_) (fun hg28=>?_)
   · rw[if_pos hg28] at hc5;refine κ 4 ?_;cases hc5;refine zl ⟨rfl,_,_,⟨rfl,rfl⟩,.b hg28⟩
   rw[wn hg28] at hc5;obtain⟨r6,hr6,hc5⟩:=bind_some hc5;refine κ 1 ?_;refine clN rfl rfl rfl ((Yn.ok hr6).c _) ?_;refine κ 2 ?_;cases hc5;refine zl ⟨rfl,_,_,⟨rfl,rfl⟩,.b hg28⟩
 rintro _ _ ⟨rfl,rfl⟩;refine nkN J ?_;refine zB (b:=c5) rfl (fun hc7=>?_) (fun hc7=>?_)
 · rw[if_pos hc7] at h;refine O [6,7] ?_;cases h;exact rtA
 rw[wn hc7] at h;apply zg;apply hZ2
 refine rc [6,7] fun K J=>?_
 obtain⟨r8,hr8,h⟩:=bind_some h;refine rnW 3 @zb.eq_1 ?_;refine clN rfl rfl rfl (zS.ev yp a0 r1.1 a2 r8 hr8 _) ?_;refine rnW 2 @zb.eq_1 ?_;refine nkN J ?_;cases h;exact rtA
def xH.l8 (a1:List xF):List xF→Int→Option Bool
 |[],x6=>some true
 |y8::q8,x6=>(Yl a1 x6).bind fun y14=>(if (!(decide (y8.fTag=y14.fTag)&&(decide (y8.fWire=y14.fWire)&&(decide (y8.fN=y14.fN)&&decide (y8.fB=y14.fB)))))=true then some false else ((xH.l8 a1 q8) (x6+1)))
def xH (a0:List xF)(a1:List xF):Option Bool:=
 (if (qa a0:Int)=(qa a1:Int) then (xH.l8 a1 a0 0) else some false)
theorem xH.ok {a0 a1 r}(h:xH a0 a1=some r):ACalls qf 120 [.ds true (qb zA a0) (qa a0) false,.ds true (qb zA a1) (qa a1) false] [] (fun r' _=>r'=.bool r):=by
 refine zk (rs:=[.tmp 4]) U Tryz.func120 rfl Tryz.ntmps120 rfl Tryz.call120 (by simp) ?_;refine zu [(0,.ds true (qb zA a0) (qa a0) false),(1,.ds true (qb zA a1) (qa a1) false)] ⟨rfl,rfl,trivial⟩ ?_;unfold xH at h;refine O [0,1] ?_
 refine za fun Z1 hZ1=>?_
 refine O [0,1,10] ?_;refine zR rfl (fun hc2=>?_) (fun hc2=>?_)
 · rw[if_neg hc2] at h;have t3:=eq_false hc2;refine rgW [4] t3 ?_;cases h;exact rtA
 rw[if_pos hc2] at h;have t4:=eq_true hc2;apply zg;apply hZ1
 refine za fun Z5 hZ5=>?_
 refine rgW [0,1,12,13] t4 ?_;apply zj
 refine xq 0 fun hb8=>?_
 replace hb8:qa a0≤9223372036854775807:=hb8.1;refine zG (fun m L τ=>∃ (p8 q8:List xF) (x6:Int),m=qa q8∧L=[(0,.ds true (qb zA a0) (qa a0) false),(1,.ds true (qb zA a1) (qa a1) false),(12,.int .i64 (qa a0:Int)),(13,.int .i64 x6)]∧τ=([]:zf)∧a0=p8++q8∧x6=(qa p8:Int)∧xH.l8 a1 q8 x6=some r) _ ⟨[],a0,0,rfl,rfl,rfl,rfl,rfl,h⟩ .s ?_;rintro m L τ ⟨p8,q8,x6,rfl,rfl,rfl,hE8,hi8,h⟩
 rcases q8 with _|⟨y8,q8⟩
 · have hz8:=yH hE8 hi8;simp only[xH.l8] at h;refine rgW [0,1,12,13,14] hz8 ?_
   refine za fun Z9 hZ9=>?_
   refine zD rfl ?_;apply zJ;apply hZ5;refine O [4] ?_;cases h;exact rtA
 obtain⟨hz8,hw8,hx8,hE'8,hi'8⟩:=yo hE8 hi8 hb8;simp only[xH.l8] at h;refine rgW [0,1,12,13,14] hz8 ?_
 refine za fun Z10 hZ10=>?_
 refine zE rfl ?_;apply zg;apply hZ10
 refine za fun Z11 hZ11=>?_
 apply zj;refine O [0,1,5,12,13] ?_;have f12:=E35.idxS hx8;have f13:=E35.loadS rfl rfl hx8;obtain⟨y14,hy14,h⟩:=bind_some h;have f15:=E35.idxS hy14;have f16:=E35.loadS rfl rfl hy14
 refine rd [0,1,12,13,24] fun K J=>?_
 refine DW.start (T:=tab) [.any,.any,.any,.at [],.any,.any,.any,.at [],.any] [] ?_;refine DW.runN U 8 ?_;simp only[go_sem,qd,qc,reduceCtorEq,zA,f12,f13,f15,f16];refine DW.runN U 1 ?_;simp only[go_sem,qd,qc,reduceCtorEq,evEqA,vaH,ceq];refine DW.fin U (by decide +kernel) rfl ?_;simp only[zq,upd,qc,reduceIte,yD,xj];apply J
 refine zB (b:=(!(decide (y8.fTag=y14.fTag)&&(decide (y8.fWire=y14.fWire)&&(decide (y8.fN=y14.fN)&&decide (y8.fB=y14.fB)))))) rfl (fun hc17=>?_) (fun hc17=>?_)
 · rw[if_pos hc17] at h;refine O [4] ?_;cases h;exact rtA
 rw[wn hc17] at h;apply zg;apply hZ11
 refine rgE U [0,1,12,13] fun K J=>?_
 simp only[go_sem,qd,qc,reduceCtorEq,hw8];apply J
 exact⟨_,_,_,qo q8.length,⟨p8++[y8],q8,x6+1,rfl,rfl,rfl,hE'8,hi'8,h⟩,.s⟩
def xW.body (xb:zi→zi→Option Bool)(yL:zp→zp→Option Bool)(zF:(List zp)→(List zp)→Option Bool)(zI:(List zi)→(List zi)→Option Bool)(a0:zi)(a1:zi):Option Bool:=
 (if (((decide (a0.fKind=a1.fKind))&&(decide (a0.fN=a1.fN)))&&(decide (a0.fS=a1.fS)))=true then (xH a0.fRest a1.fRest).bind fun r3=>some r3 else some false).bind fun c3=>(if c3=true then (zF a0.fEntries a1.fEntries).bind fun r5=>some r5 else some false).bind fun c5=>some c5
end
section
set_option maxRecDepth 4000
set_option maxHeartbeats 1000000
open AM
theorem xW.step (xb:zi→zi→Option Bool)(yL:zp→zp→Option Bool)(zF:(List zp)→(List zp)→Option Bool)(zI:(List zi)→(List zi)→Option Bool)(Yt:∀ (a0:zi) (a1:zi) (r:Bool),xb a0 a1=some r→ACalls qf 80 [.agg (zb a0),.agg (zb a1)] [] (fun r' _=>r'=.bool r))(ZQ:∀ (a0:zp) (a1:zp) (r:Bool),yL a0 a1=some r→ACalls qf 122 [.agg (zK a0),.agg (zK a1)] [] (fun r' _=>r'=.bool r))(yP:∀ (a0:List zp) (a1:List zp) (r:Bool),zF a0 a1=some r→ACalls qf 121 [.ds true (qb zx a0) (qa a0) false,.ds true (qb zx a1) (qa a1) false,.fn (.func 122) [] []] [] (fun r' _=>r'=.bool r))(xa:∀ (a0:List zi) (a1:List zi) (r:Bool),zI a0 a1=some r→ACalls qf 123 [.ds true (qb ya a0) (qa a0) false,.ds true (qb ya a1) (qa a1) false,.fn (.func 80) [] []] [] (fun r' _=>r'=.bool r))(a0:zi)(a1:zi)(r:Bool)(h:xW.body xb yL zF zI a0 a1=some r):ACalls qf 80 [.agg (zb a0),.agg (zb a1)] [] (fun r' _=>r'=.bool r):=by
 have ev_value_Same:=fun a0 a1 r h σ=>(Yt a0 a1 r h).c σ
 have ev_value_Same_1:=fun a0 a1 r h σ=>(ZQ a0 a1 r h).c σ
 have ev_slices_EqualFunc_Entry_value_Same_1:=fun a0 a1 r h σ=>(yP a0 a1 r h).c σ
 have ev_slices_EqualFunc_Tree_value_Same:=fun a0 a1 r h σ=>(xa a0 a1 r h).c σ
 refine zk (rs:=[.tmp 4]) U Tryz.func80 rfl Tryz.ntmps80 rfl Tryz.call80 (by simp) ?_;refine zu [(0,.agg (zb a0)),(1,.agg (zb a1))] ⟨rfl,rfl,trivial⟩ ?_;unfold xW.body at h;refine rgW [2,3] @zb.eq_1 ?_
 refine rc [4] fun K J=>?_
 refine κ 6 ?_;refine cut 6 10 16 [2,3] ((decide (a0.fKind=a1.fKind))&&(decide (a0.fN=a1.fN))) qF rfl ?_;refine κ 1 ?_;refine cut (b:=((decide (a0.fKind=a1.fKind))&&(decide (a0.fN=a1.fN)))) (hb:=boolP_eq _) 6 17 23 [3,2] (((decide (a0.fKind=a1.fKind))&&(decide (a0.fN=a1.fN)))&&(decide (a0.fS=a1.fS))) qF rfl ?_;refine κ 1 ?_;obtain⟨c3,hc3,h⟩:=bind_some h;refine yv 6 (fun L τ=>L=[(2,.op 0 0 0),(3,.op 1 0 0),(30,.bool c3)]∧τ=([.cells 0 (zb a0),.cells 0 (zb a1)]:zf)) ?_ ?_
 · refine xm (b:=(((decide (a0.fKind=a1.fKind))&&(decide (a0.fN=a1.fN)))&&(decide (a0.fS=a1.fS)))) 24 rfl (fun hg24=>?_) (fun hg24=>?_)
   · rw[if_pos hg24] at hc3;obtain⟨r4,hr4,hc3⟩:=bind_some hc3;refine κ 4 ?_;refine clN rfl rfl rfl ((xH.ok hr4).c _) ?_;refine κ 1 ?_;cases hc3;refine zl ⟨rfl,_,_,⟨rfl,rfl⟩,.b hg24⟩
   rw[wn hg24] at hc3;refine κ 6 ?_;cases hc3;refine zl ⟨rfl,_,_,⟨rfl,rfl⟩,.b hg24⟩
 rintro _ _ ⟨rfl,rfl⟩;refine κ 1 ?_;obtain⟨c5,hc5,h⟩:=bind_some h;refine yv 6 (fun L τ=>L=[(37,.bool c5)]∧τ=([.cells 0 (zb a0),.cells 0 (zb a1)]:zf)) ?_ ?_
 · refine xm (b:=c3) 31 rfl (fun hg31=>?_) (fun hg31=>?_)
   · rw[if_pos hg31] at hc5;obtain⟨r6,hr6,hc5⟩:=bind_some hc5;refine κ 4 ?_;refine clN rfl rfl rfl (ev_slices_EqualFunc_Entry_value_Same_1 a0.fEntries a1.fEntries r6 hr6 _) ?_;refine κ 1 ?_;cases hc5;refine zl ⟨rfl,_,_,⟨rfl,rfl⟩,.b hg31⟩
   rw[wn hg31] at hc5;refine κ 6 ?_;cases hc5;refine zl ⟨rfl,_,_,⟨rfl,rfl⟩,.b hg31⟩
 rintro _ _ ⟨rfl,rfl⟩;refine κ 1 ?_;refine nkN J ?_;cases h;exact rtA
def wC.body (xb:zi→zi→Option Bool)(yL:zp→zp→Option Bool)(zF:(List zp)→(List zp)→Option Bool)(zI:(List zi)→(List zi)→Option Bool)(a0:zp)(a1:zp):Option Bool:=
 (if a0.fTag=a1.fTag then (zI a0.fTrees a1.fTrees).bind fun r1=>some r1 else some false).bind fun c1=>some c1
theorem wC.step (xb:zi→zi→Option Bool)(yL:zp→zp→Option Bool)(zF:(List zp)→(List zp)→Option Bool)(zI:(List zi)→(List zi)→Option Bool)(Yt:∀ (a0:zi) (a1:zi) (r:Bool),xb a0 a1=some r→ACalls qf 80 [.agg (zb a0),.agg (zb a1)] [] (fun r' _=>r'=.bool r))(ZQ:∀ (a0:zp) (a1:zp) (r:Bool),yL a0 a1=some r→ACalls qf 122 [.agg (zK a0),.agg (zK a1)] [] (fun r' _=>r'=.bool r))(yP:∀ (a0:List zp) (a1:List zp) (r:Bool),zF a0 a1=some r→ACalls qf 121 [.ds true (qb zx a0) (qa a0) false,.ds true (qb zx a1) (qa a1) false,.fn (.func 122) [] []] [] (fun r' _=>r'=.bool r))(xa:∀ (a0:List zi) (a1:List zi) (r:Bool),zI a0 a1=some r→ACalls qf 123 [.ds true (qb ya a0) (qa a0) false,.ds true (qb ya a1) (qa a1) false,.fn (.func 80) [] []] [] (fun r' _=>r'=.bool r))(a0:zp)(a1:zp)(r:Bool)(h:wC.body xb yL zF zI a0 a1=some r):ACalls qf 122 [.agg (zK a0),.agg (zK a1)] [] (fun r' _=>r'=.bool r):=by
 have ev_value_Same:=fun a0 a1 r h σ=>(Yt a0 a1 r h).c σ
 have ev_value_Same_1:=fun a0 a1 r h σ=>(ZQ a0 a1 r h).c σ
 have ev_slices_EqualFunc_Entry_value_Same_1:=fun a0 a1 r h σ=>(yP a0 a1 r h).c σ
 have ev_slices_EqualFunc_Tree_value_Same:=fun a0 a1 r h σ=>(xa a0 a1 r h).c σ
 refine zk (rs:=[.tmp 4]) U Tryz.func122 rfl Tryz.ntmps122 rfl Tryz.call122 (by simp) ?_;refine zu [(0,.agg (zK a0)),(1,.agg (zK a1))] ⟨rfl,rfl,trivial⟩ ?_;unfold wC.body at h;refine rgW [2,3] @zK.eq_1 ?_
 refine rc [4] fun K J=>?_
 refine κ 6 ?_;obtain⟨c1,hc1,h⟩:=bind_some h;refine yv 6 (fun L τ=>L=[(16,.bool c1)]∧τ=([.cells 0 (zK a0),.cells 0 (zK a1)]:zf)) ?_ ?_
 · refine Yz 10 rfl (fun hg10=>?_) (fun hg10=>?_)
   · have t2:=eq_true hg10;rw[if_pos hg10] at hc1;obtain⟨r3,hr3,hc1⟩:=bind_some hc1;refine κ 4 ?_;refine clN rfl rfl rfl (ev_slices_EqualFunc_Tree_value_Same a0.fTrees a1.fTrees r3 hr3 _) ?_;refine κ 1 ?_;cases hc1;refine zl ⟨rfl,_,_,⟨rfl,rfl⟩,.p t2⟩
   have t4:=eq_false hg10;rw[if_neg hg10] at hc1;refine κ 6 ?_;cases hc1;refine zl ⟨rfl,_,_,⟨rfl,rfl⟩,.p t4⟩
 rintro _ _ ⟨rfl,rfl⟩;refine κ 1 ?_;refine nkN J ?_;cases h;exact rtA
def zr.l8 (yL:zp→zp→Option Bool)(a1:List zp):List zp→Int→Option Bool
 |[],x6=>some true
 |y8::q8,x6=>(Yl a1 x6).bind fun y14=>(yL y8 y14).bind fun r17=>(if (!r17)=true then some false else ((zr.l8 yL a1 q8) (x6+1)))
def zr.body (xb:zi→zi→Option Bool)(yL:zp→zp→Option Bool)(zF:(List zp)→(List zp)→Option Bool)(zI:(List zi)→(List zi)→Option Bool)(a0:List zp)(a1:List zp):Option Bool:=
 (if (qa a0:Int)=(qa a1:Int) then (zr.l8 yL a1 a0 0) else some false)
theorem zr.step (xb:zi→zi→Option Bool)(yL:zp→zp→Option Bool)(zF:(List zp)→(List zp)→Option Bool)(zI:(List zi)→(List zi)→Option Bool)(Yt:∀ (a0:zi) (a1:zi) (r:Bool),xb a0 a1=some r→ACalls qf 80 [.agg (zb a0),.agg (zb a1)] [] (fun r' _=>r'=.bool r))(ZQ:∀ (a0:zp) (a1:zp) (r:Bool),yL a0 a1=some r→ACalls qf 122 [.agg (zK a0),.agg (zK a1)] [] (fun r' _=>r'=.bool r))(yP:∀ (a0:List zp) (a1:List zp) (r:Bool),zF a0 a1=some r→ACalls qf 121 [.ds true (qb zx a0) (qa a0) false,.ds true (qb zx a1) (qa a1) false,.fn (.func 122) [] []] [] (fun r' _=>r'=.bool r))(xa:∀ (a0:List zi) (a1:List zi) (r:Bool),zI a0 a1=some r→ACalls qf 123 [.ds true (qb ya a0) (qa a0) false,.ds true (qb ya a1) (qa a1) false,.fn (.func 80) [] []] [] (fun r' _=>r'=.bool r))(a0:List zp)(a1:List zp)(r:Bool)(h:zr.body xb yL zF zI a0 a1=some r):ACalls qf 121 [.ds true (qb zx a0) (qa a0) false,.ds true (qb zx a1) (qa a1) false,.fn (.func 122) [] []] [] (fun r' _=>r'=.bool r):=by
 have ev_value_Same:=fun a0 a1 r h σ=>(Yt a0 a1 r h).c σ
 have ev_value_Same_1:=fun a0 a1 r h σ=>(ZQ a0 a1 r h).c σ
 have ev_slices_EqualFunc_Entry_value_Same_1:=fun a0 a1 r h σ=>(yP a0 a1 r h).c σ
 have ev_slices_EqualFunc_Tree_value_Same:=fun a0 a1 r h σ=>(xa a0 a1 r h).c σ
 refine zk (rs:=[.tmp 6]) U Tryz.func121 rfl Tryz.ntmps121 rfl Tryz.call121 (by simp) ?_;refine zu [(0,.ds true (qb zx a0) (qa a0) false),(1,.ds true (qb zx a1) (qa a1) false),(2,.fn (.func 122) [] [])] ⟨rfl,rfl,rfl,trivial⟩ ?_;unfold zr.body at h;refine O [0,1,2] ?_
 refine za fun Z1 hZ1=>?_
 refine O [0,1,2,14] ?_;refine zR rfl (fun hc2=>?_) (fun hc2=>?_)
 · rw[if_neg hc2] at h;have t3:=eq_false hc2;refine rgW [6] t3 ?_;cases h;exact rtA
 rw[if_pos hc2] at h;have t4:=eq_true hc2;apply zg;apply hZ1
 refine za fun Z5 hZ5=>?_
 refine rgW [1,2,15,16,17] t4 ?_;apply zj
 refine xq 15 fun hb8=>?_
 replace hb8:qa a0≤9223372036854775807:=hb8.1;refine zG (fun m L τ=>∃ (p8 q8:List zp) (x6:Int),m=qa q8∧L=[(1,.ds true (qb zx a1) (qa a1) false),(2,.fn (.func 122) [] []),(15,.ds true (qb zx a0) (qa a0) false),(16,.int .i64 (qa a0:Int)),(17,.int .i64 x6)]∧τ=([]:zf)∧a0=p8++q8∧x6=(qa p8:Int)∧zr.l8 yL a1 q8 x6=some r) _ ⟨[],a0,0,rfl,rfl,rfl,rfl,rfl,h⟩ .s ?_;rintro m L τ ⟨p8,q8,x6,rfl,rfl,rfl,hE8,hi8,h⟩
 rcases q8 with _|⟨y8,q8⟩
 · have hz8:=yH hE8 hi8;simp only[zr.l8] at h;refine rgW [1,2,15,16,17,18] hz8 ?_
   refine za fun Z9 hZ9=>?_
   refine zD rfl ?_;apply zJ;apply hZ5;refine O [6] ?_;cases h;exact rtA
 obtain⟨hz8,hw8,hx8,hE'8,hi'8⟩:=yo hE8 hi8 hb8;simp only[zr.l8] at h;refine rgW [1,2,15,16,17,18] hz8 ?_
 refine za fun Z10 hZ10=>?_
 refine zE rfl ?_;apply zg;apply hZ10
 refine za fun Z11 hZ11=>?_
 apply zj;have f12:=E34.idxS hx8;have f13:=E34.loadS rfl rfl hx8;refine rgW [1,2,7,8,15,16,17] (aI @zK.eq_1 (aI @yh (aI f12 f13))) ?_;obtain⟨y14,hy14,h⟩:=bind_some h;have f15:=E34.idxS hy14;have f16:=E34.loadS rfl rfl hy14;refine rgW [1,2,8,9,15,16,17] (aI @zK.eq_1 (aI @yh (aI f15 f16))) ?_
 refine rc [1,2,15,16,17,30] fun K J=>?_
 obtain⟨r17,hr17,h⟩:=bind_some h;refine κ 3 ?_;refine clN rfl rfl rfl (ev_value_Same_1 y8 y14 r17 hr17 _) ?_;refine κ 1 ?_;refine nkN J ?_;refine zB (b:=(!r17)) rfl (fun hc18=>?_) (fun hc18=>?_)
 · rw[if_pos hc18] at h;refine O [6] ?_;cases h;exact rtA
 rw[wn hc18] at h;apply zg;apply hZ11
 refine rgE U [1,2,15,16,17] fun K J=>?_
 simp only[go_sem,qd,qc,hw8];apply J
 exact⟨_,_,_,qo q8.length,⟨p8++[y8],q8,x6+1,rfl,rfl,rfl,hE'8,hi'8,h⟩,(.t [] false)⟩
def zy.l8 (xb:zi→zi→Option Bool)(a1:List zi):List zi→Int→Option Bool
 |[],x6=>some true
 |y8::q8,x6=>(Yl a1 x6).bind fun y14=>(xb y8 y14).bind fun r17=>(if (!r17)=true then some false else ((zy.l8 xb a1 q8) (x6+1)))
def zy.body (xb:zi→zi→Option Bool)(yL:zp→zp→Option Bool)(zF:(List zp)→(List zp)→Option Bool)(zI:(List zi)→(List zi)→Option Bool)(a0:List zi)(a1:List zi):Option Bool:=
 (if (qa a0:Int)=(qa a1:Int) then (zy.l8 xb a1 a0 0) else some false)
theorem zy.step (xb:zi→zi→Option Bool)(yL:zp→zp→Option Bool)(zF:(List zp)→(List zp)→Option Bool)(zI:(List zi)→(List zi)→Option Bool)(Yt:∀ (a0:zi) (a1:zi) (r:Bool),xb a0 a1=some r→ACalls qf 80 [.agg (zb a0),.agg (zb a1)] [] (fun r' _=>r'=.bool r))(ZQ:∀ (a0:zp) (a1:zp) (r:Bool),yL a0 a1=some r→ACalls qf 122 [.agg (zK a0),.agg (zK a1)] [] (fun r' _=>r'=.bool r))(yP:∀ (a0:List zp) (a1:List zp) (r:Bool),zF a0 a1=some r→ACalls qf 121 [.ds true (qb zx a0) (qa a0) false,.ds true (qb zx a1) (qa a1) false,.fn (.func 122) [] []] [] (fun r' _=>r'=.bool r))(xa:∀ (a0:List zi) (a1:List zi) (r:Bool),zI a0 a1=some r→ACalls qf 123 [.ds true (qb ya a0) (qa a0) false,.ds true (qb ya a1) (qa a1) false,.fn (.func 80) [] []] [] (fun r' _=>r'=.bool r))(a0:List zi)(a1:List zi)(r:Bool)(h:zy.body xb yL zF zI a0 a1=some r):ACalls qf 123 [.ds true (qb ya a0) (qa a0) false,.ds true (qb ya a1) (qa a1) false,.fn (.func 80) [] []] [] (fun r' _=>r'=.bool r):=by
 have ev_value_Same:=fun a0 a1 r h σ=>(Yt a0 a1 r h).c σ
 have ev_value_Same_1:=fun a0 a1 r h σ=>(ZQ a0 a1 r h).c σ
 have ev_slices_EqualFunc_Entry_value_Same_1:=fun a0 a1 r h σ=>(yP a0 a1 r h).c σ
 have ev_slices_EqualFunc_Tree_value_Same:=fun a0 a1 r h σ=>(xa a0 a1 r h).c σ
 refine zk (rs:=[.tmp 6]) U Tryz.func123 rfl Tryz.ntmps123 rfl Tryz.call123 (by simp) ?_;refine zu [(0,.ds true (qb ya a0) (qa a0) false),(1,.ds true (qb ya a1) (qa a1) false),(2,.fn (.func 80) [] [])] ⟨rfl,rfl,rfl,trivial⟩ ?_;unfold zy.body at h;refine O [0,1,2] ?_
 refine za fun Z1 hZ1=>?_
 refine O [0,1,2,14] ?_;refine zR rfl (fun hc2=>?_) (fun hc2=>?_)
 · rw[if_neg hc2] at h;have t3:=eq_false hc2;refine rgW [6] t3 ?_;cases h;exact rtA
 rw[if_pos hc2] at h;have t4:=eq_true hc2;apply zg;apply hZ1
 refine za fun Z5 hZ5=>?_
 refine rgW [1,2,15,16,17] t4 ?_;apply zj
 refine xq 15 fun hb8=>?_
 replace hb8:qa a0≤9223372036854775807:=hb8.1;refine zG (fun m L τ=>∃ (p8 q8:List zi) (x6:Int),m=qa q8∧L=[(1,.ds true (qb ya a1) (qa a1) false),(2,.fn (.func 80) [] []),(15,.ds true (qb ya a0) (qa a0) false),(16,.int .i64 (qa a0:Int)),(17,.int .i64 x6)]∧τ=([]:zf)∧a0=p8++q8∧x6=(qa p8:Int)∧zy.l8 xb a1 q8 x6=some r) _ ⟨[],a0,0,rfl,rfl,rfl,rfl,rfl,h⟩ .s ?_;rintro m L τ ⟨p8,q8,x6,rfl,rfl,rfl,hE8,hi8,h⟩
 rcases q8 with _|⟨y8,q8⟩
 · have hz8:=yH hE8 hi8;simp only[zy.l8] at h;refine rgW [1,2,15,16,17,18] hz8 ?_
   refine za fun Z9 hZ9=>?_
   refine zD rfl ?_;apply zJ;apply hZ5;refine O [6] ?_;cases h;exact rtA
 obtain⟨hz8,hw8,hx8,hE'8,hi'8⟩:=yo hE8 hi8 hb8;simp only[zy.l8] at h;refine rgW [1,2,15,16,17,18] hz8 ?_
 refine za fun Z10 hZ10=>?_
 refine zE rfl ?_;apply zg;apply hZ10
 refine za fun Z11 hZ11=>?_
 apply zj;have f12:=E38.idxS hx8;have f13:=E38.loadS rfl rfl hx8;refine rgW [1,2,7,8,15,16,17] (aI @zb.eq_1 (aI @yC (aI f12 f13))) ?_;obtain⟨y14,hy14,h⟩:=bind_some h;have f15:=E38.idxS hy14;have f16:=E38.loadS rfl rfl hy14;refine rgW [1,2,8,9,15,16,17] (aI @zb.eq_1 (aI @yC (aI f15 f16))) ?_
 refine rc [1,2,15,16,17,30] fun K J=>?_
 obtain⟨r17,hr17,h⟩:=bind_some h;refine κ 3 ?_;refine clN rfl rfl rfl (ev_value_Same y8 y14 r17 hr17 _) ?_;refine κ 1 ?_;refine nkN J ?_;refine zB (b:=(!r17)) rfl (fun hc18=>?_) (fun hc18=>?_)
 · rw[if_pos hc18] at h;refine O [6] ?_;cases h;exact rtA
 rw[wn hc18] at h;apply zg;apply hZ11
 refine rgE U [1,2,15,16,17] fun K J=>?_
 simp only[go_sem,qd,qc,hw8];apply J
 exact⟨_,_,_,qo q8.length,⟨p8++[y8],q8,x6+1,rfl,rfl,rfl,hE'8,hi'8,h⟩,(.t [] false)⟩
mutual
def xW : Nat→zi→zi→Option Bool
 |0,_,_=>none
 |k+1,a0,a1=>xW.body (xW k) (wC k) (zr k) (zy k) a0 a1
def wC : Nat→zp→zp→Option Bool
 |0,_,_=>none
 |k+1,a0,a1=>wC.body (xW k) (wC k) (zr k) (zy k) a0 a1
def zr : Nat→(List zp)→(List zp)→Option Bool
 |0,_,_=>none
 |k+1,a0,a1=>zr.body (xW k) (wC k) (zr k) (zy k) a0 a1
def zy : Nat→(List zi)→(List zi)→Option Bool
 |0,_,_=>none
 |k+1,a0,a1=>zy.body (xW k) (wC k) (zr k) (zy k) a0 a1
end
theorem xW.all (k:Nat):(∀ (a0:zi) (a1:zi) (r:Bool),xW k a0 a1=some r→ACalls qf 80 [.agg (zb a0),.agg (zb a1)] [] (fun r' _=>r'=.bool r))∧(∀ (a0:zp) (a1:zp) (r:Bool),wC k a0 a1=some r→ACalls qf 122 [.agg (zK a0),.agg (zK a1)] [] (fun r' _=>r'=.bool r))∧(∀ (a0:List zp) (a1:List zp) (r:Bool),zr k a0 a1=some r→ACalls qf 121 [.ds true (qb zx a0) (qa a0) false,.ds true (qb zx a1) (qa a1) false,.fn (.func 122) [] []] [] (fun r' _=>r'=.bool r))∧(∀ (a0:List zi) (a1:List zi) (r:Bool),zy k a0 a1=some r→ACalls qf 123 [.ds true (qb ya a0) (qa a0) false,.ds true (qb ya a1) (qa a1) false,.fn (.func 80) [] []] [] (fun r' _=>r'=.bool r)):=by
 induction k with
 |zero=>exact⟨(fun a0 a1 r h=>by simp only[xW] at h; cases h),(fun a0 a1 r h=>by simp only[wC] at h; cases h),(fun a0 a1 r h=>by simp only[zr] at h; cases h),(fun a0 a1 r h=>by simp only[zy] at h; cases h)⟩
 |succ k ih=>exact⟨(fun a0 a1 r h=>xW.step _ _ _ _ ih.1 ih.2.1 ih.2.2.1 ih.2.2.2 a0 a1 r (by simpa only [xW] using h)),(fun a0 a1 r h=>wC.step _ _ _ _ ih.1 ih.2.1 ih.2.2.1 ih.2.2.2 a0 a1 r (by simpa only [wC] using h)),(fun a0 a1 r h=>zr.step _ _ _ _ ih.1 ih.2.1 ih.2.2.1 ih.2.2.2 a0 a1 r (by simpa only [zr] using h)),(fun a0 a1 r h=>zy.step _ _ _ _ ih.1 ih.2.1 ih.2.2.1 ih.2.2.2 a0 a1 r (by simpa only [zy] using h))⟩
theorem xW.ev (k:Nat)(a0:zi)(a1:zi)(r:Bool)(h:xW k a0 a1=some r)(σ:zf):ACalls qf 80 [.agg (zb a0),.agg (zb a1)] σ (fun r' σ'=>r'=.bool r∧σ'=σ):=
 ((xW.all k).1 a0 a1 r h).c σ
def yO.j10 (x5:Int)(rec7:Int→Option zi):Option zi:=
 (rec7 (x5+1))
def yO.l7 (a0:zm)(a3:List UInt8)(a4:zi)(r1:Zk×Bool):List vay→Int→Option zi
 |[],x5=>some (⟨3,0,[],([]:List zp),([]:List xF)⟩:zi)
 |y7::q7,x5=>(if y7.fMethod=a3 then (Zi a0 r1.1.fIn y7.fIn).bind fun r17=>(Zi a0 r1.1.fOut y7.fOut).bind fun r18=>(if (r17.2&&r18.2)=true then (xW yp r17.1 a4).bind fun r19=>some r19 else some false).bind fun c19=>(if c19=true then some r18.1 else (yO.j10 x5 (yO.l7 a0 a3 a4 r1 q7))) else (yO.j10 x5 (yO.l7 a0 a3 a4 r1 q7)))
def yO (a0:zm)(a1:zm)(a2:List vay)(a3:List UInt8)(a4:zi):Option zi:=
 bnd (wa a0 a3) fun r1=>(if (!r1.2)=true then some (⟨0,0,[],([]:List zp),([]:List xF)⟩:zi) else (yO.l7 a0 a3 a4 r1 a2 0))
theorem yO.ok {a0 a1 a2 a3 a4 r}(h:yO a0 a1 a2 a3 a4=some r):ACalls qf 42 [.agg (zd a0),.agg (zd a1),.ds true (qb yd a2) (qa a2) false,.str a3,.agg (zb a4)] [] (fun r' _=>r'=.agg (zb r)):=by
 refine zk (rs:=[.cell 10 37]) U Tryz.func42 rfl Tryz.ntmps42 rfl Tryz.call42 (by simp) ?_;refine zu [(0,.agg (zd a0)),(1,.agg (zd a1)),(2,.ds true (qb yd a2) (qa a2) false),(3,.str a3),(4,.agg (zb a4))] ⟨rfl,rfl,rfl,rfl,rfl,trivial⟩ ?_;unfold yO at h;refine rgW [2,3,5,9,10] (aI @zb.eq_1 @zd.eq_1) ?_
 refine rc [2,3,5,9,10,11,12] fun K J=>?_
 obtain⟨r1,hr1,h⟩:=yb h;refine κ 2 ?_;refine clN rfl rfl rfl ((wa.ok hr1).c _) ?_;refine rnW 6 @zv.eq_1 ?_;refine nkN J ?_
 refine za fun Z2 hZ2=>?_
 refine O [2,3,5,9,10,11,26] ?_;refine zB (b:=(!r1.2)) rfl (fun hc3=>?_) (fun hc3=>?_)
 · rw[if_pos hc3] at h;refine O [10] ?_;cases h;exact rtA
 rw[wn hc3] at h;apply zg;apply hZ2
 refine za fun Z4 hZ4=>?_
 refine O [3,5,9,10,11,28,29,30] ?_;apply zj
 refine xq 28 fun hb7=>?_
 replace hb7:qa a2≤9223372036854775807:=hb7.1;refine zG (fun m L τ=>∃ (p7 q7:List vay) (x5:Int),m=qa q7∧L=[(3,.str a3),(5,.op 0 0 0),(9,.op 1 0 0),(10,.op 2 0 0),(11,.op 3 0 0),(28,.ds true (qb yd a2) (qa a2) false),(29,.int .i64 (qa a2:Int)),(30,.int .i64 x5)]∧τ=([.cells 0 (zd a0),.cells 0 (zb a4),.cells 0 [.int .i64 0,.int .i64 0,.str [],.ds true [] 0 true,.ds true [] 0 true],.cells 0 [.str r1.1.fName,.str r1.1.fIn,.str r1.1.fOut]]:zf)∧a2=p7++q7∧x5=(qa p7:Int)∧yO.l7 a0 a3 a4 r1 q7 x5=some r) _ ⟨[],a2,0,rfl,rfl,rfl,rfl,rfl,h⟩ (.t [0,2,3,4] false) ?_;rintro m L τ ⟨p7,q7,x5,rfl,rfl,rfl,hE7,hi7,h⟩
 rcases q7 with _|⟨y7,q7⟩
 · have hz7:=yH hE7 hi7;simp only[yO.l7] at h;refine rgW [3,5,9,10,11,28,29,30,31] hz7 ?_
   refine za fun Z8 hZ8=>?_
   refine zD rfl ?_;apply zJ;apply hZ4;refine O [10] ?_;cases h;exact rtA
 obtain⟨hz7,hw7,hx7,hE'7,hi'7⟩:=yo hE7 hi7 hb7;simp only[yO.l7] at h;refine rgW [3,5,9,10,11,28,29,30,31] hz7 ?_
 refine za fun Z9 hZ9=>?_
 refine zE rfl ?_;apply zg;apply hZ9;refine we (fun L τ=>L=[(3,.str a3),(5,.op 0 0 0),(9,.op 1 0 0),(10,.op 2 0 0),(11,.op 3 0 0),(28,.ds true (qb yd a2) (qa a2) false),(29,.int .i64 (qa a2:Int)),(30,.int .i64 x5)]∧τ=([.cells 0 (zd a0),.cells 0 (zb a4),.cells 0 [.int .i64 0,.int .i64 0,.str [],.ds true [] 0 true,.ds true [] 0 true],.cells 0 [.str r1.1.fName,.str r1.1.fIn,.str r1.1.fOut]]:zf)∧yO.j10 x5 (yO.l7 a0 a3 a4 r1 q7)=some r) ?_ ?_
 · apply zj;have f11:=E82.idxS hx7;have f12:=E82.loadS rfl rfl hx7;refine rgW [3,5,9,10,11,14,28,29,30] (aI @yd.eq_1 (aI f11 f12)) ?_
   refine za fun Z13 hZ13=>?_
   refine O [3,5,9,10,11,14,28,29,30,37] ?_;refine zR rfl (fun hc14=>?_) (fun hc14=>?_)
   · rw[if_neg hc14] at h;have t15:=eq_false hc14;apply zJ;exact⟨_,_,⟨rfl,rfl,h⟩,(.t [0,1,2,3] false)⟩
   rw[if_pos hc14] at h;have t16:=eq_true hc14;apply zg;apply hZ13
   refine rc [3,5,9,10,11,14,15,16,28,29,30] fun K J=>?_
   obtain⟨r17,hr17,h⟩:=bind_some h;refine rnW 5 (aI @zb.eq_1 t16) ?_;refine clN rfl rfl rfl ((Zi.ok hr17).c _) ?_;refine rnW 6 @zb.eq_1 ?_;refine nkN J ?_
   refine rc [3,5,9,10,11,15,16,17,18,28,29,30] fun K J=>?_
   obtain⟨r18,hr18,h⟩:=bind_some h;refine rnW 5 @zb.eq_1 ?_;refine clN rfl rfl rfl ((Zi.ok hr18).c _) ?_;refine rnW 6 @zb.eq_1 ?_;refine nkN J ?_
   refine rc [3,5,9,10,11,17,28,29,30,64] fun K J=>?_
   refine κ 2 ?_;refine cut (b:=r17.2) (hb:=boolP_eq _) 2 57 59 [3,5,9,10,11,15,17,28,29,30] (r17.2&&r18.2) (aI hz7 (aI hw7 t16)) rfl ?_;refine κ 1 ?_;obtain⟨c19,hc19,h⟩:=bind_some h;refine yv 4 (fun L τ=>L=[(3,.str a3),(5,.op 0 0 0),(9,.op 1 0 0),(10,.op 2 0 0),(11,.op 3 0 0),(17,.op 6 0 0),(28,.ds true (qb yd a2) (qa a2) false),(29,.int .i64 (qa a2:Int)),(30,.int .i64 x5),(64,.bool c19)]∧τ=([.cells 0 (zd a0),.cells 0 (zb a4),.cells 0 [.int .i64 0,.int .i64 0,.str [],.ds true [] 0 true,.ds true [] 0 true],.cells 0 [.str r1.1.fName,.str r1.1.fIn,.str r1.1.fOut],.cells 0 (yd y7),.cells 0 (zb r17.1),.cells 0 (zb r18.1)]:zf)) ?_ ?_
   · refine xm (b:=(r17.2&&r18.2)) 60 rfl (fun hg60=>?_) (fun hg60=>?_)
     · rw[if_pos hg60] at hc19;obtain⟨r20,hr20,hc19⟩:=bind_some hc19;refine κ 2 ?_;refine clN rfl rfl rfl (xW.ev yp r17.1 a4 r20 hr20 _) ?_;refine κ 1 ?_;cases hc19;refine zl ⟨rfl,_,_,⟨rfl,rfl⟩,.b hg60⟩
     rw[wn hg60] at hc19;refine κ 4 ?_;cases hc19;refine zl ⟨rfl,_,_,⟨rfl,rfl⟩,.b hg60⟩
   rintro _ _ ⟨rfl,rfl⟩;refine nkN J ?_;refine zB (b:=c19) rfl (fun hc21=>?_) (fun hc21=>?_)
   · rw[if_pos hc21] at h;refine O [10] ?_;cases h;exact rtA
   rw[wn hc21] at h;apply zg;exact⟨_,_,⟨rfl,rfl,h⟩,(.t [0,1,2,3] false)⟩
 rintro _ _ ⟨rfl,rfl,h⟩;unfold yO.j10 at h
 refine rgE U [3,5,9,10,11,28,29,30] fun K J=>?_
 simp only[go_sem,qd,qc,hw7];apply J
 exact⟨_,_,_,qo q7.length,⟨p7++[y7],q7,x5+1,rfl,rfl,rfl,hE'7,hi'7,h⟩,.s⟩
def w7.j19 (a0:Yw)(a1:Int)(a2:Int)(w9:vbX wb Zd)(w12:vbX Int Int)(x18:Bool):Option (Int×Yw):=
 (if x18=true then none else some (0,(⟨a0.fsize,a0.forder++[(⟨a1,a2⟩:wb)],a0.vorder+1,w9,w12⟩:Yw)))
def w7 (a0:Yw)(a1:Int)(a2:Int)(a3:Zd):Option (Int×Yw):=
 (ZD a0 a1 a2).bind fun r2=>(if r2.2=1 then (vao (qa a0.forder+1) 16).bind fun _u6=>(vbX.sto (vbX.ent (⟨0,0,0,0,0,[],0,[]⟩:Zd) a0.freplies (⟨a1,a2⟩:wb)) (vbX.stamp a0.freplies (⟨a1,a2⟩:wb)) a3).bind fun w9=>(vbX.sto (vbX.ent 0 a0.flast a1) (vbX.stamp a0.flast a1) a2).bind fun w12=>(Yl (a0.forder++[(⟨a1,a2⟩:wb)]) 0).bind fun y15=>(if a0.fsize<(qa (a0.forder++[(⟨a1,a2⟩:wb)]):Int) then (w7.j19 a0 a1 a2 w9 w12 (!(decide (y15.ffrom=a1)&&decide (y15.fid=a2)))) else (w7.j19 a0 a1 a2 w9 w12 false)) else none)
theorem w7.ok {a0 a1 a2 a3 r}(h:w7 a0 a1 a2 a3=some r):ACalls qf 134 [.op 0 0 0,.int .i64 a1,.int .i64 a2,.agg (zH a3)] [.cells 0 [.int .i64 a0.fsize,.os true 2 1 (a0.vorder) 0 (qa a0.forder) false,.mp 2,.mp 3],.cells (a0.vorder) (qb zC a0.forder),.map (xp zV yw a0.freplies.l) (some (a0.freplies.bs,a0.freplies.ck)),.map (xp (AV.int .i64) (AV.int .i64) a0.flast.l) (some (a0.flast.bs,a0.flast.ck))] (fun r' σ'=>r'=.int .i64 r.1∧σ'=[.cells 0 [.int .i64 r.2.fsize,.os true 2 1 (r.2.vorder) 0 (qa r.2.forder) false,.mp 2,.mp 3],.cells (r.2.vorder) (qb zC r.2.forder),.map (xp zV yw r.2.freplies.l) (some (r.2.freplies.bs,r.2.freplies.ck)),.map (xp (AV.int .i64) (AV.int .i64) r.2.flast.l) (some (r.2.flast.bs,r.2.flast.ck))]):=by
 refine ZH [0,1,2,3] (rs:=[.tmp 8]) U Tryz.func134 rfl Tryz.ntmps134 rfl Tryz.call134 (by simp) rfl ?_;refine zu [(0,.op 0 0 0),(1,.int .i64 a1),(2,.int .i64 a2),(3,.agg (zH a3))] ⟨rfl,rfl,rfl,rfl,trivial⟩ ?_;unfold w7 at h;refine rgW [0,1,2,7] @zH.eq_1 ?_
 refine za fun Z1 hZ1=>?_
 refine rc [0,1,2,7,10] fun K J=>?_
 obtain⟨r2,hr2,h⟩:=bind_some h;refine κ 3 ?_;refine clN rfl rfl rfl (@id (ACalls qf 132 [.op 0 0 0,.int .i64 a1,.int .i64 a2] [.cells 0 [.int .i64 a0.fsize,.os true 2 1 (a0.vorder) 0 (qa a0.forder) false,.mp 2,.mp 3],.cells (a0.vorder) (qb zC a0.forder),.map (xp zV yw a0.freplies.l) (some (a0.freplies.bs,a0.freplies.ck)),.map (xp (AV.int .i64) (AV.int .i64) a0.flast.l) (some (a0.flast.bs,a0.flast.ck)),.cells 0 (zH a3)] (fun r' σ'=>r'=.tup [.agg (zH r2.1),.int .i64 r2.2]∧σ'=[.cells 0 [.int .i64 a0.fsize,.os true 2 1 (a0.vorder) 0 (qa a0.forder) false,.mp 2,.mp 3],.cells (a0.vorder) (qb zC a0.forder),.map (xp zV yw a0.freplies.l) (some (a0.freplies.bs,a0.freplies.ck)),.map (xp (AV.int .i64) (AV.int .i64) a0.flast.l) (some (a0.flast.bs,a0.flast.ck)),.cells 0 (zH a3)])) ((ZD.ok hr2).ix [0,1,2,3])) ?_;refine rnW 6 @zH.eq_1 ?_;refine nkN J ?_;refine O [0,1,2,7,21] ?_;refine zR rfl (fun hc3=>?_) (fun hc3=>?_)
 · rw[if_neg hc3] at h;have t4:=eq_false hc3;cases h
 rw[if_pos hc3] at h;have t5:=eq_true hc3;apply zg;apply hZ1;refine rgW [0,1,2,7,11] t5 ?_;obtain⟨_u6,hu6,h⟩:=bind_some h;have gu6:=yR hu6;have f7:=(zU E207.len a0.forder)
 refine rd [0,1,2,7,11] fun K J=>?_
 refine DW.start (T:=tab) [.any,.any,.any,.any,.own 1 [],.at [],.eff,.eff,.any,.any,.eff] [(1,[])] ?_;refine DW.runN U 8 ?_;simp only[go_sem,qd,qg,qc,qe,qj,reduceCtorEq,zM,yz,qV,qL,true_and,q5,yG,yf,yJ,gu6,f7,yZ,qW,qQ,AV.one,qD,qC,qk,qp,ql,qK];refine DW.runN U 3 ?_;simp only[go_sem,qd,qg,qc,qe,reduceCtorEq,qk,qp,ql];refine DW.fin U (by decide +kernel) rfl ?_;simp only[zq,upd,qc,reduceIte,yD,xj];apply J
 refine yX (L:=[(0,.op 0 0 0),(1,.int .i64 a1),(2,.int .i64 a2),(7,.op 4 0 0),(11,.op 6 0 0)]) (τ:=[.cells 0 [.int .i64 a0.fsize,.os true 2 1 (a0.vorder+1) 0 (qa (a0.forder++[(⟨a1,a2⟩:wb)])) false,.mp 2,.mp 3],.cells (a0.vorder+1) (qb zC (a0.forder++[(⟨a1,a2⟩:wb)])),.map (xp zV yw a0.freplies.l) (some (a0.freplies.bs,a0.freplies.ck)),.map (xp (AV.int .i64) (AV.int .i64) a0.flast.l) (some (a0.flast.bs,a0.flast.ck)),.cells 0 (zH a3),.cells 0 (zH r2.1),.cells 0 [.int .i64 a1,.int .i64 a2],.cells 0 [.int .i64 a1,.int .i64 a2]]) .s ?_
 have f8:=fun (o0:Y3) (o1:Y3) (x:zf)=>entry_B (T:=tab) (t:=205) (ek:=zV) (ev:=yw) (z:=(⟨0,0,0,0,0,[],0,[]⟩:Zd)) KA268 rfl rfl rfl rfl a0.freplies (⟨a1,a2⟩:wb) (o0::o1::.map (xp zV yw a0.freplies.l) (some (a0.freplies.bs,a0.freplies.ck))::x) 2 rfl rfl
 simp only[encB2,zV,zC,yw,zH] at f8;obtain⟨w9,hw9,h⟩:=bind_some h
 have f10:=fun (o0:Y3) (o1:Y3) (x:zf)=>store_B (ek:=zV) (ev:=yw) hw9 (o0::o1::.map (xp zV yw (vbX.ent (⟨0,0,0,0,0,[],0,[]⟩:Zd) a0.freplies (⟨a1,a2⟩:wb)).l) (some ((vbX.ent (⟨0,0,0,0,0,[],0,[]⟩:Zd) a0.freplies (⟨a1,a2⟩:wb)).bs,(vbX.ent (⟨0,0,0,0,0,[],0,[]⟩:Zd) a0.freplies (⟨a1,a2⟩:wb)).ck))::x) 2 rfl rfl .i64
 simp only[encB2,yw,zH] at f10
 have f11:=fun (o0:Y3) (o1:Y3) (o2:Y3) (x:zf)=>entry_B (T:=tab) (t:=206) (ek:=(AV.int .i64)) (ev:=(AV.int .i64)) (z:=0) (veh.int rfl rfl rfl rfl) rfl rfl rfl rfl a0.flast a1 (o0::o1::o2::.map (xp (AV.int .i64) (AV.int .i64) a0.flast.l) (some (a0.flast.bs,a0.flast.ck))::x) 3 rfl rfl
 simp only[encB2] at f11;obtain⟨w12,hw12,h⟩:=bind_some h
 have f13:=fun (o0:Y3) (o1:Y3) (o2:Y3) (x:zf)=>store_B (ek:=(AV.int .i64)) (ev:=(AV.int .i64)) hw12 (o0::o1::o2::.map (xp (AV.int .i64) (AV.int .i64) (vbX.ent 0 a0.flast a1).l) (some ((vbX.ent 0 a0.flast a1).bs,(vbX.ent 0 a0.flast a1).ck))::x) 3 rfl rfl .i64
 simp only[encB2] at f13
 refine rd [0,11] fun K J=>?_
 refine DW.start (T:=tab) [.any,.any,.any,.at [],.at [],.any,.any,.any,.at [],.any,.own 1 [2],.any,.eff,.any,.eff,.eff,.any,.eff] [(1,[2])] ?_;refine DW.runN U 8 ?_;simp only[go_sem,qd,qg,qc,qe,reduceCtorEq];refine DW.runN U 8 ?_;simp only[go_sem,qd,qg,qc,qe,reduceCtorEq,f8,f10,f11];refine DW.runN U 2 ?_;simp only[go_sem,qd,qg,qc,qe,reduceCtorEq,f13];refine DW.fin U (by decide +kernel) rfl ?_;simp only[zq,upd,qc,reduceIte,yD,xj];apply J
 refine za fun Z14 hZ14=>?_
 obtain⟨y15,hy15,h⟩:=bind_some h;have f16:=E207.idxO hy15;have f17:=E207.rdO hy15;refine rgW [0,11,12] (aI @zC.eq_1 (aI f16 f17)) ?_;refine we (fun L τ=>∃ (x18:Bool),L=[(0,.op 0 0 0),(12,.op 4 0 0),(71,.bool x18)]∧τ=([.cells 0 [.int .i64 a0.fsize,.os true 2 1 (a0.vorder+1) 0 (qa (a0.forder++[(⟨a1,a2⟩:wb)])) false,.mp 2,.mp 3],.cells (a0.vorder+1) (qb zC (a0.forder++[(⟨a1,a2⟩:wb)])),.map (xp zV yw w9.l) (some (w9.bs,w9.ck)),.map (xp (AV.int .i64) (AV.int .i64) w12.l) (some (w12.bs,w12.ck)),.cells 0 [.int .i64 y15.ffrom,.int .i64 y15.fid]]:zf)∧w7.j19 a0 a1 a2 w9 w12 x18=some r) ?_ ?_
 · refine rdE [0,12,71] fun K J=>?_
   refine DW.start (T:=tab) [.any,.any,.any,.at [],.at [],.any,.any,.any,.at [],.any,.any,.at [],.at [],.any,.any] [] ?_;refine DW.runN U 8 ?_;simp only[go_sem,qd,qc,qe,reduceCtorEq];refine DW.runN U 3 ?_;simp only[go_sem,qd,qc,qe,reduceCtorEq]
   refine DW.if 67 rfl (fun hg67=>?_) (fun hg67=>?_)
   · rw[if_pos hg67] at h;have t21:=eq_true hg67;refine DW.runN U 4 ?_;simp only[go_sem,qd,qg,qc,qe,reduceCtorEq,t21,evEqA,vaH,ceq];refine DW.fin U (by decide +kernel) rfl ?_;simp only[zq,upd,qc,reduceIte,yD,xj];apply J
     exact⟨_,_,⟨!(decide (y15.ffrom=a1)&&decide (y15.fid=a2)),rfl,rfl,h⟩,(.t [0,1,2,3,8] false)⟩
   rw[if_neg hg67] at h;have t22:=eq_false hg67;refine DW.runN U 4 ?_;simp only[go_sem,qd,qc,reduceCtorEq,t22];refine DW.fin U (by decide +kernel) rfl ?_;simp only[zq,upd,qc,reduceIte,yD,xj];apply J
   exact⟨_,_,⟨false,rfl,rfl,h⟩,(.t [0,1,2,3,8] false)⟩
 rintro _ _ ⟨x18,rfl,rfl,h⟩;unfold w7.j19 at h;refine zB (b:=x18) rfl (fun hc20=>?_) (fun hc20=>?_)
 · rw[if_pos hc20] at h;cases h
 rw[wn hc20] at h;apply zg;apply hZ14;refine O [8] ?_;apply yE;cases h;simp only[Yk,xg,xw,wu,exists_eq_left',go_sem,qe];refine⟨by decide,by simp,?_,?_⟩
 · first|rfl|(simp only[go_sem,qd,qg,qc,qe,qj,qr,reduceIte,reduceCtorEq,push_cast,if_true,qw,ql,qy,qq,qE,qv,qM,qI,qz,qu,qn,zL,zC]<;>rfl)
 first|rfl|(simp only[go_sem,qc,qe,reduceCtorEq,push_cast,if_true,ql,qy,qq,zL]<;>rfl)
def xS.j24 (a0:wx)(a1:Zd)(r10:vbi×Int)(x22:Int)(x23:List UInt8):Option (Zd×wx):=
 (w7 a0.fcache a1.fFrom a1.fID (⟨4,a0.fself,a1.fFrom,a1.fID,a1.fVersion,a1.fMethod,x22,x23⟩:Zd)).bind fun r26=>some ((⟨4,a0.fself,a1.fFrom,a1.fID,a1.fVersion,a1.fMethod,x22,x23⟩:Zd),(⟨a0.fself,a0.fnumbers,a0.fschemas,a0.fnewest,a0.frows,r26.2,a0.feffects++[(⟨a1.fFrom,a1.fID,a1.fMethod,r10.1.fin⟩:xy)],a0.veffects+1⟩:wx))
def xS (a0:wx)(a1:Zd):Option (Zd×wx):=
 (ZD a0.fcache a1.fFrom a1.fID).bind fun r1=>(if r1.2=2 then some (r1.1,a0) else (if r1.2=3 then none else (ZO a0 a1).bind fun r10=>(if r10.2=0 then (Yl a0.fschemas (IntKind.i64.wrap ((qa a0.fschemas:Int)-1))).bind fun y15=>(vao (qa a0.feffects+1) 112).bind fun _u18=>(yO y15 a0.fnewest a0.frows a1.fMethod r10.1.fin).bind fun r20=>(xR y15 r10.1.fschema r10.1.fown.fOut r10.1.ftheirs.fOut).bind fun r21=>(XO r21.1 r20).bind fun r27=>(if r27.2=0 then (Xy r27.1).bind fun r30=>(xS.j24 a0 a1 r10 r30.2 r30.1) else (xS.j24 a0 a1 r10 r27.2 ([]:List UInt8))) else none)))
theorem xS.ok {a0 a1 r}(h:xS a0 a1=some r):ACalls qf 87 [.op 0 0 0,.agg (zH a1)] [.cells 0 [.int .i64 a0.fself,.ds true (qb ZC a0.fnumbers) (qa a0.fnumbers) false,.ds true (qb zd a0.fschemas) (qa a0.fschemas) false,.str a0.fnewest.fName,.ds true (qb ze a0.fnewest.fMessages) (qa a0.fnewest.fMessages) false,.ds true (qb zh a0.fnewest.fEnums) (qa a0.fnewest.fEnums) false,.ds true (qb zv a0.fnewest.fMethods) (qa a0.fnewest.fMethods) false,.ds true (qb yd a0.frows) (qa a0.frows) false,.op 1 0 0,.os true 8 5 (a0.veffects) 0 (qa a0.feffects) false],.cells 0 [.int .i64 a0.fcache.fsize,.os true 2 2 (a0.fcache.vorder) 0 (qa a0.fcache.forder) false,.mp 3,.mp 4],.cells (a0.fcache.vorder) (qb zC a0.fcache.forder),.map (xp zV yw a0.fcache.freplies.l) (some (a0.fcache.freplies.bs,a0.fcache.freplies.ck)),.map (xp (AV.int .i64) (AV.int .i64) a0.fcache.flast.l) (some (a0.fcache.flast.bs,a0.fcache.flast.ck)),.cells (a0.veffects) (qb zo a0.feffects)] (fun r' σ'=>r'=.agg (zH r.1)∧σ'=[.cells 0 [.int .i64 r.2.fself,.ds true (qb ZC r.2.fnumbers) (qa r.2.fnumbers) false,.ds true (qb zd r.2.fschemas) (qa r.2.fschemas) false,.str r.2.fnewest.fName,.ds true (qb ze r.2.fnewest.fMessages) (qa r.2.fnewest.fMessages) false,.ds true (qb zh r.2.fnewest.fEnums) (qa r.2.fnewest.fEnums) false,.ds true (qb zv r.2.fnewest.fMethods) (qa r.2.fnewest.fMethods) false,.ds true (qb yd r.2.frows) (qa r.2.frows) false,.op 1 0 0,.os true 8 5 (r.2.veffects) 0 (qa r.2.feffects) false],.cells 0 [.int .i64 r.2.fcache.fsize,.os true 2 2 (r.2.fcache.vorder) 0 (qa r.2.fcache.forder) false,.mp 3,.mp 4],.cells (r.2.fcache.vorder) (qb zC r.2.fcache.forder),.map (xp zV yw r.2.fcache.freplies.l) (some (r.2.fcache.freplies.bs,r.2.fcache.freplies.ck)),.map (xp (AV.int .i64) (AV.int .i64) r.2.fcache.flast.l) (some (r.2.fcache.flast.bs,r.2.fcache.flast.ck)),.cells (r.2.veffects) (qb zo r.2.feffects)]):=by
 refine ZH [0,1,2,3,4,5] (rs:=[.cell 4 43]) U Tryz.func87 rfl Tryz.ntmps87 rfl Tryz.call87 (by simp) rfl ?_;refine zu [(0,.op 0 0 0),(1,.agg (zH a1))] ⟨rfl,rfl,trivial⟩ ?_;unfold xS at h;refine rgW [0,3,4] @zH.eq_1 ?_;obtain⟨r1,hr1,h⟩:=bind_some h
 refine rd [0,3,4,5,6] fun K J=>?_
 refine DW.start (T:=tab) [.any,.any,.any,.at [],.any,.at [],.any,.at [],.eff,.any,.any,.any,.flt,.eff,.any] [] ?_;refine DW.runN U 8 ?_;simp only[go_sem,qd,qc,qe,reduceCtorEq,zH];refine DW.callS rfl rfl rfl (@id (ACalls qf 132 [.op 1 0 0,.int .i64 a1.fFrom,.int .i64 a1.fID] [.cells 0 [.int .i64 a0.fself,.ds true (qb ZC a0.fnumbers) (qa a0.fnumbers) false,.ds true (qb zd a0.fschemas) (qa a0.fschemas) false,.str a0.fnewest.fName,.ds true (qb ze a0.fnewest.fMessages) (qa a0.fnewest.fMessages) false,.ds true (qb zh a0.fnewest.fEnums) (qa a0.fnewest.fEnums) false,.ds true (qb zv a0.fnewest.fMethods) (qa a0.fnewest.fMethods) false,.ds true (qb yd a0.frows) (qa a0.frows) false,.op 1 0 0,.os true 8 5 (a0.veffects) 0 (qa a0.feffects) false],.cells 0 [.int .i64 a0.fcache.fsize,.os true 2 2 (a0.fcache.vorder) 0 (qa a0.fcache.forder) false,.mp 3,.mp 4],.cells (a0.fcache.vorder) (qb zC a0.fcache.forder),.map (xp zV yw a0.fcache.freplies.l) (some (a0.fcache.freplies.bs,a0.fcache.freplies.ck)),.map (xp (AV.int .i64) (AV.int .i64) a0.fcache.flast.l) (some (a0.fcache.flast.bs,a0.fcache.flast.ck)),.cells (a0.veffects) (qb zo a0.feffects),.cells 0 (zH a1),.cells 0 [.int .i64 0,.int .i64 0,.int .i64 0,.int .i64 0,.int .i64 0,.str [],.int .i64 0,.str []]] (fun r' σ'=>r'=.tup [.agg (zH r1.1),.int .i64 r1.2]∧σ'=[.cells 0 [.int .i64 a0.fself,.ds true (qb ZC a0.fnumbers) (qa a0.fnumbers) false,.ds true (qb zd a0.fschemas) (qa a0.fschemas) false,.str a0.fnewest.fName,.ds true (qb ze a0.fnewest.fMessages) (qa a0.fnewest.fMessages) false,.ds true (qb zh a0.fnewest.fEnums) (qa a0.fnewest.fEnums) false,.ds true (qb zv a0.fnewest.fMethods) (qa a0.fnewest.fMethods) false,.ds true (qb yd a0.frows) (qa a0.frows) false,.op 1 0 0,.os true 8 5 (a0.veffects) 0 (qa a0.feffects) false],.cells 0 [.int .i64 a0.fcache.fsize,.os true 2 2 (a0.fcache.vorder) 0 (qa a0.fcache.forder) false,.mp 3,.mp 4],.cells (a0.fcache.vorder) (qb zC a0.fcache.forder),.map (xp zV yw a0.fcache.freplies.l) (some (a0.fcache.freplies.bs,a0.fcache.freplies.ck)),.map (xp (AV.int .i64) (AV.int .i64) a0.fcache.flast.l) (some (a0.fcache.flast.bs,a0.fcache.flast.ck)),.cells (a0.veffects) (qb zo a0.feffects),.cells 0 (zH a1),.cells 0 [.int .i64 0,.int .i64 0,.int .i64 0,.int .i64 0,.int .i64 0,.str [],.int .i64 0,.str []]])) ((ZD.ok hr1).ix [1,2,3,4])) (vbM (by simp only[go_sem])) ?_;refine DW.runN U 6 ?_;simp only[go_sem,qd,qg,qc,qe,reduceCtorEq,zH];refine DW.fin U (by decide +kernel) rfl ?_;simp only[zq,upd,qc,reduceIte,yD,xj];apply J
 refine za fun Z2 hZ2=>?_
 refine O [0,3,4,5,6,28] ?_;refine zR rfl (fun hc3=>?_) (fun hc3=>?_)
 · rw[if_pos hc3] at h;have t4:=eq_true hc3;refine rgW [4] t4 ?_;apply yE;cases h;simp only[Yk,xg,xw,wu,exists_eq_left',go_sem,qg,qe,zH];refine⟨by decide,by simp,?_,?_⟩
   · first|rfl|(simp only[go_sem,qd,qg,qc,qe,qj,qr,reduceIte,reduceCtorEq,push_cast,if_true,qw,ql,qy,qq,qE,qv,qM,qI,qz,qu,qn,zL,zb,zC,zH,zd,zo,yC]<;>rfl)
   first|rfl|(simp only[go_sem,qc,qe,reduceCtorEq,push_cast,if_true,ql,qy,qq,qv,qz,qu,zL]<;>rfl)
 rw[if_neg hc3] at h;have t5:=eq_false hc3;apply zg;apply hZ2
 refine rd [0,3,4,6,7] fun K J=>?_
 refine DW.start (T:=tab) [.any,.any,.any,.own 1 [],.any,.own 1 [],.any,.own 1 [],.any,.own 1 [],.any,.own 1 [],.any,.eff,.eff] [(1,[])] ?_;refine DW.runN U 8 ?_;simp only[go_sem,qd,qc,qe,reduceCtorEq,zH,t5];refine DW.runN U 7 ?_;simp only[go_sem,qd,qg,qc,qe,reduceCtorEq];refine DW.fin U (by decide +kernel) rfl ?_;simp only[zq,upd,qc,reduceIte,yD,xj];apply J
 refine za fun Z6 hZ6=>?_
 refine O [0,3,4,7,44] ?_;refine zR rfl (fun hc7=>?_) (fun hc7=>?_)
 · rw[if_pos hc7] at h;have t8:=eq_true hc7;cases h
 rw[if_neg hc7] at h;have t9:=eq_false hc7;apply zg;apply hZ6
 refine rc [0,3,4,7,8,9] fun K J=>?_
 obtain⟨r10,hr10,h⟩:=bind_some h;refine rnW 2 (aI @zH.eq_1 t9) ?_;refine clN rfl rfl rfl (@id (ACalls qf 133 [.op 0 0 0,.agg (zH a1)] [.cells 0 [.int .i64 a0.fself,.ds true (qb ZC a0.fnumbers) (qa a0.fnumbers) false,.ds true (qb zd a0.fschemas) (qa a0.fschemas) false,.str a0.fnewest.fName,.ds true (qb ze a0.fnewest.fMessages) (qa a0.fnewest.fMessages) false,.ds true (qb zh a0.fnewest.fEnums) (qa a0.fnewest.fEnums) false,.ds true (qb zv a0.fnewest.fMethods) (qa a0.fnewest.fMethods) false,.ds true (qb yd a0.frows) (qa a0.frows) false,.op 1 0 0,.os true 8 5 (a0.veffects) 0 (qa a0.feffects) false],.cells 0 [.int .i64 a0.fcache.fsize,.os true 2 2 (a0.fcache.vorder) 0 (qa a0.fcache.forder) false,.mp 3,.mp 4],.cells (a0.fcache.vorder) (qb zC a0.fcache.forder),.map (xp zV yw a0.fcache.freplies.l) (some (a0.fcache.freplies.bs,a0.fcache.freplies.ck)),.map (xp (AV.int .i64) (AV.int .i64) a0.fcache.flast.l) (some (a0.fcache.flast.bs,a0.fcache.flast.ck)),.cells (a0.veffects) (qb zo a0.feffects),.cells 0 (zH a1),.cells 0 [.int .i64 0,.int .i64 0,.int .i64 0,.int .i64 0,.int .i64 0,.str [],.int .i64 0,.str []],.cells 0 (zH r1.1),.cells 0 [.int .i64 4,.int .i64 a0.fself,.int .i64 a1.fFrom,.int .i64 a1.fID,.int .i64 a1.fVersion,.str a1.fMethod,.int .i64 0,.str []]] (fun r' σ'=>r'=.tup [.agg (xL r10.1),.int .i64 r10.2]∧σ'=[.cells 0 [.int .i64 a0.fself,.ds true (qb ZC a0.fnumbers) (qa a0.fnumbers) false,.ds true (qb zd a0.fschemas) (qa a0.fschemas) false,.str a0.fnewest.fName,.ds true (qb ze a0.fnewest.fMessages) (qa a0.fnewest.fMessages) false,.ds true (qb zh a0.fnewest.fEnums) (qa a0.fnewest.fEnums) false,.ds true (qb zv a0.fnewest.fMethods) (qa a0.fnewest.fMethods) false,.ds true (qb yd a0.frows) (qa a0.frows) false,.op 1 0 0,.os true 8 5 (a0.veffects) 0 (qa a0.feffects) false],.cells 0 [.int .i64 a0.fcache.fsize,.os true 2 2 (a0.fcache.vorder) 0 (qa a0.fcache.forder) false,.mp 3,.mp 4],.cells (a0.fcache.vorder) (qb zC a0.fcache.forder),.map (xp zV yw a0.fcache.freplies.l) (some (a0.fcache.freplies.bs,a0.fcache.freplies.ck)),.map (xp (AV.int .i64) (AV.int .i64) a0.fcache.flast.l) (some (a0.fcache.flast.bs,a0.fcache.flast.ck)),.cells (a0.veffects) (qb zo a0.feffects),.cells 0 (zH a1),.cells 0 [.int .i64 0,.int .i64 0,.int .i64 0,.int .i64 0,.int .i64 0,.str [],.int .i64 0,.str []],.cells 0 (zH r1.1),.cells 0 [.int .i64 4,.int .i64 a0.fself,.int .i64 a1.fFrom,.int .i64 a1.fID,.int .i64 a1.fVersion,.str a1.fMethod,.int .i64 0,.str []]])) ((ZO.ok hr10).ix [0,1,2,3,4,5])) ?_;refine rnW 6 @xL.eq_1 ?_;refine nkN J ?_
 refine za fun Z11 hZ11=>?_
 refine O [0,3,4,7,8,9,54] ?_;refine zR rfl (fun hc12=>?_) (fun hc12=>?_)
 · rw[if_neg hc12] at h;have t13:=eq_false hc12;cases h
 rw[if_pos hc12] at h;have t14:=eq_true hc12;apply zg;apply hZ11;obtain⟨y15,hy15,h⟩:=bind_some h;have f16:=E33.idxS hy15;have f17:=E33.loadS rfl rfl hy15
 refine rd [0,3,4,7,8,10] fun K J=>?_
 refine DW.start (T:=tab) [.any,.any,.any,.own 1 [],.any,.any,.any,.own 1 [],.own 1 [],.any,.any,.own 1 [],.eff,.eff] [(1,[])] ?_;refine DW.runN U 8 ?_;simp only[go_sem,qd,qc,qe,reduceCtorEq,t14];refine DW.runN U 6 ?_;simp only[go_sem,qd,qg,qc,qe,reduceCtorEq,zd,f16,f17];refine DW.fin U (by decide +kernel) rfl ?_;simp only[zq,upd,qc,reduceIte,yD,xj];apply J
 obtain⟨_u18,hu18,h⟩:=bind_some h;have gu18:=yR hu18;have f19:=(zU E92.len a0.feffects)
 refine rd [0,3,4,7,8,10] fun K J=>?_
 refine DW.start (T:=tab) [.any,.any,.any,.any,.own 1 [],.any,.at [],.any,.at [],.any,.at [],.any,.at [],.any,.eff,.eff,.any,.any,.eff] [(1,[])] ?_;refine DW.runN U 8 ?_;simp only[go_sem,qd,qc,qe,reduceCtorEq,qk,qp,ql];refine DW.runN U 8 ?_;simp only[go_sem,qd,qg,qc,qe,qj,reduceCtorEq,zM,yz,qV,qL,true_and,q5,yG,yf,yJ,gu18,f19,yZ,qW,qQ,AV.one,qD,qC,qk,qp,ql,qK];refine DW.runN U 3 ?_;simp only[go_sem,qd,qg,qc,qe,reduceCtorEq,qk,qp,ql];refine DW.fin U (by decide +kernel) rfl ?_;simp only[zq,upd,qc,reduceIte,yD,xj];apply J
 refine yX (L:=[(0,.op 0 0 0),(3,.op 6 0 0),(4,.op 7 0 0),(7,.op 9 0 0),(8,.op 10 0 0),(10,.op 11 0 0)]) (τ:=[.cells 0 [.int .i64 a0.fself,.ds true (qb ZC a0.fnumbers) (qa a0.fnumbers) false,.ds true (qb zd a0.fschemas) (qa a0.fschemas) false,.str a0.fnewest.fName,.ds true (qb ze a0.fnewest.fMessages) (qa a0.fnewest.fMessages) false,.ds true (qb zh a0.fnewest.fEnums) (qa a0.fnewest.fEnums) false,.ds true (qb zv a0.fnewest.fMethods) (qa a0.fnewest.fMethods) false,.ds true (qb yd a0.frows) (qa a0.frows) false,.op 1 0 0,.os true 8 5 (a0.veffects+1) 0 (qa (a0.feffects++[(⟨a1.fFrom,a1.fID,a1.fMethod,r10.1.fin⟩:xy)])) false],.cells 0 [.int .i64 a0.fcache.fsize,.os true 2 2 (a0.fcache.vorder) 0 (qa a0.fcache.forder) false,.mp 3,.mp 4],.cells (a0.fcache.vorder) (qb zC a0.fcache.forder),.map (xp zV yw a0.fcache.freplies.l) (some (a0.fcache.freplies.bs,a0.fcache.freplies.ck)),.map (xp (AV.int .i64) (AV.int .i64) a0.fcache.flast.l) (some (a0.fcache.flast.bs,a0.fcache.flast.ck)),.cells (a0.veffects+1) (qb zo (a0.feffects++[(⟨a1.fFrom,a1.fID,a1.fMethod,r10.1.fin⟩:xy)])),.cells 0 (zH a1),.cells 0 [.int .i64 0,.int .i64 0,.int .i64 0,.int .i64 0,.int .i64 0,.str [],.int .i64 0,.str []],.cells 0 (zH r1.1),.cells 0 [.int .i64 4,.int .i64 a0.fself,.int .i64 a1.fFrom,.int .i64 a1.fID,.int .i64 a1.fVersion,.str a1.fMethod,.int .i64 0,.str []],.cells 0 (xL r10.1),.cells 0 (zd y15),.cells 0 [.int .i64 a1.fFrom,.int .i64 a1.fID,.str a1.fMethod,.int .i64 r10.1.fin.fKind,.int .i64 r10.1.fin.fN,.str r10.1.fin.fS,.ds true (qb zx r10.1.fin.fEntries) (qa r10.1.fin.fEntries) false,.ds true (qb zA r10.1.fin.fRest) (qa r10.1.fin.fRest) false]]) .s ?_;obtain⟨r20,hr20,h⟩:=bind_some h
 refine rd [0,3,4,7,8,10,11] fun K J=>?_
 refine DW.start (T:=tab) [.at [],.any,.any,.any,.at [],.any,.any,.any,.at [],.any,.at [],.any,.at [],.eff,.flt,.eff] [] ?_;refine DW.runN U 8 ?_;simp only[go_sem,qd,qg,qc,qe,reduceCtorEq];refine DW.runN U 5 ?_;simp only[go_sem,qd,qg,qc,qe,reduceCtorEq];refine DW.call rfl rfl rfl ((yO.ok hr20).c _) ?_;refine DW.runN U 2 ?_;simp only[go_sem,qd,qg,qc,qe,reduceCtorEq,zb];refine DW.fin U (by decide +kernel) rfl ?_;simp only[zq,upd,qc,reduceIte,yD,xj];apply J
 refine rc [0,3,4,7,11,12] fun K J=>?_
 obtain⟨r21,hr21,h⟩:=bind_some h;refine κ 9 ?_;refine clN rfl rfl rfl ((xR.ok hr21).c _) ?_;refine rnW 6 @yr.eq_1 ?_;refine nkN J ?_;refine O [0,3,4,7,11,12,14] ?_;refine we (fun L τ=>∃ (x22:Int) (x23:List UInt8),L=[(0,.op 0 0 0),(3,.op 6 0 0),(4,.op 7 0 0),(7,.op 8 0 0),(9,.int .i64 x22),(14,.ds true (qb XD x23) (qa x23) false)]∧τ=([.cells 0 [.int .i64 a0.fself,.ds true (qb ZC a0.fnumbers) (qa a0.fnumbers) false,.ds true (qb zd a0.fschemas) (qa a0.fschemas) false,.str a0.fnewest.fName,.ds true (qb ze a0.fnewest.fMessages) (qa a0.fnewest.fMessages) false,.ds true (qb zh a0.fnewest.fEnums) (qa a0.fnewest.fEnums) false,.ds true (qb zv a0.fnewest.fMethods) (qa a0.fnewest.fMethods) false,.ds true (qb yd a0.frows) (qa a0.frows) false,.op 1 0 0,.os true 8 5 (a0.veffects+1) 0 (qa (a0.feffects++[(⟨a1.fFrom,a1.fID,a1.fMethod,r10.1.fin⟩:xy)])) false],.cells 0 [.int .i64 a0.fcache.fsize,.os true 2 2 (a0.fcache.vorder) 0 (qa a0.fcache.forder) false,.mp 3,.mp 4],.cells (a0.fcache.vorder) (qb zC a0.fcache.forder),.map (xp zV yw a0.fcache.freplies.l) (some (a0.fcache.freplies.bs,a0.fcache.freplies.ck)),.map (xp (AV.int .i64) (AV.int .i64) a0.fcache.flast.l) (some (a0.fcache.flast.bs,a0.fcache.flast.ck)),.cells (a0.veffects+1) (qb zo (a0.feffects++[(⟨a1.fFrom,a1.fID,a1.fMethod,r10.1.fin⟩:xy)])),.cells 0 (zH a1),.cells 0 [.int .i64 0,.int .i64 0,.int .i64 0,.int .i64 0,.int .i64 0,.str [],.int .i64 0,.str []],.cells 0 [.int .i64 4,.int .i64 a0.fself,.int .i64 a1.fFrom,.int .i64 a1.fID,.int .i64 a1.fVersion,.str a1.fMethod,.int .i64 0,.str []]]:zf)∧xS.j24 a0 a1 r10 x22 x23=some r) ?_ ?_
 · refine rc [0,3,4,7,9,11,14] fun K J=>?_
   obtain⟨r27,hr27,h⟩:=bind_some h;refine κ 2 ?_;refine clN rfl rfl rfl ((XO.ok hr27).c _) ?_;refine rnW 5 @zb.eq_1 ?_;refine nkN J ?_;refine O [0,3,4,7,9,11,14,122] ?_;refine zR rfl (fun hc28=>?_) (fun hc28=>?_)
   · rw[if_pos hc28] at h;have t29:=eq_true hc28
     refine rcE [0,3,4,7,9,14] fun K J=>?_
     obtain⟨r30,hr30,h⟩:=bind_some h;refine rnW 1 t29 ?_;refine clN rfl rfl rfl ((Xy.ok hr30).c _) ?_;refine κ 5 ?_;refine nkN J ?_;exact⟨_,_,⟨r30.2,r30.1,rfl,rfl,h⟩,(.t [0,1,2,3,4,5,6,7,9] false)⟩
   rw[if_neg hc28] at h;have t31:=eq_false hc28;apply zg;exact⟨_,_,⟨r27.2,([]:List UInt8),rfl,rfl,h⟩,(.t [0,1,2,3,4,5,6,7,9] true)⟩
 rintro _ _ ⟨x22,x23,rfl,rfl,h⟩;unfold xS.j24 at h;have f25:=conv_b2s (T:=tab) (src:=48) (dst:=9) rfl rfl rfl rfl rfl rfl x23
 refine rd [0,3,4,7] fun K J=>?_
 refine DW.start (T:=tab) [.any,.any,.own 1 [8],.any,.eff,.any,.eff] [(1,[8])] ?_;refine DW.runN U 7 ?_;simp only[go_sem,qd,qg,qc,qe,reduceCtorEq,zH,f25];refine DW.fin U (by decide +kernel) rfl ?_;simp only[zq,upd,qc,reduceIte,yD,xj];apply J
 obtain⟨r26,hr26,h⟩:=bind_some h
 refine rd [4,7] fun K J=>?_
 refine DW.start (T:=tab) [.any,.any,.any,.at [],.any,.at [],.any,.at [],.at [],.eff] [] ?_;refine DW.runN U 8 ?_;simp only[go_sem,qd,qc,qe,reduceCtorEq,zH];refine DW.runN U 1 ?_;simp only[go_sem,qd,qg,qc,qe,reduceCtorEq];refine DW.callS rfl rfl rfl (@id (ACalls qf 134 [.op 1 0 0,.int .i64 a1.fFrom,.int .i64 a1.fID,.agg [.int .i64 4,.int .i64 a0.fself,.int .i64 a1.fFrom,.int .i64 a1.fID,.int .i64 a1.fVersion,.str a1.fMethod,.int .i64 x22,.str x23]] [.cells 0 [.int .i64 a0.fself,.ds true (qb ZC a0.fnumbers) (qa a0.fnumbers) false,.ds true (qb zd a0.fschemas) (qa a0.fschemas) false,.str a0.fnewest.fName,.ds true (qb ze a0.fnewest.fMessages) (qa a0.fnewest.fMessages) false,.ds true (qb zh a0.fnewest.fEnums) (qa a0.fnewest.fEnums) false,.ds true (qb zv a0.fnewest.fMethods) (qa a0.fnewest.fMethods) false,.ds true (qb yd a0.frows) (qa a0.frows) false,.op 1 0 0,.os true 8 5 (a0.veffects+1) 0 (qa (a0.feffects++[(⟨a1.fFrom,a1.fID,a1.fMethod,r10.1.fin⟩:xy)])) false],.cells 0 [.int .i64 a0.fcache.fsize,.os true 2 2 (a0.fcache.vorder) 0 (qa a0.fcache.forder) false,.mp 3,.mp 4],.cells (a0.fcache.vorder) (qb zC a0.fcache.forder),.map (xp zV yw a0.fcache.freplies.l) (some (a0.fcache.freplies.bs,a0.fcache.freplies.ck)),.map (xp (AV.int .i64) (AV.int .i64) a0.fcache.flast.l) (some (a0.fcache.flast.bs,a0.fcache.flast.ck)),.cells (a0.veffects+1) (qb zo (a0.feffects++[(⟨a1.fFrom,a1.fID,a1.fMethod,r10.1.fin⟩:xy)])),.cells 0 (zH a1),.cells 0 [.int .i64 0,.int .i64 0,.int .i64 0,.int .i64 0,.int .i64 0,.str [],.int .i64 0,.str []],.cells 0 [.int .i64 4,.int .i64 a0.fself,.int .i64 a1.fFrom,.int .i64 a1.fID,.int .i64 a1.fVersion,.str a1.fMethod,.int .i64 x22,.str x23]] (fun r' σ'=>r'=.int .i64 r26.1∧σ'=[.cells 0 [.int .i64 a0.fself,.ds true (qb ZC a0.fnumbers) (qa a0.fnumbers) false,.ds true (qb zd a0.fschemas) (qa a0.fschemas) false,.str a0.fnewest.fName,.ds true (qb ze a0.fnewest.fMessages) (qa a0.fnewest.fMessages) false,.ds true (qb zh a0.fnewest.fEnums) (qa a0.fnewest.fEnums) false,.ds true (qb zv a0.fnewest.fMethods) (qa a0.fnewest.fMethods) false,.ds true (qb yd a0.frows) (qa a0.frows) false,.op 1 0 0,.os true 8 5 (a0.veffects+1) 0 (qa (a0.feffects++[(⟨a1.fFrom,a1.fID,a1.fMethod,r10.1.fin⟩:xy)])) false],.cells 0 [.int .i64 r26.2.fsize,.os true 2 2 (r26.2.vorder) 0 (qa r26.2.forder) false,.mp 3,.mp 4],.cells (r26.2.vorder) (qb zC r26.2.forder),.map (xp zV yw r26.2.freplies.l) (some (r26.2.freplies.bs,r26.2.freplies.ck)),.map (xp (AV.int .i64) (AV.int .i64) r26.2.flast.l) (some (r26.2.flast.bs,r26.2.flast.ck)),.cells (a0.veffects+1) (qb zo (a0.feffects++[(⟨a1.fFrom,a1.fID,a1.fMethod,r10.1.fin⟩:xy)])),.cells 0 (zH a1),.cells 0 [.int .i64 0,.int .i64 0,.int .i64 0,.int .i64 0,.int .i64 0,.str [],.int .i64 0,.str []],.cells 0 [.int .i64 4,.int .i64 a0.fself,.int .i64 a1.fFrom,.int .i64 a1.fID,.int .i64 a1.fVersion,.str a1.fMethod,.int .i64 x22,.str x23]])) ((w7.ok hr26).ix [1,2,3,4])) (vbM (by simp only[go_sem])) ?_;refine DW.fin U (by decide +kernel) rfl ?_;simp only[zq,van,upd,qc,reduceIte,yD,xj];apply J
 refine O [4] ?_;apply yE;cases h;simp only[Yk,xg,xw,wu,exists_eq_left',go_sem,qg,qe,zH];refine⟨by decide,by simp,?_,?_⟩
 · first|rfl|(simp only[go_sem,qd,qg,qc,qe,qj,qr,reduceIte,reduceCtorEq,push_cast,if_true,qw,ql,qy,qq,qE,qv,qM,qI,qz,qu,qn,zL,zb,zC,zH,zd,zo,yC]<;>rfl)
 first|rfl|(simp only[go_sem,qc,qe,reduceCtorEq,push_cast,if_true,ql,qy,qq,qv,qz,qu,zL]<;>rfl)
end
section
set_option maxRecDepth 4000
set_option maxHeartbeats 1000000
open AM
def Zh (a0:wx)(a1:Zd):Option (Zd×Bool×wx):=
 (if a1.fTo=a0.fself then (if a1.fKind=1 then none else (if a1.fKind=3 then (xS a0 a1).bind fun r11=>some (r11.1,true,r11.2) else none)) else none)
theorem Zh.ok {a0 a1 r}(h:Zh a0 a1=some r):ACalls qf 47 [.op 0 0 0,.agg (zH a1)] [.cells 0 [.int .i64 a0.fself,.ds true (qb ZC a0.fnumbers) (qa a0.fnumbers) false,.ds true (qb zd a0.fschemas) (qa a0.fschemas) false,.str a0.fnewest.fName,.ds true (qb ze a0.fnewest.fMessages) (qa a0.fnewest.fMessages) false,.ds true (qb zh a0.fnewest.fEnums) (qa a0.fnewest.fEnums) false,.ds true (qb zv a0.fnewest.fMethods) (qa a0.fnewest.fMethods) false,.ds true (qb yd a0.frows) (qa a0.frows) false,.op 1 0 0,.os true 8 5 (a0.veffects) 0 (qa a0.feffects) false],.cells 0 [.int .i64 a0.fcache.fsize,.os true 2 2 (a0.fcache.vorder) 0 (qa a0.fcache.forder) false,.mp 3,.mp 4],.cells (a0.fcache.vorder) (qb zC a0.fcache.forder),.map (xp zV yw a0.fcache.freplies.l) (some (a0.fcache.freplies.bs,a0.fcache.freplies.ck)),.map (xp (AV.int .i64) (AV.int .i64) a0.fcache.flast.l) (some (a0.fcache.flast.bs,a0.fcache.flast.ck)),.cells (a0.veffects) (qb zo a0.feffects)] (fun r' σ'=>r'=.tup [.agg (zH r.1),.bool r.2.1]∧σ'=[.cells 0 [.int .i64 r.2.2.fself,.ds true (qb ZC r.2.2.fnumbers) (qa r.2.2.fnumbers) false,.ds true (qb zd r.2.2.fschemas) (qa r.2.2.fschemas) false,.str r.2.2.fnewest.fName,.ds true (qb ze r.2.2.fnewest.fMessages) (qa r.2.2.fnewest.fMessages) false,.ds true (qb zh r.2.2.fnewest.fEnums) (qa r.2.2.fnewest.fEnums) false,.ds true (qb zv r.2.2.fnewest.fMethods) (qa r.2.2.fnewest.fMethods) false,.ds true (qb yd r.2.2.frows) (qa r.2.2.frows) false,.op 1 0 0,.os true 8 5 (r.2.2.veffects) 0 (qa r.2.2.feffects) false],.cells 0 [.int .i64 r.2.2.fcache.fsize,.os true 2 2 (r.2.2.fcache.vorder) 0 (qa r.2.2.fcache.forder) false,.mp 3,.mp 4],.cells (r.2.2.fcache.vorder) (qb zC r.2.2.fcache.forder),.map (xp zV yw r.2.2.fcache.freplies.l) (some (r.2.2.fcache.freplies.bs,r.2.2.fcache.freplies.ck)),.map (xp (AV.int .i64) (AV.int .i64) r.2.2.fcache.flast.l) (some (r.2.2.fcache.flast.bs,r.2.2.fcache.flast.ck)),.cells (r.2.2.veffects) (qb zo r.2.2.feffects)]):=by
 refine ZH [0,1,2,3,4,5] (rs:=[.cell 4 43,.tmp 5]) U Tryz.func47 rfl Tryz.ntmps47 rfl Tryz.call47 (by simp) rfl ?_;refine zu [(0,.op 0 0 0),(1,.agg (zH a1))] ⟨rfl,rfl,trivial⟩ ?_;unfold Zh at h;refine rgW [0,3,4] @zH.eq_1 ?_
 refine za fun Z1 hZ1=>?_
 refine rd [0,3,4,12] fun K J=>?_
 refine DW.start (T:=tab) [.any,.at [],.any,.any,.any,.at [],.any] [] ?_;refine DW.runN U 7 ?_;simp only[go_sem,qd,qc,qe,reduceCtorEq];refine DW.fin U (by decide +kernel) rfl ?_;simp only[zq,upd,qc,reduceIte,yD,xj];apply J
 refine zR rfl (fun hc2=>?_) (fun hc2=>?_)
 · rw[if_neg hc2] at h;have t3:=eq_false hc2;cases h
 rw[if_pos hc2] at h;have t4:=eq_true hc2;apply zg;apply hZ1
 refine za fun Z5 hZ5=>?_
 refine rgW [0,3,4,15] t4 ?_;apply zj;refine O [0,3,4,15,16] ?_;refine zR rfl (fun hc6=>?_) (fun hc6=>?_)
 · rw[if_pos hc6] at h;have t7:=eq_true hc6;cases h
 rw[if_neg hc6] at h;have t8:=eq_false hc6;refine rgW [0,3,4,31] t8 ?_;refine zR rfl (fun hc9=>?_) (fun hc9=>?_)
 · rw[if_pos hc9] at h;have t10:=eq_true hc9
   refine rc [4,5] fun K J=>?_
   obtain⟨r11,hr11,h⟩:=bind_some h;refine rnW 2 (aI @zH.eq_1 t10) ?_;refine clN rfl rfl rfl (@id (ACalls qf 87 [.op 0 0 0,.agg (zH a1)] [.cells 0 [.int .i64 a0.fself,.ds true (qb ZC a0.fnumbers) (qa a0.fnumbers) false,.ds true (qb zd a0.fschemas) (qa a0.fschemas) false,.str a0.fnewest.fName,.ds true (qb ze a0.fnewest.fMessages) (qa a0.fnewest.fMessages) false,.ds true (qb zh a0.fnewest.fEnums) (qa a0.fnewest.fEnums) false,.ds true (qb zv a0.fnewest.fMethods) (qa a0.fnewest.fMethods) false,.ds true (qb yd a0.frows) (qa a0.frows) false,.op 1 0 0,.os true 8 5 (a0.veffects) 0 (qa a0.feffects) false],.cells 0 [.int .i64 a0.fcache.fsize,.os true 2 2 (a0.fcache.vorder) 0 (qa a0.fcache.forder) false,.mp 3,.mp 4],.cells (a0.fcache.vorder) (qb zC a0.fcache.forder),.map (xp zV yw a0.fcache.freplies.l) (some (a0.fcache.freplies.bs,a0.fcache.freplies.ck)),.map (xp (AV.int .i64) (AV.int .i64) a0.fcache.flast.l) (some (a0.fcache.flast.bs,a0.fcache.flast.ck)),.cells (a0.veffects) (qb zo a0.feffects),.cells 0 (zH a1),.cells 0 [.int .i64 0,.int .i64 0,.int .i64 0,.int .i64 0,.int .i64 0,.str [],.int .i64 0,.str []]] (fun r' σ'=>r'=.agg (zH r11.1)∧σ'=[.cells 0 [.int .i64 r11.2.fself,.ds true (qb ZC r11.2.fnumbers) (qa r11.2.fnumbers) false,.ds true (qb zd r11.2.fschemas) (qa r11.2.fschemas) false,.str r11.2.fnewest.fName,.ds true (qb ze r11.2.fnewest.fMessages) (qa r11.2.fnewest.fMessages) false,.ds true (qb zh r11.2.fnewest.fEnums) (qa r11.2.fnewest.fEnums) false,.ds true (qb zv r11.2.fnewest.fMethods) (qa r11.2.fnewest.fMethods) false,.ds true (qb yd r11.2.frows) (qa r11.2.frows) false,.op 1 0 0,.os true 8 5 (r11.2.veffects) 0 (qa r11.2.feffects) false],.cells 0 [.int .i64 r11.2.fcache.fsize,.os true 2 2 (r11.2.fcache.vorder) 0 (qa r11.2.fcache.forder) false,.mp 3,.mp 4],.cells (r11.2.fcache.vorder) (qb zC r11.2.fcache.forder),.map (xp zV yw r11.2.fcache.freplies.l) (some (r11.2.fcache.freplies.bs,r11.2.fcache.freplies.ck)),.map (xp (AV.int .i64) (AV.int .i64) r11.2.fcache.flast.l) (some (r11.2.fcache.flast.bs,r11.2.fcache.flast.ck)),.cells (r11.2.veffects) (qb zo r11.2.feffects),.cells 0 (zH a1),.cells 0 [.int .i64 0,.int .i64 0,.int .i64 0,.int .i64 0,.int .i64 0,.str [],.int .i64 0,.str []]])) ((xS.ok hr11).ix [0,1,2,3,4,5])) ?_;refine rnW 2 @zH.eq_1 ?_;refine nkN J ?_;apply yE;cases h;simp only[Yk,xg,xw,wu,exists_eq_left',go_sem,qg,qc,qe,zH];refine⟨by decide,by simp,?_,?_⟩
   · first|rfl|(simp only[go_sem,qd,qg,qc,qe,qj,qr,reduceIte,reduceCtorEq,push_cast,if_true,qw,ql,qy,qq,qE,qv,qM,qI,qz,qu,qn,zL,zb,zC,zH,zd,zo,yC]<;>rfl)
   first|rfl|(simp only[go_sem,qc,qe,reduceCtorEq,push_cast,if_true,ql,qy,qq,qv,qz,qu,zL]<;>rfl)
 rw[if_neg hc9] at h;have t12:=eq_false hc9;apply zg;apply hZ5;cases h
def Yp (a0:List xy):Option (List xy):=(vao (qa a0) 112).bind fun _=>some a0
theorem Yp.lo (a0 r:List xy)(h:Yp a0=some r)(ver:Nat):ACalls qf 88 [.os true 8 0 ver 0 (qa a0) false] [.cells ver (qb zo a0)] (fun r' σ'=>r'=.ds true (qb zo r) (qa r) false∧σ'=[.cells ver (qb zo a0)]):=by
 obtain⟨_u,hu,h⟩:=bind_some h;have gu:=yR hu;cases h;have f2:=zU E92.len a0;have f3:=Xd zo a0
 have f1:∀ τ:zf,y0 (.cells ver (qb zo a0)::τ) 8 (.os true 8 0 ver 0 (qa a0) false)=some (qa a0,qb zo a0):=fun τ=>by
  simp only[y0,zf.at_hd,if_true,qw,ql,← f2,uh,qA]
 have fin:∀ σ id ver tt,zf.at σ id ver=some (qb zo a0)→Xv [0] id 0=none→tell σ [0] true 12 (.os true 8 id ver 0 (qa a0) tt)=.ds true (qb zo a0) (qa a0) false:=by
  intro σ id ver tt hs hk
  simp only[ZS,hk,hs,qw,ql];rw[if_pos (by rw[f2]; exact qA _),← f2,uh,zL]
 refine ZH [0] (rs:=[.tmp 2]) U Tryz.func88 rfl Tryz.ntmps88 rfl Tryz.call88 (by simp) rfl ?_;refine zu [(0,.os true 8 0 ver 0 (qa a0) false)] ⟨rfl,trivial⟩ ?_;refine O [0] ?_
 refine za fun Z1 hZ1=>?_
 refine rc [0,4] fun K J=>?_
 refine κ 1 ?_
 refine XK U rfl rfl rfl rfl rfl rfl fun b hnil=>?_
 have hb:b=true→a0=[]:=fun hb=>by
  have:=hnil hb;simp only[yJ,go_sem,reduceCtorEq] at this;exact q1 this
 clear hnil
 refine nkN J ?_;cases b
 · refine zD rfl ?_;apply zg;apply hZ1
   refine rg U [2] fun K J=>?_
   by_cases h0:qa a0=0
   · obtain rfl:=q1 h0;simp only[go_sem,qd,qc,qe,reduceCtorEq,zM,yz,qL,ux,yG,yf,yJ,y0,uo,qp,uq,qW,List.drop_nil,List.take_nil,qF,and_self];apply J
     apply yE;simp only[Yk,xg,xw,wu,exists_eq_left',go_sem,qe];refine⟨by decide,by simp,?_,?_⟩
     · first|rfl|(simp only[go_sem,qd,qg,qc,qe,qj,qr,reduceIte,reduceCtorEq,ZS,Zp,YG,qq]<;>rfl)
     first|rfl|(simp only[go_sem,qd,qg,qc,qe,qj,qr,reduceIte,reduceCtorEq,Xl,vbu,YO,Xm,XG,qq]<;>rfl)
   have h1:=eq_false h0;simp only[go_sem,qd,qc,qe,reduceCtorEq,zM,yz,qL,ux,yG,yf,yJ,f1,f3,h1,gu,yZ,qq,qC,uq];apply J
   apply yE;simp only[Yk,xg,xw,wu,exists_eq_left',go_sem,qe];refine⟨by decide,by simp,?_,?_⟩
   · exact fin _ _ _ _ (by simp only[zf.at_hd,zf.at_tl,if_true]) rfl
   first|rfl|(simp only[go_sem,Xl,YO,Xm,zL,qq]<;>rfl)
 obtain rfl:=hb rfl;refine zE rfl ?_;refine O [2] ?_;apply yE;simp only[Yk,xg,xw,wu,exists_eq_left',go_sem];refine⟨by decide,by simp,?_,?_⟩
 · first|rfl|(simp only[go_sem,qd,qg,qc,qe,qj,qr,reduceIte,reduceCtorEq,XF,qq,qv,qM,qu,qn,qI,qz]<;>rfl)
 first|rfl|(simp only[go_sem,qd,qg,qc,qe,qj,qr,reduceIte,reduceCtorEq,Xl,vbu,YO,Xm,XG,zL,qq,uo]<;>rfl)
def Zu (a0:wx):Option (List xy):=
 (Yp a0.feffects).bind fun r1=>some r1
theorem Zu.ok {a0 r}(h:Zu a0=some r):ACalls qf 48 [.op 0 0 0] [.cells 0 [.int .i64 a0.fself,.ds true (qb ZC a0.fnumbers) (qa a0.fnumbers) false,.ds true (qb zd a0.fschemas) (qa a0.fschemas) false,.str a0.fnewest.fName,.ds true (qb ze a0.fnewest.fMessages) (qa a0.fnewest.fMessages) false,.ds true (qb zh a0.fnewest.fEnums) (qa a0.fnewest.fEnums) false,.ds true (qb zv a0.fnewest.fMethods) (qa a0.fnewest.fMethods) false,.ds true (qb yd a0.frows) (qa a0.frows) false,.op 1 0 0,.os true 8 5 (a0.veffects) 0 (qa a0.feffects) false],.cells 0 [.int .i64 a0.fcache.fsize,.os true 2 2 (a0.fcache.vorder) 0 (qa a0.fcache.forder) false,.mp 3,.mp 4],.cells (a0.fcache.vorder) (qb zC a0.fcache.forder),.map (xp zV yw a0.fcache.freplies.l) (some (a0.fcache.freplies.bs,a0.fcache.freplies.ck)),.map (xp (AV.int .i64) (AV.int .i64) a0.fcache.flast.l) (some (a0.fcache.flast.bs,a0.fcache.flast.ck)),.cells (a0.veffects) (qb zo a0.feffects)] (fun r' σ'=>r'=.ds true (qb zo r) (qa r) false∧σ'=[.cells 0 [.int .i64 a0.fself,.ds true (qb ZC a0.fnumbers) (qa a0.fnumbers) false,.ds true (qb zd a0.fschemas) (qa a0.fschemas) false,.str a0.fnewest.fName,.ds true (qb ze a0.fnewest.fMessages) (qa a0.fnewest.fMessages) false,.ds true (qb zh a0.fnewest.fEnums) (qa a0.fnewest.fEnums) false,.ds true (qb zv a0.fnewest.fMethods) (qa a0.fnewest.fMethods) false,.ds true (qb yd a0.frows) (qa a0.frows) false,.op 1 0 0,.os true 8 5 (a0.veffects) 0 (qa a0.feffects) false],.cells 0 [.int .i64 a0.fcache.fsize,.os true 2 2 (a0.fcache.vorder) 0 (qa a0.fcache.forder) false,.mp 3,.mp 4],.cells (a0.fcache.vorder) (qb zC a0.fcache.forder),.map (xp zV yw a0.fcache.freplies.l) (some (a0.fcache.freplies.bs,a0.fcache.freplies.ck)),.map (xp (AV.int .i64) (AV.int .i64) a0.fcache.flast.l) (some (a0.fcache.flast.bs,a0.fcache.flast.ck)),.cells (a0.veffects) (qb zo a0.feffects)]):=by
 refine ZH [0,1,2,3,4,5] (rs:=[.tmp 2]) U Tryz.func48 rfl Tryz.ntmps48 rfl Tryz.call48 (by simp) rfl ?_;refine zu [(0,.op 0 0 0)] ⟨rfl,trivial⟩ ?_;unfold Zu at h;refine O [0] ?_
 refine rc [2] fun K J=>?_
 obtain⟨r1,hr1,h⟩:=bind_some h;refine κ 4 ?_;refine clN rfl rfl rfl (@id (ACalls qf 88 [.os true 8 5 (a0.veffects) 0 (qa a0.feffects) false] [.cells 0 [.int .i64 a0.fself,.ds true (qb ZC a0.fnumbers) (qa a0.fnumbers) false,.ds true (qb zd a0.fschemas) (qa a0.fschemas) false,.str a0.fnewest.fName,.ds true (qb ze a0.fnewest.fMessages) (qa a0.fnewest.fMessages) false,.ds true (qb zh a0.fnewest.fEnums) (qa a0.fnewest.fEnums) false,.ds true (qb zv a0.fnewest.fMethods) (qa a0.fnewest.fMethods) false,.ds true (qb yd a0.frows) (qa a0.frows) false,.op 1 0 0,.os true 8 5 (a0.veffects) 0 (qa a0.feffects) false],.cells 0 [.int .i64 a0.fcache.fsize,.os true 2 2 (a0.fcache.vorder) 0 (qa a0.fcache.forder) false,.mp 3,.mp 4],.cells (a0.fcache.vorder) (qb zC a0.fcache.forder),.map (xp zV yw a0.fcache.freplies.l) (some (a0.fcache.freplies.bs,a0.fcache.freplies.ck)),.map (xp (AV.int .i64) (AV.int .i64) a0.fcache.flast.l) (some (a0.fcache.flast.bs,a0.fcache.flast.ck)),.cells (a0.veffects) (qb zo a0.feffects)] (fun r' σ'=>r'=.ds true (qb zo r1) (qa r1) false∧σ'=[.cells 0 [.int .i64 a0.fself,.ds true (qb ZC a0.fnumbers) (qa a0.fnumbers) false,.ds true (qb zd a0.fschemas) (qa a0.fschemas) false,.str a0.fnewest.fName,.ds true (qb ze a0.fnewest.fMessages) (qa a0.fnewest.fMessages) false,.ds true (qb zh a0.fnewest.fEnums) (qa a0.fnewest.fEnums) false,.ds true (qb zv a0.fnewest.fMethods) (qa a0.fnewest.fMethods) false,.ds true (qb yd a0.frows) (qa a0.frows) false,.op 1 0 0,.os true 8 5 (a0.veffects) 0 (qa a0.feffects) false],.cells 0 [.int .i64 a0.fcache.fsize,.os true 2 2 (a0.fcache.vorder) 0 (qa a0.fcache.forder) false,.mp 3,.mp 4],.cells (a0.fcache.vorder) (qb zC a0.fcache.forder),.map (xp zV yw a0.fcache.freplies.l) (some (a0.fcache.freplies.bs,a0.fcache.freplies.ck)),.map (xp (AV.int .i64) (AV.int .i64) a0.fcache.flast.l) (some (a0.fcache.flast.bs,a0.fcache.flast.ck)),.cells (a0.veffects) (qb zo a0.feffects)])) ((Yp.lo a0.feffects r1 hr1 a0.veffects).i [5])) ?_;refine κ 1 ?_;refine nkN J ?_;apply yE;cases h;simp only[Yk,xg,xw,wu,exists_eq_left',go_sem,qe];refine⟨by decide,by simp,?_,?_⟩
 · first|rfl|(simp only[go_sem,push_cast,qv,qz,qu,zL]<;>rfl)
 first|rfl|(simp only[go_sem,qc,qe,reduceCtorEq,push_cast,if_true,ql,qy,qq,qv,qz,qu,zL]<;>rfl)
def YV  : Option Bool:=
 bnd (vap 1) fun r1=>bnd (vap 1) fun r2=>bnd (XM 5) fun r3=>bnd (XM 7) fun r4=>(Xo 0 [1] [r1] r2 [(⟨[99],r3,r4⟩:vay)] 4).bind fun r5=>(match r5.1 with|.none=>(if ((!(decide (r5.2=0)))||true)=true then none else none)|.some y6=>(if ((!(decide (r5.2=0)))||false)=true then none else (Zh y6 (⟨3,1,0,1,1,[99],0,[2,10]⟩:Zd)).bind fun r15=>(Zh r15.2.2 (⟨3,1,0,1,1,[99],0,[2,10]⟩:Zd)).bind fun r16=>(if (((r15.2.1&&r16.2.1)&&(decide (r15.1.fKind=r16.1.fKind)&&(decide (r15.1.fFrom=r16.1.fFrom)&&(decide (r15.1.fTo=r16.1.fTo)&&(decide (r15.1.fID=r16.1.fID)&&(decide (r15.1.fVersion=r16.1.fVersion)&&(decide (r15.1.fMethod=r16.1.fMethod)&&(decide (r15.1.fErr=r16.1.fErr)&&decide (r15.1.fBody=r16.1.fBody)))))))))&&(decide (r15.1.fBody=[2,14])))=true then (Zu r16.2.2).bind fun r17=>some (decide ((qa r17:Int)=1)) else some false).bind fun c17=>some c17))
theorem YV.ok  (r:Bool)(h:YV=some r):ACalls qf 41 [] [] (fun r' _=>r'=.bool r):=by
 refine zk (rs:=[.tmp 0]) U Tryz.func41 rfl Tryz.ntmps41 rfl Tryz.call41 (by simp) ?_;refine zu [] trivial ?_;unfold YV at h;refine O [] ?_
 refine rc [1,2] fun K J=>?_
 obtain⟨r1,hr1,h⟩:=yb h;refine xO U 1 ?_;simp only[go_sem,qd,qg,qj,zM,yz,qV,qL,true_and,q5];refine clN rfl rfl rfl ((vap.ok hr1).c _) ?_;obtain⟨r2,hr2,h⟩:=yb h;refine xO U 1 ?_;simp only[go_sem,qd,qg,qc,qe,qj,zM,yz,qV,qL,true_and,q5,zd];refine clN rfl rfl rfl ((vap.ok hr2).c _) ?_;obtain⟨r3,hr3,h⟩:=yb h;refine clN rfl rfl rfl ((XM.ok hr3).c _) ?_;obtain⟨r4,hr4,h⟩:=yb h;refine clN rfl rfl rfl ((XM.ok hr4).c _) ?_;obtain⟨r5,hr5,h⟩:=bind_some h;refine xO U 2 ?_;simp only[go_sem,qd,qg,qc,qe,qj,zM,yz,qV,qL,true_and,q5,zb,zd];refine vcz (L:=[(9,.ds true (qb ZC [1]) (qa [1]) false),(11,.ds true (qb zd [r1]) (qa [r1]) false),(12,.agg (zd r2)),(16,.ds true (qb yd [(⟨[99],r3,r4⟩:vay)]) (qa [(⟨[99],r3,r4⟩:vay)]) false)]) (τ:=[]) (.t [] false) ?_;refine clN rfl rfl rfl (Xo.at hr5 _) ?_;refine rnW 5 (aI @yd.eq_1 @zd.eq_1) ?_;refine nkN J ?_
 generalize hz6:r5.1=z6 at h ⊢
 rcases z6 with _|y6
 · try dsimp only at h
   simp only[newV_none,ZW];refine awp_eqS (τ:=[]) (by first|rfl|(simp only[qy,qq,qT,qC,qK,renO_mapE,renO_cells,vcj,AV.ren,renL_E,vbd,qe]<;>first|rfl|(and_intros<;>rfl))) ?_
   refine za fun Z7 hZ7=>?_
   refine rc [1,25] fun K J=>?_
   refine κ 3 ?_;refine cut 3 22 25 [1] ((!(decide (r5.2=0)))||true) qF rfl ?_;refine nkN J ?_;refine zB (b:=((!(decide (r5.2=0)))||true)) rfl (fun hc10=>?_) (fun hc10=>?_)
   · rw[if_pos hc10] at h;cases h
   rw[wn hc10] at h;apply zg;apply hZ7;refine O [1,3] ?_;cases h
 try dsimp only at h
 simp only[vdX,ZW];refine awp_eqS (τ:=[.cells 0 [.int .i64 y6.fself,.ds true (qb ZC y6.fnumbers) (qa y6.fnumbers) false,.ds true (qb zd y6.fschemas) (qa y6.fschemas) false,.str y6.fnewest.fName,.ds true (qb ze y6.fnewest.fMessages) (qa y6.fnewest.fMessages) false,.ds true (qb zh y6.fnewest.fEnums) (qa y6.fnewest.fEnums) false,.ds true (qb zv y6.fnewest.fMethods) (qa y6.fnewest.fMethods) false,.ds true (qb yd y6.frows) (qa y6.frows) false,.op 1 0 0,.os true 8 5 (y6.veffects) 0 (qa y6.feffects) false],.cells 0 [.int .i64 y6.fcache.fsize,.os true 2 2 (y6.fcache.vorder) 0 (qa y6.fcache.forder) false,.mp 3,.mp 4],.cells (y6.fcache.vorder) (qb zC y6.fcache.forder),.map (xp zV yw y6.fcache.freplies.l) (some (y6.fcache.freplies.bs,y6.fcache.freplies.ck)),.map (xp (AV.int .i64) (AV.int .i64) y6.fcache.flast.l) (some (y6.fcache.flast.bs,y6.fcache.flast.ck)),.cells (y6.veffects) (qb zo y6.feffects)]) (by first|rfl|(simp only[qy,qq,renO_mapE,renO_cells,vcj,AV.ren,vbd]<;>first|rfl|(and_intros<;>rfl))) ?_
 refine za fun Z11 hZ11=>?_
 refine rc [1,25] fun K J=>?_
 refine κ 3 ?_;refine cut 3 22 25 [1] ((!(decide (r5.2=0)))||false) qF rfl ?_;refine nkN J ?_;refine zB (b:=((!(decide (r5.2=0)))||false)) rfl (fun hc14=>?_) (fun hc14=>?_)
 · rw[if_pos hc14] at h;cases h
 rw[wn hc14] at h;apply zg;apply hZ11;refine O [1,3] ?_
 refine rc [1,3,4,5] fun K J=>?_
 obtain⟨r15,hr15,h⟩:=bind_some h;refine κ 2 ?_;refine clN rfl rfl rfl (@id (ACalls qf 47 [.op 0 0 0,.agg [.int .i64 3,.int .i64 1,.int .i64 0,.int .i64 1,.int .i64 1,.str [99],.int .i64 0,.str [2,10]]] [.cells 0 [.int .i64 y6.fself,.ds true (qb ZC y6.fnumbers) (qa y6.fnumbers) false,.ds true (qb zd y6.fschemas) (qa y6.fschemas) false,.str y6.fnewest.fName,.ds true (qb ze y6.fnewest.fMessages) (qa y6.fnewest.fMessages) false,.ds true (qb zh y6.fnewest.fEnums) (qa y6.fnewest.fEnums) false,.ds true (qb zv y6.fnewest.fMethods) (qa y6.fnewest.fMethods) false,.ds true (qb yd y6.frows) (qa y6.frows) false,.op 1 0 0,.os true 8 5 (y6.veffects) 0 (qa y6.feffects) false],.cells 0 [.int .i64 y6.fcache.fsize,.os true 2 2 (y6.fcache.vorder) 0 (qa y6.fcache.forder) false,.mp 3,.mp 4],.cells (y6.fcache.vorder) (qb zC y6.fcache.forder),.map (xp zV yw y6.fcache.freplies.l) (some (y6.fcache.freplies.bs,y6.fcache.freplies.ck)),.map (xp (AV.int .i64) (AV.int .i64) y6.fcache.flast.l) (some (y6.fcache.flast.bs,y6.fcache.flast.ck)),.cells (y6.veffects) (qb zo y6.feffects),.cells 0 [.int .i64 3,.int .i64 1,.int .i64 0,.int .i64 1,.int .i64 1,.str [99],.int .i64 0,.str [2,10]]] (fun r' σ'=>r'=.tup [.agg (zH r15.1),.bool r15.2.1]∧σ'=[.cells 0 [.int .i64 r15.2.2.fself,.ds true (qb ZC r15.2.2.fnumbers) (qa r15.2.2.fnumbers) false,.ds true (qb zd r15.2.2.fschemas) (qa r15.2.2.fschemas) false,.str r15.2.2.fnewest.fName,.ds true (qb ze r15.2.2.fnewest.fMessages) (qa r15.2.2.fnewest.fMessages) false,.ds true (qb zh r15.2.2.fnewest.fEnums) (qa r15.2.2.fnewest.fEnums) false,.ds true (qb zv r15.2.2.fnewest.fMethods) (qa r15.2.2.fnewest.fMethods) false,.ds true (qb yd r15.2.2.frows) (qa r15.2.2.frows) false,.op 1 0 0,.os true 8 5 (r15.2.2.veffects) 0 (qa r15.2.2.feffects) false],.cells 0 [.int .i64 r15.2.2.fcache.fsize,.os true 2 2 (r15.2.2.fcache.vorder) 0 (qa r15.2.2.fcache.forder) false,.mp 3,.mp 4],.cells (r15.2.2.fcache.vorder) (qb zC r15.2.2.fcache.forder),.map (xp zV yw r15.2.2.fcache.freplies.l) (some (r15.2.2.fcache.freplies.bs,r15.2.2.fcache.freplies.ck)),.map (xp (AV.int .i64) (AV.int .i64) r15.2.2.fcache.flast.l) (some (r15.2.2.fcache.flast.bs,r15.2.2.fcache.flast.ck)),.cells (r15.2.2.veffects) (qb zo r15.2.2.feffects),.cells 0 [.int .i64 3,.int .i64 1,.int .i64 0,.int .i64 1,.int .i64 1,.str [99],.int .i64 0,.str [2,10]]])) ((Zh.ok hr15).ix [0,1,2,3,4,5])) ?_;refine rnW 6 @zH.eq_1 ?_;refine nkN J ?_
 refine rc [1,4,5,6,7] fun K J=>?_
 obtain⟨r16,hr16,h⟩:=bind_some h;refine κ 2 ?_;refine clN rfl rfl rfl (@id (ACalls qf 47 [.op 0 0 0,.agg [.int .i64 3,.int .i64 1,.int .i64 0,.int .i64 1,.int .i64 1,.str [99],.int .i64 0,.str [2,10]]] [.cells 0 [.int .i64 r15.2.2.fself,.ds true (qb ZC r15.2.2.fnumbers) (qa r15.2.2.fnumbers) false,.ds true (qb zd r15.2.2.fschemas) (qa r15.2.2.fschemas) false,.str r15.2.2.fnewest.fName,.ds true (qb ze r15.2.2.fnewest.fMessages) (qa r15.2.2.fnewest.fMessages) false,.ds true (qb zh r15.2.2.fnewest.fEnums) (qa r15.2.2.fnewest.fEnums) false,.ds true (qb zv r15.2.2.fnewest.fMethods) (qa r15.2.2.fnewest.fMethods) false,.ds true (qb yd r15.2.2.frows) (qa r15.2.2.frows) false,.op 1 0 0,.os true 8 5 (r15.2.2.veffects) 0 (qa r15.2.2.feffects) false],.cells 0 [.int .i64 r15.2.2.fcache.fsize,.os true 2 2 (r15.2.2.fcache.vorder) 0 (qa r15.2.2.fcache.forder) false,.mp 3,.mp 4],.cells (r15.2.2.fcache.vorder) (qb zC r15.2.2.fcache.forder),.map (xp zV yw r15.2.2.fcache.freplies.l) (some (r15.2.2.fcache.freplies.bs,r15.2.2.fcache.freplies.ck)),.map (xp (AV.int .i64) (AV.int .i64) r15.2.2.fcache.flast.l) (some (r15.2.2.fcache.flast.bs,r15.2.2.fcache.flast.ck)),.cells (r15.2.2.veffects) (qb zo r15.2.2.feffects),.cells 0 [.int .i64 3,.int .i64 1,.int .i64 0,.int .i64 1,.int .i64 1,.str [99],.int .i64 0,.str [2,10]],.cells 0 (zH r15.1)] (fun r' σ'=>r'=.tup [.agg (zH r16.1),.bool r16.2.1]∧σ'=[.cells 0 [.int .i64 r16.2.2.fself,.ds true (qb ZC r16.2.2.fnumbers) (qa r16.2.2.fnumbers) false,.ds true (qb zd r16.2.2.fschemas) (qa r16.2.2.fschemas) false,.str r16.2.2.fnewest.fName,.ds true (qb ze r16.2.2.fnewest.fMessages) (qa r16.2.2.fnewest.fMessages) false,.ds true (qb zh r16.2.2.fnewest.fEnums) (qa r16.2.2.fnewest.fEnums) false,.ds true (qb zv r16.2.2.fnewest.fMethods) (qa r16.2.2.fnewest.fMethods) false,.ds true (qb yd r16.2.2.frows) (qa r16.2.2.frows) false,.op 1 0 0,.os true 8 5 (r16.2.2.veffects) 0 (qa r16.2.2.feffects) false],.cells 0 [.int .i64 r16.2.2.fcache.fsize,.os true 2 2 (r16.2.2.fcache.vorder) 0 (qa r16.2.2.fcache.forder) false,.mp 3,.mp 4],.cells (r16.2.2.fcache.vorder) (qb zC r16.2.2.fcache.forder),.map (xp zV yw r16.2.2.fcache.freplies.l) (some (r16.2.2.fcache.freplies.bs,r16.2.2.fcache.freplies.ck)),.map (xp (AV.int .i64) (AV.int .i64) r16.2.2.fcache.flast.l) (some (r16.2.2.fcache.flast.bs,r16.2.2.fcache.flast.ck)),.cells (r16.2.2.veffects) (qb zo r16.2.2.feffects),.cells 0 [.int .i64 3,.int .i64 1,.int .i64 0,.int .i64 1,.int .i64 1,.str [99],.int .i64 0,.str [2,10]],.cells 0 (zH r15.1)])) ((Zh.ok hr16).ix [0,1,2,3,4,5])) ?_;refine rnW 6 @zH.eq_1 ?_;refine nkN J ?_
 refine rc [0] fun K J=>?_
 refine κ 2 ?_;refine cut (b:=r15.2.1) (hb:=boolP_eq _) 2 40 42 [1,4,6] (r15.2.1&&r16.2.1) qF rfl ?_;refine κ 1 ?_;refine yv 4 (fun L τ=>L=[(1,.op 0 0 0),(4,.op 7 0 0),(47,.bool ((r15.2.1&&r16.2.1)&&(decide (r15.1.fKind=r16.1.fKind)&&(decide (r15.1.fFrom=r16.1.fFrom)&&(decide (r15.1.fTo=r16.1.fTo)&&(decide (r15.1.fID=r16.1.fID)&&(decide (r15.1.fVersion=r16.1.fVersion)&&(decide (r15.1.fMethod=r16.1.fMethod)&&(decide (r15.1.fErr=r16.1.fErr)&&decide (r15.1.fBody=r16.1.fBody))))))))))]∧τ=([.cells 0 [.int .i64 r16.2.2.fself,.ds true (qb ZC r16.2.2.fnumbers) (qa r16.2.2.fnumbers) false,.ds true (qb zd r16.2.2.fschemas) (qa r16.2.2.fschemas) false,.str r16.2.2.fnewest.fName,.ds true (qb ze r16.2.2.fnewest.fMessages) (qa r16.2.2.fnewest.fMessages) false,.ds true (qb zh r16.2.2.fnewest.fEnums) (qa r16.2.2.fnewest.fEnums) false,.ds true (qb zv r16.2.2.fnewest.fMethods) (qa r16.2.2.fnewest.fMethods) false,.ds true (qb yd r16.2.2.frows) (qa r16.2.2.frows) false,.op 1 0 0,.os true 8 5 (r16.2.2.veffects) 0 (qa r16.2.2.feffects) false],.cells 0 [.int .i64 r16.2.2.fcache.fsize,.os true 2 2 (r16.2.2.fcache.vorder) 0 (qa r16.2.2.fcache.forder) false,.mp 3,.mp 4],.cells (r16.2.2.fcache.vorder) (qb zC r16.2.2.fcache.forder),.map (xp zV yw r16.2.2.fcache.freplies.l) (some (r16.2.2.fcache.freplies.bs,r16.2.2.fcache.freplies.ck)),.map (xp (AV.int .i64) (AV.int .i64) r16.2.2.fcache.flast.l) (some (r16.2.2.fcache.flast.bs,r16.2.2.fcache.flast.ck)),.cells (r16.2.2.veffects) (qb zo r16.2.2.feffects),.cells 0 [.int .i64 3,.int .i64 1,.int .i64 0,.int .i64 1,.int .i64 1,.str [99],.int .i64 0,.str [2,10]],.cells 0 (zH r15.1),.cells 0 (zH r16.1)]:zf)) ?_ ?_
 · refine xm (b:=(r15.2.1&&r16.2.1)) 43 rfl (fun hg43=>?_) (fun hg43=>?_)
   · refine xO U 4 ?_;simp only[go_sem,qd,qg,qc,qe,evEqA,vaH,ceq];refine zl ⟨rfl,_,_,⟨rfl,rfl⟩,.b hg43⟩
   refine κ 4 ?_;refine zl ⟨rfl,_,_,⟨rfl,rfl⟩,.b hg43⟩
 rintro _ _ ⟨rfl,rfl⟩;refine κ 1 ?_;refine cut (b:=((r15.2.1&&r16.2.1)&&(decide (r15.1.fKind=r16.1.fKind)&&(decide (r15.1.fFrom=r16.1.fFrom)&&(decide (r15.1.fTo=r16.1.fTo)&&(decide (r15.1.fID=r16.1.fID)&&(decide (r15.1.fVersion=r16.1.fVersion)&&(decide (r15.1.fMethod=r16.1.fMethod)&&(decide (r15.1.fErr=r16.1.fErr)&&decide (r15.1.fBody=r16.1.fBody)))))))))) (hb:=boolP_eq _) 4 48 52 [1] (((r15.2.1&&r16.2.1)&&(decide (r15.1.fKind=r16.1.fKind)&&(decide (r15.1.fFrom=r16.1.fFrom)&&(decide (r15.1.fTo=r16.1.fTo)&&(decide (r15.1.fID=r16.1.fID)&&(decide (r15.1.fVersion=r16.1.fVersion)&&(decide (r15.1.fMethod=r16.1.fMethod)&&(decide (r15.1.fErr=r16.1.fErr)&&decide (r15.1.fBody=r16.1.fBody)))))))))&&(decide (r15.1.fBody=[2,14]))) @zH.eq_1 rfl ?_;refine κ 1 ?_;obtain⟨c17,hc17,h⟩:=bind_some h;refine yv 5 (fun L τ=>L=[(58,.bool c17)]∧τ=([.cells 0 [.int .i64 r16.2.2.fself,.ds true (qb ZC r16.2.2.fnumbers) (qa r16.2.2.fnumbers) false,.ds true (qb zd r16.2.2.fschemas) (qa r16.2.2.fschemas) false,.str r16.2.2.fnewest.fName,.ds true (qb ze r16.2.2.fnewest.fMessages) (qa r16.2.2.fnewest.fMessages) false,.ds true (qb zh r16.2.2.fnewest.fEnums) (qa r16.2.2.fnewest.fEnums) false,.ds true (qb zv r16.2.2.fnewest.fMethods) (qa r16.2.2.fnewest.fMethods) false,.ds true (qb yd r16.2.2.frows) (qa r16.2.2.frows) false,.op 1 0 0,.os true 8 5 (r16.2.2.veffects) 0 (qa r16.2.2.feffects) false],.cells 0 [.int .i64 r16.2.2.fcache.fsize,.os true 2 2 (r16.2.2.fcache.vorder) 0 (qa r16.2.2.fcache.forder) false,.mp 3,.mp 4],.cells (r16.2.2.fcache.vorder) (qb zC r16.2.2.fcache.forder),.map (xp zV yw r16.2.2.fcache.freplies.l) (some (r16.2.2.fcache.freplies.bs,r16.2.2.fcache.freplies.ck)),.map (xp (AV.int .i64) (AV.int .i64) r16.2.2.fcache.flast.l) (some (r16.2.2.fcache.flast.bs,r16.2.2.fcache.flast.ck)),.cells (r16.2.2.veffects) (qb zo r16.2.2.feffects),.cells 0 [.int .i64 3,.int .i64 1,.int .i64 0,.int .i64 1,.int .i64 1,.str [99],.int .i64 0,.str [2,10]],.cells 0 (zH r15.1),.cells 0 (zH r16.1)]:zf)) ?_ ?_
 · refine xm (b:=(((r15.2.1&&r16.2.1)&&(decide (r15.1.fKind=r16.1.fKind)&&(decide (r15.1.fFrom=r16.1.fFrom)&&(decide (r15.1.fTo=r16.1.fTo)&&(decide (r15.1.fID=r16.1.fID)&&(decide (r15.1.fVersion=r16.1.fVersion)&&(decide (r15.1.fMethod=r16.1.fMethod)&&(decide (r15.1.fErr=r16.1.fErr)&&decide (r15.1.fBody=r16.1.fBody)))))))))&&(decide (r15.1.fBody=[2,14])))) 53 rfl (fun hg53=>?_) (fun hg53=>?_)
   · rw[if_pos hg53] at hc17;obtain⟨r18,hr18,hc17⟩:=bind_some hc17;refine κ 1 ?_;refine clN rfl rfl rfl (@id (ACalls qf 48 [.op 0 0 0] [.cells 0 [.int .i64 r16.2.2.fself,.ds true (qb ZC r16.2.2.fnumbers) (qa r16.2.2.fnumbers) false,.ds true (qb zd r16.2.2.fschemas) (qa r16.2.2.fschemas) false,.str r16.2.2.fnewest.fName,.ds true (qb ze r16.2.2.fnewest.fMessages) (qa r16.2.2.fnewest.fMessages) false,.ds true (qb zh r16.2.2.fnewest.fEnums) (qa r16.2.2.fnewest.fEnums) false,.ds true (qb zv r16.2.2.fnewest.fMethods) (qa r16.2.2.fnewest.fMethods) false,.ds true (qb yd r16.2.2.frows) (qa r16.2.2.frows) false,.op 1 0 0,.os true 8 5 (r16.2.2.veffects) 0 (qa r16.2.2.feffects) false],.cells 0 [.int .i64 r16.2.2.fcache.fsize,.os true 2 2 (r16.2.2.fcache.vorder) 0 (qa r16.2.2.fcache.forder) false,.mp 3,.mp 4],.cells (r16.2.2.fcache.vorder) (qb zC r16.2.2.fcache.forder),.map (xp zV yw r16.2.2.fcache.freplies.l) (some (r16.2.2.fcache.freplies.bs,r16.2.2.fcache.freplies.ck)),.map (xp (AV.int .i64) (AV.int .i64) r16.2.2.fcache.flast.l) (some (r16.2.2.fcache.flast.bs,r16.2.2.fcache.flast.ck)),.cells (r16.2.2.veffects) (qb zo r16.2.2.feffects),.cells 0 [.int .i64 3,.int .i64 1,.int .i64 0,.int .i64 1,.int .i64 1,.str [99],.int .i64 0,.str [2,10]],.cells 0 (zH r15.1),.cells 0 (zH r16.1)] (fun r' σ'=>r'=.ds true (qb zo r18) (qa r18) false∧σ'=[.cells 0 [.int .i64 r16.2.2.fself,.ds true (qb ZC r16.2.2.fnumbers) (qa r16.2.2.fnumbers) false,.ds true (qb zd r16.2.2.fschemas) (qa r16.2.2.fschemas) false,.str r16.2.2.fnewest.fName,.ds true (qb ze r16.2.2.fnewest.fMessages) (qa r16.2.2.fnewest.fMessages) false,.ds true (qb zh r16.2.2.fnewest.fEnums) (qa r16.2.2.fnewest.fEnums) false,.ds true (qb zv r16.2.2.fnewest.fMethods) (qa r16.2.2.fnewest.fMethods) false,.ds true (qb yd r16.2.2.frows) (qa r16.2.2.frows) false,.op 1 0 0,.os true 8 5 (r16.2.2.veffects) 0 (qa r16.2.2.feffects) false],.cells 0 [.int .i64 r16.2.2.fcache.fsize,.os true 2 2 (r16.2.2.fcache.vorder) 0 (qa r16.2.2.fcache.forder) false,.mp 3,.mp 4],.cells (r16.2.2.fcache.vorder) (qb zC r16.2.2.fcache.forder),.map (xp zV yw r16.2.2.fcache.freplies.l) (some (r16.2.2.fcache.freplies.bs,r16.2.2.fcache.freplies.ck)),.map (xp (AV.int .i64) (AV.int .i64) r16.2.2.fcache.flast.l) (some (r16.2.2.fcache.flast.bs,r16.2.2.fcache.flast.ck)),.cells (r16.2.2.veffects) (qb zo r16.2.2.feffects),.cells 0 [.int .i64 3,.int .i64 1,.int .i64 0,.int .i64 1,.int .i64 1,.str [99],.int .i64 0,.str [2,10]],.cells 0 (zH r15.1),.cells 0 (zH r16.1)])) ((Zu.ok hr18).ix [0,1,2,3,4,5])) ?_;refine κ 3 ?_;cases hc17;refine zl ⟨rfl,_,_,⟨rfl,rfl⟩,.b hg53⟩
   rw[wn hg53] at hc17;refine κ 5 ?_;cases hc17;refine zl ⟨rfl,_,_,⟨rfl,rfl⟩,.b hg53⟩
 rintro _ _ ⟨rfl,rfl⟩;refine κ 1 ?_;refine nkN J ?_;cases h;exact rtA
def wP.l8 : List vay→Int→List vay→Option (List vay)
 |[],x4,l2=>some l2
 |y8::q8,x4,l2=>(yI yp y8.fIn).bind fun r16=>(yI yp y8.fOut).bind fun r19=>(vao (qa l2+1) 176).bind fun _u20=>((wP.l8 q8) (x4+1) (l2++[(⟨y8.fMethod,r16,r19⟩:vay)]))
def wP (a0:List vay):Option (List vay):=
 (wP.l8 a0 0 ([]:List vay))
theorem wP.own {a0 r}(h:wP a0=some r):ACalls qf 43 [.ds true (qb yd a0) (qa a0) false] [] (fun r' σ'=>r'=.os true 11 0 0 0 (qa r) false∧σ'=[.cells 0 (qb yd r)]):=by
 refine ACalls.own0 (by simp only[push_cast]) ?_;refine XT (rs:=[.tmp 2]) U Tryz.func43 rfl Tryz.ntmps43 rfl Tryz.call43 (by simp) ?_;refine zu [(0,.ds true (qb yd a0) (qa a0) false)] ⟨rfl,trivial⟩ ?_;unfold wP at h;refine O [0] ?_;refine O [0,3] ?_;refine YA 3 11 rfl ?_;refine yX (L:=[(0,.ds true (qb yd a0) (qa a0) false),(3,.os true 11 0 0 0 (qa ([]:List vay)) false)]) (τ:=[.cells 0 (qb yd ([]:List vay))]) .s ?_
 refine za fun Z1 hZ1=>?_
 refine O [0,3,4] ?_;apply zj
 refine xq 0 fun hb8=>?_
 replace hb8:qa a0≤9223372036854775807:=hb8.1;refine zG (fun m L τ=>∃ (p8 q8:List vay) (x4:Int) (l2:List vay) (v3:Nat),m=qa q8∧L=[(0,.ds true (qb yd a0) (qa a0) false),(3,.os true 11 0 v3 0 (qa l2) false),(4,.int .i64 x4)]∧τ=([.cells v3 (qb yd l2)]:zf)∧a0=p8++q8∧x4=(qa p8:Int)∧wP.l8 q8 x4 l2=some r) _ ⟨[],a0,0,([]:List vay),0,rfl,rfl,rfl,rfl,rfl,h⟩ .s ?_;rintro m L τ ⟨p8,q8,x4,l2,v3,rfl,rfl,rfl,hE8,hi8,h⟩
 rcases q8 with _|⟨y8,q8⟩
 · have hz8:=yH hE8 hi8;simp only[wP.l8] at h
   refine za fun Z9 hZ9=>?_
   refine rgW [0,3,4,8] hz8 ?_;refine zD rfl ?_;apply zJ;apply hZ1;refine O [2] ?_;apply yE;cases h;simp only[Yk,xg,xw,wu,exists_eq_left',go_sem];refine⟨0,v3,by simp,?_,?_⟩
   · first|rfl|(simp only[go_sem,qd,qg,qc,qe,qj,qr,reduceIte,reduceCtorEq,push_cast,if_true,qw,ql,qy,qq,qE,qv,qM,qI,qz,qu,qn,zL,zb,yd,yC]<;>rfl)
   first|rfl|(simp only[go_sem,push_cast,qq,zL]<;>rfl)
 obtain⟨hz8,hw8,hx8,hE'8,hi'8⟩:=yo hE8 hi8 hb8;simp only[wP.l8] at h
 refine za fun Z10 hZ10=>?_
 refine rgW [0,3,4,8] hz8 ?_;refine zE rfl ?_;apply zg;apply hZ10
 refine za fun Z11 hZ11=>?_
 apply zj;have f12:=E82.idxS hx8;have f13:=E82.fldS0 (f:=9) rfl rfl hx8;have f14:=E82.idxS hx8;have f15:=E82.fldAS (f:=37) rfl rfl hx8 (o:=1) (by decide);obtain⟨r16,hr16,h⟩:=bind_some h;have f17:=E82.idxS hx8;have f18:=E82.fldAS (f:=37) rfl rfl hx8 (o:=6) (by decide);obtain⟨r19,hr19,h⟩:=bind_some h;obtain⟨_u20,hu20,h⟩:=bind_some h;have gu20:=yR hu20;have f21:=(zU E82.len l2)
 refine rdE [0,3,4] fun K J=>?_
 refine DW.start (T:=tab) [.any,.any,.any,.any,.any,.own 2 [],.any,.any,.any,.any,.at [],.eff,.any,.any,.any,.any,.own 1 [],.eff,.any,.eff,.eff,.any] [(2,[]),(1,[])] ?_;refine DW.runN U 8 ?_;simp only[go_sem,qd,qc,reduceCtorEq,yd,f12,f13,uD,qw,uC,uO,qk];refine DW.runN U 3 ?_;simp only[go_sem,qd,qc,reduceCtorEq,yd,f12,f15,uD,qw,uC,uO];refine DW.call rfl rfl rfl (yI.ev yp y8.fIn r16 hr16 _) ?_;refine DW.runN U 5 ?_;simp only[go_sem,qd,qc,reduceCtorEq,zb,yd,f12,f18,uD,qw,uC,uO];refine DW.call rfl rfl rfl (yI.ev yp y8.fOut r19 hr19 _) ?_;refine DW.runN U 4 ?_;simp only[go_sem,qd,qg,qc,qe,qj,reduceCtorEq,zM,yz,qV,qL,true_and,q5,yG,yf,yJ,zb,gu20,f21,uD,qw,uC,uO,yZ,qW,qQ,AV.one,qD,qC,qk,qp,ql,qK];refine DW.fin U (by decide +kernel) rfl ?_;simp only[zq,upd,qc,reduceIte,yD,xj];apply J
 apply hZ11
 refine rgE U [0,3,4] fun K J=>?_
 simp only[go_sem,qd,qc,reduceCtorEq,hw8];apply J
 exact⟨_,_,_,qo q8.length,⟨p8++[y8],q8,x4+1,l2++[(⟨y8.fMethod,r16,r19⟩:vay)],v3+1,rfl,rfl,rfl,hE'8,hi'8,h⟩,(.t [0] false)⟩
theorem wP.ok {a0 r}(h:wP a0=some r):ACalls qf 43 [.ds true (qb yd a0) (qa a0) false] [] (fun r' _=>r'=.ds true (qb yd r) (qa r) false):=
 (wP.own h).ownData (zU E82.len r) (by simp only[push_cast])
def Yg (a0:yY)(a1:zi):Option Bool:=
 bnd (Zs a0.fType) fun r2=>(if a1.fKind=r2 then (if ((decide (a0.fType.fKind=3))||(decide (a0.fType.fKind=6)))=true then bnd (YS a0.fType a1.fN) fun r9=>some r9 else (if a0.fType.fKind=4 then (YT a1.fS).bind fun r12=>some r12 else some true)) else some false)
theorem Yg.ok {a0 a1 r}(h:Yg a0 a1=some r):ACalls qf 165 [.agg (z7 a0),.agg (zb a1)] [] (fun r' _=>r'=.bool r):=by
 refine zk (rs:=[.tmp 4]) U Tryz.func165 rfl Tryz.ntmps165 rfl Tryz.call165 (by simp) ?_;refine zu [(0,.agg (z7 a0)),(1,.agg (zb a1))] ⟨rfl,rfl,trivial⟩ ?_;unfold Yg at h;refine rgW [2,3] (aI @zb.eq_1 @z7.eq_1) ?_
 refine za fun Z1 hZ1=>?_
 apply zj;obtain⟨r2,hr2,h⟩:=yb h
 refine rd [2,3,5] fun K J=>?_
 refine DW.start (T:=tab) [.any,.own 1 [],.any,.at [],.eff,.any,.any] [(1,[])] ?_;refine DW.runN U 4 ?_;simp only[go_sem,qd,qg,qc,qe];refine DW.call rfl rfl rfl ((Zs.ok hr2).c _) ?_;refine DW.runN U 2 ?_;simp only[go_sem,qd,qc];refine DW.fin U (by decide +kernel) rfl ?_;simp only[zq,upd,qc,reduceIte,yD,xj];apply J
 refine zR rfl (fun hc3=>?_) (fun hc3=>?_)
 · rw[if_neg hc3] at h;have t4:=eq_false hc3;refine rgW [4] t4 ?_;cases h;exact rtA
 rw[if_pos hc3] at h;have t5:=eq_true hc3
 refine rc [2,3,12] fun K J=>?_
 refine rnW 5 t5 ?_;refine cut 5 17 22 [2,3] ((decide (a0.fType.fKind=3))||(decide (a0.fType.fKind=6))) t5 rfl ?_;refine κ 1 ?_;refine nkN J ?_;refine zB (b:=((decide (a0.fType.fKind=3))||(decide (a0.fType.fKind=6)))) rfl (fun hc8=>?_) (fun hc8=>?_)
 · rw[if_pos hc8] at h
   refine rc [4] fun K J=>?_
   obtain⟨r9,hr9,h⟩:=yb h;refine κ 4 ?_;refine clN rfl rfl rfl ((YS.ok hr9).c _) ?_;refine κ 1 ?_;refine nkN J ?_;cases h;exact rtA
 rw[wn hc8] at h;refine O [3,28] ?_;refine zR rfl (fun hc10=>?_) (fun hc10=>?_)
 · rw[if_pos hc10] at h;have t11:=eq_true hc10
   refine rc [4] fun K J=>?_
   obtain⟨r12,hr12,h⟩:=bind_some h;refine rnW 2 t11 ?_;refine clN rfl rfl rfl ((YT.ok hr12).c _) ?_;refine κ 1 ?_;refine nkN J ?_;cases h;exact rtA
 rw[if_neg hc10] at h;have t13:=eq_false hc10;apply zg;apply hZ1;refine rgW [4] t13 ?_;cases h;exact rtA
def zw.j13 (x4:Int)(rec8:Int→List zp→Option zi)(l11:List zp):Option zi:=
 (rec8 (x4+1) l11)
def zw.l37 (yy:zm→yY→zi→Option zi)(a0:zm)(x4:Int)(l2:List zp)(rec8:Int→List zp→Option zi)(r16:yY×Bool):List zi→Int→List zi→Option zi
 |[],x33,l31=>(if r16.1.fLabel=1 then (Yl l31 0).bind fun y39=>bnd (vai y39) fun r42=>some (!r42) else some true).bind fun c39=>(if c39=true then (vao (qa l2+1) 32).bind fun _u47=>(zw.j13 x4 rec8 (l2++[(⟨r16.1.fTag,l31⟩:zp)])) else (zw.j13 x4 rec8 l2))
 |y37::q37,x33,l31=>(yy a0 r16.1 y37).bind fun r53=>(vao (qa l31+1) 80).bind fun _u54=>((zw.l37 yy a0 x4 l2 rec8 r16 q37) (x33+1) (l31++[r53]))
def zw.j29 (yy:zm→yY→zi→Option zi)(a0:zm)(x4:Int)(l2:List zp)(rec8:Int→List zp→Option zi)(r16:yY×Bool)(x28:List zi):Option zi:=
 (zw.l37 yy a0 x4 l2 rec8 r16 x28 0 ([]:List zi))
end
section
set_option maxRecDepth 4000
set_option maxHeartbeats 1000000
open AM
def zw.j63 (x21:Int)(rec24:Int→Bool→Option zi)(x62:Bool):Option zi:=
 (rec24 (x21+1) x62)
def zw.l24 (yy:zm→yY→zi→Option zi)(a0:zm)(x4:Int)(l2:List zp)(rec8:Int→List zp→Option zi)(y8:zp)(r16:yY×Bool):List zi→Int→Bool→Option zi
 |[],x21,x20=>(if (!x20)=true then (zw.j13 x4 rec8 l2) else (if r16.1.fLabel=3 then (zw.j29 yy a0 x4 l2 rec8 r16 y8.fTrees) else (grd ((0:Int)≤IntKind.i64.wrap ((qa y8.fTrees:Int)-1)∧IntKind.i64.wrap ((qa y8.fTrees:Int)-1)≤(qa y8.fTrees:Int)∧(qa y8.fTrees:Int)≤(qa y8.fTrees:Int))).bind fun _u58=>(zw.j29 yy a0 x4 l2 rec8 r16 (va3 y8.fTrees (IntKind.i64.wrap ((qa y8.fTrees:Int)-1)) (qa y8.fTrees:Int)))))
 |y24::q24,x21,x20=>(if x20=true then (Yg r16.1 y24).bind fun r66=>(zw.j63 x21 (zw.l24 yy a0 x4 l2 rec8 y8 r16 q24) r66) else (zw.j63 x21 (zw.l24 yy a0 x4 l2 rec8 y8 r16 q24) false))
def zw.l8 (yy:zm→yY→zi→Option zi)(a0:zm)(a1:zz):List zp→Int→List zp→Option zi
 |[],x4,l2=>some (⟨3,0,[],l2,([]:List xF)⟩:zi)
 |y8::q8,x4,l2=>bnd (wv a1 y8.fTag) fun r16=>(zw.l24 yy a0 x4 l2 (zw.l8 yy a0 a1 q8) y8 r16 y8.fTrees 0 r16.2)
def zw.body (wX:zm→zz→zi→Option zi)(yy:zm→yY→zi→Option zi)(a0:zm)(a1:zz)(a2:zi):Option zi:=
 (zw.l8 yy a0 a1 a2.fEntries 0 ([]:List zp))
theorem zw.step (wX:zm→zz→zi→Option zi)(yy:zm→yY→zi→Option zi)(X3:∀ (a0:zm) (a1:zz) (a2:zi) (r:zi),wX a0 a1 a2=some r→ACalls qf 124 [.agg (zd a0),.agg (ze a1),.agg (zb a2)] [] (fun r' _=>r'=.agg (zb r)))(vbF:∀ (a0:zm) (a1:yY) (a2:zi) (r:zi),yy a0 a1 a2=some r→ACalls qf 166 [.agg (zd a0),.agg (z7 a1),.agg (zb a2)] [] (fun r' _=>r'=.agg (zb r)))(a0:zm)(a1:zz)(a2:zi)(r:zi)(h:zw.body wX yy a0 a1 a2=some r):ACalls qf 124 [.agg (zd a0),.agg (ze a1),.agg (zb a2)] [] (fun r' _=>r'=.agg (zb r)):=by
 have ev_ref13_message:=fun a0 a1 a2 r h σ=>(X3 a0 a1 a2 r h).c σ
 have ev_ref13_one:=fun a0 a1 a2 r h σ=>(vbF a0 a1 a2 r h).c σ
 refine zk (rs:=[.cell 6 37]) U Tryz.func124 rfl Tryz.ntmps124 rfl Tryz.call124 (by simp) ?_;refine zu [(0,.agg (zd a0)),(1,.agg (ze a1)),(2,.agg (zb a2))] ⟨rfl,rfl,rfl,trivial⟩ ?_;unfold zw.body at h;refine rgW [3,4,5,6] (aI @zb.eq_1 (aI @ze.eq_1 @zd.eq_1)) ?_;refine O [3,4,5,6,7] ?_;refine wV 4 3 2 rfl (by simp) rfl (L:=[(3,.op 0 0 0),(4,.op 1 0 0),(5,.op 2 0 0),(6,.op 3 0 0),(7,.op 4 0 0)]) (τ:=[.cells 0 (zd a0),.cells 0 (ze a1),.cells 0 (zb a2),.cells 0 [.int .i64 0,.int .i64 0,.str [],.ds true [] 0 true,.ds true [] 0 true],.cells 0 [.int .i64 3,.int .i64 0,.str [],.os true 2 5 0 0 (qa ([]:List zp)) false,.ds true [] 0 true],.cells 0 (qb zx ([]:List zp))]) .s ?_
 refine za fun Z1 hZ1=>?_
 refine O [3,4,5,6,7,8] ?_;apply zj
 refine xT 2 rfl fun hb8=>?_
 replace hb8:qa a2.fEntries≤9223372036854775807:=hb8.2.2.2.1.1;refine zG (fun m L τ=>∃ (p8 q8:List zp) (x4:Int) (l2:List zp) (v3:Nat),m=qa q8∧L=[(3,.op 0 0 0),(4,.op 1 0 0),(5,.op 2 0 0),(6,.op 3 0 0),(7,.op 4 0 0),(8,.int .i64 x4)]∧τ=([.cells 0 (zd a0),.cells 0 (ze a1),.cells 0 (zb a2),.cells 0 [.int .i64 0,.int .i64 0,.str [],.ds true [] 0 true,.ds true [] 0 true],.cells 0 [.int .i64 3,.int .i64 0,.str [],.os true 2 5 v3 0 (qa l2) false,.ds true [] 0 true],.cells v3 (qb zx l2)]:zf)∧a2.fEntries=p8++q8∧x4=(qa p8:Int)∧zw.l8 yy a0 a1 q8 x4 l2=some r) _ ⟨[],a2.fEntries,0,([]:List zp),0,rfl,rfl,rfl,rfl,rfl,h⟩ .s ?_;rintro m L τ ⟨p8,q8,x4,l2,v3,rfl,rfl,rfl,hE8,hi8,h⟩
 rcases q8 with _|⟨y8,q8⟩
 · have hz8:=yH hE8 hi8;simp only[zw.l8] at h
   refine za fun Z9 hZ9=>?_
   refine rgW [3,4,5,6,7,8,20] hz8 ?_;refine zD rfl ?_;apply zJ;apply hZ1;refine O [6] ?_;cases h;exact rtA
 obtain⟨hz8,hw8,hx8,hE'8,hi'8⟩:=yo hE8 hi8 hb8;simp only[zw.l8] at h
 refine za fun Z10 hZ10=>?_
 refine rgW [3,4,5,6,7,8,20] hz8 ?_;refine zE rfl ?_;apply zg;apply hZ10;refine we (fun L τ=>∃ (l11:List zp) (v12:Nat),L=[(3,.op 0 0 0),(4,.op 1 0 0),(5,.op 2 0 0),(6,.op 3 0 0),(7,.op 4 0 0),(8,.int .i64 x4)]∧τ=([.cells 0 (zd a0),.cells 0 (ze a1),.cells 0 (zb a2),.cells 0 [.int .i64 0,.int .i64 0,.str [],.ds true [] 0 true,.ds true [] 0 true],.cells 0 [.int .i64 3,.int .i64 0,.str [],.os true 2 5 v12 0 (qa l11) false,.ds true [] 0 true],.cells v12 (qb zx l11)]:zf)∧zw.j13 x4 (zw.l8 yy a0 a1 q8) l11=some r) ?_ ?_
 · apply zj;have f14:=E34.idxS hx8;have f15:=E34.fldS0 (f:=3) rfl rfl hx8;obtain⟨r16,hr16,h⟩:=yb h
   refine rd [3,4,5,6,7,8,9,10] fun K J=>?_
   refine DW.start (T:=tab) [.at [],.any,.at [],.any,.any,.any,.at [],.eff,.any,.any,.any,.flt,.eff,.any] [] ?_;refine DW.runN U 7 ?_;simp only[go_sem,qd,qg,qc,qe,zK,yh,f14,f15];refine DW.call rfl rfl rfl ((wv.ok hr16).c _) ?_;refine DW.runN U 6 ?_;simp only[go_sem,qd,qg,qc,qe,z7];refine DW.fin U (by decide +kernel) rfl ?_;simp only[zq,upd,qc,reduceIte,yD,xj];apply J
   have f17:=E34.idxS hx8;have f18:=E34.fldS (f:=38) rfl rfl hx8 (o:=1) (by decide);refine rgW [3,4,5,6,7,8,9,10,11] (aI @zK.eq_1 (aI @yh (aI f17 f18))) ?_
   refine za fun Z19 hZ19=>?_
   refine O [3,4,5,6,7,8,9,10,11,12] ?_;apply zj
   refine xq 11 fun hb24=>?_
   replace hb24:qa y8.fTrees≤9223372036854775807:=hb24.1;refine zG (fun m L τ=>∃ (p24 q24:List zi) (x21:Int) (x20:Bool),m=qa q24∧L=[(3,.op 0 0 0),(4,.op 1 0 0),(5,.op 2 0 0),(6,.op 3 0 0),(7,.op 4 0 0),(8,.int .i64 x4),(9,.op 6 0 0),(10,.bool x20),(11,.ds true (qb ya y8.fTrees) (qa y8.fTrees) false),(12,.int .i64 x21)]∧τ=([.cells 0 (zd a0),.cells 0 (ze a1),.cells 0 (zb a2),.cells 0 [.int .i64 0,.int .i64 0,.str [],.ds true [] 0 true,.ds true [] 0 true],.cells 0 [.int .i64 3,.int .i64 0,.str [],.os true 2 5 v3 0 (qa l2) false,.ds true [] 0 true],.cells v3 (qb zx l2),.cells 0 (z7 r16.1)]:zf)∧y8.fTrees=p24++q24∧x21=(qa p24:Int)∧zw.l24 yy a0 x4 l2 (zw.l8 yy a0 a1 q8) y8 r16 q24 x21 x20=some r) _ ⟨[],y8.fTrees,0,r16.2,rfl,rfl,rfl,rfl,rfl,h⟩ .s ?_;rintro m L τ ⟨p24,q24,x21,x20,rfl,rfl,rfl,hE24,hi24,h⟩
   rcases q24 with _|⟨y24,q24⟩
   · have hz24:=yH hE24 hi24;simp only[zw.l24] at h
     refine za fun Z25 hZ25=>?_
     refine rgW [3,4,5,6,7,8,9,10,11,12,43] hz24 ?_;refine zD rfl ?_;apply zJ;apply hZ19
     refine za fun Z26 hZ26=>?_
     refine O [3,4,5,6,7,8,9,11,56] ?_;refine zB (b:=(!x20)) rfl (fun hc27=>?_) (fun hc27=>?_)
     · rw[if_pos hc27] at h;apply zJ;exact⟨_,_,⟨l2,v3,rfl,rfl,h⟩,(.t [0,1,2,3,4,5] false)⟩
     rw[wn hc27] at h;apply zg;apply hZ26;refine we (fun L τ=>∃ (x28:List zi),L=[(3,.op 0 0 0),(4,.op 1 0 0),(5,.op 2 0 0),(6,.op 3 0 0),(7,.op 4 0 0),(8,.int .i64 x4),(9,.op 6 0 0),(11,.ds true (qb ya x28) (qa x28) false)]∧τ=([.cells 0 (zd a0),.cells 0 (ze a1),.cells 0 (zb a2),.cells 0 [.int .i64 0,.int .i64 0,.str [],.ds true [] 0 true,.ds true [] 0 true],.cells 0 [.int .i64 3,.int .i64 0,.str [],.os true 2 5 v3 0 (qa l2) false,.ds true [] 0 true],.cells v3 (qb zx l2),.cells 0 (z7 r16.1)]:zf)∧zw.j29 yy a0 x4 l2 (zw.l8 yy a0 a1 q8) r16 x28=some r) ?_ ?_
     · refine O [3,4,5,6,7,8,9,11,59] ?_;refine zR rfl (fun hc56=>?_) (fun hc56=>?_)
       · rw[if_neg hc56] at h;have t57:=eq_false hc56;obtain⟨_u58,hu58,h⟩:=bind_some h;have gu58:=Yb hu58;have f59:=E38.sl_lo gu58
         refine rgE U [3,4,5,6,7,8,9,11] fun K J=>?_
         simp only[go_sem,qd,qc,t57,f59];apply J
         exact⟨_,_,⟨va3 y8.fTrees (IntKind.i64.wrap ((qa y8.fTrees:Int)-1)) (qa y8.fTrees:Int),rfl,rfl,h⟩,.s⟩
       rw[if_pos hc56] at h;have t60:=eq_true hc56;apply zg;exact⟨_,_,⟨y8.fTrees,rfl,rfl,h⟩,.s⟩
     rintro _ _ ⟨x28,rfl,rfl,h⟩;unfold zw.j29 at h;refine O [3,4,5,6,7,8,9,11,13] ?_;refine wV 7 1 5 rfl (by simp) rfl (L:=[(3,.op 0 0 0),(4,.op 1 0 0),(5,.op 2 0 0),(6,.op 3 0 0),(7,.op 4 0 0),(8,.int .i64 x4),(9,.op 6 0 0),(11,.ds true (qb ya x28) (qa x28) false),(13,.op 7 0 0)]) (τ:=[.cells 0 (zd a0),.cells 0 (ze a1),.cells 0 (zb a2),.cells 0 [.int .i64 0,.int .i64 0,.str [],.ds true [] 0 true,.ds true [] 0 true],.cells 0 [.int .i64 3,.int .i64 0,.str [],.os true 2 5 v3 0 (qa l2) false,.ds true [] 0 true],.cells v3 (qb zx l2),.cells 0 (z7 r16.1),.cells 0 [.int .i64 r16.1.fTag,.os true 5 8 0 0 (qa ([]:List zi)) false],.cells 0 (qb ya ([]:List zi))]) .s ?_
     refine za fun Z30 hZ30=>?_
     refine O [3,4,5,6,7,8,9,11,13,14] ?_;apply zj
     refine xq 11 fun hb37=>?_
     replace hb37:qa x28≤9223372036854775807:=hb37.1;refine zG (fun m L τ=>∃ (p37 q37:List zi) (x33:Int) (l31:List zi) (v32:Nat),m=qa q37∧L=[(3,.op 0 0 0),(4,.op 1 0 0),(5,.op 2 0 0),(6,.op 3 0 0),(7,.op 4 0 0),(8,.int .i64 x4),(9,.op 6 0 0),(11,.ds true (qb ya x28) (qa x28) false),(13,.op 7 0 0),(14,.int .i64 x33)]∧τ=([.cells 0 (zd a0),.cells 0 (ze a1),.cells 0 (zb a2),.cells 0 [.int .i64 0,.int .i64 0,.str [],.ds true [] 0 true,.ds true [] 0 true],.cells 0 [.int .i64 3,.int .i64 0,.str [],.os true 2 5 v3 0 (qa l2) false,.ds true [] 0 true],.cells v3 (qb zx l2),.cells 0 (z7 r16.1),.cells 0 [.int .i64 r16.1.fTag,.os true 5 8 v32 0 (qa l31) false],.cells v32 (qb ya l31)]:zf)∧x28=p37++q37∧x33=(qa p37:Int)∧zw.l37 yy a0 x4 l2 (zw.l8 yy a0 a1 q8) r16 q37 x33 l31=some r) _ ⟨[],x28,0,([]:List zi),0,rfl,rfl,rfl,rfl,rfl,h⟩ .s ?_;rintro m L τ ⟨p37,q37,x33,l31,v32,rfl,rfl,rfl,hE37,hi37,h⟩
     rcases q37 with _|⟨y37,q37⟩
     · have hz37:=yH hE37 hi37;simp only[zw.l37] at h
       refine za fun Z38 hZ38=>?_
       refine rgW [3,4,5,6,7,8,9,11,13,14,71] hz37 ?_;refine zD rfl ?_;apply zJ;apply hZ30
       refine rc [3,4,5,6,7,8,13,96] fun K J=>?_
       refine κ 4 ?_;obtain⟨c39,hc39,h⟩:=bind_some h;refine yv 7 (fun L τ=>L=[(3,.op 0 0 0),(4,.op 1 0 0),(5,.op 2 0 0),(6,.op 3 0 0),(7,.op 4 0 0),(8,.int .i64 x4),(13,.op 7 0 0),(96,.bool c39)]∧τ=([.cells 0 (zd a0),.cells 0 (ze a1),.cells 0 (zb a2),.cells 0 [.int .i64 0,.int .i64 0,.str [],.ds true [] 0 true,.ds true [] 0 true],.cells 0 [.int .i64 3,.int .i64 0,.str [],.os true 2 5 v3 0 (qa l2) false,.ds true [] 0 true],.cells v3 (qb zx l2),.cells 0 (z7 r16.1),.cells 0 [.int .i64 r16.1.fTag,.os true 5 8 v32 0 (qa l31) false],.cells v32 (qb ya l31)]:zf)) ?_ ?_
       · refine Yz 89 rfl (fun hg89=>?_) (fun hg89=>?_)
         · have t40:=eq_false hg89;rw[if_neg hg89] at hc39;refine κ 7 ?_;cases hc39;refine zl ⟨rfl,_,_,⟨rfl,rfl⟩,.p t40⟩
         have t41:=eq_true hg89;rw[if_pos hg89] at hc39;obtain⟨y42,hy42,hc39⟩:=bind_some hc39;have f43:=E38.idxO hy42;have f44:=E38.rdO hy42;obtain⟨r45,hr45,hc39⟩:=yb hc39;refine rnW 4 (aI @zb.eq_1 (aI @yC (aI f43 f44))) ?_;refine clN rfl rfl rfl ((vai.ok hr45).c _) ?_;refine κ 2 ?_;cases hc39;refine zl ⟨rfl,_,_,⟨rfl,rfl⟩,.p t41⟩
       rintro _ _ ⟨rfl,rfl⟩;refine nkN J ?_;refine zB (b:=c39) rfl (fun hc46=>?_) (fun hc46=>?_)
       · rw[if_pos hc46] at h;obtain⟨_u47,hu47,h⟩:=bind_some h;have gu47:=yR hu47;have f48:=(zU E34.len l2)
         refine rgE U [3,4,5,6,7,8] fun K J=>?_
         simp only[go_sem,qd,qg,qc,qe,qj,zM,yz,qV,qL,true_and,q5,yG,yf,yJ,gu47,f48,yZ,qW,qQ,AV.one,qD,qC,qk,qp,ql,qK];apply J
         exact⟨_,_,⟨l2++[(⟨r16.1.fTag,l31⟩:zp)],v3+1,rfl,rfl,h⟩,(.t [0,1,2,3,4,5] false)⟩
       rw[wn hc46] at h;apply zg;exact⟨_,_,⟨l2,v3,rfl,rfl,h⟩,(.t [0,1,2,3,4,5] false)⟩
     obtain⟨hz37,hw37,hx37,hE'37,hi'37⟩:=yo hE37 hi37 hb37;simp only[zw.l37] at h
     refine za fun Z49 hZ49=>?_
     refine rgW [3,4,5,6,7,8,9,11,13,14,71] hz37 ?_;refine zE rfl ?_;apply zg;apply hZ49
     refine za fun Z50 hZ50=>?_
     apply zj;have f51:=E38.idxS hx37;have f52:=E38.loadS rfl rfl hx37;obtain⟨r53,hr53,h⟩:=bind_some h;obtain⟨_u54,hu54,h⟩:=bind_some h;have gu54:=yR hu54;have f55:=(zU E38.len l31)
     refine rdE [3,4,5,6,7,8,9,11,13,14] fun K J=>?_
     refine DW.start (T:=tab) [.any,.own 2 [],.at [],.at [],.any,.any,.any,.at [],.eff,.eff,.eff,.any,.eff] [(2,[])] ?_;refine DW.runN U 8 ?_;simp only[go_sem,qd,qg,qc,qe,zb,yC,f51,f52,qk,qp,ql];refine DW.call rfl rfl rfl (ev_ref13_one a0 r16.1 y37 r53 hr53 _) ?_;refine DW.runN U 4 ?_;simp only[go_sem,qd,qg,qc,qe,qj,zM,yz,qV,qL,true_and,q5,yG,yf,yJ,zb,gu54,f55,yZ,qW,qQ,AV.one,qD,qC,qk,qp,ql,qK];refine DW.fin U (by decide +kernel) rfl ?_;simp only[zq,upd,qc,reduceIte,yD,xj];apply J
     apply hZ50
     refine rgE U [3,4,5,6,7,8,9,11,13,14] fun K J=>?_
     simp only[go_sem,qd,qc,hw37];apply J
     exact⟨_,_,_,qo q37.length,⟨p37++[y37],q37,x33+1,l31++[r53],v32+1,rfl,rfl,rfl,hE'37,hi'37,h⟩,(.t [0,1,2,3,4,5,6,7,8] false)⟩
   obtain⟨hz24,hw24,hx24,hE'24,hi'24⟩:=yo hE24 hi24 hb24;simp only[zw.l24] at h
   refine za fun Z61 hZ61=>?_
   refine rgW [3,4,5,6,7,8,9,10,11,12,43] hz24 ?_;refine zE rfl ?_;apply zg;apply hZ61;refine we (fun L τ=>∃ (x62:Bool),L=[(3,.op 0 0 0),(4,.op 1 0 0),(5,.op 2 0 0),(6,.op 3 0 0),(7,.op 4 0 0),(8,.int .i64 x4),(9,.op 6 0 0),(10,.bool x62),(11,.ds true (qb ya y8.fTrees) (qa y8.fTrees) false),(12,.int .i64 x21)]∧τ=([.cells 0 (zd a0),.cells 0 (ze a1),.cells 0 (zb a2),.cells 0 [.int .i64 0,.int .i64 0,.str [],.ds true [] 0 true,.ds true [] 0 true],.cells 0 [.int .i64 3,.int .i64 0,.str [],.os true 2 5 v3 0 (qa l2) false,.ds true [] 0 true],.cells v3 (qb zx l2),.cells 0 (z7 r16.1)]:zf)∧zw.j63 x21 (zw.l24 yy a0 x4 l2 (zw.l8 yy a0 a1 q8) y8 r16 q24) x62=some r) ?_ ?_
   · apply zj
     refine rdE [3,4,5,6,7,8,9,10,11,12] fun K J=>?_
     refine DW.start (T:=tab) [.any,.any,.at [],.any,.any,.any,.at [],.eff,.any,.any] [] ?_;refine DW.runN U 2 ?_;simp only[go_sem,qd,qc];refine DW.at (b:=x20) 47 rfl (fun hg47=>?_) (fun hg47=>?_)
     · rw[if_pos hg47] at h;have f64:=E38.idxS hx24;have f65:=E38.loadS rfl rfl hx24;obtain⟨r66,hr66,h⟩:=bind_some h;refine DW.runN U 5 ?_;simp only[go_sem,qd,qg,qc,qe,zb,yC,f64,f65];refine DW.call rfl rfl rfl ((Yg.ok hr66).c _) ?_;refine DW.runN U 2 ?_;simp only[go_sem,qd,qc];refine DW.fin U (by decide +kernel) rfl ?_;simp only[zq,upd,qc,reduceIte,yD,xj];apply J
       exact⟨_,_,⟨r66,rfl,rfl,h⟩,.s⟩
     rw[wn hg47] at h;refine DW.runN U 8 ?_;simp only[go_sem,qd,qc];refine DW.fin U (by decide +kernel) rfl ?_;simp only[zq,upd,qc,reduceIte,yD,xj];apply J
     exact⟨_,_,⟨false,rfl,rfl,h⟩,.s⟩
   rintro _ _ ⟨x62,rfl,rfl,h⟩;unfold zw.j63 at h
   refine rgE U [3,4,5,6,7,8,9,10,11,12] fun K J=>?_
   simp only[go_sem,qd,qc,hw24];apply J
   exact⟨_,_,_,qo q24.length,⟨p24++[y24],q24,x21+1,x62,rfl,rfl,rfl,hE'24,hi'24,h⟩,.s⟩
 rintro _ _ ⟨l11,v12,rfl,rfl,h⟩;unfold zw.j13 at h
 refine rgE U [3,4,5,6,7,8] fun K J=>?_
 simp only[go_sem,qd,qc,hw8];apply J
 exact⟨_,_,_,qo q8.length,⟨p8++[y8],q8,x4+1,l11,v12,rfl,rfl,rfl,hE'8,hi'8,h⟩,.s⟩
def Yf.body (wX:zm→zz→zi→Option zi)(yy:zm→yY→zi→Option zi)(a0:zm)(a1:yY)(a2:zi):Option zi:=
 (if a1.fType.fKind=1 then bnd (Xg a2.fN) fun r4=>some (⟨1,r4,[],([]:List zp),([]:List xF)⟩:zi) else (if a1.fType.fKind=7 then bnd (xf a0 a1.fType.fName) fun r8=>(wX a0 r8.1 a2).bind fun r9=>some r9 else some a2))
theorem Yf.step (wX:zm→zz→zi→Option zi)(yy:zm→yY→zi→Option zi)(X3:∀ (a0:zm) (a1:zz) (a2:zi) (r:zi),wX a0 a1 a2=some r→ACalls qf 124 [.agg (zd a0),.agg (ze a1),.agg (zb a2)] [] (fun r' _=>r'=.agg (zb r)))(vbF:∀ (a0:zm) (a1:yY) (a2:zi) (r:zi),yy a0 a1 a2=some r→ACalls qf 166 [.agg (zd a0),.agg (z7 a1),.agg (zb a2)] [] (fun r' _=>r'=.agg (zb r)))(a0:zm)(a1:yY)(a2:zi)(r:zi)(h:Yf.body wX yy a0 a1 a2=some r):ACalls qf 166 [.agg (zd a0),.agg (z7 a1),.agg (zb a2)] [] (fun r' _=>r'=.agg (zb r)):=by
 have ev_ref13_message:=fun a0 a1 a2 r h σ=>(X3 a0 a1 a2 r h).c σ
 have ev_ref13_one:=fun a0 a1 a2 r h σ=>(vbF a0 a1 a2 r h).c σ
 refine zk (rs:=[.cell 6 37]) U Tryz.func166 rfl Tryz.ntmps166 rfl Tryz.call166 (by simp) ?_;refine zu [(0,.agg (zd a0)),(1,.agg (z7 a1)),(2,.agg (zb a2))] ⟨rfl,rfl,rfl,trivial⟩ ?_;unfold Yf.body at h;refine rgW [3,4,5,6] (aI @zb.eq_1 (aI @z7.eq_1 @zd.eq_1)) ?_
 refine za fun Z1 hZ1=>?_
 refine O [3,4,5,6,11] ?_;apply zj;refine O [3,4,5,6,11,12] ?_;refine zR rfl (fun hc2=>?_) (fun hc2=>?_)
 · rw[if_pos hc2] at h;have t3:=eq_true hc2
   refine rc [6] fun K J=>?_
   obtain⟨r4,hr4,h⟩:=yb h;refine rnW 2 t3 ?_;refine clN rfl rfl rfl ((Xg.ok hr4).c _) ?_;refine rnW 2 @zb.eq_1 ?_;refine nkN J ?_;cases h;exact rtA
 rw[if_neg hc2] at h;have t5:=eq_false hc2;refine rgW [3,4,5,6,18] t5 ?_;refine zR rfl (fun hc6=>?_) (fun hc6=>?_)
 · rw[if_pos hc6] at h;have t7:=eq_true hc6
   refine rc [3,5,6,7] fun K J=>?_
   obtain⟨r8,hr8,h⟩:=yb h;refine rnW 4 t7 ?_;refine clN rfl rfl rfl ((xf.ok hr8).c _) ?_;refine rnW 6 @ze.eq_1 ?_;refine nkN J ?_
   refine rc [6] fun K J=>?_
   obtain⟨r9,hr9,h⟩:=bind_some h;refine rnW 3 @zb.eq_1 ?_;refine clN rfl rfl rfl (ev_ref13_message a0 r8.1 a2 r9 hr9 _) ?_;refine rnW 1 @zb.eq_1 ?_;refine nkN J ?_;cases h;exact rtA
 rw[if_neg hc6] at h;have t10:=eq_false hc6;apply zg;apply hZ1;refine rgW [6] t10 ?_;cases h;exact rtA
mutual
def zw : Nat→zm→zz→zi→Option zi
 |0,_,_,_=>none
 |k+1,a0,a1,a2=>zw.body (zw k) (Yf k) a0 a1 a2
def Yf : Nat→zm→yY→zi→Option zi
 |0,_,_,_=>none
 |k+1,a0,a1,a2=>Yf.body (zw k) (Yf k) a0 a1 a2
end
theorem zw.all (k:Nat):(∀ (a0:zm) (a1:zz) (a2:zi) (r:zi),zw k a0 a1 a2=some r→ACalls qf 124 [.agg (zd a0),.agg (ze a1),.agg (zb a2)] [] (fun r' _=>r'=.agg (zb r)))∧(∀ (a0:zm) (a1:yY) (a2:zi) (r:zi),Yf k a0 a1 a2=some r→ACalls qf 166 [.agg (zd a0),.agg (z7 a1),.agg (zb a2)] [] (fun r' _=>r'=.agg (zb r))):=by
 induction k with
 |zero=>exact⟨(fun a0 a1 a2 r h=>by simp only[zw] at h; cases h),(fun a0 a1 a2 r h=>by simp only[Yf] at h; cases h)⟩
 |succ k ih=>exact⟨(fun a0 a1 a2 r h=>zw.step _ _ ih.1 ih.2 a0 a1 a2 r (by simpa only [zw] using h)),(fun a0 a1 a2 r h=>Yf.step _ _ ih.1 ih.2 a0 a1 a2 r (by simpa only [Yf] using h))⟩
theorem zw.ev (k:Nat)(a0:zm)(a1:zz)(a2:zi)(r:zi)(h:zw k a0 a1 a2=some r)(σ:zf):ACalls qf 124 [.agg (zd a0),.agg (ze a1),.agg (zb a2)] σ (fun r' σ'=>r'=.agg (zb r)∧σ'=σ):=
 ((zw.all k).1 a0 a1 a2 r h).c σ
def ZI (a0:zm)(a1:List UInt8)(a2:zi):Option (zi×Bool):=
 (ww a0).bind fun r2=>(if r2=0 then bnd (xf a0 a1) fun r6=>(if ((!r6.2)||(!(decide (a2.fKind=3))))=true then some true else (Xi a2).bind fun r8=>some (!r8)).bind fun c8=>(if c8=true then some ((⟨0,0,[],([]:List zp),([]:List xF)⟩:zi),false) else (zw yp a0 r6.1 a2).bind fun r11=>some (r11,true)) else some ((⟨0,0,[],([]:List zp),([]:List xF)⟩:zi),false))
theorem ZI.ok {a0 a1 a2 r}(h:ZI a0 a1 a2=some r):ACalls qf 81 [.agg (zd a0),.str a1,.agg (zb a2)] [] (fun r' _=>r'=.tup [.agg (zb r.1),.bool r.2]):=by
 refine zk (rs:=[.cell 6 37,.tmp 7]) U Tryz.func81 rfl Tryz.ntmps81 rfl Tryz.call81 (by simp) ?_;refine zu [(0,.agg (zd a0)),(1,.str a1),(2,.agg (zb a2))] ⟨rfl,rfl,rfl,trivial⟩ ?_;unfold ZI at h;refine rgW [1,3,5,6] (aI @zb.eq_1 @zd.eq_1) ?_
 refine za fun Z1 hZ1=>?_
 refine rc [1,3,5,6,12] fun K J=>?_
 obtain⟨r2,hr2,h⟩:=bind_some h;refine κ 1 ?_;refine clN rfl rfl rfl ((ww.ok hr2).c _) ?_;refine κ 1 ?_;refine nkN J ?_;refine zR rfl (fun hc3=>?_) (fun hc3=>?_)
 · rw[if_neg hc3] at h;have t4:=eq_false hc3;refine rgW [6,7] t4 ?_;cases h;exact rtA
 rw[if_pos hc3] at h;have t5:=eq_true hc3;apply zg;apply hZ1
 refine rc [3,5,6,8,9] fun K J=>?_
 obtain⟨r6,hr6,h⟩:=yb h;refine rnW 2 t5 ?_;refine clN rfl rfl rfl ((xf.ok hr6).c _) ?_;refine rnW 6 @ze.eq_1 ?_;refine nkN J ?_
 refine za fun Z7 hZ7=>?_
 refine rc [3,5,6,8,31] fun K J=>?_
 refine κ 3 ?_;refine cut (b:=(!r6.2)) (hb:=boolP_eq _) 4 22 26 [3,5,6,8] ((!r6.2)||(!(decide (a2.fKind=3)))) t5 rfl ?_;refine κ 1 ?_;obtain⟨c8,hc8,h⟩:=bind_some h;refine yv 4 (fun L τ=>L=[(3,.op 0 0 0),(5,.op 1 0 0),(6,.op 2 0 0),(8,.op 3 0 0),(31,.bool c8)]∧τ=([.cells 0 (zd a0),.cells 0 (zb a2),.cells 0 [.int .i64 0,.int .i64 0,.str [],.ds true [] 0 true,.ds true [] 0 true],.cells 0 (ze r6.1)]:zf)) ?_ ?_
 · refine xm (b:=((!r6.2)||(!(decide (a2.fKind=3))))) 27 rfl (fun hg27=>?_) (fun hg27=>?_)
   · rw[if_pos hg27] at hc8;refine κ 4 ?_;cases hc8;refine zl ⟨rfl,_,_,⟨rfl,rfl⟩,.b hg27⟩
   rw[wn hg27] at hc8;obtain⟨r9,hr9,hc8⟩:=bind_some hc8;refine κ 1 ?_;refine clN rfl rfl rfl ((Xi.ok hr9).c _) ?_;refine κ 2 ?_;cases hc8;refine zl ⟨rfl,_,_,⟨rfl,rfl⟩,.b hg27⟩
 rintro _ _ ⟨rfl,rfl⟩;refine nkN J ?_;refine zB (b:=c8) rfl (fun hc10=>?_) (fun hc10=>?_)
 · rw[if_pos hc10] at h;refine O [6,7] ?_;cases h;exact rtA
 rw[wn hc10] at h;apply zg;apply hZ7
 refine rc [6,7] fun K J=>?_
 obtain⟨r11,hr11,h⟩:=bind_some h;refine rnW 3 @zb.eq_1 ?_;refine clN rfl rfl rfl (zw.ev yp a0 r6.1 a2 r11 hr11 _) ?_;refine rnW 2 @zb.eq_1 ?_;refine nkN J ?_;cases h;exact rtA
def wK.l7 (a0:zm)(a2:List UInt8)(a3:zi)(r1:Zk×Bool):List vay→Int→Option zi
 |[],x5=>some (⟨3,0,[],([]:List zp),([]:List xF)⟩:zi)
 |y7::q7,x5=>(ZI a0 r1.1.fIn y7.fIn).bind fun r13=>(ZI a0 r1.1.fOut y7.fOut).bind fun r16=>(if (((decide (y7.fMethod=a2))&&r13.2)&&r16.2)=true then (zW yp r13.1 a3).bind fun r21=>some r21 else some false).bind fun c21=>(if c21=true then some r16.1 else ((wK.l7 a0 a2 a3 r1 q7) (x5+1)))
def wK (a0:zm)(a1:List vay)(a2:List UInt8)(a3:zi):Option zi:=
 bnd (w5 a0 a2) fun r1=>(if (!r1.2)=true then some (⟨0,0,[],([]:List zp),([]:List xF)⟩:zi) else (wK.l7 a0 a2 a3 r1 a1 0))
theorem wK.ok {a0 a1 a2 a3 r}(h:wK a0 a1 a2 a3=some r):ACalls qf 44 [.agg (zd a0),.ds true (qb yd a1) (qa a1) false,.str a2,.agg (zb a3)] [] (fun r' _=>r'=.agg (zb r)):=by
 refine zk (rs:=[.cell 8 37]) U Tryz.func44 rfl Tryz.ntmps44 rfl Tryz.call44 (by simp) ?_;refine zu [(0,.agg (zd a0)),(1,.ds true (qb yd a1) (qa a1) false),(2,.str a2),(3,.agg (zb a3))] ⟨rfl,rfl,rfl,rfl,trivial⟩ ?_;unfold wK at h;refine rgW [1,2,4,7,8] (aI @zb.eq_1 @zd.eq_1) ?_
 refine rc [1,2,4,7,8,9,10] fun K J=>?_
 obtain⟨r1,hr1,h⟩:=yb h;refine κ 2 ?_;refine clN rfl rfl rfl ((w5.ok hr1).c _) ?_;refine rnW 6 @zv.eq_1 ?_;refine nkN J ?_
 refine za fun Z2 hZ2=>?_
 refine O [1,2,4,7,8,9,23] ?_;refine zB (b:=(!r1.2)) rfl (fun hc3=>?_) (fun hc3=>?_)
 · rw[if_pos hc3] at h;refine O [8] ?_;cases h;exact rtA
 rw[wn hc3] at h;apply zg;apply hZ2
 refine za fun Z4 hZ4=>?_
 refine O [1,2,4,7,8,9,11] ?_;apply zj
 refine xq 1 fun hb7=>?_
 replace hb7:qa a1≤9223372036854775807:=hb7.1;refine zG (fun m L τ=>∃ (p7 q7:List vay) (x5:Int),m=qa q7∧L=[(1,.ds true (qb yd a1) (qa a1) false),(2,.str a2),(4,.op 0 0 0),(7,.op 1 0 0),(8,.op 2 0 0),(9,.op 3 0 0),(11,.int .i64 x5)]∧τ=([.cells 0 (zd a0),.cells 0 (zb a3),.cells 0 [.int .i64 0,.int .i64 0,.str [],.ds true [] 0 true,.ds true [] 0 true],.cells 0 [.str r1.1.fName,.str r1.1.fIn,.str r1.1.fOut]]:zf)∧a1=p7++q7∧x5=(qa p7:Int)∧wK.l7 a0 a2 a3 r1 q7 x5=some r) _ ⟨[],a1,0,rfl,rfl,rfl,rfl,rfl,h⟩ .s ?_;rintro m L τ ⟨p7,q7,x5,rfl,rfl,rfl,hE7,hi7,h⟩
 rcases q7 with _|⟨y7,q7⟩
 · have hz7:=yH hE7 hi7;simp only[wK.l7] at h
   refine za fun Z8 hZ8=>?_
   refine rgW [1,2,4,7,8,9,11,28] hz7 ?_;refine zD rfl ?_;apply zJ;apply hZ4;refine O [8] ?_;cases h;exact rtA
 obtain⟨hz7,hw7,hx7,hE'7,hi'7⟩:=yo hE7 hi7 hb7;simp only[wK.l7] at h
 refine za fun Z9 hZ9=>?_
 refine rgW [1,2,4,7,8,9,11,28] hz7 ?_;refine zE rfl ?_;apply zg;apply hZ9
 refine za fun Z10 hZ10=>?_
 apply zj;have f11:=E82.idxS hx7;have f12:=E82.fldAS (f:=37) rfl rfl hx7 (o:=1) (by decide);obtain⟨r13,hr13,h⟩:=bind_some h
 refine rd [1,2,4,7,8,9,11,12,13] fun K J=>?_
 refine DW.start (T:=tab) [.at [],.any,.at [],.any,.any,.any,.any,.at [],.eff,.any,.any,.any,.flt,.eff,.any] [] ?_;refine DW.runN U 8 ?_;simp only[go_sem,qd,qg,qc,qe,zb,yd,f11,f12,uD,qw,uC,uO];refine DW.call rfl rfl rfl ((ZI.ok hr13).c _) ?_;refine DW.runN U 6 ?_;simp only[go_sem,qd,qg,qc,qe,zb,uD,qw,uC,uO];refine DW.fin U (by decide +kernel) rfl ?_;simp only[zq,upd,qc,reduceIte,yD,xj];apply J
 have f14:=E82.idxS hx7;have f15:=E82.fldAS (f:=37) rfl rfl hx7 (o:=6) (by decide);obtain⟨r16,hr16,h⟩:=bind_some h
 refine rd [1,2,4,7,8,9,11,12,13,14,15] fun K J=>?_
 refine DW.start (T:=tab) [.at [],.any,.at [],.any,.any,.any,.any,.at [],.eff,.any,.any,.any,.flt,.eff,.any] [] ?_;refine DW.runN U 8 ?_;simp only[go_sem,qd,qg,qc,qe,zb,yd,f14,f15,uD,qw,uC,uO];refine DW.call rfl rfl rfl ((ZI.ok hr16).c _) ?_;refine DW.runN U 6 ?_;simp only[go_sem,qd,qg,qc,qe,zb,uD,qw,uC,uO];refine DW.fin U (by decide +kernel) rfl ?_;simp only[zq,upd,qc,reduceIte,yD,xj];apply J
 refine rc [1,2,4,7,8,9,11,14,72] fun K J=>?_
 have f17:=E82.idxS hx7;have f18:=E82.fldS0 (f:=9) rfl rfl hx7;refine rnW 8 (aI @zb.eq_1 (aI @yd.eq_1 (aI f17 f18))) ?_;refine yv 2 (fun L τ=>L=[(1,.ds true (qb yd a1) (qa a1) false),(2,.str a2),(4,.op 0 0 0),(7,.op 1 0 0),(8,.op 2 0 0),(9,.op 3 0 0),(11,.int .i64 x5),(12,.op 4 0 0),(14,.op 5 0 0),(15,.bool r16.2),(64,.bool ((decide (y7.fMethod=a2))&&r13.2))]∧τ=([.cells 0 (zd a0),.cells 0 (zb a3),.cells 0 [.int .i64 0,.int .i64 0,.str [],.ds true [] 0 true,.ds true [] 0 true],.cells 0 [.str r1.1.fName,.str r1.1.fIn,.str r1.1.fOut],.cells 0 (zb r13.1),.cells 0 (zb r16.1)]:zf)) ?_ ?_
 · refine Yz 62 rfl (fun hg62=>?_) (fun hg62=>?_)
   · have t19:=eq_true hg62;refine κ 2 ?_;refine zl ⟨rfl,_,_,⟨rfl,rfl⟩,.p t19⟩
   have t20:=eq_false hg62;refine κ 2 ?_;refine zl ⟨rfl,_,_,⟨rfl,rfl⟩,.p t20⟩
 rintro _ _ ⟨rfl,rfl⟩;refine κ 1 ?_;refine yv 2 (fun L τ=>L=[(1,.ds true (qb yd a1) (qa a1) false),(2,.str a2),(4,.op 0 0 0),(7,.op 1 0 0),(8,.op 2 0 0),(9,.op 3 0 0),(11,.int .i64 x5),(12,.op 4 0 0),(14,.op 5 0 0),(67,.bool (((decide (y7.fMethod=a2))&&r13.2)&&r16.2))]∧τ=([.cells 0 (zd a0),.cells 0 (zb a3),.cells 0 [.int .i64 0,.int .i64 0,.str [],.ds true [] 0 true,.ds true [] 0 true],.cells 0 [.str r1.1.fName,.str r1.1.fIn,.str r1.1.fOut],.cells 0 (zb r13.1),.cells 0 (zb r16.1)]:zf)) ?_ ?_
 · refine xm (b:=((decide (y7.fMethod=a2))&&r13.2)) 65 rfl (fun hg65=>?_) (fun hg65=>?_)
   · refine κ 2 ?_;refine zl ⟨rfl,_,_,⟨rfl,rfl⟩,.b hg65⟩
   refine κ 2 ?_;refine zl ⟨rfl,_,_,⟨rfl,rfl⟩,.b hg65⟩
 rintro _ _ ⟨rfl,rfl⟩;refine κ 1 ?_;obtain⟨c21,hc21,h⟩:=bind_some h;refine yv 4 (fun L τ=>L=[(1,.ds true (qb yd a1) (qa a1) false),(2,.str a2),(4,.op 0 0 0),(7,.op 1 0 0),(8,.op 2 0 0),(9,.op 3 0 0),(11,.int .i64 x5),(14,.op 5 0 0),(72,.bool c21)]∧τ=([.cells 0 (zd a0),.cells 0 (zb a3),.cells 0 [.int .i64 0,.int .i64 0,.str [],.ds true [] 0 true,.ds true [] 0 true],.cells 0 [.str r1.1.fName,.str r1.1.fIn,.str r1.1.fOut],.cells 0 (zb r13.1),.cells 0 (zb r16.1)]:zf)) ?_ ?_
 · refine xm (b:=(((decide (y7.fMethod=a2))&&r13.2)&&r16.2)) 68 rfl (fun hg68=>?_) (fun hg68=>?_)
   · rw[if_pos hg68] at hc21;obtain⟨r22,hr22,hc21⟩:=bind_some hc21;refine κ 2 ?_;refine clN rfl rfl rfl (zW.ev yp r13.1 a3 r22 hr22 _) ?_;refine κ 1 ?_;cases hc21;refine zl ⟨rfl,_,_,⟨rfl,rfl⟩,.b hg68⟩
   rw[wn hg68] at hc21;refine κ 4 ?_;cases hc21;refine zl ⟨rfl,_,_,⟨rfl,rfl⟩,.b hg68⟩
 rintro _ _ ⟨rfl,rfl⟩;refine nkN J ?_;refine zB (b:=c21) rfl (fun hc23=>?_) (fun hc23=>?_)
 · rw[if_pos hc23] at h;refine O [8] ?_;cases h;exact rtA
 rw[wn hc23] at h;apply zg;apply hZ10
 refine rgE U [1,2,4,7,8,9,11] fun K J=>?_
 simp only[go_sem,qd,qc,hw7];apply J
 exact⟨_,_,_,qo q7.length,⟨p7++[y7],q7,x5+1,rfl,rfl,rfl,hE'7,hi'7,h⟩,(.t [0,1,2,3] false)⟩
def law24_ServerAnswers.j14 (x13:Bool):Option Bool:=
 some x13
def law24_ServerAnswers (a0:zm)(a1:zm)(a2:List vay)(a3:List UInt8)(a4:zi):Option Bool:=
 (yq a0).bind fun r2=>(if (!r2)=true then some true else (yq a1).bind fun r3=>some (!r3)).bind fun c3=>(if c3=true then some true else (ZN a2).bind fun r5=>some (!r5)).bind fun c5=>(if c5=true then some true else (ZP a4).bind fun r7=>some (!r7)).bind fun c7=>(if c7=true then some true else (ww a0).bind fun r9=>some (!(decide (r9=0)))).bind fun c9=>(if c9=true then (YV).bind fun r12=>some r12 else (xd a0).bind fun r15=>(xd a1).bind fun r16=>(wP a2).bind fun r17=>(yI yp a4).bind fun r18=>(yO r15 r16 r17 a3 r18).bind fun r19=>(wK a0 a2 a3 a4).bind fun r20=>(zW yp r19 r20).bind fun r21=>(if r21=true then (YV).bind fun r22=>(law24_ServerAnswers.j14 r22) else (law24_ServerAnswers.j14 false)))
theorem law24_ServerAnswers.ok {a0 a1 a2 a3 a4 r}(h:law24_ServerAnswers a0 a1 a2 a3 a4=some r):ACalls qf 8 [.agg (zd a0),.agg (zd a1),.ds true (qb yd a2) (qa a2) false,.str a3,.agg (zb a4)] [] (fun r' _=>r'=.bool r):=by
 refine zk (rs:=[.tmp 10]) U Tryz.func8 rfl Tryz.ntmps8 rfl Tryz.call8 (by simp) ?_;refine zu [(0,.agg (zd a0)),(1,.agg (zd a1)),(2,.ds true (qb yd a2) (qa a2) false),(3,.str a3),(4,.agg (zb a4))] ⟨rfl,rfl,rfl,rfl,rfl,trivial⟩ ?_;unfold law24_ServerAnswers at h;refine rgW [2,3,5,6,9] (aI @zb.eq_1 @zd.eq_1) ?_
 refine za fun Z1 hZ1=>?_
 refine rc [2,3,5,6,9,33] fun K J=>?_
 obtain⟨r2,hr2,h⟩:=bind_some h;refine κ 1 ?_;refine clN rfl rfl rfl ((yq.ok hr2).c _) ?_;refine κ 2 ?_;obtain⟨c3,hc3,h⟩:=bind_some h;refine yv 4 (fun L τ=>L=[(2,.ds true (qb yd a2) (qa a2) false),(3,.str a3),(5,.op 0 0 0),(6,.op 1 0 0),(9,.op 2 0 0),(18,.bool c3)]∧τ=([.cells 0 (zd a0),.cells 0 (zd a1),.cells 0 (zb a4)]:zf)) ?_ ?_
 · refine xm (b:=(!r2)) 14 rfl (fun hg14=>?_) (fun hg14=>?_)
   · rw[if_pos hg14] at hc3;refine κ 4 ?_;cases hc3;refine zl ⟨rfl,_,_,⟨rfl,rfl⟩,.b hg14⟩
   rw[wn hg14] at hc3;obtain⟨r4,hr4,hc3⟩:=bind_some hc3;refine κ 1 ?_;refine clN rfl rfl rfl ((yq.ok hr4).c _) ?_;refine κ 2 ?_;cases hc3;refine zl ⟨rfl,_,_,⟨rfl,rfl⟩,.b hg14⟩
 rintro _ _ ⟨rfl,rfl⟩;refine κ 1 ?_;obtain⟨c5,hc5,h⟩:=bind_some h;refine yv 4 (fun L τ=>L=[(2,.ds true (qb yd a2) (qa a2) false),(3,.str a3),(5,.op 0 0 0),(6,.op 1 0 0),(9,.op 2 0 0),(23,.bool c5)]∧τ=([.cells 0 (zd a0),.cells 0 (zd a1),.cells 0 (zb a4)]:zf)) ?_ ?_
 · refine xm (b:=c3) 19 rfl (fun hg19=>?_) (fun hg19=>?_)
   · rw[if_pos hg19] at hc5;refine κ 4 ?_;cases hc5;refine zl ⟨rfl,_,_,⟨rfl,rfl⟩,.b hg19⟩
   rw[wn hg19] at hc5;obtain⟨r6,hr6,hc5⟩:=bind_some hc5;refine κ 1 ?_;refine clN rfl rfl rfl ((ZN.ok hr6).c _) ?_;refine κ 2 ?_;cases hc5;refine zl ⟨rfl,_,_,⟨rfl,rfl⟩,.b hg19⟩
 rintro _ _ ⟨rfl,rfl⟩;refine κ 1 ?_;obtain⟨c7,hc7,h⟩:=bind_some h;refine yv 4 (fun L τ=>L=[(2,.ds true (qb yd a2) (qa a2) false),(3,.str a3),(5,.op 0 0 0),(6,.op 1 0 0),(9,.op 2 0 0),(28,.bool c7)]∧τ=([.cells 0 (zd a0),.cells 0 (zd a1),.cells 0 (zb a4)]:zf)) ?_ ?_
 · refine xm (b:=c5) 24 rfl (fun hg24=>?_) (fun hg24=>?_)
   · rw[if_pos hg24] at hc7;refine κ 4 ?_;cases hc7;refine zl ⟨rfl,_,_,⟨rfl,rfl⟩,.b hg24⟩
   rw[wn hg24] at hc7;obtain⟨r8,hr8,hc7⟩:=bind_some hc7;refine κ 1 ?_;refine clN rfl rfl rfl ((ZP.ok hr8).c _) ?_;refine κ 2 ?_;cases hc7;refine zl ⟨rfl,_,_,⟨rfl,rfl⟩,.b hg24⟩
 rintro _ _ ⟨rfl,rfl⟩;refine κ 1 ?_;obtain⟨c9,hc9,h⟩:=bind_some h;refine yv 4 (fun L τ=>L=[(2,.ds true (qb yd a2) (qa a2) false),(3,.str a3),(5,.op 0 0 0),(6,.op 1 0 0),(9,.op 2 0 0),(33,.bool c9)]∧τ=([.cells 0 (zd a0),.cells 0 (zd a1),.cells 0 (zb a4)]:zf)) ?_ ?_
 · refine xm (b:=c7) 29 rfl (fun hg29=>?_) (fun hg29=>?_)
   · rw[if_pos hg29] at hc9;refine κ 4 ?_;cases hc9;refine zl ⟨rfl,_,_,⟨rfl,rfl⟩,.b hg29⟩
   rw[wn hg29] at hc9;obtain⟨r10,hr10,hc9⟩:=bind_some hc9;refine κ 1 ?_;refine clN rfl rfl rfl ((ww.ok hr10).c _) ?_;refine κ 2 ?_;cases hc9;refine zl ⟨rfl,_,_,⟨rfl,rfl⟩,.b hg29⟩
 rintro _ _ ⟨rfl,rfl⟩;refine nkN J ?_;refine zB (b:=c9) rfl (fun hc11=>?_) (fun hc11=>?_)
 · rw[if_pos hc11] at h
   refine rc [10] fun K J=>?_
   obtain⟨r12,hr12,h⟩:=bind_some h;refine clN rfl rfl rfl ((YV.ok r12 hr12).c _) ?_;refine κ 1 ?_;refine nkN J ?_;cases h;exact rtA
 rw[wn hc11] at h;apply zg;apply hZ1;refine we (fun L τ=>∃ (x13:Bool),L=[(10,.bool x13)]∧τ=([]:zf)∧law24_ServerAnswers.j14 x13=some r) ?_ ?_
 · refine rdE [10] fun K J=>?_
   refine DW.start (T:=tab) [.at [],.eff,.own 1 [],.eff,.any,.eff,.any,.own 3 [],.eff,.eff,.own 5 [],.any,.any,.own 5 [],.eff,.eff,.any,.eff,.any,.any] [(1,[]),(3,[]),(5,[])] ?_;obtain⟨r15,hr15,h⟩:=bind_some h;refine DW.runN U 1 ?_;simp only[go_sem,qd,qg,qc,qe];refine DW.call rfl rfl rfl ((xd.ok hr15).c _) ?_;obtain⟨r16,hr16,h⟩:=bind_some h;refine DW.runN U 1 ?_;simp only[go_sem,qd,qg,qc,qe,zd];refine DW.call rfl rfl rfl ((xd.ok hr16).c _) ?_;obtain⟨r17,hr17,h⟩:=bind_some h;refine DW.runN U 1 ?_;simp only[go_sem,qd,qc,zd];refine DW.call rfl rfl rfl ((wP.ok hr17).c _) ?_;obtain⟨r18,hr18,h⟩:=bind_some h;refine DW.runN U 2 ?_;simp only[go_sem,qd,qg,qc,qe];refine DW.call rfl rfl rfl (yI.ev yp a4 r18 hr18 _) ?_;obtain⟨r19,hr19,h⟩:=bind_some h;refine DW.call rfl rfl rfl ((yO.ok hr19).c _) ?_;obtain⟨r20,hr20,h⟩:=bind_some h;refine DW.runN U 4 ?_;simp only[go_sem,qd,qg,qc,qe,zb];refine DW.call rfl rfl rfl ((wK.ok hr20).c _) ?_;obtain⟨r21,hr21,h⟩:=bind_some h;refine DW.call rfl rfl rfl (zW.ev yp r19 r20 r21 hr21 _) ?_;refine DW.runN U 1 ?_;simp only[go_sem,qd,qc,zb];refine DW.at (b:=r21) 51 rfl (fun hg51=>?_) (fun hg51=>?_)
   · rw[if_pos hg51] at h;obtain⟨r22,hr22,h⟩:=bind_some h;refine DW.call rfl rfl rfl ((YV.ok r22 hr22).c _) ?_;refine DW.runN U 2 ?_;simp only[go_sem,qd,qc];refine DW.fin U (by decide +kernel) rfl ?_;simp only[zq,upd,qc,reduceIte,yD,xj];apply J
     exact⟨_,_,⟨r22,rfl,rfl,h⟩,(.t [] false)⟩
   rw[wn hg51] at h;refine DW.runN U 3 ?_;simp only[go_sem,qd,qc];refine DW.fin U (by decide +kernel) rfl ?_;simp only[zq,upd,qc,reduceIte,yD,xj];apply J
   exact⟨_,_,⟨false,rfl,rfl,h⟩,(.t [] false)⟩
 rintro _ _ ⟨x13,rfl,rfl,h⟩;unfold law24_ServerAnswers.j14 at h;cases h;exact rtA
end
section
set_option maxRecDepth 4000
open AM
theorem grd_t {p:Prop} [Decidable p](h:p):grd p=some ():=if_pos h
theorem Xp {n b:Nat}(h:n*b≤140737488355328):vao n b=some ():=if_pos h
def In64 (n:Int):Prop := -9223372036854775808≤n∧n<9223372036854775808
theorem vas {α:Type}{A B:List α}{x:α}{i:Int}(h:i=A.length):Yl (A++x::B) i=some x:=by
 subst h
 rw[Yl,if_pos (by omega),uw,uj (qA _),uV]; rfl
theorem idx_t {α:Type}{l:List α}{i:Int}{x:α}(h0:0≤i)(h:l[i.toNat]?=some x):Yl l i=some x:=by rw[Yl,if_pos h0,h]
theorem vaG (s:List UInt8)(p:Nat):1≤(vba s p).2:=by
 unfold vba Utf8.decode
 dsimp only
 repeat' split
 all_goals first|exact qA 1|exact (by decide:1≤2)|exact (by decide:1≤3)|exact (by decide:1≤4)
theorem runesNext_t (a:List UInt8)(n:Nat)(h:a.length≤9223372036854775807):∃ r,Y5 a (n:Int)=some r:=by
 unfold Y5
 split
 · exact⟨_,rfl⟩
 rename_i h1
 simp only[qS,decide_eq_true_eq,not_or] at h1;rw[grd_t (by omega),qh,bnd]
 split<;>exact⟨_,rfl⟩
theorem vdi (a:List UInt8)(h:a.length≤9223372036854775807):∀ (k p:Nat),0<k→a.length<p+k→∃ v,xD.l4 a k p=some v
 |0,p,h0,hk=>by omega
 |k+1,p,_,hk=>by
  have hd:=vaG a p;rw[xD.l4]
  split
  · have ih:=vdi a h k (p+(vba a p).2) (by omega) (by omega)
    split
    · obtain⟨r,e⟩:=runesNext_t a p h;rw[e,qh]
      split
      · exact⟨_,rfl⟩
      exact ih
    exact ih
  exact⟨_,rfl⟩
theorem xJ : 9223372036854775808≤yp:=by decide
def vdL (b:List UInt8):Bool:=(xD b).getD false
theorem runesV_eq {a:List UInt8}(h:a.length≤9223372036854775807):xD a=some (vdL a):=by
 obtain⟨v,e⟩:=vdi a h yp 0 (by have:=xJ; omega) (by have:=xJ; omega);unfold vdL
 rw[show xD a=some v from e]; rfl
def TagLt (a b:zp):Prop:=a.fTag<b.fTag
def vcZ : zi:=⟨0,0,[],[],[]⟩
theorem vb8 {m:zz}{t:Int}(h:(zQ m t).2=true):(zQ m t).1.fTag=t∧(zQ m t).1∈m.fFields:=by
 have key:∀ (l:List yY) (i:Int),(zQ.l4 t l i).2=true→(zQ.l4 t l i).1.fTag=t∧(zQ.l4 t l i).1∈l:=by
  intro l
  induction l with
  |nil=>intro i h; cases h
  |cons f l ih=>
   intro i h
   rw[zQ.l4] at h ⊢
   split at h
   · rename_i hf
     rw[if_pos hf]; exact⟨hf,qG ..⟩
   rename_i hf
   rw[if_neg hf];obtain⟨h1,h2⟩:=ih _ h;exact⟨h1,qB _ h2⟩
 exact key m.fFields 0 h
def msgOf (s:zm)(n:List UInt8):zz:=(zP s n).1
end
section
set_option maxRecDepth 4000
open AM
def maxD (f:zi→Nat):List zi→Nat→Nat
 |[],d=>d
 |x::l,d=>maxD f l (max d (f x))
theorem maxD_ge {f:zi→Nat}:∀ (l:List zi) (d:Nat),d≤maxD f l d
 |[],d=>qA _
 |x::l,d=>uv (Nat.le_max_left _ _) (maxD_ge l _)
theorem maxD_mem {f:zi→Nat}{x:zi}:∀ {l:List zi} {d:Nat},x∈l→f x≤maxD f l d
 |y::l,d,h=>by
  rw[maxD]
  rcases uc.1 h with rfl|h
  · exact uv (Nat.le_max_right _ _) (maxD_ge l _)
  exact maxD_mem h
theorem maxD_le {f:zi→Nat}{n:Nat}:∀ {l:List zi} {d:Nat},d≤n→(∀ x∈l,f x≤n)→maxD f l d≤n
 |[],d,h,_=>h
 |x::l,d,h,hl=>maxD_le (l:=l) (Nat.max_le.2 ⟨h,hl x (qG ..)⟩) fun y hy=>hl y (qB _ hy)
theorem maxD_app (f:zi→Nat):∀ (l m:List zi) (d:Nat),maxD f (l++m) d=maxD f m (maxD f l d)
 |[],_,_=>rfl
 |x::l,m,d=>maxD_app f l m _
def kids (t:zi):List zi:=t.fEntries.flatMap zp.fTrees
def vbU : Nat→zi→Nat
 |0,_=>0
 |m+1,t=>if t.fKind=3 then maxD (vbU m) (kids t) 0+1 else 0
theorem depT_le : ∀ (m:Nat) (t:zi),vbU m t≤m
 |0,_=>qA _
 |m+1,t=>by
  rw[vbU]; split
  · exact Nat.succ_le_succ (maxD_le (ux _) fun x _=>depT_le m x)
  exact ux _
theorem deep_l20 {self:zi→Int→Option Int}{m:Nat}(hm:m<1000)(hs:∀ x,self x (m:Int)=some ((vbU m x:Nat):Int)){x7:Int}{rec10:Int→Int→Option Int}:∀ (l:List zi) (i:Int) (d:Nat),
 yN.l20 self ((m+1:Nat):Int) x7 rec10 l i (d:Int)=rec10 (x7+1) ((maxD (vbU m) l d:Nat):Int)
 |[],i,d=>rfl
 |x::l,i,d=>by
  rw[yN.l20,show IntKind.i64.wrap (((m+1:Nat):Int)-1)=(m:Int) by rw[ZM (by omega) (by omega)]; omega,hs,qh,maxD]
  have e:(if (d:Int)<((vbU m x:Nat):Int) then ((vbU m x:Nat):Int) else (d:Int))=((max d (vbU m x):Nat):Int):=by split<;>omega
  rw[e]; exact deep_l20 hm hs l _ _
theorem deep_l10 {self:zi→Int→Option Int}{m:Nat}(hm:m<1000)(hs:∀ x,self x (m:Int)=some ((vbU m x:Nat):Int)):∀ (l:List zp) (i:Int) (d:Nat),d≤1000→
 yN.l10 self ((m+1:Nat):Int) l i (d:Int)=some ((maxD (vbU m) (l.flatMap zp.fTrees) d+1:Nat):Int)
 |[],i,d,hd=>by
  rw[yN.l10,ZM (by omega) (by omega),uo,maxD]; rfl
 |e::l,i,d,hd=>by
  rw[yN.l10,deep_l20 hm hs,deep_l10 hm hs l _ _ (maxD_le hd fun x _=>uv (depT_le m x) (by omega)),ua,maxD_app]
theorem deep_eq : ∀ (m k:Nat) (t:zi),m<1000→m<k→yN k t (m:Int)=some ((vbU m t:Nat):Int)
 |m,0,t,_,h=>by omega
 |0,k+1,t,_,_=>by
  rw[yN,yN.body,if_pos (by simp)]; rfl
 |m+1,k+1,t,hm,hk=>by
  rw[yN,yN.body,vbU]
  by_cases h3:t.fKind=3
  · rw[if_neg (by simp only[h3,decide_true,qu,ur,decide_eq_true_eq]; omega),if_pos h3];exact deep_l10 (by omega) (fun x=>deep_eq m k x (by omega) (by omega)) t.fEntries 0 0 (by omega)
  rw[if_pos (by simp[h3]),if_neg h3]; rfl
theorem Depth_eq (t:zi):Xe t=some ((vbU 101 t:Nat):Int):=by
 rw[Xe,show (101:Int)=((101:Nat):Int) from rfl,deep_eq 101 yp t (by omega) (by have:=xJ; omega)]; rfl
def risB : List xF→Bool
 |a::b::l=>decide (a.fTag≤b.fTag)&&risB (b::l)
 |_=>true
theorem rising_l {L:List xF}(hL:L.length<4611686018427387904):∀ (k:Nat) (A:List xF) (a:xF) (B:List xF),L=A++a::B→B.length<k→wI.l4 L k ((A.length+1:Nat):Int)=some (risB (a::B))
 |0,_,_,_,_,h=>by omega
 |k+1,A,a,[],h,_=>by
  rw[wI.l4,if_neg (by rw[h,qt,qZ]; omega)]; rfl
 |k+1,A,a,b::B,h,hk=>by
  have hl:L.length=A.length+(B.length+2):=by rw[h,qt,qk,qk]
  have e1:Yl L ((A.length+1:Nat):Int)=some b:=by
   rw[h,show A++a::b::B=(A++[a])++b::B by rw[qP]; rfl];exact vas (by rw[qt,qZ])
  have e2:IntKind.i64.wrap (((A.length+1:Nat):Int)-1)=(A.length:Int):=by rw[ZM (by omega) (by omega)]; omega
  have e3:Yl L (A.length:Int)=some a:=by rw[h]; exact vas rfl
  have e4:IntKind.i64.wrap (((A.length+1:Nat):Int)+1)=(((A++[a]).length+1:Nat):Int):=by rw[ZM (by omega) (by omega),qt,qZ]; omega
  rw[wI.l4,if_pos (by omega),e1,qh,e2,e3,qh,risB]
  by_cases hlt:b.fTag<a.fTag
  · rw[if_pos hlt,decide_eq_false (by omega)]; rfl
  rw[if_neg hlt,e4,rising_l hL k (A++[a]) b B (by rw[h,qP]; rfl) (by simpa using hk),decide_eq_true (by omega),qX]
theorem rising_eq {l:List xF}(h:l.length<4611686018427387904):wI l=some (risB l):=by
 cases l with
 |nil=>rfl
 |cons a l=>exact rising_l h yp [] a l rfl (by have:=xJ; rw[qk] at h; omega)
def restB (t:zi):Bool:=t.fRest.all (fun r=>Zl r && !(t.fEntries.any fun e=>decide (e.fTag=r.fTag)))&&risB t.fRest
theorem rest_l16 {x2:Int}{rec4:Int→Option Bool}{y:xF}:∀ (l:List zp) (i:Int),xV.l16 x2 rec4 y l i=if (l.any fun e=>decide (e.fTag=y.fTag))=true then some false else rec4 (x2+1)
 |[],i=>by rw[xV.l16]; rfl
 |e::l,i=>by
  rw[xV.l16,List.any_cons]
  by_cases h:e.fTag=y.fTag
  · rw[if_pos h,decide_eq_true h,ug,if_pos rfl]
  rw[if_neg h,decide_eq_false h,ur,rest_l16]
theorem rest_l4 {t:zi}(hr:t.fRest.length<4611686018427387904):∀ (l:List xF) (i:Int),xV.l4 t l i=some (l.all (fun r=>Zl r && !(t.fEntries.any fun e=>decide (e.fTag=r.fTag)))&&risB t.fRest)
 |[],i=>by rw[xV.l4,rising_eq hr]; rfl
 |r::l,i=>by
  rw[xV.l4,bnd,qQ]
  cases hc:Zl r with
  |false=>rfl
  |true=>
   rw[if_neg (by decide),rest_l16]
   cases ha:t.fEntries.any fun e=>decide (e.fTag=r.fTag) with
   |true=>rfl
   |false=>rw[if_neg (by decide),rest_l4 hr l]; rfl
theorem rest_eq {t:zi}(hr:t.fRest.length<4611686018427387904):xV t=some (restB t):=rest_l4 hr _ _
def entB (f:zi→Bool):Int→List zp→Bool
 |_,[]=>true
 |last,e::l=>decide (last<e.fTag∧e.fTag≤500∧1≤e.fTrees.length∧e.fTrees.length≤64)&&(e.fTrees.all fun x=>decide (x.fKind=(e.fTrees.headD vcZ).fKind)&&f x)&&entB f e.fTag l
def vcF (t:zi):Bool:=
 if t.fKind=1 then decide (t.fS=[])&&decide ((qa t.fEntries:Int)=0)&&decide ((qa t.fRest:Int)=0)
 else if t.fKind=2 then decide (t.fN=0)&&decide ((qa t.fEntries:Int)=0)&&decide ((qa t.fRest:Int)=0)
 else false
def Yy : Nat→zi→Bool
 |0,t=>vcF t
 |d+1,t=>if t.fKind=3 then decide (t.fN=0)&&decide (t.fS=[])&&entB (Yy d) 0 t.fEntries&&restB t else vcF t
def ownS (t:zi):Prop:=In64 t.fN∧t.fRest.length≤900000∧∀ r∈t.fRest,In64 r.fN
def szT : Nat→zi→Prop
 |0,t=>ownS t
 |d+1,t=>ownS t∧∀ x∈kids t,szT d x
theorem vd7 {self:zi→Option Bool}{f:zi→Bool}{x3:Int}{rec6:Int→Int→Option Bool}{y:zp}(hy:1≤y.fTrees.length):∀ (l:List zi) (i:Int),(∀ x∈l,self x=some (f x))→
 z8.l18 self x3 rec6 y l i=if (l.all fun x=>decide (x.fKind=(y.fTrees.headD vcZ).fKind)&&f x)=true then rec6 (x3+1) y.fTag else some false
 |[],i,_=>by rw[z8.l18]; rfl
 |x::l,i,h=>by
  have e1:Yl y.fTrees 0=some (y.fTrees.headD vcZ):=by
   cases ht:y.fTrees with
   |nil=>rw[ht] at hy; exact absurd hy (by decide)
   |cons a l=>rfl
  rw[z8.l18,e1,qh,qQ]
  by_cases hk:x.fKind=(y.fTrees.headD vcZ).fKind
  · rw[if_pos hk,h x (qG ..),qh,decide_eq_true hk,qX]
    cases f x with
    |false=>rfl
    |true=>
     rw[z8.j25,if_neg (by decide),vd7 hy l _ fun z hz=>h z (qB _ hz),qX]
  rw[if_neg hk,decide_eq_false hk]; rfl
theorem entries_l6 {self:zi→Option Bool}{f:zi→Bool}:∀ (l:List zp) (i last:Int),(∀ e∈l,∀ x∈e.fTrees,self x=some (f x))→z8.l6 self l i last=some (entB f last l)
 |[],i,last,_=>rfl
 |e::l,i,last,h=>by
  rw[z8.l6,entB]
  by_cases hc:last<e.fTag∧e.fTag≤500∧1≤e.fTrees.length∧e.fTrees.length≤64
  · rw[if_neg (by simp only[qS,decide_eq_true_eq]; omega),vd7 hc.2.2.1 e.fTrees 0 (h e (qG ..)),decide_eq_true hc,qX]
    cases ha:e.fTrees.all fun x=>decide (x.fKind=(e.fTrees.headD vcZ).fKind)&&f x with
    |false=>rfl
    |true=>rw[if_pos rfl,entries_l6 l _ _ fun y hy=>h y (qB _ hy),qX]
  rw[if_pos (by simp only[qS,decide_eq_true_eq]; omega),decide_eq_false hc]; rfl
theorem vaC {t:zi}{e:zp}{x:zi}(he:e∈t.fEntries)(hx:x∈e.fTrees):x∈kids t:=List.mem_flatMap.2 ⟨e,he,hx⟩
theorem right_eq : ∀ (d m k:Nat) (t:zi),d<m→vbU m t≤d→2*d<k→szT d t→wh k t=some (Yy d t)
 |d,m,0,t,_,_,h,_=>by omega
 |0,m+1,k+1,t,_,hd,_,hz=>by
  have h3:¬ t.fKind=3:=by
   intro h; rw[vbU,if_pos h] at hd; omega
  rw[wh,wh.body,Yy,vcF,if_neg h3]
  split<;>first|rfl|(split<;>rfl)
 |d+1,m+1,k+1,t,hm,hd,hk,hz=>by
  rw[wh,wh.body,Yy]
  by_cases h3:t.fKind=3
  · have hd':maxD (vbU m) (kids t) 0≤d:=by rw[vbU,if_pos h3] at hd; omega
    obtain⟨k',rfl⟩:∃ k',k=k'+1:=⟨k-1,by omega⟩
    have he:z8 (k'+1) t=some (entB (Yy d) 0 t.fEntries):=by
     rw[z8,z8.body]
     exact entries_l6 t.fEntries 0 0 fun e he x hx=>right_eq d m k' x (by omega) (uv (maxD_mem (vaC he hx)) hd') (by omega) (hz.2 x (vaC he hx))
    rw[if_neg (by omega),if_neg (by omega),if_pos h3,if_pos h3,he,rest_eq (by have:=hz.1.2.1; omega)]
    cases decide (t.fN=0)&&decide (t.fS=[]) with
    |false=>rfl
    |true=>cases entB (Yy d) 0 t.fEntries<;>rfl
  rw[if_neg h3,if_neg h3,vcF]
  split<;>first|rfl|(split<;>rfl)
def checkT (t:zi):Bool:=decide (vbU 101 t≤10)&&Yy 10 t
theorem check_eq {t:zi}(hz:szT 10 t):Yn t=some (checkT t):=by
 rw[Yn,Depth_eq,qh,checkT]
 by_cases h:vbU 101 t≤10
 · rw[if_pos (by omega),right_eq 10 101 yp t (by omega) h (by have:=xJ; omega) hz,decide_eq_true h,qX]; rfl
 rw[if_neg (by omega),decide_eq_false h]; rfl
end
section
set_option maxRecDepth 4000
open AM
theorem vbT {f:zi→Bool}:∀ {l:List zp} {last:Int},entB f last l=true→∀ e∈l,last<e.fTag∧e.fTag≤500∧1≤e.fTrees.length∧e.fTrees.length≤64∧(∀ x∈e.fTrees,x.fKind=(e.fTrees.headD vcZ).fKind∧f x=true)
 |[],_,_,e,he=>by cases he
 |a::l,last,h,e,he=>by
  rw[entB,qs,qs,decide_eq_true_eq] at h
  rcases uc.1 he with rfl|he
  · refine⟨h.1.1.1,h.1.1.2.1,h.1.1.2.2.1,h.1.1.2.2.2,fun x hx=>?_⟩;have:=uk.1 h.1.2 x hx;rw[qs,decide_eq_true_eq] at this;exact this
  obtain⟨h1,h2⟩:=vbT h.2 e he;exact⟨by omega,h2⟩
theorem vd8 {f:zi→Bool}:∀ {l:List zp} {last:Int},entB f last l=true→l.Pairwise TagLt
 |[],_,_=>List.Pairwise.nil
 |a::l,last,h=>by
  rw[entB,qs,qs] at h;rw[List.pairwise_cons];exact⟨fun e he=>(vbT h.2 e he).1,vd8 h.2⟩
theorem sorted_len {n:Nat}:∀ {l:List zp} {lo:Int},l.Pairwise TagLt→(∀ e∈l,lo<e.fTag∧e.fTag≤lo+n)→l.length≤n
 |[],_,_,_=>ux _
 |a::l,lo,h,hl=>by
  rw[List.pairwise_cons] at h;have ha:=hl a (qG ..)
  cases n with
  |zero=>omega
  |succ n=>
   rw[qk];refine Nat.succ_le_succ (sorted_len (n:=n) (lo:=lo+1) h.2 fun e he=>?_);have h1:=h.1 e he;have h2:=hl e (qB _ he)
   unfold TagLt at h1; omega
theorem ents_len {d:Nat}{t:zi}(h:Yy (d+1) t=true)(h3:t.fKind=3):t.fEntries.length≤500∧entB (Yy d) 0 t.fEntries=true∧restB t=true∧t.fN=0∧t.fS=[]:=by
 rw[Yy,if_pos h3] at h;simp only[qs,decide_eq_true_eq] at h;refine⟨?_,h.1.2,h.2,h.1.1.1,h.1.1.2⟩
 exact sorted_len (n:=500) (lo:=0) (vd8 h.1.2) fun e he=>by
  have:=vbT h.1.2 e he; omega
theorem kids_nil {x:zi}(h:x.fEntries=[]):kids x=[]:=by unfold kids; rw[h]; rfl
end
section
set_option maxRecDepth 4000
open AM
theorem ref04_Check_eq (r:xF):Xj r=Zl r:=by
 unfold Xj Zl
 by_cases h0:r.fWire=0
 · simp only[h0,if_true]
 by_cases h1:r.fWire=1
 · simp only[h1,decide_true,qX,if_true]
 simp only[h0,h1,if_false,decide_false,ub]
theorem ref04_ris : ∀ (L:List xF) (k:Nat) (x:Int),Zf.l4 L k x=wI.l4 L k x
 |L,0,x=>rfl
 |L,k+1,x=>by
  rw[Zf.l4,wI.l4];simp only[ref04_ris L k]
theorem vdT (l:List xF):Zf l=wI l:=ref04_ris l yp 1
theorem rdeep_l18 {self:zi→Int→Option Int}{m:Nat}{a:Int}(ha:a=100-m)(hm:m≤100)(hs:∀ x,self x (a+1)=some ((vbU m x:Nat):Int)){x7:Int}{rec10:Int→Int→Option Int}:∀ (l:List zi) (i:Int) (d:Nat),
 yF.l18 self a x7 rec10 l i (d:Int)=rec10 (x7+1) ((maxD (vbU m) l d:Nat):Int)
 |[],i,d=>rfl
 |x::l,i,d=>by
  rw[yF.l18,ZM (by omega) (by omega),hs,qh,maxD]
  have e:(if (d:Int)<((vbU m x:Nat):Int) then ((vbU m x:Nat):Int) else (d:Int))=((max d (vbU m x):Nat):Int):=by split<;>omega
  rw[e]; exact rdeep_l18 ha hm hs l _ _
theorem rdeep_l10 {self:zi→Int→Option Int}{m:Nat}{a:Int}(ha:a=100-m)(hm:m≤100)(hs:∀ x,self x (a+1)=some ((vbU m x:Nat):Int)):∀ (l:List zp) (i:Int) (d:Nat),d≤m→
 yF.l10 self a l i (d:Int)=some ((maxD (vbU m) (l.flatMap zp.fTrees) d+1:Nat):Int)
 |[],i,d,hd=>by
  rw[yF.l10,ZM (by omega) (by omega),uo,maxD,if_neg (by omega)]; rfl
 |e::l,i,d,hd=>by
  rw[yF.l10,rdeep_l18 ha hm hs,rdeep_l10 ha hm hs l _ _ (maxD_le hd fun x _=>depT_le m x),ua,maxD_app]
theorem rdeep_eq : ∀ (m k:Nat) (t:zi) (a:Int),m≤101→m<k→a=101-m→yF k t a=some ((vbU m t:Nat):Int)
 |m,0,t,a,_,h,_=>by omega
 |0,k+1,t,a,_,_,ha=>by
  rw[yF,yF.body,if_pos (by simp only[qS,decide_eq_true_eq]; right; omega)]; rfl
 |m+1,k+1,t,a,hm,hk,ha=>by
  rw[yF,yF.body,vbU]
  by_cases h3:t.fKind=3
  · rw[if_neg (by simp only[h3,decide_true,qu,ur,decide_eq_true_eq]; omega),if_pos h3];exact rdeep_l10 (by omega) (by omega) (fun x=>rdeep_eq m k x _ (by omega) (by omega) (by omega)) t.fEntries 0 0 (ux _)
  rw[if_pos (by simp[h3]),if_neg h3]; rfl
theorem ref09_Depth_eq (t:zi):Xh t=some ((vbU 101 t:Nat):Int):=by
 rw[Xh,rdeep_eq 101 yp t 0 (by omega) (by have:=xJ; omega) (by omega)]; rfl
theorem rhas_eq {a:Int}:∀ (l:List zp) (i:Int),ZU.l4 a l i=l.any fun e=>decide (e.fTag=a)
 |[],i=>rfl
 |e::l,i=>by
  rw[ZU.l4,List.any_cons]
  by_cases h:e.fTag=a
  · rw[if_pos h,decide_eq_true h,ug]
  rw[if_neg h,decide_eq_false h,ur,rhas_eq]
theorem rrest_l4 {t:zi}(hr:t.fRest.length<4611686018427387904):∀ (l:List xF) (i:Int),wm.l4 t l i=some (l.all (fun r=>Zl r && !(t.fEntries.any fun e=>decide (e.fTag=r.fTag)))&&risB t.fRest)
 |[],i=>by rw[wm.l4,vdT,rising_eq hr]; rfl
 |r::l,i=>by
  rw[wm.l4,bnd,qQ,ref04_Check_eq]
  cases hc:Zl r with
  |false=>rfl
  |true=>
   rw[if_neg (by decide),bnd,ZU,rhas_eq]
   cases ha:t.fEntries.any fun e=>decide (e.fTag=r.fTag) with
   |true=>rfl
   |false=>rw[wm.j10,if_neg (by decide),rrest_l4 hr l]; rfl
theorem vdj {self:zi→Option Bool}{f:zi→Bool}{x3:Int}{rec6:Int→Int→Option Bool}{y:zp}(hy:1≤y.fTrees.length):∀ (l:List zi) (i:Int),(∀ x∈l,self x=some (f x))→
 ye.l18 self x3 rec6 y l i=if (l.all fun x=>decide (x.fKind=(y.fTrees.headD vcZ).fKind)&&f x)=true then rec6 (x3+1) y.fTag else some false
 |[],i,_=>by rw[ye.l18]; rfl
 |x::l,i,h=>by
  have e1:Yl y.fTrees 0=some (y.fTrees.headD vcZ):=by
   cases ht:y.fTrees with
   |nil=>rw[ht] at hy; exact absurd hy (by decide)
   |cons a l=>rfl
  rw[ye.l18,e1,qh,qQ]
  by_cases hk:x.fKind=(y.fTrees.headD vcZ).fKind
  · rw[if_pos hk,h x (qG ..),qh,decide_eq_true hk,qX]
    cases f x with
    |false=>rfl
    |true=>
     rw[ye.j23,if_neg (by decide),vdj hy l _ fun z hz=>h z (qB _ hz),qX]
  rw[if_neg hk,decide_eq_false hk]; rfl
theorem vdR {self:zi→Option Bool}{f:zi→Bool}:∀ (l:List zp) (i last:Int),(∀ e∈l,∀ x∈e.fTrees,self x=some (f x))→ye.l6 self l i last=some (entB f last l)
 |[],i,last,_=>rfl
 |e::l,i,last,h=>by
  rw[ye.l6,entB]
  by_cases hc:last<e.fTag∧e.fTag≤500∧1≤e.fTrees.length∧e.fTrees.length≤64
  · rw[if_neg (by simp only[qS,decide_eq_true_eq]; omega),vdj hc.2.2.1 e.fTrees 0 (h e (qG ..)),decide_eq_true hc,qX]
    cases ha:e.fTrees.all fun x=>decide (x.fKind=(e.fTrees.headD vcZ).fKind)&&f x with
    |false=>rfl
    |true=>rw[if_pos rfl,vdR l _ _ fun y hy=>h y (qB _ hy),qX]
  rw[if_pos (by simp only[qS,decide_eq_true_eq]; omega),decide_eq_false hc]; rfl
theorem rright_eq : ∀ (d m k:Nat) (t:zi),d<m→vbU m t≤d→2*d<k→szT d t→xU k t=some (Yy d t)
 |d,m,0,t,_,_,h,_=>by omega
 |0,m+1,k+1,t,_,hd,_,hz=>by
  have h3:¬ t.fKind=3:=by
   intro h; rw[vbU,if_pos h] at hd; omega
  rw[xU,xU.body,Yy,vcF,if_neg h3]
  split<;>first|rfl|(split<;>rfl)
 |d+1,m+1,k+1,t,hm,hd,hk,hz=>by
  rw[xU,xU.body,Yy]
  by_cases h3:t.fKind=3
  · have hd':maxD (vbU m) (kids t) 0≤d:=by rw[vbU,if_pos h3] at hd; omega
    obtain⟨k',rfl⟩:∃ k',k=k'+1:=⟨k-1,by omega⟩
    have he:ye (k'+1) t.fEntries=some (entB (Yy d) 0 t.fEntries):=by
     rw[ye,ye.body]
     exact vdR t.fEntries 0 0 fun e he x hx=>rright_eq d m k' x (by omega) (uv (maxD_mem (vaC he hx)) hd') (by omega) (hz.2 x (vaC he hx))
    have hr:wm t=some (restB t):=rrest_l4 (by have:=hz.1.2.1; omega) _ _;rw[if_neg (by omega),if_neg (by omega),if_pos h3,if_pos h3,he,hr]
    cases decide (t.fN=0)&&decide (t.fS=[]) with
    |false=>rfl
    |true=>cases entB (Yy d) 0 t.fEntries<;>rfl
  rw[if_neg h3,if_neg h3,vcF]
  split<;>first|rfl|(split<;>rfl)
theorem ref09_Check_eq {t:zi}(hz:szT 10 t):Xi t=some (checkT t):=by
 rw[Xi,ref09_Depth_eq,qh,checkT]
 by_cases h:vbU 101 t≤10
 · rw[if_pos (by omega),rright_eq 10 101 yp t (by omega) h (by have:=xJ; omega) hz,decide_eq_true h,qX]; rfl
 rw[if_neg (by omega),decide_eq_false h]; rfl
end
section
set_option maxRecDepth 4000
open AM
def vcS : Nat→zi→Prop
 |0,t=>kids t=[]
 |d+1,t=>∀ x∈kids t,vcS d x
theorem rawEqB {r:xF}:(!(decide (r.fTag=r.fTag)&&(decide (r.fWire=r.fWire)&&(decide (r.fN=r.fN)&&decide (r.fB=r.fB)))))=false:=by simp
theorem same_l28 {self:zi→zi→Option Bool}{x11:Int}{rec13:Int→Option Bool}{y:zp}:∀ (B A:List zi),y.fTrees=A++B→(∀ x∈B,self x x=some true)→zW.l28 self x11 rec13 y B (A.length:Int)=rec13 (x11+1)
 |[],A,_,_=>rfl
 |x::B,A,h,hs=>by
  have ei:Yl y.fTrees (A.length:Int)=some x:=by rw[h]; exact vas rfl
  rw[zW.l28,ei,qh,hs x (qG ..),qh,if_neg (by decide),show (A.length:Int)+1=((A++[x]).length:Int) by rw[qt,qZ]; omega]
  exact same_l28 B (A++[x]) (by rw[h,qP]; rfl) fun z hz=>hs z (qB _ hz)
theorem same_l13 {self:zi→zi→Option Bool}{t:zi}:∀ (B A:List zp),t.fEntries=A++B→(∀ e∈B,∀ x∈e.fTrees,self x x=some true)→zW.l13 self t B (A.length:Int)=some true
 |[],A,_,_=>rfl
 |e::B,A,h,hs=>by
  have ei:Yl t.fEntries (A.length:Int)=some e:=by rw[h]; exact vas rfl
  rw[zW.l13,ei,qh,if_neg (by simp)];have:=same_l28 (self:=self) (x11:=(A.length:Int)) (rec13:=zW.l13 self t B) (y:=e) e.fTrees [] rfl (hs e (qG ..));rw[qp] at this;refine this.trans ?_;rw[show (A.length:Int)+1=((A++[e]).length:Int) by rw[qt,qZ]; omega]
  exact same_l13 B (A++[e]) (by rw[h,qP]; rfl) fun z hz=>hs z (qB _ hz)
theorem same_l8 {self:zi→zi→Option Bool}{t:zi}:∀ (B A:List xF),t.fRest=A++B→zW.l8 self t t B (A.length:Int)=zW.l13 self t t.fEntries 0
 |[],A,_=>rfl
 |r::B,A,h=>by
  have ei:Yl t.fRest (A.length:Int)=some r:=by rw[h]; exact vas rfl
  rw[zW.l8,ei,qh,rawEqB,if_neg (by decide),show (A.length:Int)+1=((A++[r]).length:Int) by rw[qt,qZ]; omega];exact same_l8 B (A++[r]) (by rw[h,qP]; rfl)
theorem same_refl : ∀ (d k:Nat) (t:zi),d<k→vcS d t→zW k t t=some true
 |d,0,t,h,_=>by omega
 |d,k+1,t,hk,hd=>by
  rw[zW,zW.body,if_neg (by simp)];have h8:=same_l8 (self:=zW k) (t:=t) t.fRest [] rfl;rw[qp] at h8;refine h8.trans ?_
  have h13:=same_l13 (self:=zW k) (t:=t) t.fEntries [] rfl fun e he x hx=>by
   have hm:=vaC he hx
   cases d with
   |zero=>rw[show kids t=[] from hd] at hm; cases hm
   |succ d=>exact same_refl d k x (by omega) (hd x hm)
  rw[qp] at h13;exact h13
theorem Same_refl {d:Nat}{t:zi}(hd:d<1000)(h:vcS d t):zW yp t t=some true:=same_refl d yp t (by have:=xJ; omega) h
theorem right_deep : ∀ (d:Nat) (t:zi),Yy d t=true→vcS d t
 |0,t,h=>by
  have:t.fEntries=[]:=by
   unfold Yy vcF at h
   split at h
   · simp only[qs,decide_eq_true_eq] at h;exact qH.1 (by omega)
   split at h
   · simp only[qs,decide_eq_true_eq] at h;exact qH.1 (by omega)
   cases h
  rw[vcS,kids,this]; rfl
 |d+1,t,h=>by
  rw[vcS]
  intro x hx
  obtain⟨e,he,hxe⟩:=List.mem_flatMap.1 hx
  by_cases h3:t.fKind=3
  · obtain⟨_,hE,_⟩:=ents_len h h3;exact right_deep d x ((vbT hE e he).2.2.2.2 x hxe).2
  rw[Yy,if_neg h3] at h
  have:t.fEntries=[]:=by
   unfold vcF at h
   split at h
   · simp only[qs,decide_eq_true_eq] at h;exact qH.1 (by omega)
   split at h
   · simp only[qs,decide_eq_true_eq] at h;exact qH.1 (by omega)
   cases h
  rw[this] at he; cases he
end
section
set_option maxRecDepth 4000
open AM
theorem count_l (a:List UInt8):∀ (k p:Nat) (x:Int),0<k→a.length<p+k→∃ v,wt.l9 a k p x=some v
 |0,p,x,h0,hk=>by omega
 |k+1,p,x,_,hk=>by
  have hd:=vaG a p;rw[wt.l9]
  split
  · exact count_l a k _ _ (by omega) (by omega)
  exact⟨_,rfl⟩
theorem count_t {a:List UInt8}(h:a.length≤9223372036854775807):∃ v,wt a=some v:=by
 rw[wt,runesV_eq h,qh]
 split
 · exact⟨_,rfl⟩
 exact count_l a yp 0 0 (by have:=xJ; omega) (by have:=xJ; omega)
theorem name_l (a:List UInt8):∀ (k p:Nat),0<k→a.length<p+k→∃ v,xQ.l11 a k p=some v
 |0,p,h0,hk=>by omega
 |k+1,p,_,hk=>by
  have hd:=vaG a p;rw[xQ.l11]
  split
  · obtain⟨v,e⟩:=name_l a k (p+(vba a p).2) (by omega) (by omega);rw[e];unfold bnd
    dsimp only
    repeat' split
    all_goals exact⟨_,rfl⟩
  exact⟨_,rfl⟩
def nameV (a:List UInt8):Bool:=(xQ a).getD false
def nmOk (a:List UInt8):Prop:=a.length≤140737488351232
theorem nameV_eq {a:List UInt8}(h:nmOk a):xQ a=some (nameV a):=by
 unfold nmOk at h
 have:∃ v,xQ a=some v:=by
  obtain⟨v,e⟩:=count_t (a:=a) (by omega);rw[xQ,e,qh];obtain⟨w,ew⟩:=name_l a yp 0 (by have:=xJ; omega) (by have:=xJ; omega);rw[ew];unfold bnd
  dsimp only
  repeat' split
  all_goals exact⟨_,rfl⟩
 obtain⟨v,e⟩:=this
 unfold nameV; rw[e]; rfl
theorem vdJ {m:List (List UInt8×Bool)}{a:List UInt8}(h:nmOk a):∃ r,xe m a=some r:=by
 rw[xe,nameV_eq h,qh]
 split<;>exact⟨_,rfl⟩
def nmM (m:zz):Prop:=nmOk m.fName∧∀ f∈m.fFields,nmOk f.fName
def nmE (e:zT):Prop:=nmOk e.fName∧∀ v∈e.fValues,nmOk v.fName
def nmS (s:zm):Prop:=nmOk s.fName∧(∀ m∈s.fMessages,nmM m)∧(∀ e∈s.fEnums,nmE e)∧∀ x∈s.fMethods,nmOk x.fName
theorem msg_l21 {s:zm}{r2:Bool×List (List UInt8×Bool)}:∀ (l:List yY) (i:Int) (a:List (Int×Bool)) (b:List (List UInt8×Bool)),(∀ f∈l,nmOk f.fName)→∃ r,yn.l21 s r2 l i a b=some r
 |[],i,a,b,_=>⟨_,rfl⟩
 |f::l,i,a,b,h=>by
  obtain⟨r,e⟩:=vdJ (m:=b) (h f (qG ..));rw[yn.l21,e,qh]
  split
  · exact⟨_,rfl⟩
  unfold bnd
  dsimp only
  split
  · exact⟨_,rfl⟩
  split
  · exact⟨_,rfl⟩
  exact msg_l21 l _ _ _ fun g hg=>h g (qB _ hg)
theorem msg_l12 {s:zm}{m:zz}{r2:Bool×List (List UInt8×Bool)}(hm:∀ f∈m.fFields,nmOk f.fName):∀ (l:List Int) (i:Int) (a:List (Int×Bool)),∃ r,yn.l12 s m r2 l i a=some r
 |[],i,a=>msg_l21 _ _ _ _ hm
 |n::l,i,a=>by
  rw[yn.l12];unfold bnd
  dsimp only
  split
  · exact⟨_,rfl⟩
  exact msg_l12 hm l _ _
theorem msg_t {s:zm}{a:List (List UInt8×Bool)}{m:zz}(hm:nmM m):∃ r,yn s a m=some r:=by
 obtain⟨r,e⟩:=vdJ (m:=a) hm.1;rw[yn,e,qh]
 split
 · exact⟨_,rfl⟩
 split
 · exact⟨_,rfl⟩
 exact msg_l12 hm.2 _ _ _
theorem enum_l23 {r2:Bool×List (List UInt8×Bool)}:∀ (l:List Zx) (i:Int) (a:List (List UInt8×Bool)) (b:List (Int×Bool)),(∀ f∈l,nmOk f.fName)→∃ r,xx.l23 r2 l i a b=some r
 |[],i,a,b,_=>⟨_,rfl⟩
 |f::l,i,a,b,h=>by
  obtain⟨r,e⟩:=vdJ (m:=a) (h f (qG ..));rw[xx.l23,e,qh]
  split
  · exact⟨_,rfl⟩
  split
  · exact⟨_,rfl⟩
  exact enum_l23 l _ _ _ fun g hg=>h g (qB _ hg)
theorem enum_l12 {x:zT}{r2:Bool×List (List UInt8×Bool)}(hx:∀ v∈x.fValues,nmOk v.fName):∀ (l:List Zx) (i:Int) (z:Bool),∃ r,xx.l12 x r2 l i z=some r
 |[],i,z=>by
  rw[xx.l12]
  split
  · exact⟨_,rfl⟩
  exact enum_l23 _ _ _ _ hx
 |v::l,i,z=>by rw[xx.l12]; exact enum_l12 hx l _ _
theorem enum_t {a:List (List UInt8×Bool)}{x:zT}(hx:nmE x):∃ r,xx a x=some r:=by
 obtain⟨r,e⟩:=vdJ (m:=a) hx.1;rw[xx,e,qh]
 split
 · exact⟨_,rfl⟩
 split
 · exact⟨_,rfl⟩
 exact enum_l12 hx.2 _ _ _
theorem chk_l29 {s:zm}:∀ (l:List Zk) (i:Int) (a:List (List UInt8×Bool)),(∀ x∈l,nmOk x.fName)→∃ r,zZ.l29 s l i a=some r
 |[],i,a,_=>⟨_,rfl⟩
 |x::l,i,a,h=>by
  obtain⟨r,e⟩:=vdJ (m:=a) (h x (qG ..));rw[zZ.l29];unfold bnd
  dsimp only
  rw[e,qh]
  split
  · exact⟨_,rfl⟩
  split
  · exact⟨_,rfl⟩
  exact chk_l29 l _ _ fun g hg=>h g (qB _ hg)
theorem chk_l22 {s:zm}(hs:∀ x∈s.fMethods,nmOk x.fName):∀ (l:List zT) (i:Int) (a:List (List UInt8×Bool)),(∀ x∈l,nmE x)→∃ r,zZ.l22 s l i a=some r
 |[],i,a,_=>chk_l29 _ _ _ hs
 |x::l,i,a,h=>by
  obtain⟨r,e⟩:=enum_t (a:=a) (h x (qG ..));rw[zZ.l22,e,qh]
  split
  · exact chk_l22 hs l _ _ fun g hg=>h g (qB _ hg)
  exact⟨_,rfl⟩
theorem chk_l15 {s:zm}(hs:nmS s):∀ (l:List zz) (i:Int) (a:List (List UInt8×Bool)),(∀ x∈l,nmM x)→∃ r,zZ.l15 s l i a=some r
 |[],i,a,_=>chk_l22 hs.2.2.2 _ _ _ hs.2.2.1
 |x::l,i,a,h=>by
  obtain⟨r,e⟩:=msg_t (s:=s) (a:=a) (h x (qG ..));rw[zZ.l15,e,qh]
  split
  · exact chk_l15 hs l _ _ fun g hg=>h g (qB _ hg)
  exact⟨_,rfl⟩
def chkV (s:zm):Int:=(zZ s).getD 0
theorem chkV_eq {s:zm}(hs:nmS s):zZ s=some (chkV s):=by
 have:∃ r,zZ s=some r:=by
  rw[zZ,nameV_eq hs.1,qh]
  split
  · exact⟨_,rfl⟩
  split
  · exact⟨_,rfl⟩
  split
  · exact⟨_,rfl⟩
  exact chk_l15 hs _ _ _ hs.2.1
 obtain⟨v,e⟩:=this
 unfold chkV; rw[e]; rfl
end
section
set_option maxRecDepth 4000
open AM
theorem msgI_l21 {s:zm}{r2:Bool×List (List UInt8×Bool)}{z:List (List UInt8×Bool)}:∀ {l:List yY} {i:Int} {a:List (Int×Bool)} {b:List (List UInt8×Bool)},yn.l21 s r2 l i a b=some (0,z)→∀ f∈l,1≤f.fType.fKind∧f.fType.fKind≤7
 |[],_,_,_,_,f,hf=>by cases hf
 |g::l,i,a,b,h,f,hf=>by
  rw[yn.l21] at h;obtain⟨r,_,h⟩:=bind_some h
  split at h
  · cases h
  unfold bnd at h
  dsimp only at h
  split at h
  · cases h
  split at h
  · cases h
  rename_i hc
  rcases uc.1 hf with rfl|hf
  · rw[uZ,Bool.not_eq_false] at hc;unfold Z0 at hc
    split at hc
    · omega
    split at hc
    · omega
    simp only[qs,decide_eq_true_eq] at hc
    omega
  exact msgI_l21 h f hf
theorem msgI_l12 {s:zm}{m:zz}{r2:Bool×List (List UInt8×Bool)}{z:List (List UInt8×Bool)}:∀ {l:List Int} {i:Int} {a:List (Int×Bool)},yn.l12 s m r2 l i a=some (0,z)→∀ f∈m.fFields,1≤f.fType.fKind∧f.fType.fKind≤7
 |[],_,_,h=>msgI_l21 h
 |n::l,i,a,h=>by
  rw[yn.l12] at h;unfold bnd at h
  dsimp only at h
  split at h
  · cases h
  exact msgI_l12 h
theorem msgI {s:zm}{a z:List (List UInt8×Bool)}{m:zz}(h:yn s a m=some (0,z)):∀ f∈m.fFields,1≤f.fType.fKind∧f.fType.fKind≤7:=by
 rw[yn] at h;obtain⟨r,_,h⟩:=bind_some h
 split at h
 · cases h
 split at h
 · cases h
 exact msgI_l12 h
def kindsS (s:zm):Prop:=∀ m∈s.fMessages,∀ f∈m.fFields,1≤f.fType.fKind∧f.fType.fKind≤7
theorem chkI_l15 {s:zm}:∀ {l:List zz} {i:Int} {a:List (List UInt8×Bool)},zZ.l15 s l i a=some 0→∀ m∈l,∀ f∈m.fFields,1≤f.fType.fKind∧f.fType.fKind≤7
 |[],_,_,_,m,hm=>by cases hm
 |x::l,i,a,h,m,hm=>by
  rw[zZ.l15] at h;obtain⟨⟨v,z⟩,e,h⟩:=bind_some h
  dsimp only at h
  split at h
  · rename_i h0
    subst h0
    rcases uc.1 hm with rfl|hm
    · exact msgI e
    exact chkI_l15 h m hm
  rename_i h0
  exact absurd (Option.some.inj h) h0
theorem kindsS_of {s:zm}(h:zZ s=some 0):kindsS s:=by
 rw[zZ] at h;obtain⟨r,_,h⟩:=bind_some h
 split at h
 · cases h
 split at h
 · cases h
 split at h
 · cases h
 exact chkI_l15 h
theorem msg_mem {n:List UInt8}:∀ (l:List zz) (i:Int),((zP.l4 n l i).1∈l∧(zP.l4 n l i).2=true)∨((zP.l4 n l i).1.fFields=[]∧(zP.l4 n l i).2=false)
 |[],i=>Or.inr ⟨rfl,rfl⟩
 |m::l,i=>by
  rw[zP.l4]
  split
  · exact Or.inl ⟨qG ..,rfl⟩
  rcases msg_mem (n:=n) l (i+1) with h|h
  · exact Or.inl ⟨qB _ h.1,h.2⟩
  exact Or.inr h
def kindsM (m:zz):Prop:=∀ f∈m.fFields,1≤f.fType.fKind∧f.fType.fKind≤7
theorem vd0 {s:zm}(h:kindsS s)(n:List UInt8):kindsM (msgOf s n):=by
 rcases msg_mem (n:=n) s.fMessages 0 with e|e
 · exact h _ e.1
 intro f hf
 have:(msgOf s n).fFields=[]:=e.1
 rw[this] at hf; cases hf
end
section
set_option maxRecDepth 4000
open AM
def szS (s:zm):Prop:=nmS s∧s.fMessages.length*64≤140737488351232∧s.fEnums.length*40≤140737488351232∧s.fMethods.length*48≤140737488351232∧(∀ m∈s.fMessages,m.fFields.length*56≤140737488351232∧m.fReserved.length*8≤140737488351232)∧∀ e∈s.fEnums,e.fValues.length*24≤140737488351232
theorem ge_eta (e:zT):(⟨e.fName,e.fValues⟩:zT)=e:=rfl
theorem gm_eta (m:zz):(⟨m.fName,m.fFields,m.fReserved⟩:zz)=m:=rfl
theorem schema_l19 {s:zm}{M:List zz}(hs:szS s):∀ (B A:List zT) (i:Int),s.fEnums=A++B→xd.l19 s M B i A=some ⟨s.fName,M,s.fEnums,s.fMethods⟩
 |[],A,i,h=>by rw[xd.l19,h,qT]
 |e::B,A,i,h=>by
  have hl:s.fEnums.length=A.length+(B.length+1):=by rw[h,qt,qk]
  have h1:=hs.2.2.1;have h2:=hs.2.2.2.2.2 e (by rw[h]; exact uR _ (qG ..));rw[xd.l19,Xp (by omega),qh,Xp (by omega),qh,ge_eta,schema_l19 hs B (A++[e]) _ (by rw[h,qP]; rfl)]
theorem schema_l10 {s:zm}(hs:szS s):∀ (B A:List zz) (i:Int),s.fMessages=A++B→xd.l10 s B i A=some s
 |[],A,i,h=>by
  rw[xd.l10,schema_l19 hs s.fEnums [] 0 rfl];rw[qT] at h;rw[← h]
 |m::B,A,i,h=>by
  have hl:s.fMessages.length=A.length+(B.length+1):=by rw[h,qt,qk]
  have h1:=hs.2.1;have h2:=hs.2.2.2.2.1 m (by rw[h]; exact uR _ (qG ..));rw[xd.l10,Xp (by omega),qh,Y7,Xp (by omega),qh,qh,Xp (by omega),qh,gm_eta,schema_l10 hs B (A++[m]) _ (by rw[h,qP]; rfl)]
theorem schema_eq {s:zm}(hs:szS s):xd s=some s:=by
 have:=hs.2.2.2.1;rw[xd,Xp (by omega),qh,schema_l10 hs s.fMessages [] 0 rfl]
theorem few_l25 {m:zz}{x2 x3:Int}{rec6:Int→Int→Option Bool}(hr:∃ b,rec6 (IntKind.i64.wrap (x2+(qa m.fName:Int))) (IntKind.i64.wrap (x3+1))=some b):∀ (l:List yY) (i:Int),∃ b,yq.l25 x2 x3 rec6 m l i=some b
 |[],_=>by rw[yq.l25]; exact hr
 |f::l,i=>by
  rw[yq.l25]
  split
  · exact⟨_,rfl⟩
  exact few_l25 hr l _
theorem few_l60 {x:Int}{rec43:Int→Option Bool}(hr:∃ b,rec43 (IntKind.i64.wrap (x+1))=some b):∀ (l:List Zx) (i:Int),∃ b,yq.l60 x rec43 l i=some b
 |[],_=>by rw[yq.l60]; exact hr
 |f::l,i=>by
  rw[yq.l60]
  split
  · exact⟨_,rfl⟩
  exact few_l60 hr l _
theorem vbm {α:Type}{l:List α}{j:Nat}(h:j<l.length):Yl l (j:Int)=some (l[j]'h):=
 idx_t (by omega) (by rw[uw]; exact qY h)
theorem few_l78 {s:zm}{n:Int}:∀ (k j:Nat),20<k+j→j≤20→∃ b,yq.l78 s n k (j:Int)=some b
 |0,j,h,h'=>by omega
 |k+1,j,h,h'=>by
  rw[yq.l78]
  split
  · rename_i hc
    simp only[qs,decide_eq_true_eq] at hc;rw[vbm (show j<s.fMethods.length by omega),qh]
    split
    · exact⟨_,rfl⟩
    rw[ZM (by omega) (by omega),show (j:Int)+1=((j+1:Nat):Int) by omega];exact few_l78 k (j+1) (by omega) (by omega)
  exact⟨_,rfl⟩
theorem few_l43 {s:zm}{n:Int}:∀ (k j:Nat),20<k+j→j≤20→∃ b,yq.l43 s n k (j:Int)=some b
 |0,j,h,h'=>by omega
 |k+1,j,h,h'=>by
  rw[yq.l43]
  split
  · rename_i hc
    simp only[qs,decide_eq_true_eq] at hc;rw[vbm (show j<s.fEnums.length by omega),qh]
    split
    · exact⟨_,rfl⟩
    refine few_l60 ?_ _ _;rw[ZM (by omega) (by omega),show (j:Int)+1=((j+1:Nat):Int) by omega];exact few_l43 k (j+1) (by omega) (by omega)
  exact few_l78 yp 0 (by have:=xJ; omega) (by omega)
theorem few_l6 {s:zm}:∀ (k j:Nat) (n:Int),20<k+j→j≤20→∃ b,yq.l6 s k n (j:Int)=some b
 |0,j,n,h,h'=>by omega
 |k+1,j,n,h,h'=>by
  rw[yq.l6]
  split
  · rename_i hc
    simp only[qs,decide_eq_true_eq] at hc;rw[vbm (show j<s.fMessages.length by omega),qh]
    split
    · exact⟨_,rfl⟩
    refine few_l25 ?_ _ _;rw[ZM (x:=(j:Int)+1) (by omega) (by omega),show (j:Int)+1=((j+1:Nat):Int) by omega];exact few_l6 k (j+1) _ (by omega) (by omega)
  exact few_l43 yp 0 (by have:=xJ; omega) (by omega)
theorem few_t (s:zm):∃ b,yq s=some b:=few_l6 yp 0 _ (by have:=xJ; omega) (by omega)
end
end Go.Proofs.YtaahlckibpiphaaGreatDoor
