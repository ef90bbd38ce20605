/- Parts of the proof, cut down to what it needs. -/
import Derived.Test.YtaahlckibpiphaaGreatDoorGFB
import Derived.Test.YtaahlckibpiphaaGreatDoorGFBa
set_option linter.constructorNameAsVariable false
set_option linter.unusedSimpArgs false
set_option linter.unusedVariables false
namespace Go.Proofs.YtaahlckibpiphaaGreatDoor
open _root_.List renaming length → qb, flatMap → qd, length_append → qj, length_cons → qk, map_nil → qm, map_cons → qp, length_nil → qr, append_assoc → qv, mem_cons_self → qA, mem_cons_of_mem → qB, drop_zero → qC, map_append → qE, length_eq_zero_iff → qF, getD_eq_getElem?_getD → qG, append_nil → qH, nil_append → qK, cons_append → qM, replicate → qP, length_singleton → qQ, getElem?_append_left → qR, flatMap_cons → qS, range_zero → qT, mem_cons → qU, getElem?_eq_some_iff → qW, all_cons → qZ, range_succ → q1, getElem?_eq_getElem → q3, flatMap_append → q5, all_eq_true → q7, all_nil → uc, getElem?_set_ne → ud, take_of_length_le → uf, length_map → uh, getElem?_append_right → ui, flatMap_nil → uj, getElem?_eq_none → uk, take_length → ul, pairwise_cons → un, take_append_drop → uo, getElem?_set_self → ur, set_cons_zero → uu, mem_map → uw, filter_cons → ux, getElem?_cons_zero → uA, getElem?_cons_succ → uB, range → uC, length_take → uF, set_cons_succ → uG, mem_append_right → uI, mem_append → uM, mem_singleton → uP, mem_of_getElem? → uS, mem_append_left → uT, eq_nil_of_length_eq_zero → uU, drop_drop → uV
open _root_.Option renaming bind_some → qh, map_some → uy, getD_some → uK
open _root_.Nat renaming reduceEqDiff → qa, reduceLT → qc, reduceAdd → qe, reduceLeDiff → qf, reduceMul → ql, zero_add → qn, reduceSub → qs, le_refl → qx, lt_succ_self → qy, mul_le_mul_right → qY, reduceMod → ub, lt_of_lt_of_le → ug, zero_le → ut, zero_mul → uz, sub_self → uD, le_trans → uE, add_mul → uL, sub_zero → uN, add_zero → uO, succ_mul → uR, lt_or_ge → uY
open _root_.Bool renaming or_true → qq, not_true → qt, and_false → qu, not_false → qw, and_eq_true → qz, and_true → qJ, or_false → qN, and_self → qO, false_eq_true → q2, or_eq_true → ua, true_and → uq, false_or → uH, not_eq_true' → uW
open _root_.Int renaming toNat → qI, toNat_natCast → qV
open _root_.BitVec renaming ofInt → qD, toNat → um
open _root_.Array renaming length_toList → ue, getD_eq_getD_getElem? → uv, getElem?_eq_getElem → uJ, getElem?_setIfInBounds_ne → uQ, replicate → uX, getElem?_modify → uZ
open _root_.UInt8 renaming ofNat → qX
open Result renaming andThen_ok → qi
open Sem renaming run_bind → qo, run_pure → qL
open _root_.Go.Proofs.Tryz renaming prog → qg
section
set_option maxRecDepth 4000
set_option maxHeartbeats 1000000
open AM
theorem wG.ev (a0:GAdaptProgram)(a1:GTree)(r:GTree×Int×Int)(h:wG a0 a1=some r)(σ:Store):ACalls qg 152 [.agg (encGAdaptProgram a0),.agg (cellsGTree a1)] σ (fun r' σ'=>r'=.tup [.agg (cellsGTree r.1),.int .i64 r.2.1,.int .i64 r.2.2]∧σ'=σ):=
 (wG.ok a0 a1 r h).c σ
def xR (a0:GAdaptProgram)(a1:GTree):Option (GTree×Int):=
 (wG a0 a1).bind fun r1=>some (r1.1,r1.2.2)
theorem xR.ok (a0:GAdaptProgram)(a1:GTree)(r:GTree×Int)(h:xR a0 a1=some r):ACalls qg 100 [.agg (encGAdaptProgram a0),.agg (cellsGTree a1)] [] (fun r' _=>r'=.tup [.agg (cellsGTree r.1),.int .i64 r.2]):=by
 refine zh (rs:=[.cell 4 37,.tmp 5]) tok Tryz.func100 rfl Tryz.ntmps100 rfl Tryz.call100 (by simp) ?_;refine zl [(0,.agg (encGAdaptProgram a0)),(1,.agg (cellsGTree a1))] ⟨rfl,rfl,trivial⟩ ?_;unfold xR at h
 refine rg tok [2,3,4] fun K hK=>?_
 simp only[go_sem,qc,qa,qe,reduceCtorEq,cellsGTree,encGAdaptProgram];apply hK
 refine rc [4,6,8] fun K hK=>?_
 obtain⟨r1,hr1,h⟩:=bind_some h;refine zj tok 2 ?_;simp only[go_sem,qc,qf,qa,qe,cellsGTree];refine clN rfl rfl rfl (wG.ev a0 a1 r1 hr1 _) ?_;refine zj tok 8 ?_;simp only[go_sem,qc,qf,qa,qe,cellsGTree];refine nkN hK ?_;refine rgN [4,5] ?_;cases h;exact rtA
theorem xR.ev (a0:GAdaptProgram)(a1:GTree)(r:GTree×Int)(h:xR a0 a1=some r)(σ:Store):ACalls qg 100 [.agg (encGAdaptProgram a0),.agg (cellsGTree a1)] σ (fun r' σ'=>r'=.tup [.agg (cellsGTree r.1),.int .i64 r.2]∧σ'=σ):=
 (xR.ok a0 a1 r h).c σ
def wu (a0:GClientClient):Option (List UInt8×Int):=
 (Zb a0.fschemas a0.fagreed).bind fun y1=>(yB a0).bind fun r4=>bnd (yG r4 a0.fmethod) fun r5=>bnd (yG y1 a0.fmethod) fun r6=>(if (!r6.2)=true then some (([]:List UInt8),21) else (yB a0).bind fun r9=>(yI r9 y1 r5.1.fIn r6.1.fIn).bind fun r10=>(xR r10.1 a0.ft).bind fun r11=>(if r11.2=0 then (xF r11.1).bind fun r16=>some (r16.1,r16.2) else some (([]:List UInt8),r11.2)))
theorem wu.ok (a0:GClientClient)(r:List UInt8×Int)(h:wu a0=some r):ACalls qg 97 [.op 0 0 0] [.cells 0 (encGClientClient a0)] (fun r' σ'=>r'=.tup [.ds true (qd encB r.1) (qb r.1) false,.int .i64 r.2]∧σ'=[.cells 0 (encGClientClient a0)]):=by
 refine ww [0] (rs:=[.tmp 2,.tmp 3]) tok Tryz.func97 rfl Tryz.ntmps97 rfl Tryz.call97 (by simp) rfl ?_;refine zl [(0,.op 0 0 0)] ⟨rfl,trivial⟩ ?_;unfold wu at h;refine rgN [0] ?_;obtain⟨y1,hy1,h⟩:=bind_some h;have f2:=E33.idxS hy1;have f3:=E33.loadS rfl rfl hy1
 refine rd [0,4] fun K hK=>?_
 refine DW.start (T:=tab) [.any,.any,.any,.own 1 [],.any,.any,.any,.own 1 [],.any,.own 1 [],.eff,.eff] [(1,[])] ?_;refine DW.runN tok 8 ?_;simp only[go_sem,qc,qa,qe,reduceCtorEq];refine DW.runN tok 4 ?_;simp only[go_sem,qc,qf,qa,qe,reduceCtorEq,encGSchema,f2,f3];refine DW.fin tok (by decide +kernel) rfl ?_;simp only[zf,upd,qa,reduceIte,zV,yz];apply hK
 obtain⟨r4,hr4,h⟩:=bind_some h;obtain⟨r5,hr5,h⟩:=zD h
 refine rd [0,4,5] fun K hK=>?_
 refine DW.start (T:=tab) [.any,.eff,.any,.any,.any,.own 1 [],.eff,.any,.any,.any,.flt,.eff,.any] [(1,[])] ?_;refine DW.runN tok 1 ?_;simp only[go_sem,qc,reduceCtorEq];refine DW.callS rfl rfl rfl (@id (ACalls qg 60 [.op 0 0 0] [.cells 0 (encGClientClient a0),.cells 0 (encGSchema y1)] (fun r' σ'=>r'=.agg (encGSchema r4)∧σ'=[.cells 0 (encGClientClient a0),.cells 0 (encGSchema y1)])) ((yB.ok a0 r4 hr4).i [0])) (Ya (by simp only[go_sem,qf])) ?_;refine DW.runN tok 4 ?_;simp only[go_sem,qc,qa,qe,reduceCtorEq];refine DW.call rfl rfl rfl (yG.ev r4 a0.fmethod r5 hr5 _) ?_;refine DW.runN tok 6 ?_;simp only[go_sem,qc,qf,qa,qe,reduceCtorEq,encGMethod];refine DW.fin tok (by decide +kernel) rfl ?_;simp only[zf,upd,qa,reduceIte,zV,yz];apply hK
 obtain⟨r6,hr6,h⟩:=zD h
 refine rd [0,4,5,7,8] fun K hK=>?_
 refine DW.start (T:=tab) [.at [],.any,.any,.any,.at [],.eff,.any,.any,.any,.flt,.eff,.any] [] ?_;refine DW.runN tok 5 ?_;simp only[go_sem,qc,qf,qa,qe,reduceCtorEq];refine DW.call rfl rfl rfl (yG.ev y1 a0.fmethod r6 hr6 _) ?_;refine DW.runN tok 6 ?_;simp only[go_sem,qc,qf,qa,qe,reduceCtorEq,encGMethod];refine DW.fin tok (by decide +kernel) rfl ?_;simp only[zf,upd,qa,reduceIte,zV,yz];apply hK
 refine za fun Z7 hZ7=>?_
 refine rgN [0,4,5,7,43] ?_;refine zv (b:=(!r6.2)) rfl (fun hc8=>?_) (fun hc8=>?_)
 · rw[if_pos hc8] at h;refine rgN [2,3] ?_;apply zR;cases h;simp only[wN,ym,yy,xo,exists_eq_left',go_sem,qa,qe];refine⟨by decide,by simp,?_,?_⟩
   · first|rfl|(simp only[go_sem,qc,qf,qa,qe,ql,qs,reduceIte,reduceCtorEq,push_cast,if_true,qC,qn,qp,qm,qE,qq,qN,qJ,qu,qt,qw,zi,cellsGTree,encGClientClient,encGPacket,zH]<;>rfl)
   first|rfl|(simp only[go_sem,push_cast,qp,qm,qq,qu,qt,zi]<;>rfl)
 rw[wb hc8] at h;apply zd;apply hZ7;obtain⟨r9,hr9,h⟩:=bind_some h;obtain⟨r10,hr10,h⟩:=bind_some h
 refine rd [0,9] fun K hK=>?_
 refine DW.start (T:=tab) [.any,.eff,.own 1 [],.any,.own 1 [],.any,.own 1 [],.eff,.any,.any,.any,.flt,.eff,.any] [(1,[])] ?_;refine DW.runN tok 1 ?_;simp only[go_sem,qc,reduceCtorEq];refine DW.callS rfl rfl rfl (@id (ACalls qg 60 [.op 0 0 0] [.cells 0 (encGClientClient a0),.cells 0 (encGSchema y1),.cells 0 [.str r5.1.fName,.str r5.1.fIn,.str r5.1.fOut],.cells 0 [.str r6.1.fName,.str r6.1.fIn,.str r6.1.fOut]] (fun r' σ'=>r'=.agg (encGSchema r9)∧σ'=[.cells 0 (encGClientClient a0),.cells 0 (encGSchema y1),.cells 0 [.str r5.1.fName,.str r5.1.fIn,.str r5.1.fOut],.cells 0 [.str r6.1.fName,.str r6.1.fIn,.str r6.1.fOut]])) ((yB.ok a0 r9 hr9).i [0])) (Ya (by simp only[go_sem,qf])) ?_;refine DW.runN tok 5 ?_;simp only[go_sem,qc,qf,qa,qe,reduceCtorEq,encGSchema];refine DW.call rfl rfl rfl (yI.ev r9 y1 r5.1.fIn r6.1.fIn r10 hr10 _) ?_;refine DW.runN tok 6 ?_;simp only[go_sem,qc,qf,qa,qe,reduceCtorEq,encGAdaptProgram];refine DW.fin tok (by decide +kernel) rfl ?_;simp only[zf,upd,qa,reduceIte,zV,yz];apply hK
 obtain⟨r11,hr11,h⟩:=bind_some h
 refine rd [11,12] fun K hK=>?_
 refine DW.start (T:=tab) [.at [],.any,.any,.any,.at [],.eff,.any,.any,.any,.flt,.eff,.any] [] ?_;refine DW.runN tok 5 ?_;simp only[go_sem,qc,qf,qa,qe,reduceCtorEq];refine DW.call rfl rfl rfl (xR.ev r10.1 a0.ft r11 hr11 _) ?_;refine DW.runN tok 6 ?_;simp only[go_sem,qc,qf,qa,qe,reduceCtorEq,cellsGTree];refine DW.fin tok (by decide +kernel) rfl ?_;simp only[zf,upd,qa,reduceIte,zV,yz];apply hK
 refine za fun Z12 hZ12=>?_
 refine rgN [11,12,65] ?_;refine zL rfl (fun hc13=>?_) (fun hc13=>?_)
 · rw[if_neg hc13] at h;have t14:=eq_false hc13
   refine rg tok [2,3] fun K hK=>?_
   simp only[go_sem,qc,qa,t14];apply hK
   apply zR;cases h;simp only[wN,ym,yy,xo,exists_eq_left',go_sem,qa,qe];refine⟨by decide,by simp,?_,?_⟩
   · first|rfl|(simp only[go_sem,qc,qf,qa,qe,ql,qs,reduceIte,reduceCtorEq,push_cast,if_true,qC,qn,qp,qm,qE,qq,qN,qJ,qu,qt,qw,zi,cellsGTree,encGClientClient,encGPacket,zH]<;>rfl)
   first|rfl|(simp only[go_sem,push_cast,qp,qm,qq,qu,qt,zi]<;>rfl)
 rw[if_pos hc13] at h;have t15:=eq_true hc13;apply zd;apply hZ12
 refine rc [2,3] fun K hK=>?_
 obtain⟨r16,hr16,h⟩:=bind_some h;refine zj tok 1 ?_;simp only[go_sem,qc,qf,qa,qe,t15];refine clN rfl rfl rfl (xF.ev r11.1 r16 hr16 _) ?_;refine rnN 4 ?_;refine nkN hK ?_;apply zR;cases h;simp only[wN,ym,yy,xo,exists_eq_left',go_sem,qa,qe];refine⟨by decide,by simp,?_,?_⟩
 · first|rfl|(simp only[go_sem,push_cast,qp,qm,qq,qu,qt,zi]<;>rfl)
 first|rfl|(simp only[go_sem,push_cast,qp,qm,qq,qu,qt,zi]<;>rfl)
def zJ.j7 (m0_6:GClientClient):Option (GPacket×Bool×GClientClient):=
 some ((⟨0,0,0,0,0,[],0,[]⟩:GPacket),false,m0_6)
def zJ.l10 (a0:GClientClient)(a1:Int):List Int→Int→Option (GPacket×Bool×GClientClient)
 |[],x8=>(zJ.j7 a0)
 |y10::q10,x8=>(if y10=a1 then (wu (⟨a0.fself,a0.fserver,a0.fnumbers,a0.fschemas,a0.fid,a0.fwaits,a0.fmethod,a0.ft,x8,a0.fsent,a0.fresult⟩:GClientClient)).bind fun r20=>(if r20.2=0 then some ((⟨3,a0.fself,a0.fserver,a0.fid,a1,a0.fmethod,0,r20.1⟩:GPacket),true,(⟨a0.fself,a0.fserver,a0.fnumbers,a0.fschemas,a0.fid,2,a0.fmethod,a0.ft,x8,(⟨3,a0.fself,a0.fserver,a0.fid,a1,a0.fmethod,0,r20.1⟩:GPacket),a0.fresult⟩:GClientClient)) else bnd (yp (⟨a0.fself,a0.fserver,a0.fnumbers,a0.fschemas,a0.fid,a0.fwaits,a0.fmethod,a0.ft,x8,a0.fsent,a0.fresult⟩:GClientClient) (⟨0,0,[],([]:List GEntry),([]:List GRaw)⟩:GTree) r20.2) fun r24=>(zJ.j7 r24)) else ((zJ.l10 a0 a1 q10) (x8+1)))
def zJ (a0:GClientClient)(a1:Int):Option (GPacket×Bool×GClientClient):=
 (if a1=0 then bnd (yp a0 (⟨0,0,[],([]:List GEntry),([]:List GRaw)⟩:GTree) 18) fun r4=>some ((⟨0,0,0,0,0,[],0,[]⟩:GPacket),false,r4) else (zJ.l10 a0 a1 a0.fnumbers 0))
theorem zJ.ok (a0:GClientClient)(a1:Int)(r:GPacket×Bool×GClientClient)(h:zJ a0 a1=some r):ACalls qg 63 [.op 0 0 0,.int .i64 a1] [.cells 0 (encGClientClient a0)] (fun r' σ'=>r'=.tup [.agg (encGPacket r.1),.bool r.2.1]∧σ'=[.cells 0 (encGClientClient r.2.2)]):=by
 refine ww [0] (rs:=[.cell 4 43,.tmp 5]) tok Tryz.func63 rfl Tryz.ntmps63 rfl Tryz.call63 (by simp) rfl ?_;refine zl [(0,.op 0 0 0),(1,.int .i64 a1)] ⟨rfl,rfl,trivial⟩ ?_;unfold zJ at h;refine rgN [0,1,4] ?_
 refine za fun Z1 hZ1=>?_
 refine rgN [0,1,4,11] ?_;refine zL rfl (fun hc2=>?_) (fun hc2=>?_)
 · rw[if_pos hc2] at h;have t3:=eq_true hc2
   refine rc [4] fun K hK=>?_
   obtain⟨r4,hr4,h⟩:=zD h;refine zj tok 2 ?_;simp only[go_sem,qc,reduceCtorEq,t3];refine clN rfl rfl rfl (ACalls.loose (@id (ACalls qg 64 [.op 0 0 0,.agg [.int .i64 0,.int .i64 0,.str [],.ds true (qd encGEntry ([]:List GEntry)) (qb ([]:List GEntry)) false,.ds true (qd encGRaw ([]:List GRaw)) (qb ([]:List GRaw)) false],.int .i64 18] [.cells 0 (encGClientClient a0),.cells 0 [.int .i64 0,.int .i64 0,.int .i64 0,.int .i64 0,.int .i64 0,.str [],.int .i64 0,.str []]] (fun r' σ'=>r'=.tup []∧σ'=[.cells 0 (encGClientClient r4),.cells 0 [.int .i64 0,.int .i64 0,.int .i64 0,.int .i64 0,.int .i64 0,.str [],.int .i64 0,.str []]])) ((yp.ok a0 (⟨0,0,[],([]:List GEntry),([]:List GRaw)⟩:GTree) 18 r4 hr4).i [0]))) ?_;refine nkN hK ?_;refine rgN [4,5] ?_;apply zR;cases h;simp only[wN,ym,yy,xo,exists_eq_left',go_sem,qf,qa,qe,encGPacket];refine⟨by decide,by simp,?_,?_⟩
   · first|rfl|(simp only[go_sem,qc,qf,qa,qe,ql,qs,reduceIte,reduceCtorEq,push_cast,if_true,qC,qn,qp,qm,qE,qq,qN,qJ,qu,qt,qw,zi,cellsGTree,encGClientClient,encGPacket,zH]<;>rfl)
   first|rfl|(simp only[go_sem,push_cast,qp,qm,qq,qu,qt,zi]<;>rfl)
 rw[if_neg hc2] at h;have t5:=eq_false hc2;apply zd;apply hZ1;refine yU (fun L τ=>∃ (m0_6:GClientClient),L=[(4,.op 1 0 0)]∧τ=[.cells 0 (encGClientClient m0_6),.cells 0 [.int .i64 0,.int .i64 0,.int .i64 0,.int .i64 0,.int .i64 0,.str [],.int .i64 0,.str []]]∧zJ.j7 m0_6=some r) ?_ ?_
 · refine rg tok [0,1,4,19,20,21] fun K hK=>?_
   simp only[go_sem,qc,qa,qe,reduceCtorEq,t5];apply hK
   apply ze
   refine yD 19 fun hb10=>?_
   replace hb10:qb a0.fnumbers≤9223372036854775807:=hb10.1;refine zF (fun m L τ=>∃ (p10 q10:List Int) (x8:Int),m=qb q10∧L=[(0,.op 0 0 0),(1,.int .i64 a1),(4,.op 1 0 0),(19,.ds true (qd encI a0.fnumbers) (qb a0.fnumbers) false),(20,.int .i64 (qb a0.fnumbers:Int)),(21,.int .i64 x8)]∧τ=[.cells 0 (encGClientClient a0),.cells 0 [.int .i64 0,.int .i64 0,.int .i64 0,.int .i64 0,.int .i64 0,.str [],.int .i64 0,.str []]]∧a0.fnumbers=p10++q10∧x8=(qb p10:Int)∧zJ.l10 a0 a1 q10 x8=some r) _ ⟨[],a0.fnumbers,0,rfl,rfl,rfl,rfl,rfl,h⟩ .s ?_;rintro m L τ ⟨p10,q10,x8,rfl,rfl,rfl,hE10,hi10,h⟩
   rcases q10 with _|⟨y10,q10⟩
   · have hz10:=yH hE10 hi10;simp only[zJ.l10] at h
     refine rg tok [0,1,4,19,20,21,22] fun K hK=>?_
     simp only[go_sem,qc,qa,reduceCtorEq,hz10];apply hK
     refine za fun Z11 hZ11=>?_
     refine zp rfl ?_;apply zA;exact⟨_,_,⟨a0,rfl,rfl,h⟩,.s⟩
   obtain⟨hz10,hw10,hx10,hE'10,hi'10⟩:=ya hE10 hi10 hb10;simp only[zJ.l10] at h
   refine rg tok [0,1,4,19,20,21,22] fun K hK=>?_
   simp only[go_sem,qc,qa,reduceCtorEq,hz10];apply hK
   refine za fun Z12 hZ12=>?_
   refine zs rfl ?_;apply zd;apply hZ12
   refine za fun Z13 hZ13=>?_
   apply ze;have f14:=E26.idxS hx10;have f15:=E26.fldS0 (f:=3) rfl rfl hx10
   refine rg tok [0,1,4,6,7,19,20,21] fun K hK=>?_
   simp only[go_sem,qc,qa,reduceCtorEq,encI,f14,f15];apply hK
   refine za fun Z16 hZ16=>?_
   refine rgN [0,1,4,6,19,20,21,28] ?_;refine zL rfl (fun hc17=>?_) (fun hc17=>?_)
   · rw[if_neg hc17] at h;have t18:=eq_false hc17;apply zA;apply hZ13
     refine rgE tok [0,1,4,19,20,21] fun K hK=>?_
     simp only[go_sem,qc,qa,reduceCtorEq,hw10,t18];apply hK
     exact⟨_,_,_,qy q10.length,⟨p10++[y10],q10,x8+1,rfl,rfl,rfl,hE'10,hi'10,h⟩,.s⟩
   rw[if_pos hc17] at h;have t19:=eq_true hc17;apply zd;apply hZ16
   refine rg tok [0,1,4] fun K hK=>?_
   simp only[go_sem,qc,qf,qa,qe,reduceCtorEq,t19];apply hK
   refine rc [0,1,4,8,9] fun K hK=>?_
   obtain⟨r20,hr20,h⟩:=bind_some h;refine rnN 1 ?_;refine clN rfl rfl rfl (@id (ACalls qg 97 [.op 0 0 0] [.cells 0 [.int .i64 a0.fself,.int .i64 a0.fserver,.ds true (qd encI a0.fnumbers) (qb a0.fnumbers) false,.ds true (qd encGSchema a0.fschemas) (qb a0.fschemas) false,.int .i64 a0.fid,.int .i64 a0.fwaits,.str a0.fmethod,.int .i64 a0.ft.fKind,.int .i64 a0.ft.fN,.str a0.ft.fS,.ds true (qd encGEntry a0.ft.fEntries) (qb a0.ft.fEntries) false,.ds true (qd encGRaw a0.ft.fRest) (qb a0.ft.fRest) false,.int .i64 x8,.int .i64 a0.fsent.fKind,.int .i64 a0.fsent.fFrom,.int .i64 a0.fsent.fTo,.int .i64 a0.fsent.fID,.int .i64 a0.fsent.fVersion,.str a0.fsent.fMethod,.int .i64 a0.fsent.fErr,.str a0.fsent.fBody,optV encGClientResult a0.fresult],.cells 0 [.int .i64 0,.int .i64 0,.int .i64 0,.int .i64 0,.int .i64 0,.str [],.int .i64 0,.str []]] (fun r' σ'=>r'=.tup [.ds true (qd encB r20.1) (qb r20.1) false,.int .i64 r20.2]∧σ'=[.cells 0 [.int .i64 a0.fself,.int .i64 a0.fserver,.ds true (qd encI a0.fnumbers) (qb a0.fnumbers) false,.ds true (qd encGSchema a0.fschemas) (qb a0.fschemas) false,.int .i64 a0.fid,.int .i64 a0.fwaits,.str a0.fmethod,.int .i64 a0.ft.fKind,.int .i64 a0.ft.fN,.str a0.ft.fS,.ds true (qd encGEntry a0.ft.fEntries) (qb a0.ft.fEntries) false,.ds true (qd encGRaw a0.ft.fRest) (qb a0.ft.fRest) false,.int .i64 x8,.int .i64 a0.fsent.fKind,.int .i64 a0.fsent.fFrom,.int .i64 a0.fsent.fTo,.int .i64 a0.fsent.fID,.int .i64 a0.fsent.fVersion,.str a0.fsent.fMethod,.int .i64 a0.fsent.fErr,.str a0.fsent.fBody,optV encGClientResult a0.fresult],.cells 0 [.int .i64 0,.int .i64 0,.int .i64 0,.int .i64 0,.int .i64 0,.str [],.int .i64 0,.str []]])) ((wu.ok (⟨a0.fself,a0.fserver,a0.fnumbers,a0.fschemas,a0.fid,a0.fwaits,a0.fmethod,a0.ft,x8,a0.fsent,a0.fresult⟩:GClientClient) r20 hr20).i [0])) ?_;refine rnN 5 ?_;refine nkN hK ?_
   refine za fun Z21 hZ21=>?_
   refine rgN [0,1,4,8,9,39] ?_;refine zL rfl (fun hc22=>?_) (fun hc22=>?_)
   · rw[if_neg hc22] at h;have t23:=eq_false hc22
     refine rc [4] fun K hK=>?_
     obtain⟨r24,hr24,h⟩:=zD h;refine zj tok 3 ?_;simp only[go_sem,qc,qa,reduceCtorEq,t23];refine clN rfl rfl rfl (ACalls.loose (@id (ACalls qg 64 [.op 0 0 0,.agg [.int .i64 0,.int .i64 0,.str [],.ds true (qd encGEntry ([]:List GEntry)) (qb ([]:List GEntry)) false,.ds true (qd encGRaw ([]:List GRaw)) (qb ([]:List GRaw)) false],.int .i64 r20.2] [.cells 0 [.int .i64 a0.fself,.int .i64 a0.fserver,.ds true (qd encI a0.fnumbers) (qb a0.fnumbers) false,.ds true (qd encGSchema a0.fschemas) (qb a0.fschemas) false,.int .i64 a0.fid,.int .i64 a0.fwaits,.str a0.fmethod,.int .i64 a0.ft.fKind,.int .i64 a0.ft.fN,.str a0.ft.fS,.ds true (qd encGEntry a0.ft.fEntries) (qb a0.ft.fEntries) false,.ds true (qd encGRaw a0.ft.fRest) (qb a0.ft.fRest) false,.int .i64 x8,.int .i64 a0.fsent.fKind,.int .i64 a0.fsent.fFrom,.int .i64 a0.fsent.fTo,.int .i64 a0.fsent.fID,.int .i64 a0.fsent.fVersion,.str a0.fsent.fMethod,.int .i64 a0.fsent.fErr,.str a0.fsent.fBody,optV encGClientResult a0.fresult],.cells 0 [.int .i64 0,.int .i64 0,.int .i64 0,.int .i64 0,.int .i64 0,.str [],.int .i64 0,.str []]] (fun r' σ'=>r'=.tup []∧σ'=[.cells 0 (encGClientClient r24),.cells 0 [.int .i64 0,.int .i64 0,.int .i64 0,.int .i64 0,.int .i64 0,.str [],.int .i64 0,.str []]])) ((yp.ok (⟨a0.fself,a0.fserver,a0.fnumbers,a0.fschemas,a0.fid,a0.fwaits,a0.fmethod,a0.ft,x8,a0.fsent,a0.fresult⟩:GClientClient) (⟨0,0,[],([]:List GEntry),([]:List GRaw)⟩:GTree) r20.2 r24 hr24).i [0]))) ?_;refine nkN hK ?_;apply zA;exact⟨_,_,⟨r24,rfl,rfl,h⟩,.s⟩
   rw[if_pos hc22] at h;have t25:=eq_true hc22;apply zd;apply hZ21
   refine rg tok [0,1,4,8] fun K hK=>?_
   simp only[go_sem,qc,qf,qa,qe,reduceCtorEq,t25];apply hK
   have f26:=XW (T:=tab) (src:=48) (dst:=9) rfl rfl rfl rfl rfl rfl r20.1
   refine rd [0,4] fun K hK=>?_
   refine DW.start (T:=tab) [.any,.any,.any,.any,.at [],.any,.any,.any,.at [],.any,.any,.any,.at [],.any,.any,.any,.any,.at [],.any,.at [],.any,.any,.any,.eff] [] ?_;refine DW.runN tok 8 ?_;simp only[go_sem,qc,qa,qe,reduceCtorEq,encGPacket];refine DW.runN tok 8 ?_;simp only[go_sem,qc,qa,qe,reduceCtorEq];refine DW.runN tok 8 ?_;simp only[go_sem,qc,qf,qa,qe,reduceCtorEq,f26];refine DW.fin tok (by decide +kernel) rfl ?_;simp only[zf,upd,qa,reduceIte,zV,yz];apply hK
   refine rgN [4,5] ?_;apply zR;cases h;simp only[wN,ym,yy,xo,exists_eq_left',go_sem,qf,qa,qe,encGPacket];refine⟨by decide,by simp,?_,?_⟩
   · first|rfl|(simp only[go_sem,qc,qf,qa,qe,ql,qs,reduceIte,reduceCtorEq,push_cast,if_true,qC,qn,qp,qm,qE,qq,qN,qJ,qu,qt,qw,zi,cellsGTree,encGClientClient,encGPacket,zH]<;>rfl)
   first|rfl|(simp only[go_sem,push_cast,qp,qm,qq,qu,qt,zi]<;>rfl)
 rintro _ _ ⟨m0_6,rfl,rfl,h⟩;unfold zJ.j7 at h;refine rgN [4,5] ?_;apply zR;cases h;simp only[wN,ym,yy,xo,exists_eq_left',go_sem,qf,qa,qe,encGPacket];refine⟨by decide,by simp,?_,?_⟩
 · first|rfl|(simp only[go_sem,qc,qf,qa,qe,ql,qs,reduceIte,reduceCtorEq,push_cast,if_true,qC,qn,qp,qm,qE,qq,qN,qJ,qu,qt,qw,zi,cellsGTree,encGClientClient,encGPacket,zH]<;>rfl)
 first|rfl|(simp only[go_sem,push_cast,qp,qm,qq,qu,qt,zi]<;>rfl)
def xM (a0:GSchema)(a1:List UInt8)(a2:List UInt8):Option (GTree×Int):=
 (z6 a0).bind fun r2=>(if r2=0 then bnd (zG a0 a1) fun r6=>(if (!r6.2)=true then some ((⟨0,0,[],([]:List GEntry),([]:List GRaw)⟩:GTree),14) else (zB rounds a0 r6.1 a2 1).bind fun r9=>some (r9.1,r9.2)) else some ((⟨0,0,[],([]:List GEntry),([]:List GRaw)⟩:GTree),1))
theorem xM.ok (a0:GSchema)(a1:List UInt8)(a2:List UInt8)(r:GTree×Int)(h:xM a0 a1 a2=some r):ACalls qg 98 [.agg (encGSchema a0),.str a1,.ds true (qd encB a2) (qb a2) false] [] (fun r' _=>r'=.tup [.agg (cellsGTree r.1),.int .i64 r.2]):=by
 refine zh (rs:=[.cell 6 37,.tmp 7]) tok Tryz.func98 rfl Tryz.ntmps98 rfl Tryz.call98 (by simp) ?_;refine zl [(0,.agg (encGSchema a0)),(1,.str a1),(2,.ds true (qd encB a2) (qb a2) false)] ⟨rfl,rfl,rfl,trivial⟩ ?_;unfold xM at h
 refine rg tok [1,2,3,6] fun K hK=>?_
 simp only[go_sem,qc,qa,qe,reduceCtorEq,encGSchema];apply hK
 refine za fun Z1 hZ1=>?_
 refine rc [1,2,3,6,12] fun K hK=>?_
 obtain⟨r2,hr2,h⟩:=bind_some h;refine rnN 1 ?_;refine clN rfl rfl rfl (z6.ev a0 r2 hr2 _) ?_;refine rnN 1 ?_;refine nkN hK ?_;refine zL rfl (fun hc3=>?_) (fun hc3=>?_)
 · rw[if_neg hc3] at h;have t4:=eq_false hc3
   refine rg tok [6,7] fun K hK=>?_
   simp only[go_sem,qc,qf,qa,qe,t4];apply hK
   cases h;exact rtA
 rw[if_pos hc3] at h;have t5:=eq_true hc3;apply zd;apply hZ1
 refine rc [2,3,6,8,9] fun K hK=>?_
 obtain⟨r6,hr6,h⟩:=zD h;refine zj tok 2 ?_;simp only[go_sem,qc,qf,qa,qe,t5];refine clN rfl rfl rfl (zG.ev a0 a1 r6 hr6 _) ?_;refine zj tok 6 ?_;simp only[go_sem,qc,qf,qa,qe,encGMessage];refine nkN hK ?_
 refine za fun Z7 hZ7=>?_
 refine rgN [2,3,6,8,21] ?_;refine zv (b:=(!r6.2)) rfl (fun hc8=>?_) (fun hc8=>?_)
 · rw[if_pos hc8] at h;refine rgN [6,7] ?_;cases h;exact rtA
 rw[wb hc8] at h;apply zd;apply hZ7
 refine rc [6,7] fun K hK=>?_
 obtain⟨r9,hr9,h⟩:=bind_some h;refine rnN 3 ?_;refine clN rfl rfl rfl (zB.ev rounds a0 r6.1 a2 1 r9 hr9 _) ?_;refine zj tok 4 ?_;simp only[go_sem,qc,qf,qa,qe,cellsGTree];refine nkN hK ?_;cases h;exact rtA
theorem xM.ev (a0:GSchema)(a1:List UInt8)(a2:List UInt8)(r:GTree×Int)(h:xM a0 a1 a2=some r)(σ:Store):ACalls qg 98 [.agg (encGSchema a0),.str a1,.ds true (qd encB a2) (qb a2) false] σ (fun r' σ'=>r'=.tup [.agg (cellsGTree r.1),.int .i64 r.2]∧σ'=σ):=
 (xM.ok a0 a1 a2 r h).c σ
def wi (a0:GClientClient)(a1:List UInt8):Option (GTree×Int):=
 (Zb a0.fschemas a0.fagreed).bind fun y1=>(yB a0).bind fun r4=>bnd (yG r4 a0.fmethod) fun r5=>bnd (yG y1 a0.fmethod) fun r6=>(grd (qb a1≤9223372036854775807)).bind fun _u7=>(xM y1 r6.1.fOut a1).bind fun r9=>(if r9.2=0 then (yB a0).bind fun r14=>(yI y1 r14 r6.1.fOut r5.1.fOut).bind fun r15=>(xR r15.1 r9.1).bind fun r16=>some (r16.1,r16.2) else some ((⟨0,0,[],([]:List GEntry),([]:List GRaw)⟩:GTree),r9.2))
theorem wi.ok (a0:GClientClient)(a1:List UInt8)(r:GTree×Int)(h:wi a0 a1=some r):ACalls qg 65 [.op 0 0 0,.str a1] [.cells 0 (encGClientClient a0)] (fun r' σ'=>r'=.tup [.agg (cellsGTree r.1),.int .i64 r.2]∧σ'=[.cells 0 (encGClientClient a0)]):=by
 refine ww [0] (rs:=[.cell 4 37,.tmp 5]) tok Tryz.func65 rfl Tryz.ntmps65 rfl Tryz.call65 (by simp) rfl ?_;refine zl [(0,.op 0 0 0),(1,.str a1)] ⟨rfl,rfl,trivial⟩ ?_;unfold wi at h;refine rgN [0,1,4] ?_;obtain⟨y1,hy1,h⟩:=bind_some h;have f2:=E33.idxS hy1;have f3:=E33.loadS rfl rfl hy1
 refine rd [0,1,4,6] fun K hK=>?_
 refine DW.start (T:=tab) [.any,.any,.any,.own 1 [],.any,.any,.any,.own 1 [],.any,.own 1 [],.eff,.eff] [(1,[])] ?_;refine DW.runN tok 8 ?_;simp only[go_sem,qc,qa,qe,reduceCtorEq];refine DW.runN tok 4 ?_;simp only[go_sem,qc,qf,qa,qe,reduceCtorEq,encGSchema,f2,f3];refine DW.fin tok (by decide +kernel) rfl ?_;simp only[zf,upd,qa,reduceIte,zV,yz];apply hK
 obtain⟨r4,hr4,h⟩:=bind_some h;obtain⟨r5,hr5,h⟩:=zD h
 refine rd [0,1,4,6,7] fun K hK=>?_
 refine DW.start (T:=tab) [.any,.eff,.any,.any,.any,.own 1 [],.eff,.any,.any,.any,.flt,.eff,.any] [(1,[])] ?_;refine DW.runN tok 1 ?_;simp only[go_sem,qc,reduceCtorEq];refine DW.callS rfl rfl rfl (@id (ACalls qg 60 [.op 0 0 0] [.cells 0 (encGClientClient a0),.cells 0 [.int .i64 0,.int .i64 0,.str [],.ds true [] 0 true,.ds true [] 0 true],.cells 0 (encGSchema y1)] (fun r' σ'=>r'=.agg (encGSchema r4)∧σ'=[.cells 0 (encGClientClient a0),.cells 0 [.int .i64 0,.int .i64 0,.str [],.ds true [] 0 true,.ds true [] 0 true],.cells 0 (encGSchema y1)])) ((yB.ok a0 r4 hr4).i [0])) (Ya (by simp only[go_sem,qf])) ?_;refine DW.runN tok 4 ?_;simp only[go_sem,qc,qa,qe,reduceCtorEq];refine DW.call rfl rfl rfl (yG.ev r4 a0.fmethod r5 hr5 _) ?_;refine DW.runN tok 6 ?_;simp only[go_sem,qc,qf,qa,qe,reduceCtorEq,encGMethod];refine DW.fin tok (by decide +kernel) rfl ?_;simp only[zf,upd,qa,reduceIte,zV,yz];apply hK
 obtain⟨r6,hr6,h⟩:=zD h
 refine rd [0,1,4,6,7,9] fun K hK=>?_
 refine DW.start (T:=tab) [.at [],.any,.any,.any,.at [],.eff,.any,.any,.any,.flt,.eff,.any] [] ?_;refine DW.runN tok 5 ?_;simp only[go_sem,qc,qf,qa,qe,reduceCtorEq];refine DW.call rfl rfl rfl (yG.ev y1 a0.fmethod r6 hr6 _) ?_;refine DW.runN tok 6 ?_;simp only[go_sem,qc,qf,qa,qe,reduceCtorEq,encGMethod];refine DW.fin tok (by decide +kernel) rfl ?_;simp only[zf,upd,qa,reduceIte,zV,yz];apply hK
 refine rc [0,4,6,7,9,11,12] fun K hK=>?_
 obtain⟨_u7,hu7,h⟩:=bind_some h;have gu7:=Zn hu7;have gu7t:=eq_true gu7;have f8:=conv_s2b (T:=tab) (src:=9) (dst:=48) rfl rfl rfl rfl rfl rfl (Zn hu7);obtain⟨r9,hr9,h⟩:=bind_some h;refine zj tok 5 ?_;simp only[go_sem,qc,qf,qa,qe,reduceCtorEq,f8];refine YZ (L:=[(0,.op 0 0 0),(4,.op 1 0 0),(6,.op 2 0 0),(7,.op 3 0 0),(9,.op 4 0 0),(45,.agg (encGSchema y1)),(47,.str r6.1.fOut),(49,.ds true (qd encB a1) (qb a1) false)]) (τ:=[.cells 0 (encGClientClient a0),.cells 0 [.int .i64 0,.int .i64 0,.str [],.ds true [] 0 true,.ds true [] 0 true],.cells 0 (encGSchema y1),.cells 0 [.str r5.1.fName,.str r5.1.fIn,.str r5.1.fOut],.cells 0 [.str r6.1.fName,.str r6.1.fIn,.str r6.1.fOut]]) (.t [0,1,2,3,4] false) ?_;refine clN rfl rfl rfl (xM.ev y1 r6.1.fOut a1 r9 hr9 _) ?_;refine zj tok 6 ?_;simp only[go_sem,qc,qf,qa,qe,reduceCtorEq,cellsGTree,encGSchema];refine nkN hK ?_
 refine za fun Z10 hZ10=>?_
 refine rgN [0,4,6,7,9,11,12,54] ?_;refine zL rfl (fun hc11=>?_) (fun hc11=>?_)
 · rw[if_neg hc11] at h;have t12:=eq_false hc11
   refine rg tok [4,5] fun K hK=>?_
   simp only[go_sem,qc,qf,qa,qe,reduceCtorEq,t12];apply hK
   apply zR;cases h;simp only[wN,ym,yy,xo,exists_eq_left',go_sem,qf,qa,qe,cellsGTree];refine⟨by decide,by simp,?_,?_⟩
   · first|rfl|(simp only[go_sem,qc,qf,qa,qe,ql,qs,reduceIte,reduceCtorEq,push_cast,if_true,qC,qn,qp,qm,qE,qq,qN,qJ,qu,qt,qw,zi,cellsGTree,encGClientClient,encGPacket,zH]<;>rfl)
   first|rfl|(simp only[go_sem,push_cast,qp,qm,qq,qu,qt,zi]<;>rfl)
 rw[if_pos hc11] at h;have t13:=eq_true hc11;apply zd;apply hZ10;obtain⟨r14,hr14,h⟩:=bind_some h;obtain⟨r15,hr15,h⟩:=bind_some h
 refine rd [4,11,13] fun K hK=>?_
 refine DW.start (T:=tab) [.own 1 [],.any,.eff,.any,.own 1 [],.any,.own 1 [],.eff,.any,.any,.any,.flt,.eff,.any] [(1,[])] ?_;refine DW.runN tok 2 ?_;simp only[go_sem,qc,qf,qa,qe,reduceCtorEq,t13];refine DW.callS rfl rfl rfl (@id (ACalls qg 60 [.op 0 0 0] [.cells 0 (encGClientClient a0),.cells 0 [.int .i64 0,.int .i64 0,.str [],.ds true [] 0 true,.ds true [] 0 true],.cells 0 (encGSchema y1),.cells 0 [.str r5.1.fName,.str r5.1.fIn,.str r5.1.fOut],.cells 0 [.str r6.1.fName,.str r6.1.fIn,.str r6.1.fOut],.cells 0 (cellsGTree r9.1)] (fun r' σ'=>r'=.agg (encGSchema r14)∧σ'=[.cells 0 (encGClientClient a0),.cells 0 [.int .i64 0,.int .i64 0,.str [],.ds true [] 0 true,.ds true [] 0 true],.cells 0 (encGSchema y1),.cells 0 [.str r5.1.fName,.str r5.1.fIn,.str r5.1.fOut],.cells 0 [.str r6.1.fName,.str r6.1.fIn,.str r6.1.fOut],.cells 0 (cellsGTree r9.1)])) ((yB.ok a0 r14 hr14).i [0])) (Ya (by simp only[go_sem,qf])) ?_;refine DW.runN tok 4 ?_;simp only[go_sem,qc,qa,qe,reduceCtorEq,encGSchema];refine DW.call rfl rfl rfl (yI.ev y1 r14 r6.1.fOut r5.1.fOut r15 hr15 _) ?_;refine DW.runN tok 6 ?_;simp only[go_sem,qc,qf,qa,qe,reduceCtorEq,encGAdaptProgram];refine DW.fin tok (by decide +kernel) rfl ?_;simp only[zf,upd,qa,reduceIte,zV,yz];apply hK
 refine rc [4,5] fun K hK=>?_
 obtain⟨r16,hr16,h⟩:=bind_some h;refine zj tok 2 ?_;simp only[go_sem,qc,qf,qa,qe,cellsGTree];refine clN rfl rfl rfl (xR.ev r15.1 r9.1 r16 hr16 _) ?_;refine zj tok 4 ?_;simp only[go_sem,qc,qf,qa,qe,cellsGTree];refine nkN hK ?_;apply zR;cases h;simp only[wN,ym,yy,xo,exists_eq_left',go_sem,qf,qa,qe,cellsGTree];refine⟨by decide,by simp,?_,?_⟩
 · first|rfl|(simp only[go_sem,push_cast,qp,qm,qq,qu,qt,zi]<;>rfl)
 first|rfl|(simp only[go_sem,push_cast,qp,qm,qq,qu,qt,zi]<;>rfl)
def zo.j6 (m0_5:GClientClient):Option (GPacket×Bool×GClientClient):=
 some ((⟨0,0,0,0,0,[],0,[]⟩:GPacket),false,m0_5)
def zo.j12 (a0:GClientClient)(a1:GPacket)(x11:Bool):Option (GPacket×Bool×GClientClient):=
 (if x11=true then (if a1.fErr=0 then (wi a0 a1.fBody).bind fun r19=>bnd (yp a0 r19.1 r19.2) fun r20=>(zo.j6 r20) else bnd (yp a0 (⟨0,0,[],([]:List GEntry),([]:List GRaw)⟩:GTree) a1.fErr) fun r17=>(zo.j6 r17)) else (zo.j6 a0))
def zo.j3 (a0:GClientClient)(a1:GPacket)(x2:Bool):Option (GPacket×Bool×GClientClient):=
 (if x2=true then some ((⟨0,0,0,0,0,[],0,[]⟩:GPacket),false,a0) else (if ((decide (a0.fwaits=1))&&(decide (a1.fKind=2)))=true then (zJ a0 a1.fVersion).bind fun r10=>some (r10.1,r10.2.1,r10.2.2) else (if a0.fwaits=2 then (if a1.fKind=4 then (Zb a0.fnumbers a0.fagreed).bind fun y23=>(zo.j12 a0 a1 (decide (a1.fVersion=y23))) else (zo.j12 a0 a1 false)) else (zo.j12 a0 a1 false))))
def zo (a0:GClientClient)(a1:GPacket):Option (GPacket×Bool×GClientClient):=
 (if a0.fwaits=0 then (zo.j3 a0 a1 true) else (if a1.fID=a0.fid then (if a1.fTo=a0.fself then (zo.j3 a0 a1 (!(decide (a1.fFrom=a0.fserver)))) else (zo.j3 a0 a1 true)) else (zo.j3 a0 a1 true)))
theorem zo.ok (a0:GClientClient)(a1:GPacket)(r:GPacket×Bool×GClientClient)(h:zo a0 a1=some r):ACalls qg 19 [.op 0 0 0,.agg (encGPacket a1)] [.cells 0 (encGClientClient a0)] (fun r' σ'=>r'=.tup [.agg (encGPacket r.1),.bool r.2.1]∧σ'=[.cells 0 (encGClientClient r.2.2)]):=by
 refine ww [0] (rs:=[.cell 4 43,.tmp 5]) tok Tryz.func19 rfl Tryz.ntmps19 rfl Tryz.call19 (by simp) rfl ?_;refine zl [(0,.op 0 0 0),(1,.agg (encGPacket a1))] ⟨rfl,rfl,trivial⟩ ?_;unfold zo at h
 refine rg tok [0,3,4] fun K hK=>?_
 simp only[go_sem,qc,qa,qe,reduceCtorEq,encGPacket];apply hK
 refine za fun Z1 hZ1=>?_
 refine yU (fun L τ=>∃ (x2:Bool),L=[(0,.op 0 0 0),(3,.op 1 0 0),(4,.op 2 0 0),(37,.bool x2)]∧τ=[.cells 0 (encGClientClient a0),.cells 0 (encGPacket a1),.cells 0 [.int .i64 0,.int .i64 0,.int .i64 0,.int .i64 0,.int .i64 0,.str [],.int .i64 0,.str []]]∧zo.j3 a0 a1 x2=some r) ?_ ?_
 · refine rdE [0,3,4,37] fun K hK=>?_
   refine DW.start (T:=tab) [.any,.any,.any,.at [],.any,.any,.any,.at [],.any,.any,.any,.at [],.any,.any,.any,.any,.at [],.any,.any,.any,.at [],.any,.any,.any,.any,.at [],.any,.any,.any,.at [],.any,.any] [] ?_;refine DW.runN tok 6 ?_;simp only[go_sem,qc,qa,qe,reduceCtorEq]
   refine DW.if 11 rfl (fun hg11=>?_) (fun hg11=>?_)
   · rw[if_pos hg11] at h;have t28:=eq_true hg11;refine DW.runN tok 8 ?_;simp only[go_sem,qc,qa,reduceCtorEq,t28];refine DW.runN tok 8 ?_;simp only[go_sem,qc,qa,reduceCtorEq];refine DW.runN tok 8 ?_;simp only[go_sem,qc,qa,reduceCtorEq];refine DW.runN tok 2 ?_;simp only[go_sem,qc,qa,reduceCtorEq];refine DW.fin tok (by decide +kernel) rfl ?_;simp only[zf,upd,qa,reduceIte,zV,yz];apply hK
     exact⟨_,_,⟨true,rfl,rfl,h⟩,.s⟩
   rw[if_neg hg11] at h;have t29:=eq_false hg11;refine DW.runN tok 8 ?_;simp only[go_sem,qc,qa,qe,reduceCtorEq,t29];refine DW.runN tok 1 ?_;simp only[go_sem,qc,qa,reduceCtorEq]
   refine DW.if 20 rfl (fun hg20=>?_) (fun hg20=>?_)
   · rw[if_neg hg20] at h;have t30:=eq_false hg20;refine DW.runN tok 8 ?_;simp only[go_sem,qc,qa,reduceCtorEq,t30];refine DW.runN tok 8 ?_;simp only[go_sem,qc,qa,reduceCtorEq];refine DW.runN tok 1 ?_;simp only[go_sem,qc,qa,reduceCtorEq];refine DW.fin tok (by decide +kernel) rfl ?_;simp only[zf,upd,qa,reduceIte,zV,yz];apply hK
     exact⟨_,_,⟨true,rfl,rfl,h⟩,.s⟩
   rw[if_pos hg20] at h;have t31:=eq_true hg20;refine DW.runN tok 8 ?_;simp only[go_sem,qc,qa,qe,reduceCtorEq,t31];refine DW.runN tok 1 ?_;simp only[go_sem,qc,qa,reduceCtorEq]
   refine DW.if 29 rfl (fun hg29=>?_) (fun hg29=>?_)
   · rw[if_neg hg29] at h;have t32:=eq_false hg29;refine DW.runN tok 8 ?_;simp only[go_sem,qc,qa,reduceCtorEq,t32];refine DW.fin tok (by decide +kernel) rfl ?_;simp only[zf,upd,qa,reduceIte,zV,yz];apply hK
     exact⟨_,_,⟨true,rfl,rfl,h⟩,.s⟩
   rw[if_pos hg29] at h;have t33:=eq_true hg29;refine DW.runN tok 8 ?_;simp only[go_sem,qc,qa,qe,reduceCtorEq,t33];refine DW.fin tok (by decide +kernel) rfl ?_;simp only[zf,upd,qa,reduceIte,zV,yz];apply hK
   exact⟨_,_,⟨!(decide (a1.fFrom=a0.fserver)),rfl,rfl,h⟩,.s⟩
 rintro _ _ ⟨x2,rfl,rfl,h⟩;unfold zo.j3 at h;refine zv (b:=x2) rfl (fun hc4=>?_) (fun hc4=>?_)
 · rw[if_pos hc4] at h;refine rgN [4,5] ?_;apply zR;cases h;simp only[wN,ym,yy,xo,exists_eq_left',go_sem,qf,qa,qe,encGPacket];refine⟨by decide,by simp,?_,?_⟩
   · first|rfl|(simp only[go_sem,qc,qf,qa,qe,ql,qs,reduceIte,reduceCtorEq,push_cast,if_true,qC,qn,qp,qm,qE,qq,qN,qJ,qu,qt,qw,zi,cellsGTree,encGClientClient,encGPacket,zH]<;>rfl)
   first|rfl|(simp only[go_sem,push_cast,qp,qm,qq,qu,qt,zi]<;>rfl)
 rw[wb hc4] at h;apply zd;apply hZ1;refine yU (fun L τ=>∃ (m0_5:GClientClient),L=[(4,.op 1 0 0)]∧τ=[.cells 0 (encGClientClient m0_5),.cells 0 [.int .i64 0,.int .i64 0,.int .i64 0,.int .i64 0,.int .i64 0,.str [],.int .i64 0,.str []]]∧zo.j6 m0_5=some r) ?_ ?_
 · apply ze
   refine rc [0,3,4,39] fun K hK=>?_
   refine rnN 6 ?_;refine zq 4 (fun L τ=>L=[(0,.op 0 0 0),(3,.op 1 0 0),(4,.op 2 0 0),(49,.bool ((decide (a0.fwaits=1))&&(decide (a1.fKind=2))))]∧τ=[.cells 0 (encGClientClient a0),.cells 0 (encGPacket a1),.cells 0 [.int .i64 0,.int .i64 0,.int .i64 0,.int .i64 0,.int .i64 0,.str [],.int .i64 0,.str []]]) ?_ ?_
   · refine yW 45 rfl (fun hg45=>?_) (fun hg45=>?_)
     · have t7:=eq_true hg45;refine rnN 4 ?_;refine zb ⟨rfl,_,_,⟨rfl,rfl⟩,.p t7⟩
     have t8:=eq_false hg45;refine rnN 4 ?_;refine zb ⟨rfl,_,_,⟨rfl,rfl⟩,.p t8⟩
   rintro _ _ ⟨rfl,rfl⟩;refine rnN 1 ?_;refine nkN hK ?_;refine zv (b:=((decide (a0.fwaits=1))&&(decide (a1.fKind=2)))) rfl (fun hc9=>?_) (fun hc9=>?_)
   · rw[if_pos hc9] at h
     refine rc [4,5] fun K hK=>?_
     obtain⟨r10,hr10,h⟩:=bind_some h;refine rnN 3 ?_;refine clN rfl rfl rfl (@id (ACalls qg 63 [.op 0 0 0,.int .i64 a1.fVersion] [.cells 0 (encGClientClient a0),.cells 0 (encGPacket a1),.cells 0 [.int .i64 0,.int .i64 0,.int .i64 0,.int .i64 0,.int .i64 0,.str [],.int .i64 0,.str []]] (fun r' σ'=>r'=.tup [.agg (encGPacket r10.1),.bool r10.2.1]∧σ'=[.cells 0 (encGClientClient r10.2.2),.cells 0 (encGPacket a1),.cells 0 [.int .i64 0,.int .i64 0,.int .i64 0,.int .i64 0,.int .i64 0,.str [],.int .i64 0,.str []]])) ((zJ.ok a0 a1.fVersion r10 hr10).i [0])) ?_;refine zj tok 4 ?_;simp only[go_sem,qc,qf,qa,qe,reduceCtorEq,encGPacket];refine nkN hK ?_;apply zR;cases h;simp only[wN,ym,yy,xo,exists_eq_left',go_sem,qf,qa,qe,encGPacket];refine⟨by decide,by simp,?_,?_⟩
     · first|rfl|(simp only[go_sem,qc,qf,qa,qe,ql,qs,reduceIte,reduceCtorEq,push_cast,if_true,qC,qn,qp,qm,qE,qq,qN,qJ,qu,qt,qw,zi,cellsGTree,encGClientClient,encGPacket,zH]<;>rfl)
     first|rfl|(simp only[go_sem,push_cast,qp,qm,qq,qu,qt,zi]<;>rfl)
   rw[wb hc9] at h;refine yU (fun L τ=>∃ (x11:Bool),L=[(0,.op 0 0 0),(3,.op 1 0 0),(4,.op 2 0 0),(56,.bool x11)]∧τ=[.cells 0 (encGClientClient a0),.cells 0 (encGPacket a1),.cells 0 [.int .i64 0,.int .i64 0,.int .i64 0,.int .i64 0,.int .i64 0,.str [],.int .i64 0,.str []]]∧zo.j12 a0 a1 x11=some r) ?_ ?_
   · refine rdE [0,3,4,56] fun K hK=>?_
     refine DW.start (T:=tab) [.any,.any,.any,.at [],.any,.any,.any,.at [],.any,.any,.any,.any,.at [],.any,.any,.any,.at [],.any,.any,.any,.at [],.any,.at [],.any,.any,.any] [] ?_;refine DW.runN tok 6 ?_;simp only[go_sem,qc,qa,qe,reduceCtorEq]
     refine DW.if 62 rfl (fun hg62=>?_) (fun hg62=>?_)
     · rw[if_pos hg62] at h;have t21:=eq_true hg62;refine DW.runN tok 5 ?_;simp only[go_sem,qc,qa,qe,reduceCtorEq,t21]
       refine DW.if 67 rfl (fun hg67=>?_) (fun hg67=>?_)
       · rw[if_pos hg67] at h;have t22:=eq_true hg67;obtain⟨y23,hy23,h⟩:=bind_some h;have f24:=E26.idxS hy23;have f25:=E26.fldS0 (f:=3) rfl rfl hy23;refine DW.runN tok 8 ?_;simp only[go_sem,qc,qa,qe,reduceCtorEq,t22];refine DW.runN tok 7 ?_;simp only[go_sem,qc,qa,qe,reduceCtorEq,encI,f24,f25];refine DW.fin tok (by decide +kernel) rfl ?_;simp only[zf,upd,qa,reduceIte,zV,yz];apply hK
         exact⟨_,_,⟨decide (a1.fVersion=y23),rfl,rfl,h⟩,.s⟩
       rw[if_neg hg67] at h;have t26:=eq_false hg67;refine DW.runN tok 8 ?_;simp only[go_sem,qc,qa,reduceCtorEq,t26];refine DW.runN tok 7 ?_;simp only[go_sem,qc,qa,reduceCtorEq];refine DW.fin tok (by decide +kernel) rfl ?_;simp only[zf,upd,qa,reduceIte,zV,yz];apply hK
       exact⟨_,_,⟨false,rfl,rfl,h⟩,.s⟩
     rw[if_neg hg62] at h;have t27:=eq_false hg62;refine DW.runN tok 8 ?_;simp only[go_sem,qc,qa,reduceCtorEq,t27];refine DW.runN tok 8 ?_;simp only[go_sem,qc,qa,reduceCtorEq];refine DW.runN tok 4 ?_;simp only[go_sem,qc,qa,reduceCtorEq];refine DW.fin tok (by decide +kernel) rfl ?_;simp only[zf,upd,qa,reduceIte,zV,yz];apply hK
     exact⟨_,_,⟨false,rfl,rfl,h⟩,.s⟩
   rintro _ _ ⟨x11,rfl,rfl,h⟩;unfold zo.j12 at h;refine zv (b:=x11) rfl (fun hc13=>?_) (fun hc13=>?_)
   · rw[if_pos hc13] at h
     refine za fun Z14 hZ14=>?_
     refine rgN [0,3,4,84] ?_;refine zL rfl (fun hc15=>?_) (fun hc15=>?_)
     · rw[if_neg hc15] at h;have t16:=eq_false hc15
       refine rc [4] fun K hK=>?_
       obtain⟨r17,hr17,h⟩:=zD h;refine zj tok 4 ?_;simp only[go_sem,qc,qa,qe,reduceCtorEq,t16];refine clN rfl rfl rfl (ACalls.loose (@id (ACalls qg 64 [.op 0 0 0,.agg [.int .i64 0,.int .i64 0,.str [],.ds true (qd encGEntry ([]:List GEntry)) (qb ([]:List GEntry)) false,.ds true (qd encGRaw ([]:List GRaw)) (qb ([]:List GRaw)) false],.int .i64 a1.fErr] [.cells 0 (encGClientClient a0),.cells 0 (encGPacket a1),.cells 0 [.int .i64 0,.int .i64 0,.int .i64 0,.int .i64 0,.int .i64 0,.str [],.int .i64 0,.str []]] (fun r' σ'=>r'=.tup []∧σ'=[.cells 0 (encGClientClient r17),.cells 0 (encGPacket a1),.cells 0 [.int .i64 0,.int .i64 0,.int .i64 0,.int .i64 0,.int .i64 0,.str [],.int .i64 0,.str []]])) ((yp.ok a0 (⟨0,0,[],([]:List GEntry),([]:List GRaw)⟩:GTree) a1.fErr r17 hr17).i [0]))) ?_;refine nkN hK ?_;apply zA;exact⟨_,_,⟨r17,rfl,rfl,h⟩,(.t [0,2] false)⟩
     rw[if_pos hc15] at h;have t18:=eq_true hc15;apply zd;apply hZ14
     refine rcE [4] fun K hK=>?_
     obtain⟨r19,hr19,h⟩:=bind_some h;refine zj tok 4 ?_;simp only[go_sem,qc,qa,qe,reduceCtorEq,t18];refine clN rfl rfl rfl (@id (ACalls qg 65 [.op 0 0 0,.str a1.fBody] [.cells 0 (encGClientClient a0),.cells 0 (encGPacket a1),.cells 0 [.int .i64 0,.int .i64 0,.int .i64 0,.int .i64 0,.int .i64 0,.str [],.int .i64 0,.str []]] (fun r' σ'=>r'=.tup [.agg (cellsGTree r19.1),.int .i64 r19.2]∧σ'=[.cells 0 (encGClientClient a0),.cells 0 (encGPacket a1),.cells 0 [.int .i64 0,.int .i64 0,.int .i64 0,.int .i64 0,.int .i64 0,.str [],.int .i64 0,.str []]])) ((wi.ok a0 a1.fBody r19 hr19).i [0])) ?_;obtain⟨r20,hr20,h⟩:=zD h;refine rnN 2 ?_;refine clN rfl rfl rfl (@id (ACalls qg 64 [.op 0 0 0,.agg (cellsGTree r19.1),.int .i64 r19.2] [.cells 0 (encGClientClient a0),.cells 0 (encGPacket a1),.cells 0 [.int .i64 0,.int .i64 0,.int .i64 0,.int .i64 0,.int .i64 0,.str [],.int .i64 0,.str []]] (fun r' σ'=>r'=.tup []∧σ'=[.cells 0 (encGClientClient r20),.cells 0 (encGPacket a1),.cells 0 [.int .i64 0,.int .i64 0,.int .i64 0,.int .i64 0,.int .i64 0,.str [],.int .i64 0,.str []]])) ((yp.ok a0 r19.1 r19.2 r20 hr20).i [0])) ?_;refine nkN hK ?_;exact⟨_,_,⟨r20,rfl,rfl,h⟩,(.t [0,2] false)⟩
   rw[wb hc13] at h;apply zd;exact⟨_,_,⟨a0,rfl,rfl,h⟩,(.t [0,2] false)⟩
 rintro _ _ ⟨m0_5,rfl,rfl,h⟩;unfold zo.j6 at h;refine rgN [4,5] ?_;apply zR;cases h;simp only[wN,ym,yy,xo,exists_eq_left',go_sem,qf,qa,qe,encGPacket];refine⟨by decide,by simp,?_,?_⟩
 · first|rfl|(simp only[go_sem,qc,qf,qa,qe,ql,qs,reduceIte,reduceCtorEq,push_cast,if_true,qC,qn,qp,qm,qE,qq,qN,qJ,qu,qt,qw,zi,cellsGTree,encGClientClient,encGPacket,zH]<;>rfl)
 first|rfl|(simp only[go_sem,push_cast,qp,qm,qq,qu,qt,zi]<;>rfl)
end
section
set_option maxRecDepth 4000
set_option maxHeartbeats 1000000
open AM
def xX (a0:GClientClient):Int×GTree×Int×Bool×GClientClient:=
 (match a0.fresult with|.none=>(0,(⟨0,0,[],([]:List GEntry),([]:List GRaw)⟩:GTree),0,false,(⟨a0.fself,a0.fserver,a0.fnumbers,a0.fschemas,a0.fid,a0.fwaits,a0.fmethod,a0.ft,a0.fagreed,a0.fsent,(none:Option GClientResult)⟩:GClientClient))|.some y2=>(y2.fid,y2.ft,y2.ferr,true,(⟨a0.fself,a0.fserver,a0.fnumbers,a0.fschemas,a0.fid,a0.fwaits,a0.fmethod,a0.ft,a0.fagreed,a0.fsent,(some y2)⟩:GClientClient)))
theorem xX.ok (a0:GClientClient)(r:Int×GTree×Int×Bool×GClientClient)(h:xX a0=r):ACalls qg 22 [.op 0 0 0] [.cells 0 (encGClientClient a0)] (fun r' σ'=>r'=.tup [.int .i64 r.1,.agg (cellsGTree r.2.1),.int .i64 r.2.2.1,.bool r.2.2.2.1]∧σ'=[.cells 0 (encGClientClient r.2.2.2.2)]):=by
 refine ww [0] (rs:=[.tmp 2,.cell 3 37,.tmp 4,.tmp 5]) tok Tryz.func22 rfl Tryz.ntmps22 rfl Tryz.call22 (by simp) rfl ?_;refine zl [(0,.op 0 0 0)] ⟨rfl,trivial⟩ ?_;unfold xX at h;refine rgN [0,3] ?_
 refine za fun Z1 hZ1=>?_
 try simp only[encGClientClient]
 generalize hz2:a0.fresult=z2 at h ⊢
 rcases z2 with _|y2
 · dsimp only at h
   try simp only[optV_none]
   refine rg tok [0,3,10] fun K hK=>?_
   simp only[go_sem,qc,qa,qe,reduceCtorEq,evEq];apply hK
   refine zs rfl ?_;refine rgN [2,3,4,5] ?_;apply zR;obtain rfl:=h;simp only[wN,ym,yy,xo,exists_eq_left',go_sem,qf,qa,qe,cellsGTree];refine⟨by decide,by simp,?_,?_⟩
   · first|rfl|(simp only[go_sem,qc,qf,qa,qe,ql,qs,reduceIte,reduceCtorEq,push_cast,if_true,qC,qn,qp,qm,qE,qq,qN,qJ,qu,qt,qw,zi,cellsGTree,encGClientClient,encGPacket,zH]<;>rfl)
   first|rfl|(simp only[go_sem,push_cast,qp,qm,qq,qu,qt,zi]<;>rfl)
 dsimp only at h
 try simp only[optV_some]
 refine rg tok [0,3,10] fun K hK=>?_
 simp only[go_sem,qc,qa,qe,reduceCtorEq,evEq];apply hK
 refine zp rfl ?_;apply zd;apply hZ1
 refine rd [2,3,4,5] fun K hK=>?_
 refine DW.start (T:=tab) [.any,.any,.any,.at [],.any,.any,.at [],.any,.any,.any,.at [],.any,.any,.at [],.any,.any,.any,.own 1 [1],.any,.any,.own 1 [1],.any,.eff,.any,.any] [(1,[1])] ?_;refine DW.runN tok 8 ?_;simp only[go_sem,qc,qa,qe,reduceCtorEq,cellsGTree,encGClientResult,Z0];refine DW.runN tok 8 ?_;simp only[go_sem,qc,qf,qa,qe,reduceCtorEq,Z0];refine DW.runN tok 8 ?_;simp only[go_sem,qc,qf,qa,qe,reduceCtorEq,Z0];refine DW.runN tok 1 ?_;simp only[go_sem,qc];refine DW.fin tok (by decide +kernel) rfl ?_;simp only[zf,upd,qa,reduceIte,zV,yz];apply hK
 apply zR;obtain rfl:=h;simp only[wN,ym,yy,xo,exists_eq_left',go_sem,qf,qa,qe,cellsGTree];refine⟨by decide,by simp,?_,?_⟩
 · first|rfl|(simp only[go_sem,push_cast,qp,qm,qq,qu,qt,zi]<;>rfl)
 first|rfl|(simp only[go_sem,push_cast,qp,qm,qq,qu,qt,zi]<;>rfl)
def zQ.l28 (yJ:GTree→GTree→Option Bool)(x11:Int)(rec13:Int→Option Bool)(y19:GEntry):List GTree→Int→Option Bool
 |[],x26=>(rec13 (x11+1))
 |y28::q28,x26=>(Zb y19.fTrees x26).bind fun y34=>(yJ y28 y34).bind fun r37=>(if (!r37)=true then some false else ((zQ.l28 yJ x11 rec13 y19 q28) (x26+1)))
def zQ.l13 (yJ:GTree→GTree→Option Bool)(a1:GTree):List GEntry→Int→Option Bool
 |[],x11=>some true
 |y13::q13,x11=>(Zb a1.fEntries x11).bind fun y19=>(if ((!(decide (y13.fTag=y19.fTag)))||(!(decide ((qb y13.fTrees:Int)=(qb y19.fTrees:Int)))))=true then some false else (zQ.l28 yJ x11 (zQ.l13 yJ a1 q13) y19 y13.fTrees 0))
def zQ.l8 (yJ:GTree→GTree→Option Bool)(a0:GTree)(a1:GTree):List GRaw→Int→Option Bool
 |[],x6=>(zQ.l13 yJ a1 a0.fEntries 0)
 |y8::q8,x6=>(Zb a1.fRest x6).bind fun y43=>(if (!(decide (y8.fTag=y43.fTag)&&(decide (y8.fWire=y43.fWire)&&(decide (y8.fN=y43.fN)&&decide (y8.fB=y43.fB)))))=true then some false else ((zQ.l8 yJ a0 a1 q8) (x6+1)))
def zQ.body (yJ:GTree→GTree→Option Bool)(a0:GTree)(a1:GTree):Option Bool:=
 (if (((((!(decide (a0.fKind=a1.fKind)))||(!(decide (a0.fN=a1.fN))))||(!(decide (a0.fS=a1.fS))))||(!(decide ((qb a0.fEntries:Int)=(qb a1.fEntries:Int)))))||(!(decide ((qb a0.fRest:Int)=(qb a1.fRest:Int)))))=true then some false else (zQ.l8 yJ a0 a1 a0.fRest 0))
theorem zQ.step (yJ:GTree→GTree→Option Bool)(ih_ref09_Same:∀ (a0:GTree) (a1:GTree) (r:Bool),yJ a0 a1=some r→ACalls qg 23 [.agg (cellsGTree a0),.agg (cellsGTree a1)] [] (fun r' _=>r'=.bool r))(a0:GTree)(a1:GTree)(r:Bool)(h:zQ.body yJ a0 a1=some r):ACalls qg 23 [.agg (cellsGTree a0),.agg (cellsGTree a1)] [] (fun r' _=>r'=.bool r):=by
 have ev_ref09_Same:=fun a0 a1 r h σ=>(ih_ref09_Same a0 a1 r h).c σ
 refine zh (rs:=[.tmp 4]) tok Tryz.func23 rfl Tryz.ntmps23 rfl Tryz.call23 (by simp) ?_;refine zl [(0,.agg (cellsGTree a0)),(1,.agg (cellsGTree a1))] ⟨rfl,rfl,trivial⟩ ?_;unfold zQ.body at h
 refine rg tok [2,3] fun K hK=>?_
 simp only[go_sem,qc,qa,qe,reduceCtorEq,cellsGTree];apply hK
 refine za fun Z1 hZ1=>?_
 refine rc [2,3,46] fun K hK=>?_
 refine rnN 6 ?_;refine zq 6 (fun L τ=>L=[(2,.op 0 0 0),(3,.op 1 0 0),(21,.bool ((!(decide (a0.fKind=a1.fKind)))||(!(decide (a0.fN=a1.fN)))))]∧τ=[.cells 0 (cellsGTree a0),.cells 0 (cellsGTree a1)]) ?_ ?_
 · refine yW 15 rfl (fun hg15=>?_) (fun hg15=>?_)
   · have t2:=eq_false hg15;refine rnN 6 ?_;refine zb ⟨rfl,_,_,⟨rfl,rfl⟩,.p t2⟩
   have t3:=eq_true hg15;refine rnN 6 ?_;refine zb ⟨rfl,_,_,⟨rfl,rfl⟩,.p t3⟩
 rintro _ _ ⟨rfl,rfl⟩;refine rnN 1 ?_;refine zq 6 (fun L τ=>L=[(2,.op 0 0 0),(3,.op 1 0 0),(28,.bool (((!(decide (a0.fKind=a1.fKind)))||(!(decide (a0.fN=a1.fN))))||(!(decide (a0.fS=a1.fS)))))]∧τ=[.cells 0 (cellsGTree a0),.cells 0 (cellsGTree a1)]) ?_ ?_
 · refine yf (b:=((!(decide (a0.fKind=a1.fKind)))||(!(decide (a0.fN=a1.fN))))) 22 rfl (fun hg22=>?_) (fun hg22=>?_)
   · refine rnN 6 ?_;refine zb ⟨rfl,_,_,⟨rfl,rfl⟩,.b hg22⟩
   refine rnN 6 ?_;refine zb ⟨rfl,_,_,⟨rfl,rfl⟩,.b hg22⟩
 rintro _ _ ⟨rfl,rfl⟩;refine rnN 1 ?_;refine zq 8 (fun L τ=>L=[(2,.op 0 0 0),(3,.op 1 0 0),(37,.bool ((((!(decide (a0.fKind=a1.fKind)))||(!(decide (a0.fN=a1.fN))))||(!(decide (a0.fS=a1.fS))))||(!(decide ((qb a0.fEntries:Int)=(qb a1.fEntries:Int))))))]∧τ=[.cells 0 (cellsGTree a0),.cells 0 (cellsGTree a1)]) ?_ ?_
 · refine yf (b:=(((!(decide (a0.fKind=a1.fKind)))||(!(decide (a0.fN=a1.fN))))||(!(decide (a0.fS=a1.fS))))) 29 rfl (fun hg29=>?_) (fun hg29=>?_)
   · refine rnN 8 ?_;refine zb ⟨rfl,_,_,⟨rfl,rfl⟩,.b hg29⟩
   refine rnN 8 ?_;refine zb ⟨rfl,_,_,⟨rfl,rfl⟩,.b hg29⟩
 rintro _ _ ⟨rfl,rfl⟩;refine rnN 1 ?_;refine zq 8 (fun L τ=>L=[(2,.op 0 0 0),(3,.op 1 0 0),(46,.bool (((((!(decide (a0.fKind=a1.fKind)))||(!(decide (a0.fN=a1.fN))))||(!(decide (a0.fS=a1.fS))))||(!(decide ((qb a0.fEntries:Int)=(qb a1.fEntries:Int)))))||(!(decide ((qb a0.fRest:Int)=(qb a1.fRest:Int))))))]∧τ=[.cells 0 (cellsGTree a0),.cells 0 (cellsGTree a1)]) ?_ ?_
 · refine yf (b:=((((!(decide (a0.fKind=a1.fKind)))||(!(decide (a0.fN=a1.fN))))||(!(decide (a0.fS=a1.fS))))||(!(decide ((qb a0.fEntries:Int)=(qb a1.fEntries:Int)))))) 38 rfl (fun hg38=>?_) (fun hg38=>?_)
   · refine rnN 8 ?_;refine zb ⟨rfl,_,_,⟨rfl,rfl⟩,.b hg38⟩
   refine rnN 8 ?_;refine zb ⟨rfl,_,_,⟨rfl,rfl⟩,.b hg38⟩
 rintro _ _ ⟨rfl,rfl⟩;refine nkN hK ?_;refine zv (b:=(((((!(decide (a0.fKind=a1.fKind)))||(!(decide (a0.fN=a1.fN))))||(!(decide (a0.fS=a1.fS))))||(!(decide ((qb a0.fEntries:Int)=(qb a1.fEntries:Int)))))||(!(decide ((qb a0.fRest:Int)=(qb a1.fRest:Int)))))) rfl (fun hc4=>?_) (fun hc4=>?_)
 · rw[if_pos hc4] at h;refine rgN [4] ?_;cases h;exact rtA
 rw[wb hc4] at h;apply zd;apply hZ1
 refine za fun Z5 hZ5=>?_
 refine rgN [2,3,5] ?_;apply ze
 refine Zu 0 rfl fun hb8=>?_
 replace hb8:qb a0.fRest≤9223372036854775807:=hb8.2.2.2.2.1.1;refine zF (fun m L τ=>∃ (p8 q8:List GRaw) (x6:Int),m=qb q8∧L=[(2,.op 0 0 0),(3,.op 1 0 0),(5,.int .i64 x6)]∧τ=[.cells 0 (cellsGTree a0),.cells 0 (cellsGTree a1)]∧a0.fRest=p8++q8∧x6=(qb p8:Int)∧zQ.l8 yJ a0 a1 q8 x6=some r) _ ⟨[],a0.fRest,0,rfl,rfl,rfl,rfl,rfl,h⟩ .s ?_;rintro m L τ ⟨p8,q8,x6,rfl,rfl,rfl,hE8,hi8,h⟩
 rcases q8 with _|⟨y8,q8⟩
 · have hz8:=yH hE8 hi8;simp only[zQ.l8] at h
   refine za fun Z9 hZ9=>?_
   refine rg tok [2,3,5,51] fun K hK=>?_
   simp only[go_sem,qc,qa,qe,hz8];apply hK
   refine zp rfl ?_;apply zA;apply hZ5
   refine za fun Z10 hZ10=>?_
   refine rgN [2,3,6] ?_;apply ze
   refine Zu 0 rfl fun hb13=>?_
   replace hb13:qb a0.fEntries≤9223372036854775807:=hb13.2.2.2.1.1;refine zF (fun m L τ=>∃ (p13 q13:List GEntry) (x11:Int),m=qb q13∧L=[(2,.op 0 0 0),(3,.op 1 0 0),(6,.int .i64 x11)]∧τ=[.cells 0 (cellsGTree a0),.cells 0 (cellsGTree a1)]∧a0.fEntries=p13++q13∧x11=(qb p13:Int)∧zQ.l13 yJ a1 q13 x11=some r) _ ⟨[],a0.fEntries,0,rfl,rfl,rfl,rfl,rfl,h⟩ .s ?_;rintro m L τ ⟨p13,q13,x11,rfl,rfl,rfl,hE13,hi13,h⟩
   rcases q13 with _|⟨y13,q13⟩
   · have hz13:=yH hE13 hi13;simp only[zQ.l13] at h
     refine za fun Z14 hZ14=>?_
     refine rg tok [2,3,6,69] fun K hK=>?_
     simp only[go_sem,qc,qa,qe,hz13];apply hK
     refine zp rfl ?_;apply zA;apply hZ10;refine rgN [4] ?_;cases h;exact rtA
   obtain⟨hz13,hw13,hx13,hE'13,hi'13⟩:=ya hE13 hi13 hb13;simp only[zQ.l13] at h
   refine za fun Z15 hZ15=>?_
   refine rg tok [2,3,6,69] fun K hK=>?_
   simp only[go_sem,qc,qa,qe,hz13];apply hK
   refine zs rfl ?_;apply zd;apply hZ15
   refine za fun Z16 hZ16=>?_
   apply ze;have f17:=E34.idxS hx13;have f18:=E34.loadS rfl rfl hx13;obtain⟨y19,hy19,h⟩:=bind_some h;have f20:=E34.idxS hy19;have f21:=E34.loadS rfl rfl hy19
   refine rd [2,3,6,7,8] fun K hK=>?_
   refine DW.start (T:=tab) [.any,.own 2 [],.any,.any,.own 2 [],.any,.own 3 [],.any,.any,.own 3 [],.eff,.flt,.eff,.eff] [(2,[]),(3,[])] ?_;refine DW.runN tok 8 ?_;simp only[go_sem,qc,qa,qe,cellsGEntry,zZ,f17,f18];refine DW.runN tok 6 ?_;simp only[go_sem,qc,qf,qa,qe,cellsGEntry,zZ,f20,f21];refine DW.fin tok (by decide +kernel) rfl ?_;simp only[zf,upd,qa,reduceIte,zV,yz];apply hK
   refine za fun Z22 hZ22=>?_
   refine rc [2,3,6,7,8,95] fun K hK=>?_
   refine rnN 6 ?_;refine zq 8 (fun L τ=>L=[(2,.op 0 0 0),(3,.op 1 0 0),(6,.int .i64 x11),(7,.op 2 0 0),(8,.op 3 0 0),(95,.bool ((!(decide (y13.fTag=y19.fTag)))||(!(decide ((qb y13.fTrees:Int)=(qb y19.fTrees:Int))))))]∧τ=[.cells 0 (cellsGTree a0),.cells 0 (cellsGTree a1),.cells 0 (cellsGEntry y13),.cells 0 (cellsGEntry y19)]) ?_ ?_
   · refine yW 87 rfl (fun hg87=>?_) (fun hg87=>?_)
     · have t23:=eq_false hg87;refine rnN 8 ?_;refine zb ⟨rfl,_,_,⟨rfl,rfl⟩,.p t23⟩
     have t24:=eq_true hg87;refine rnN 8 ?_;refine zb ⟨rfl,_,_,⟨rfl,rfl⟩,.p t24⟩
   rintro _ _ ⟨rfl,rfl⟩;refine nkN hK ?_;refine zv (b:=((!(decide (y13.fTag=y19.fTag)))||(!(decide ((qb y13.fTrees:Int)=(qb y19.fTrees:Int)))))) rfl (fun hc25=>?_) (fun hc25=>?_)
   · rw[if_pos hc25] at h;refine rgN [4] ?_;cases h;exact rtA
   rw[wb hc25] at h;apply zd;apply hZ22;refine rgN [2,3,6,7,8,9] ?_;apply ze
   refine Zu 2 rfl fun hb28=>?_
   replace hb28:qb y13.fTrees≤9223372036854775807:=hb28.2.1.1;refine zF (fun m L τ=>∃ (p28 q28:List GTree) (x26:Int),m=qb q28∧L=[(2,.op 0 0 0),(3,.op 1 0 0),(6,.int .i64 x11),(7,.op 2 0 0),(8,.op 3 0 0),(9,.int .i64 x26)]∧τ=[.cells 0 (cellsGTree a0),.cells 0 (cellsGTree a1),.cells 0 (cellsGEntry y13),.cells 0 (cellsGEntry y19)]∧y13.fTrees=p28++q28∧x26=(qb p28:Int)∧zQ.l28 yJ x11 (zQ.l13 yJ a1 q13) y19 q28 x26=some r) _ ⟨[],y13.fTrees,0,rfl,rfl,rfl,rfl,rfl,h⟩ .s ?_;rintro m L τ ⟨p28,q28,x26,rfl,rfl,rfl,hE28,hi28,h⟩
   rcases q28 with _|⟨y28,q28⟩
   · have hz28:=yH hE28 hi28;simp only[zQ.l28] at h
     refine za fun Z29 hZ29=>?_
     refine rg tok [2,3,6,7,8,9,100] fun K hK=>?_
     simp only[go_sem,qc,qa,qe,hz28];apply hK
     refine zp rfl ?_;apply zA;apply hZ16
     refine rgE tok [2,3,6] fun K hK=>?_
     simp only[go_sem,qc,qa,hw13];apply hK
     exact⟨_,_,_,qy q13.length,⟨p13++[y13],q13,x11+1,rfl,rfl,rfl,hE'13,hi'13,h⟩,(.t [0,1] false)⟩
   obtain⟨hz28,hw28,hx28,hE'28,hi'28⟩:=ya hE28 hi28 hb28;simp only[zQ.l28] at h
   refine za fun Z30 hZ30=>?_
   refine rg tok [2,3,6,7,8,9,100] fun K hK=>?_
   simp only[go_sem,qc,qa,qe,hz28];apply hK
   refine zs rfl ?_;apply zd;apply hZ30
   refine za fun Z31 hZ31=>?_
   apply ze;have f32:=E38.idxS hx28;have f33:=E38.loadS rfl rfl hx28;obtain⟨y34,hy34,h⟩:=bind_some h;have f35:=E38.idxS hy34;have f36:=E38.loadS rfl rfl hy34;obtain⟨r37,hr37,h⟩:=bind_some h
   refine rd [2,3,6,7,8,9,114] fun K hK=>?_
   refine DW.start (T:=tab) [.any,.at [],.any,.any,.at [],.any,.at [],.any,.any,.at [],.eff,.any] [] ?_;refine DW.runN tok 8 ?_;simp only[go_sem,qc,qa,qe,cellsGTree,zH,f32,f33];refine DW.runN tok 2 ?_;simp only[go_sem,qc,qa,cellsGTree,zH,f35,f36];refine DW.call rfl rfl rfl (ev_ref09_Same y28 y34 r37 hr37 _) ?_;refine DW.runN tok 1 ?_;simp only[go_sem,qc,qa];refine DW.fin tok (by decide +kernel) rfl ?_;simp only[zf,upd,qa,reduceIte,zV,yz];apply hK
   refine zv (b:=(!r37)) rfl (fun hc38=>?_) (fun hc38=>?_)
   · rw[if_pos hc38] at h;refine rgN [4] ?_;cases h;exact rtA
   rw[wb hc38] at h;apply zd;apply hZ31
   refine rgE tok [2,3,6,7,8,9] fun K hK=>?_
   simp only[go_sem,qc,qa,hw28];apply hK
   exact⟨_,_,_,qy q28.length,⟨p28++[y28],q28,x26+1,rfl,rfl,rfl,hE'28,hi'28,h⟩,.s⟩
 obtain⟨hz8,hw8,hx8,hE'8,hi'8⟩:=ya hE8 hi8 hb8;simp only[zQ.l8] at h
 refine za fun Z39 hZ39=>?_
 refine rg tok [2,3,5,51] fun K hK=>?_
 simp only[go_sem,qc,qa,qe,hz8];apply hK
 refine zs rfl ?_;apply zd;apply hZ39
 refine za fun Z40 hZ40=>?_
 apply ze;have f41:=E35.idxS hx8;have f42:=E35.loadS rfl rfl hx8;obtain⟨y43,hy43,h⟩:=bind_some h;have f44:=E35.idxS hy43;have f45:=E35.loadS rfl rfl hy43
 refine rd [2,3,5,64] fun K hK=>?_
 refine DW.start (T:=tab) [.any,.at [],.any,.any,.at [],.any,.at [],.any,.any,.at [],.any] [] ?_;refine DW.runN tok 8 ?_;simp only[go_sem,qc,qa,qe,encGRaw,f41,f42];refine DW.runN tok 3 ?_;simp only[go_sem,qc,qa,encGRaw,f44,f45,evEqA,ceqL,ceq];refine DW.fin tok (by decide +kernel) rfl ?_;simp only[zf,upd,qa,reduceIte,zV,yz];apply hK
 refine zv (b:=(!(decide (y8.fTag=y43.fTag)&&(decide (y8.fWire=y43.fWire)&&(decide (y8.fN=y43.fN)&&decide (y8.fB=y43.fB)))))) rfl (fun hc46=>?_) (fun hc46=>?_)
 · rw[if_pos hc46] at h;refine rgN [4] ?_;cases h;exact rtA
 rw[wb hc46] at h;apply zd;apply hZ40
 refine rgE tok [2,3,5] fun K hK=>?_
 simp only[go_sem,qc,qa,hw8];apply hK
 exact⟨_,_,_,qy q8.length,⟨p8++[y8],q8,x6+1,rfl,rfl,rfl,hE'8,hi'8,h⟩,.s⟩
def zQ : Nat→GTree→GTree→Option Bool
 |0,_,_=>none
 |k+1,a0,a1=>zQ.body (zQ k) a0 a1
theorem zQ.all (k:Nat):(∀ (a0:GTree) (a1:GTree) (r:Bool),zQ k a0 a1=some r→ACalls qg 23 [.agg (cellsGTree a0),.agg (cellsGTree a1)] [] (fun r' _=>r'=.bool r)):=by
 induction k with
 |zero=>exact (fun a0 a1 r h=>by simp only[zQ] at h; cases h)
 |succ k ih=>exact (fun a0 a1 r h=>zQ.step _ ih a0 a1 r (by simpa only [zQ] using h))
theorem zQ.ev (k:Nat)(a0:GTree)(a1:GTree)(r:Bool)(h:zQ k a0 a1=some r)(σ:Store):ACalls qg 23 [.agg (cellsGTree a0),.agg (cellsGTree a1)] σ (fun r' σ'=>r'=.bool r∧σ'=σ):=
 ((zQ.all k) a0 a1 r h).c σ
def wE (a0:GClientClient):Bool:=
 !(decide (a0.fwaits=0))
theorem wE.ok (a0:GClientClient)(r:Bool)(h:wE a0=r):ACalls qg 26 [.op 0 0 0] [.cells 0 (encGClientClient a0)] (fun r' σ'=>r'=.bool r∧σ'=[.cells 0 (encGClientClient a0)]):=by
 refine ww [0] (rs:=[.tmp 2]) tok Tryz.func26 rfl Tryz.ntmps26 rfl Tryz.call26 (by simp) rfl ?_;refine zl [(0,.op 0 0 0)] ⟨rfl,trivial⟩ ?_;unfold wE at h;refine rgN [0] ?_;refine rgN [2] ?_;apply zR;obtain rfl:=h;simp only[wN,ym,yy,xo,exists_eq_left',go_sem];refine⟨by decide,by simp,?_,?_⟩
 · first|rfl|(simp only[go_sem,qc,qf,qa,qe,ql,qs,reduceIte,reduceCtorEq,push_cast,if_true,qC,qn,qp,qm,qE,qq,qN,qJ,qu,qt,qw,zi,cellsGTree,encGClientClient,encGPacket,zH]<;>rfl)
 first|rfl|(simp only[go_sem,push_cast,qp,qm,qq,qu,qt,zi]<;>rfl)
end
section
set_option maxRecDepth 8000
open Go.RowKit AM
theorem AM.acalls_ptr {P:Program}{T:TT}(hT:TOK P T){f:FuncId}{fn:Func}{c:Code}{n:Nat}{rs:List ResultVar}{args:List AV}{R:AV→Store→Prop}(hf:P.funcs[f]?=some fn)(hb:fn.body=some c)
 (hn:fn.ntmps=n) (hr:fn.results.toList=rs) (hent:∀ vs w,(callFunc f vs).run P w=.ok (.enter f vs) w) (hl:args.length≤n)
 (h:awp P n 0 c (wN T rs fun r σ'=>∃ keep:List Nat,keep.Nodup∧(∀ id∈keep,id<σ'.length)∧R (tell σ' keep true 12 r) (tellS σ' keep true 12)) (fr args) []):
 ACalls P f args [] R:=by
 refine ACalls.told ((Zh (σ:=[]) hT hf hb hn hr hent hl h).mono ?_);rintro r σ' ⟨keep,h1,h2,h3⟩;exact⟨keep,true,12,h1,h2,rfl,h3⟩
theorem AM.ACalls.addDead {P:Program}{f:FuncId}{args:List AV}{σ:Store}{R:AV→Store→Prop}(h:ACalls P f args σ R):ACalls P f args σ fun r σ'=>∃ τ,R r τ∧σ'=τ++[.dead]:=by
 refine⟨h.1,fun E vs hS hl=>(h.2 E vs hS hl).mono ?_⟩;rintro e w ⟨v,r,σ',E1,rfl,rfl,h3,h4,h5,h6⟩
 let E2:Env := { w:=E1.w,st:=E1.st,loc:=E1.loc,n:=E1.n+1 }
 have hx:Ext E1 E2 := {
  os:=rfl
  tape:=rfl
  output:=rfl
  size:=qx _
  shape:=fun _ _ h=>h
  st:=fun _ h=>⟨h,rfl⟩
  n:=Nat.le_succ _
  loc:=fun _ _ ver ob h=>⟨ver,ob,h,qx _,fun _=>rfl⟩
  old:=fun _ _ _=>rfl
  own:=fun id v _ h _=>⟨id,v,h⟩
  stn:=fun _ h=>.inl h }
 refine⟨v,r,_,E2,rfl,rfl,h3.ext hx,?_,h5.trans hx,σ',h6,rfl⟩;refine⟨by simp[h4.len,E2],fun id=>?_,h4.inj,h4.blk,h4.stb,h4.glb⟩;have hl:σ'.length=E1.n:=h4.len
 rcases Nat.lt_trichotomy id σ'.length with hi|hi|hi
 · rw[qR hi]
   exact (h4.obj id).ext hx rfl fun _ _ _=>rfl
 · subst hi;rw[ui (qx _),uD];have:=h4.obj σ'.length;rw[uk (qx _)] at this;exact this
 have:=h4.obj id;rw[uk (by omega)] at this;rw[uk (by simp; omega)];exact this
def newV {α:Type}(o:Option α)(id:Nat):AV:=match o with|none=>.nilp|some _=>.op id 0 0
def newO {α:Type}(enc:α→List AV)(o:Option α):AObj:=match o with|none=>.dead|some x=>.cells 0 (enc x)
theorem newV_none {α:Type}{id:Nat}:newV (none:Option α) id=.nilp:=rfl
theorem newV_some {α:Type}{x:α}{id:Nat}:newV (some x) id=.op id 0 0:=rfl
theorem newO_none {α:Type}{enc:α→List AV}:newO enc none=.dead:=rfl
theorem newO_some {α:Type}{enc:α→List AV}{x:α}:newO enc (some x)=.cells 0 (enc x):=rfl
def xB (a0:Int)(a1:Int)(a2:List Int)(a3:List GSchema):Option (Option GClientClient×Int):=
 (xD a0 a2 a3).bind fun r2=>(if (((!r2)||(decide (a1<0)))||(decide (255<a1)))=true then some ((none:Option GClientClient),1) else (YJ (qb a2) 8).bind fun _u5=>(YJ (qb a3) 88).bind fun _u7=>some ((some (⟨a0,a1,a2,a3,0,0,[],(⟨0,0,[],([]:List GEntry),([]:List GRaw)⟩:GTree),0,(⟨0,0,0,0,0,[],0,[]⟩:GPacket),(none:Option GClientResult)⟩:GClientClient)),0))
theorem xB.ptr (a0:Int)(a1:Int)(a2:List Int)(a3:List GSchema)(r:Option GClientClient×Int)(h:xB a0 a1 a2 a3=some r):ACalls qg 15 [.int .i64 a0,.int .i64 a1,.ds true (qd encI a2) (qb a2) false,.ds true (qd encGSchema a3) (qb a3) false] [] (fun r' σ'=>(∀ c,r.1=some c→r'=.tup [.op 0 0 0,.int .i64 r.2]∧σ'=[.cells 0 (encGClientClient c)])∧(r.1=none→r'=.tup [.nilp,.int .i64 r.2]∧σ'=[])):=by
 refine acalls_ptr (rs:=[.tmp 8,.tmp 9]) tok Tryz.func15 rfl Tryz.ntmps15 rfl Tryz.call15 (by simp) ?_;refine zl [(0,.int .i64 a0),(1,.int .i64 a1),(2,.ds true (qd encI a2) (qb a2) false),(3,.ds true (qd encGSchema a3) (qb a3) false)] ⟨rfl,rfl,rfl,rfl,trivial⟩ ?_;unfold xB at h
 refine rg tok [0,1,2,3] fun K hK=>?_
 simp only[go_sem,qc,qa,reduceCtorEq];apply hK
 clear hK K
 refine za fun Z1 hZ1=>?_
 refine rc [0,1,2,3,22] fun K hK=>?_
 obtain⟨r2,hr2,h⟩:=bind_some h;refine zj tok 3 ?_;simp only[go_sem,qc,qa,reduceCtorEq];refine wL rfl rfl rfl (xD.ev a0 a2 a3 r2 hr2 _) ?_;rintro _ _ ⟨rfl,rfl⟩;refine zj tok 2 ?_;simp only[go_sem,qc,qa,reduceCtorEq];refine zq 3 (fun L τ=>L=([(0,.int .i64 a0),(1,.int .i64 a1),(2,.ds true (qd encI a2) (qb a2) false),(3,.ds true (qd encGSchema a3) (qb a3) false),(18,.bool ((!r2)||(decide (a1<0))))]:List (Nat×AV))∧τ=([]:Store)) ?_ ?_
 · refine yf (b:=(!r2)) 15 rfl (fun hg15=>?_) (fun hg15=>?_)
   · refine zj tok 3 ?_;simp only[go_sem,qc,qa,reduceCtorEq];refine zb ⟨rfl,_,_,⟨rfl,rfl⟩,.b hg15⟩
   refine zj tok 3 ?_;simp only[go_sem,qc,qa,reduceCtorEq];refine zb ⟨rfl,_,_,⟨rfl,rfl⟩,.b hg15⟩
 rintro _ _ ⟨rfl,rfl⟩;refine zj tok 1 ?_;simp only[go_sem,qc,qa,reduceCtorEq];refine zq 3 (fun L τ=>L=([(0,.int .i64 a0),(1,.int .i64 a1),(2,.ds true (qd encI a2) (qb a2) false),(3,.ds true (qd encGSchema a3) (qb a3) false),(22,.bool (((!r2)||(decide (a1<0)))||(decide (255<a1))))]:List (Nat×AV))∧τ=([]:Store)) ?_ ?_
 · refine yf (b:=((!r2)||(decide (a1<0)))) 19 rfl (fun hg19=>?_) (fun hg19=>?_)
   · refine zj tok 3 ?_;simp only[go_sem,qc,qa,reduceCtorEq];refine zb ⟨rfl,_,_,⟨rfl,rfl⟩,.b hg19⟩
   refine zj tok 3 ?_;simp only[go_sem,qc,qa,reduceCtorEq];refine zb ⟨rfl,_,_,⟨rfl,rfl⟩,.b hg19⟩
 rintro _ _ ⟨rfl,rfl⟩;refine zb ?_;simp only[zf,qa,reduceIte,zV,yz];apply hK
 clear hK K
 refine zv (b:=(((!r2)||(decide (a1<0)))||(decide (255<a1)))) rfl (fun hc3=>?_) (fun hc3=>?_)
 · rw[if_pos hc3] at h
   refine rg tok [8,9] fun K hK=>?_
   simp only[go_sem,qc,qa,reduceCtorEq];apply hK
   clear hK K
   refine zR ?_;obtain rfl:=Option.some.inj h;simp only[wN,ym,yy,xo,exists_eq_left',go_sem,qa,reduceCtorEq];exact⟨[],List.nodup_nil,(fun _ h=>by cases h),(fun c hc=>by cases hc),by (first|rfl|(simp only[go_sem,qc,qf,qa,qe,ql,qs,reduceIte,reduceCtorEq,push_cast,zi]; done)|(simp only[go_sem,qc,qf,qa,qe,ql,qs,reduceIte,reduceCtorEq,push_cast,zi,encB,encI,encS]; rfl)),by rfl⟩
 rw[wb hc3] at h;refine zd ?_;apply hZ1
 have f4:=fun nl tt σ=>wj E26.len a2 nl tt σ
 obtain⟨_u5,hu5,h⟩:=bind_some h;have gu5:=yF hu5
 have f6:=fun nl tt σ=>wj E33.len a3 nl tt σ
 obtain⟨_u7,hu7,h⟩:=bind_some h;have gu7:=yF hu7
 refine rg tok [8,9] fun K hK=>?_
 simp only[go_sem,qc,qf,qa,qe,reduceCtorEq,yx,zY,yC,true_and,f4,gu5,f6,gu7,ZU,uc,qZ,AV.one,qO,qK,qk,qr,qn,qM];apply hK
 clear hK K
 refine yn (L:=[(8,.op 2 0 0),(9,.int .i64 0)]) (τ:=[.cells 0 (qd encI a2),.cells 0 (qd encGSchema a3),.cells 0 [.int .i64 a0,.int .i64 a1,.os true 1 0 0 0 (qb a2) false,.os true 4 1 0 0 (qb a3) false,.int .i64 0,.int .i64 0,.str [],.int .i64 0,.int .i64 0,.str [],.ds true [] 0 true,.ds true [] 0 true,.int .i64 0,.int .i64 0,.int .i64 0,.int .i64 0,.int .i64 0,.int .i64 0,.str [],.int .i64 0,.str [],.nilp]]) .s ?_;refine zR ?_;obtain rfl:=Option.some.inj h;simp only[wN,ym,yy,xo,exists_eq_left',go_sem,qa,qe,reduceCtorEq]
 exact⟨[2],by decide,by simp,(fun c hc=>by
  cases hc
  exact⟨by (first|rfl|(simp only[go_sem,qc,qf,qa,qe,ql,qs,reduceIte,reduceCtorEq,push_cast,zi]; done)|(simp only[go_sem,qc,qf,qa,qe,ql,qs,reduceIte,reduceCtorEq,push_cast,zi,encB,encI,encS]; rfl)),by (first|rfl|(simp only[go_sem,qa,reduceCtorEq,push_cast,zi]; done)|(simp only[go_sem,qa,reduceCtorEq,push_cast,zi]; rfl))⟩),(fun hc=>by cases hc)⟩
theorem xB.atS (a0:Int)(a1:Int)(a2:List Int)(a3:List GSchema)(c:GClientClient)(e:Int)(h:xB a0 a1 a2 a3=some (some c,e))(σ:Store):ACalls qg 15 [.int .i64 a0,.int .i64 a1,.ds true (qd encI a2) (qb a2) false,.ds true (qd encGSchema a3) (qb a3) false] σ (fun r' σ'=>r'=.tup [.op σ.length 0 0,.int .i64 e]∧σ'=σ++[.cells 0 (encGClientClient c)]):=by
 refine ((xB.ptr a0 a1 a2 a3 (some c,e) h).embed (σ:=σ) [] List.nodup_nil (fun _ h=>by cases h) rfl (wh _ (s:=true) _ (by simp only[push_cast]))).mono ?_;rintro r σ' ⟨r0,τ,⟨h1,_⟩,rfl,rfl⟩;obtain⟨rfl,rfl⟩:=h1 c rfl;exact⟨by simp[AV.ren,renL,X1],by simp[ZC,renO,wh _ _ (xf.h (enc:=encGClientClient) true c)]⟩
theorem xB.atN (a0:Int)(a1:Int)(a2:List Int)(a3:List GSchema)(e:Int)(h:xB a0 a1 a2 a3=some (Option.none,e))(σ:Store):ACalls qg 15 [.int .i64 a0,.int .i64 a1,.ds true (qd encI a2) (qb a2) false,.ds true (qd encGSchema a3) (qb a3) false] σ (fun r' σ'=>r'=.tup [.nilp,.int .i64 e]∧σ'=σ):=by
 refine ((xB.ptr a0 a1 a2 a3 (Option.none,e) h).embed (σ:=σ) [] List.nodup_nil (fun _ h=>by cases h) rfl (wh _ (s:=true) _ (by simp only[push_cast]))).mono ?_;rintro r σ' ⟨r0,τ,⟨_,h1⟩,rfl,rfl⟩;obtain⟨rfl,rfl⟩:=h1 rfl;exact⟨by simp[AV.ren,renL],by simp[ZC]⟩
theorem xB.at (a0:Int)(a1:Int)(a2:List Int)(a3:List GSchema)(r:Option GClientClient×Int)(h:xB a0 a1 a2 a3=some r)(σ:Store):ACalls qg 15 [.int .i64 a0,.int .i64 a1,.ds true (qd encI a2) (qb a2) false,.ds true (qd encGSchema a3) (qb a3) false] σ (fun r' σ'=>r'=.tup [newV r.1 σ.length,.int .i64 r.2]∧σ'=σ++[newO encGClientClient r.1]):=by
 obtain⟨o,e⟩:=r
 cases o with
 |none=>
  refine (xB.atN a0 a1 a2 a3 e h σ).addDead.mono ?_;rintro r σ' ⟨τ,⟨rfl,rfl⟩,rfl⟩;exact⟨rfl,rfl⟩
 |some c=>exact xB.atS a0 a1 a2 a3 c e h σ
end
section
set_option maxRecDepth 4000
set_option maxHeartbeats 1000000
open AM
def zX (a0:Int):GTree:=
 (if a0=0 then (⟨3,0,[],([]:List GEntry),([]:List GRaw)⟩:GTree) else (⟨3,0,[],[(⟨1,[(⟨1,a0,[],([]:List GEntry),([]:List GRaw)⟩:GTree)]⟩:GEntry)],([]:List GRaw)⟩:GTree))
theorem zX.ok (a0:Int)(r:GTree)(h:zX a0=r):ACalls qg 17 [.int .i64 a0] [] (fun r' _=>r'=.agg (cellsGTree r)):=by
 refine zh (rs:=[.cell 2 37]) tok Tryz.func17 rfl Tryz.ntmps17 rfl Tryz.call17 (by simp) ?_;refine zl [(0,.int .i64 a0)] ⟨rfl,trivial⟩ ?_;unfold zX at h;refine rgN [0,2] ?_;refine rgN [0,2,3] ?_
 refine za fun Z1 hZ1=>?_
 refine rgN [0,2,3,6] ?_;refine zL rfl (fun hc2=>?_) (fun hc2=>?_)
 · rw[if_neg hc2] at h;have t3:=eq_false hc2
   refine rgE tok [2,3] fun K hK=>?_
   simp only[go_sem,qc,qf,qa,qe,ql,reduceCtorEq,zM,z8,q1,qT,true_and,ub,t3];apply hK
   apply hZ1;refine rgN [2] ?_;cases h;exact rtA
 rw[if_pos hc2] at h;have t4:=eq_true hc2;apply zd;apply hZ1
 refine rg tok [2] fun K hK=>?_
 simp only[go_sem,qc,qf,qa,qe,reduceCtorEq,t4];apply hK
 cases h;exact rtA
theorem zX.ev (a0:Int)(r:GTree)(h:zX a0=r)(σ:Store):ACalls qg 17 [.int .i64 a0] σ (fun r' σ'=>r'=.agg (cellsGTree r)∧σ'=σ):=
 (zX.ok a0 r h).c σ
def wC (a0:Int):Int:=
 (if 2147483647<(if a0<(-2147483648) then (-2147483648) else a0) then 2147483647 else (if a0<(-2147483648) then (-2147483648) else a0))
theorem wC.ok (a0:Int)(r:Int)(h:wC a0=r):ACalls qg 21 [.int .i64 a0] [] (fun r' _=>r'=.int .i64 r):=by
 refine zh (rs:=[.tmp 2]) tok Tryz.func21 rfl Tryz.ntmps21 rfl Tryz.call21 (by simp) ?_;refine zl [(0,.int .i64 a0)] ⟨rfl,trivial⟩ ?_;unfold wC at h;refine rgN [0] ?_
 refine rg tok [2] fun K hK=>?_
 simp only[go_sem,qc,qa,reduceCtorEq,XL,vb7,vay,vax];apply hK
 cases h;exact rtA
theorem wC.ev (a0:Int)(r:Int)(h:wC a0=r)(σ:Store):ACalls qg 21 [.int .i64 a0] σ (fun r' σ'=>r'=.int .i64 r∧σ'=σ):=
 (wC.ok a0 r h).c σ
def zW.l18 (yY:GTree→Int→Option Int)(a1:Int)(x7:Int)(rec10:Int→Int→Option Int):List GTree→Int→Int→Option Int
 |[],x15,x14=>(rec10 (x7+1) x14)
 |y18::q18,x15,x14=>(yY y18 (IntKind.i64.wrap (a1+1))).bind fun r30=>((zW.l18 yY a1 x7 rec10 q18) (x15+1) (if x14<r30 then r30 else x14))
def zW.l10 (yY:GTree→Int→Option Int)(a1:Int):List GEntry→Int→Int→Option Int
 |[],x7,x6=>some (if 101<IntKind.i64.wrap (x6+1) then 101 else IntKind.i64.wrap (x6+1))
 |y10::q10,x7,x6=>(zW.l18 yY a1 x7 (zW.l10 yY a1 q10) y10.fTrees 0 x6)
def zW.body (yY:GTree→Int→Option Int)(a0:GTree)(a1:Int):Option Int:=
 (if ((!(decide (a0.fKind=3)))||(decide (100<a1)))=true then some 0 else (zW.l10 yY a1 a0.fEntries 0 0))
theorem zW.step (yY:GTree→Int→Option Int)(ih_ref09_depth:∀ (a0:GTree) (a1:Int) (r:Int),yY a0 a1=some r→ACalls qg 153 [.agg (cellsGTree a0),.int .i64 a1] [] (fun r' _=>r'=.int .i64 r))(a0:GTree)(a1:Int)(r:Int)(h:zW.body yY a0 a1=some r):ACalls qg 153 [.agg (cellsGTree a0),.int .i64 a1] [] (fun r' _=>r'=.int .i64 r):=by
 have ev_ref09_depth:=fun a0 a1 r h σ=>(ih_ref09_depth a0 a1 r h).c σ
 refine zh (rs:=[.tmp 4]) tok Tryz.func153 rfl Tryz.ntmps153 rfl Tryz.call153 (by simp) ?_;refine zl [(0,.agg (cellsGTree a0)),(1,.int .i64 a1)] ⟨rfl,rfl,trivial⟩ ?_;unfold zW.body at h
 refine rg tok [1,2] fun K hK=>?_
 simp only[go_sem,qc,qa,qe,reduceCtorEq,cellsGTree];apply hK
 refine za fun Z1 hZ1=>?_
 refine rc [1,2,14] fun K hK=>?_
 refine rnN 4 ?_;refine zq 3 (fun L τ=>L=[(1,.int .i64 a1),(2,.op 0 0 0),(14,.bool ((!(decide (a0.fKind=3)))||(decide (100<a1))))]∧τ=[.cells 0 (cellsGTree a0)]) ?_ ?_
 · refine yW 11 rfl (fun hg11=>?_) (fun hg11=>?_)
   · have t2:=eq_false hg11;refine rnN 3 ?_;refine zb ⟨rfl,_,_,⟨rfl,rfl⟩,.p t2⟩
   have t3:=eq_true hg11;refine rnN 3 ?_;refine zb ⟨rfl,_,_,⟨rfl,rfl⟩,.p t3⟩
 rintro _ _ ⟨rfl,rfl⟩;refine nkN hK ?_;refine zv (b:=((!(decide (a0.fKind=3)))||(decide (100<a1)))) rfl (fun hc4=>?_) (fun hc4=>?_)
 · rw[if_pos hc4] at h;refine rgN [4] ?_;cases h;exact rtA
 rw[wb hc4] at h;apply zd;apply hZ1;refine rgN [1,2,5] ?_
 refine za fun Z5 hZ5=>?_
 refine rgN [1,2,5,6] ?_;apply ze
 refine Zu 0 rfl fun hb10=>?_
 replace hb10:qb a0.fEntries≤9223372036854775807:=hb10.2.2.2.1.1;refine zF (fun m L τ=>∃ (p10 q10:List GEntry) (x7:Int) (x6:Int),m=qb q10∧L=[(1,.int .i64 a1),(2,.op 0 0 0),(5,.int .i64 x6),(6,.int .i64 x7)]∧τ=[.cells 0 (cellsGTree a0)]∧a0.fEntries=p10++q10∧x7=(qb p10:Int)∧zW.l10 yY a1 q10 x7 x6=some r) _ ⟨[],a0.fEntries,0,0,rfl,rfl,rfl,rfl,rfl,h⟩ .s ?_;rintro m L τ ⟨p10,q10,x7,x6,rfl,rfl,rfl,hE10,hi10,h⟩
 rcases q10 with _|⟨y10,q10⟩
 · have hz10:=yH hE10 hi10;simp only[zW.l10] at h
   refine za fun Z11 hZ11=>?_
   refine rg tok [1,2,5,6,19] fun K hK=>?_
   simp only[go_sem,qc,qa,qe,hz10];apply hK
   refine zp rfl ?_;apply zA;apply hZ5
   refine rg tok [4] fun K hK=>?_
   simp only[go_sem,qc,qa,XL,vb7,vax];apply hK
   cases h;exact rtA
 obtain⟨hz10,hw10,hx10,hE'10,hi'10⟩:=ya hE10 hi10 hb10;simp only[zW.l10] at h
 refine za fun Z12 hZ12=>?_
 refine rg tok [1,2,5,6,19] fun K hK=>?_
 simp only[go_sem,qc,qa,qe,hz10];apply hK
 refine zs rfl ?_;apply zd;apply hZ12
 refine za fun Z13 hZ13=>?_
 apply ze;refine rgN [1,2,5,6,7] ?_;apply ze
 refine Zu 0 rfl fun hb18=>?_
 replace hb18:=deepL_idx hb18.2.2.2.1.2 hx10;rw[zZ] at hb18;replace hb18:qb y10.fTrees≤9223372036854775807:=hb18.2.1.1;refine zF (fun m L τ=>∃ (p18 q18:List GTree) (x15:Int) (x14:Int),m=qb q18∧L=[(1,.int .i64 a1),(2,.op 0 0 0),(5,.int .i64 x14),(6,.int .i64 x7),(7,.int .i64 x15)]∧τ=[.cells 0 (cellsGTree a0)]∧y10.fTrees=p18++q18∧x15=(qb p18:Int)∧zW.l18 yY a1 x7 (zW.l10 yY a1 q10) q18 x15 x14=some r) _ ⟨[],y10.fTrees,0,x6,rfl,rfl,rfl,rfl,rfl,h⟩ .s ?_;rintro m L τ ⟨p18,q18,x15,x14,rfl,rfl,rfl,hE18,hi18,h⟩
 rcases q18 with _|⟨y18,q18⟩
 · have hz18:=yH hE18 hi18;simp only[zW.l18] at h
   refine za fun Z19 hZ19=>?_
   have f20:=E34.idxS hx10;have f21:=E34.fldS (f:=38) rfl rfl hx10 (o:=1) (by decide)
   refine rg tok [1,2,5,6,7,30] fun K hK=>?_
   simp only[go_sem,qc,qa,qe,cellsGEntry,zZ,hz18,f20,f21];apply hK
   refine zp rfl ?_;apply zA;apply hZ13
   refine rgE tok [1,2,5,6] fun K hK=>?_
   simp only[go_sem,qc,qa,hw10];apply hK
   exact⟨_,_,_,qy q10.length,⟨p10++[y10],q10,x7+1,x14,rfl,rfl,rfl,hE'10,hi'10,h⟩,.s⟩
 obtain⟨hz18,hw18,hx18,hE'18,hi'18⟩:=ya hE18 hi18 hb18;simp only[zW.l18] at h
 refine za fun Z22 hZ22=>?_
 have f23:=E34.idxS hx10;have f24:=E34.fldS (f:=38) rfl rfl hx10 (o:=1) (by decide)
 refine rg tok [1,2,5,6,7,30] fun K hK=>?_
 simp only[go_sem,qc,qa,qe,cellsGEntry,zZ,hz18,f23,f24];apply hK
 refine zs rfl ?_;apply zd;apply hZ22
 refine za fun Z25 hZ25=>?_
 apply ze
 refine rcE [1,2,5,6,7] fun K hK=>?_
 have f26:=E34.idxS hx10;have f27:=E34.fldS (f:=38) rfl rfl hx10 (o:=1) (by decide);have f28:=E38.idxS hx18;have f29:=E38.loadS rfl rfl hx18;obtain⟨r30,hr30,h⟩:=bind_some h;refine zj tok 10 ?_;simp only[go_sem,qc,qa,qe,cellsGEntry,cellsGTree,zZ,zH,f26,f27,f28,f29];refine rnN 2 ?_;refine clN rfl rfl rfl (ev_ref09_depth y18 (IntKind.i64.wrap (a1+1)) r30 hr30 _) ?_;refine zj tok 2 ?_;simp only[go_sem,qc,qa,XL,vb7,vay];refine nkN hK ?_;apply hZ25
 refine rgE tok [1,2,5,6,7] fun K hK=>?_
 simp only[go_sem,qc,qa,hw18];apply hK
 exact⟨_,_,_,qy q18.length,⟨p18++[y18],q18,x15+1,(if x14<r30 then r30 else x14),rfl,rfl,rfl,hE'18,hi'18,h⟩,.s⟩
def zW : Nat→GTree→Int→Option Int
 |0,_,_=>none
 |k+1,a0,a1=>zW.body (zW k) a0 a1
theorem zW.all (k:Nat):(∀ (a0:GTree) (a1:Int) (r:Int),zW k a0 a1=some r→ACalls qg 153 [.agg (cellsGTree a0),.int .i64 a1] [] (fun r' _=>r'=.int .i64 r)):=by
 induction k with
 |zero=>exact (fun a0 a1 r h=>by simp only[zW] at h; cases h)
 |succ k ih=>exact (fun a0 a1 r h=>zW.step _ ih a0 a1 r (by simpa only [zW] using h))
theorem zW.ev (k:Nat)(a0:GTree)(a1:Int)(r:Int)(h:zW k a0 a1=some r)(σ:Store):ACalls qg 153 [.agg (cellsGTree a0),.int .i64 a1] σ (fun r' σ'=>r'=.int .i64 r∧σ'=σ):=
 ((zW.all k) a0 a1 r h).c σ
def wJ (a0:GTree):Option Int:=
 (zW rounds a0 0).bind fun r1=>some r1
theorem wJ.ok (a0:GTree)(r:Int)(h:wJ a0=some r):ACalls qg 101 [.agg (cellsGTree a0)] [] (fun r' _=>r'=.int .i64 r):=by
 refine zh (rs:=[.tmp 2]) tok Tryz.func101 rfl Tryz.ntmps101 rfl Tryz.call101 (by simp) ?_;refine zl [(0,.agg (cellsGTree a0))] ⟨rfl,trivial⟩ ?_;unfold wJ at h
 refine rg tok [1] fun K hK=>?_
 simp only[go_sem,qc,qa,qe,reduceCtorEq,cellsGTree];apply hK
 refine rc [2] fun K hK=>?_
 obtain⟨r1,hr1,h⟩:=bind_some h;refine rnN 1 ?_;refine clN rfl rfl rfl (zW.ev rounds a0 0 r1 hr1 _) ?_;refine rnN 1 ?_;refine nkN hK ?_;cases h;exact rtA
theorem wJ.ev (a0:GTree)(r:Int)(h:wJ a0=some r)(σ:Store):ACalls qg 101 [.agg (cellsGTree a0)] σ (fun r' σ'=>r'=.int .i64 r∧σ'=σ):=
 (wJ.ok a0 r h).c σ
def wr (a0:GRaw):Bool:=
 (if ((decide (a0.fTag<1))||(decide (500<a0.fTag)))=true then false else (if a0.fWire=0 then decide (a0.fB=[]) else (((decide (a0.fWire=1))&&(decide (a0.fN=0)))&&(decide ((qb a0.fB:Int)≤4096)))))
theorem wr.ok (a0:GRaw)(r:Bool)(h:wr a0=r):ACalls qg 157 [.agg (encGRaw a0)] [] (fun r' _=>r'=.bool r):=by
 refine zh (rs:=[.tmp 2]) tok Tryz.func157 rfl Tryz.ntmps157 rfl Tryz.call157 (by simp) ?_;refine zl [(0,.agg (encGRaw a0))] ⟨rfl,trivial⟩ ?_;unfold wr at h
 refine rg tok [1] fun K hK=>?_
 simp only[go_sem,qc,qa,qe,reduceCtorEq,encGRaw];apply hK
 refine za fun Z1 hZ1=>?_
 refine rc [1,10] fun K hK=>?_
 refine rnN 4 ?_;refine zq 4 (fun L τ=>L=[(1,.op 0 0 0),(10,.bool ((decide (a0.fTag<1))||(decide (500<a0.fTag))))]∧τ=[.cells 0 [.int .i64 a0.fTag,.int .i64 a0.fWire,.int .i64 a0.fN,.str a0.fB]]) ?_ ?_
 · refine yW 6 rfl (fun hg6=>?_) (fun hg6=>?_)
   · have t2:=eq_true hg6;refine rnN 4 ?_;refine zb ⟨rfl,_,_,⟨rfl,rfl⟩,.p t2⟩
   have t3:=eq_false hg6;refine rnN 4 ?_;refine zb ⟨rfl,_,_,⟨rfl,rfl⟩,.p t3⟩
 rintro _ _ ⟨rfl,rfl⟩;refine nkN hK ?_;refine zv (b:=((decide (a0.fTag<1))||(decide (500<a0.fTag)))) rfl (fun hc4=>?_) (fun hc4=>?_)
 · rw[if_pos hc4] at h;refine rgN [2] ?_;cases h;exact rtA
 rw[wb hc4] at h;apply zd;apply hZ1
 refine za fun Z5 hZ5=>?_
 refine rgN [1,13] ?_;refine zL rfl (fun hc6=>?_) (fun hc6=>?_)
 · rw[if_pos hc6] at h;have t7:=eq_true hc6
   refine rg tok [2] fun K hK=>?_
   simp only[go_sem,qc,qa,qe,t7];apply hK
   cases h;exact rtA
 rw[if_neg hc6] at h;have t8:=eq_false hc6;apply zd;apply hZ5
 refine rc [2] fun K hK=>?_
 refine zj tok 4 ?_;simp only[go_sem,qc,qa,qe,t8];refine zq 4 (fun L τ=>L=[(1,.op 0 0 0),(24,.bool ((decide (a0.fWire=1))&&(decide (a0.fN=0))))]∧τ=[.cells 0 [.int .i64 a0.fTag,.int .i64 a0.fWire,.int .i64 a0.fN,.str a0.fB]]) ?_ ?_
 · refine yW 20 rfl (fun hg20=>?_) (fun hg20=>?_)
   · have t9:=eq_true hg20;refine rnN 4 ?_;refine zb ⟨rfl,_,_,⟨rfl,rfl⟩,.p t9⟩
   have t10:=eq_false hg20;refine rnN 4 ?_;refine zb ⟨rfl,_,_,⟨rfl,rfl⟩,.p t10⟩
 rintro _ _ ⟨rfl,rfl⟩;refine rnN 1 ?_;refine zq 5 (fun L τ=>L=[(30,.bool (((decide (a0.fWire=1))&&(decide (a0.fN=0)))&&(decide ((qb a0.fB:Int)≤4096))))]∧τ=[.cells 0 [.int .i64 a0.fTag,.int .i64 a0.fWire,.int .i64 a0.fN,.str a0.fB]]) ?_ ?_
 · refine yf (b:=((decide (a0.fWire=1))&&(decide (a0.fN=0)))) 25 rfl (fun hg25=>?_) (fun hg25=>?_)
   · refine rnN 5 ?_;refine zb ⟨rfl,_,_,⟨rfl,rfl⟩,.b hg25⟩
   refine rnN 5 ?_;refine zb ⟨rfl,_,_,⟨rfl,rfl⟩,.b hg25⟩
 rintro _ _ ⟨rfl,rfl⟩;refine rnN 1 ?_;refine nkN hK ?_;cases h;exact rtA
theorem wr.ev (a0:GRaw)(r:Bool)(h:wr a0=r)(σ:Store):ACalls qg 157 [.agg (encGRaw a0)] σ (fun r' σ'=>r'=.bool r∧σ'=σ):=
 (wr.ok a0 r h).c σ
def wm.l4 (a1:Int):List GEntry→Int→Bool
 |[],x2=>false
 |y4::q4,x2=>(if y4.fTag=a1 then true else ((wm.l4 a1 q4) (x2+1)))
def wm (a0:GTree)(a1:Int):Bool:=
 (wm.l4 a1 a0.fEntries 0)
theorem wm.ok (a0:GTree)(a1:Int)(r:Bool)(h:wm a0 a1=r):ACalls qg 200 [.agg (cellsGTree a0),.int .i64 a1] [] (fun r' _=>r'=.bool r):=by
 refine zh (rs:=[.tmp 4]) tok Tryz.func200 rfl Tryz.ntmps200 rfl Tryz.call200 (by simp) ?_;refine zl [(0,.agg (cellsGTree a0)),(1,.int .i64 a1)] ⟨rfl,rfl,trivial⟩ ?_;unfold wm at h
 refine rg tok [1,2] fun K hK=>?_
 simp only[go_sem,qc,qa,qe,reduceCtorEq,cellsGTree];apply hK
 refine za fun Z1 hZ1=>?_
 refine rgN [1,2,5] ?_;apply ze
 refine Zu 0 rfl fun hb4=>?_
 replace hb4:qb a0.fEntries≤9223372036854775807:=hb4.2.2.2.1.1;refine zF (fun m L τ=>∃ (p4 q4:List GEntry) (x2:Int),m=qb q4∧L=[(1,.int .i64 a1),(2,.op 0 0 0),(5,.int .i64 x2)]∧τ=[.cells 0 (cellsGTree a0)]∧a0.fEntries=p4++q4∧x2=(qb p4:Int)∧wm.l4 a1 q4 x2=r) _ ⟨[],a0.fEntries,0,rfl,rfl,rfl,rfl,rfl,h⟩ .s ?_;rintro m L τ ⟨p4,q4,x2,rfl,rfl,rfl,hE4,hi4,h⟩
 rcases q4 with _|⟨y4,q4⟩
 · have hz4:=yH hE4 hi4;simp only[wm.l4] at h
   refine za fun Z5 hZ5=>?_
   refine rg tok [1,2,5,10] fun K hK=>?_
   simp only[go_sem,qc,qa,qe,hz4];apply hK
   refine zp rfl ?_;apply zA;apply hZ1;refine rgN [4] ?_;cases h;exact rtA
 obtain⟨hz4,hw4,hx4,hE'4,hi'4⟩:=ya hE4 hi4 hb4;simp only[wm.l4] at h
 refine za fun Z6 hZ6=>?_
 refine rg tok [1,2,5,10] fun K hK=>?_
 simp only[go_sem,qc,qa,qe,hz4];apply hK
 refine zs rfl ?_;apply zd;apply hZ6
 refine za fun Z7 hZ7=>?_
 apply ze;have f8:=E34.idxS hx4;have f9:=E34.fldS0 (f:=3) rfl rfl hx4
 refine rg tok [1,2,5,20] fun K hK=>?_
 simp only[go_sem,qc,qa,qe,cellsGEntry,zZ,f8,f9];apply hK
 refine zL rfl (fun hc10=>?_) (fun hc10=>?_)
 · rw[if_pos hc10] at h;have t11:=eq_true hc10
   refine rg tok [4] fun K hK=>?_
   simp only[go_sem,qc,qa,t11];apply hK
   cases h;exact rtA
 rw[if_neg hc10] at h;have t12:=eq_false hc10;apply zd;apply hZ7
 refine rgE tok [1,2,5] fun K hK=>?_
 simp only[go_sem,qc,qa,hw4,t12];apply hK
 exact⟨_,_,_,qy q4.length,⟨p4++[y4],q4,x2+1,rfl,rfl,rfl,hE'4,hi'4,h⟩,.s⟩
theorem wm.ev (a0:GTree)(a1:Int)(r:Bool)(h:wm a0 a1=r)(σ:Store):ACalls qg 200 [.agg (cellsGTree a0),.int .i64 a1] σ (fun r' σ'=>r'=.bool r∧σ'=σ):=
 (wm.ok a0 a1 r h).c σ
def xv.l4 (a0:List GRaw):Nat→Int→Option Bool
 |0,_=>none
 |k4+1,x2=>(if x2<(qb a0:Int) then (Zb a0 x2).bind fun y9=>(Zb a0 (IntKind.i64.wrap (x2-1))).bind fun y12=>(if y9.fTag<y12.fTag then some false else ((xv.l4 a0 k4) (IntKind.i64.wrap (x2+1)))) else some true)
def xv (a0:List GRaw):Option Bool:=
 (xv.l4 a0 rounds 1)
theorem xv.ok (a0:List GRaw)(r:Bool)(h:xv a0=some r):ACalls qg 201 [.ds true (qd encGRaw a0) (qb a0) false] [] (fun r' _=>r'=.bool r):=by
 refine zh (rs:=[.tmp 2]) tok Tryz.func201 rfl Tryz.ntmps201 rfl Tryz.call201 (by simp) ?_;refine zl [(0,.ds true (qd encGRaw a0) (qb a0) false)] ⟨rfl,trivial⟩ ?_;unfold xv at h;refine rgN [0] ?_
 refine za fun Z1 hZ1=>?_
 refine rgN [0,3] ?_;apply ze;refine zF (fun m L τ=>∃ (k4:Nat) (x2:Int),m=0+k4∧L=[(0,.ds true (qd encGRaw a0) (qb a0) false),(3,.int .i64 x2)]∧τ=[]∧xv.l4 a0 k4 x2=some r) _ ⟨rounds,1,rfl,rfl,rfl,h⟩ .s ?_;rintro m L τ ⟨k4,x2,rfl,rfl,rfl,h⟩
 rcases k4 with _|k4
 · cases h
 simp only[xv.l4] at h
 refine za fun Z5 hZ5=>?_
 refine rgN [0,3,7] ?_;refine zL rfl (fun hc6=>?_) (fun hc6=>?_)
 · rw[if_pos hc6] at h;have t7:=eq_true hc6;apply zd;apply hZ5
   refine za fun Z8 hZ8=>?_
   apply ze;obtain⟨y9,hy9,h⟩:=bind_some h;have f10:=E35.idxS hy9;have f11:=E35.fldS0 (f:=3) rfl rfl hy9;obtain⟨y12,hy12,h⟩:=bind_some h;have f13:=E35.idxS hy12;have f14:=E35.fldS0 (f:=3) rfl rfl hy12
   refine rd [0,3,21] fun K hK=>?_
   refine DW.start (T:=tab) [.any,.any,.any,.any,.at [],.any,.any,.any,.any,.any,.at [],.any] [] ?_;refine DW.runN tok 8 ?_;simp only[go_sem,qc,qa,reduceCtorEq,encGRaw,t7,f10,f11];refine DW.runN tok 4 ?_;simp only[go_sem,qc,qa,reduceCtorEq,encGRaw,f13,f14];refine DW.fin tok (by decide +kernel) rfl ?_;simp only[zf,upd,qa,reduceIte,zV,yz];apply hK
   refine zL rfl (fun hc15=>?_) (fun hc15=>?_)
   · rw[if_pos hc15] at h;have t16:=eq_true hc15
     refine rg tok [2] fun K hK=>?_
     simp only[go_sem,qc,qa,reduceCtorEq,t16];apply hK
     cases h;exact rtA
   rw[if_neg hc15] at h;have t17:=eq_false hc15;apply zd;apply hZ8
   refine rgE tok [0,3] fun K hK=>?_
   simp only[go_sem,qc,qa,reduceCtorEq,t17];apply hK
   exact⟨_,_,_,qy (0+k4),⟨k4,IntKind.i64.wrap (x2+1),rfl,rfl,rfl,h⟩,.s⟩
 rw[if_neg hc6] at h;have t18:=eq_false hc6;apply zA;apply hZ1
 refine rg tok [2] fun K hK=>?_
 simp only[go_sem,qc,qa,reduceCtorEq,t18];apply hK
 cases h;exact rtA
theorem xv.ev (a0:List GRaw)(r:Bool)(h:xv a0=some r)(σ:Store):ACalls qg 201 [.ds true (qd encGRaw a0) (qb a0) false] σ (fun r' σ'=>r'=.bool r∧σ'=σ):=
 (xv.ok a0 r h).c σ
def yT.j10 (x2:Int)(rec4:Int→Option Bool)(x9:Bool):Option Bool:=
 (if x9=true then some false else (rec4 (x2+1)))
def yT.l4 (a0:GTree):List GRaw→Int→Option Bool
 |[],x2=>(xv a0.fRest).bind fun r6=>some r6
 |y4::q4,x2=>bnd (wr y4) fun r14=>(if (!r14)=true then (yT.j10 x2 (yT.l4 a0 q4) true) else bnd (wm a0 y4.fTag) fun r17=>(yT.j10 x2 (yT.l4 a0 q4) r17))
def yT (a0:GTree):Option Bool:=
 (yT.l4 a0 a0.fRest 0)
theorem yT.ok (a0:GTree)(r:Bool)(h:yT a0=some r):ACalls qg 155 [.agg (cellsGTree a0)] [] (fun r' _=>r'=.bool r):=by
 refine zh (rs:=[.tmp 2]) tok Tryz.func155 rfl Tryz.ntmps155 rfl Tryz.call155 (by simp) ?_;refine zl [(0,.agg (cellsGTree a0))] ⟨rfl,trivial⟩ ?_;unfold yT at h
 refine rg tok [1] fun K hK=>?_
 simp only[go_sem,qc,qa,qe,reduceCtorEq,cellsGTree];apply hK
 refine za fun Z1 hZ1=>?_
 refine rgN [1,3] ?_;apply ze
 refine Zu 0 rfl fun hb4=>?_
 replace hb4:qb a0.fRest≤9223372036854775807:=hb4.2.2.2.2.1.1;refine zF (fun m L τ=>∃ (p4 q4:List GRaw) (x2:Int),m=qb q4∧L=[(1,.op 0 0 0),(3,.int .i64 x2)]∧τ=[.cells 0 (cellsGTree a0)]∧a0.fRest=p4++q4∧x2=(qb p4:Int)∧yT.l4 a0 q4 x2=some r) _ ⟨[],a0.fRest,0,rfl,rfl,rfl,rfl,rfl,h⟩ .s ?_;rintro m L τ ⟨p4,q4,x2,rfl,rfl,rfl,hE4,hi4,h⟩
 rcases q4 with _|⟨y4,q4⟩
 · have hz4:=yH hE4 hi4;simp only[yT.l4] at h
   refine za fun Z5 hZ5=>?_
   refine rg tok [1,3,8] fun K hK=>?_
   simp only[go_sem,qc,qa,qe,hz4];apply hK
   refine zp rfl ?_;apply zA;apply hZ1
   refine rc [2] fun K hK=>?_
   obtain⟨r6,hr6,h⟩:=bind_some h;refine rnN 2 ?_;refine clN rfl rfl rfl (xv.ev a0.fRest r6 hr6 _) ?_;refine rnN 1 ?_;refine nkN hK ?_;cases h;exact rtA
 obtain⟨hz4,hw4,hx4,hE'4,hi'4⟩:=ya hE4 hi4 hb4;simp only[yT.l4] at h
 refine za fun Z7 hZ7=>?_
 refine rg tok [1,3,8] fun K hK=>?_
 simp only[go_sem,qc,qa,qe,hz4];apply hK
 refine zs rfl ?_;apply zd;apply hZ7
 refine za fun Z8 hZ8=>?_
 apply ze;refine yU (fun L τ=>∃ (x9:Bool),L=[(1,.op 0 0 0),(3,.int .i64 x2),(27,.bool x9)]∧τ=[.cells 0 (cellsGTree a0)]∧yT.j10 x2 (yT.l4 a0 q4) x9=some r) ?_ ?_
 · refine rdE [1,3,27] fun K hK=>?_
   refine DW.start (T:=tab) [.any,.at [],.any,.any,.at [],.eff,.any,.any,.at [],.any,.at [],.any,.any,.any,.at [],.eff,.any] [] ?_;have f12:=E35.idxS hx4;have f13:=E35.loadS rfl rfl hx4;obtain⟨r14,hr14,h⟩:=zD h;refine DW.runN tok 5 ?_;simp only[go_sem,qc,qa,qe,encGRaw,f12,f13];refine DW.call rfl rfl rfl (wr.ev y4 r14 hr14 _) ?_;refine DW.runN tok 2 ?_;simp only[go_sem,qc,qa];refine DW.at (b:=(!r14)) 18 rfl (fun hg18=>?_) (fun hg18=>?_)
   · rw[if_pos hg18] at h;refine DW.runN tok 8 ?_;simp only[go_sem,qc,qa];refine DW.runN tok 1 ?_;simp only[go_sem,qc,qa];refine DW.fin tok (by decide +kernel) rfl ?_;simp only[zf,upd,qa,reduceIte,zV,yz];apply hK
     exact⟨_,_,⟨true,rfl,rfl,h⟩,.s⟩
   rw[wb hg18] at h;have f15:=E35.idxS hx4;have f16:=E35.fldS0 (f:=3) rfl rfl hx4;obtain⟨r17,hr17,h⟩:=zD h;refine DW.runN tok 7 ?_;simp only[go_sem,qc,qf,qa,qe,encGRaw,f15,f16];refine DW.call rfl rfl rfl (wm.ev a0 y4.fTag r17 hr17 _) ?_;refine DW.runN tok 1 ?_;simp only[go_sem,qc,qa];refine DW.fin tok (by decide +kernel) rfl ?_;simp only[zf,upd,qa,reduceIte,zV,yz];apply hK
   exact⟨_,_,⟨r17,rfl,rfl,h⟩,.s⟩
 rintro _ _ ⟨x9,rfl,rfl,h⟩;unfold yT.j10 at h;refine zv (b:=x9) rfl (fun hc11=>?_) (fun hc11=>?_)
 · rw[if_pos hc11] at h;refine rgN [2] ?_;cases h;exact rtA
 rw[wb hc11] at h;apply zd;apply hZ8
 refine rgE tok [1,3] fun K hK=>?_
 simp only[go_sem,qc,qa,hw4];apply hK
 exact⟨_,_,_,qy q4.length,⟨p4++[y4],q4,x2+1,rfl,rfl,rfl,hE'4,hi'4,h⟩,.s⟩
theorem yT.ev (a0:GTree)(r:Bool)(h:yT a0=some r)(σ:Store):ACalls qg 155 [.agg (cellsGTree a0)] σ (fun r' σ'=>r'=.bool r∧σ'=σ):=
 (yT.ok a0 r h).c σ
def yV.body (yh:GTree→Option Bool)(xJ:(List GEntry)→Option Bool)(a0:GTree):Option Bool:=
 (if a0.fKind=1 then some (((decide (a0.fS=[]))&&(decide ((qb a0.fEntries:Int)=0)))&&(decide ((qb a0.fRest:Int)=0))) else (if a0.fKind=2 then some (((decide (a0.fN=0))&&(decide ((qb a0.fEntries:Int)=0)))&&(decide ((qb a0.fRest:Int)=0))) else (if a0.fKind=3 then (if ((decide (a0.fN=0))&&(decide (a0.fS=[])))=true then (xJ a0.fEntries).bind fun r16=>some r16 else some false).bind fun c16=>(if c16=true then (yT a0).bind fun r18=>some r18 else some false).bind fun c18=>some c18 else some false)))
theorem yV.step (yh:GTree→Option Bool)(xJ:(List GEntry)→Option Bool)(YN:∀ (a0:GTree) (r:Bool),yh a0=some r→ACalls qg 102 [.agg (cellsGTree a0)] [] (fun r' _=>r'=.bool r))(Yc:∀ (a0:List GEntry) (r:Bool),xJ a0=some r→ACalls qg 154 [.ds true (qd encGEntry a0) (qb a0) false] [] (fun r' _=>r'=.bool r))(a0:GTree)(r:Bool)(h:yV.body yh xJ a0=some r):ACalls qg 102 [.agg (cellsGTree a0)] [] (fun r' _=>r'=.bool r):=by
 have ev_ref09_check:=fun a0 r h σ=>(YN a0 r h).c σ
 have ev_ref09_entries:=fun a0 r h σ=>(Yc a0 r h).c σ
 refine zh (rs:=[.tmp 2]) tok Tryz.func102 rfl Tryz.ntmps102 rfl Tryz.call102 (by simp) ?_;refine zl [(0,.agg (cellsGTree a0))] ⟨rfl,trivial⟩ ?_;unfold yV.body at h
 refine rg tok [1] fun K hK=>?_
 simp only[go_sem,qc,qa,qe,reduceCtorEq,cellsGTree];apply hK
 refine za fun Z1 hZ1=>?_
 refine rgN [1,4] ?_;apply ze;refine rgN [1,4,5] ?_;refine zL rfl (fun hc2=>?_) (fun hc2=>?_)
 · rw[if_pos hc2] at h;have t3:=eq_true hc2
   refine rc [2] fun K hK=>?_
   refine zj tok 4 ?_;simp only[go_sem,qc,qa,qe,t3];refine zq 5 (fun L τ=>L=[(1,.op 0 0 0),(15,.bool ((decide (a0.fS=[]))&&(decide ((qb a0.fEntries:Int)=0))))]∧τ=[.cells 0 (cellsGTree a0)]) ?_ ?_
   · refine yW 10 rfl (fun hg10=>?_) (fun hg10=>?_)
     · have t4:=eq_true hg10;refine rnN 5 ?_;refine zb ⟨rfl,_,_,⟨rfl,rfl⟩,.p t4⟩
     have t5:=eq_false hg10;refine rnN 5 ?_;refine zb ⟨rfl,_,_,⟨rfl,rfl⟩,.p t5⟩
   rintro _ _ ⟨rfl,rfl⟩;refine rnN 1 ?_;refine zq 5 (fun L τ=>L=[(21,.bool (((decide (a0.fS=[]))&&(decide ((qb a0.fEntries:Int)=0)))&&(decide ((qb a0.fRest:Int)=0))))]∧τ=[.cells 0 (cellsGTree a0)]) ?_ ?_
   · refine yf (b:=((decide (a0.fS=[]))&&(decide ((qb a0.fEntries:Int)=0)))) 16 rfl (fun hg16=>?_) (fun hg16=>?_)
     · refine rnN 5 ?_;refine zb ⟨rfl,_,_,⟨rfl,rfl⟩,.b hg16⟩
     refine rnN 5 ?_;refine zb ⟨rfl,_,_,⟨rfl,rfl⟩,.b hg16⟩
   rintro _ _ ⟨rfl,rfl⟩;refine rnN 1 ?_;refine nkN hK ?_;cases h;exact rtA
 rw[if_neg hc2] at h;have t6:=eq_false hc2
 refine rg tok [1,4,22] fun K hK=>?_
 simp only[go_sem,qc,qa,t6];apply hK
 refine zL rfl (fun hc7=>?_) (fun hc7=>?_)
 · rw[if_pos hc7] at h;have t8:=eq_true hc7
   refine rc [2] fun K hK=>?_
   refine zj tok 4 ?_;simp only[go_sem,qc,qa,qe,t8];refine zq 5 (fun L τ=>L=[(1,.op 0 0 0),(32,.bool ((decide (a0.fN=0))&&(decide ((qb a0.fEntries:Int)=0))))]∧τ=[.cells 0 (cellsGTree a0)]) ?_ ?_
   · refine yW 27 rfl (fun hg27=>?_) (fun hg27=>?_)
     · have t9:=eq_true hg27;refine rnN 5 ?_;refine zb ⟨rfl,_,_,⟨rfl,rfl⟩,.p t9⟩
     have t10:=eq_false hg27;refine rnN 5 ?_;refine zb ⟨rfl,_,_,⟨rfl,rfl⟩,.p t10⟩
   rintro _ _ ⟨rfl,rfl⟩;refine rnN 1 ?_;refine zq 5 (fun L τ=>L=[(38,.bool (((decide (a0.fN=0))&&(decide ((qb a0.fEntries:Int)=0)))&&(decide ((qb a0.fRest:Int)=0))))]∧τ=[.cells 0 (cellsGTree a0)]) ?_ ?_
   · refine yf (b:=((decide (a0.fN=0))&&(decide ((qb a0.fEntries:Int)=0)))) 33 rfl (fun hg33=>?_) (fun hg33=>?_)
     · refine rnN 5 ?_;refine zb ⟨rfl,_,_,⟨rfl,rfl⟩,.b hg33⟩
     refine rnN 5 ?_;refine zb ⟨rfl,_,_,⟨rfl,rfl⟩,.b hg33⟩
   rintro _ _ ⟨rfl,rfl⟩;refine rnN 1 ?_;refine nkN hK ?_;cases h;exact rtA
 rw[if_neg hc7] at h;have t11:=eq_false hc7
 refine rg tok [1,39] fun K hK=>?_
 simp only[go_sem,qc,qa,t11];apply hK
 refine zL rfl (fun hc12=>?_) (fun hc12=>?_)
 · rw[if_pos hc12] at h;have t13:=eq_true hc12
   refine rc [2] fun K hK=>?_
   refine zj tok 4 ?_;simp only[go_sem,qc,qa,qe,t13];refine zq 4 (fun L τ=>L=[(1,.op 0 0 0),(48,.bool ((decide (a0.fN=0))&&(decide (a0.fS=[]))))]∧τ=[.cells 0 (cellsGTree a0)]) ?_ ?_
   · refine yW 44 rfl (fun hg44=>?_) (fun hg44=>?_)
     · have t14:=eq_true hg44;refine rnN 4 ?_;refine zb ⟨rfl,_,_,⟨rfl,rfl⟩,.p t14⟩
     have t15:=eq_false hg44;refine rnN 4 ?_;refine zb ⟨rfl,_,_,⟨rfl,rfl⟩,.p t15⟩
   rintro _ _ ⟨rfl,rfl⟩;refine rnN 1 ?_;obtain⟨c16,hc16,h⟩:=bind_some h;refine zq 4 (fun L τ=>L=[(1,.op 0 0 0),(53,.bool c16)]∧τ=[.cells 0 (cellsGTree a0)]) ?_ ?_
   · refine yf (b:=((decide (a0.fN=0))&&(decide (a0.fS=[])))) 49 rfl (fun hg49=>?_) (fun hg49=>?_)
     · rw[if_pos hg49] at hc16;obtain⟨r17,hr17,hc16⟩:=bind_some hc16;refine rnN 2 ?_;refine clN rfl rfl rfl (ev_ref09_entries a0.fEntries r17 hr17 _) ?_;refine rnN 1 ?_;cases hc16;refine zb ⟨rfl,_,_,⟨rfl,rfl⟩,.b hg49⟩
     rw[wb hg49] at hc16;refine rnN 4 ?_;cases hc16;refine zb ⟨rfl,_,_,⟨rfl,rfl⟩,.b hg49⟩
   rintro _ _ ⟨rfl,rfl⟩;refine rnN 1 ?_;obtain⟨c18,hc18,h⟩:=bind_some h;refine zq 3 (fun L τ=>L=[(57,.bool c18)]∧τ=[.cells 0 (cellsGTree a0)]) ?_ ?_
   · refine yf (b:=c16) 54 rfl (fun hg54=>?_) (fun hg54=>?_)
     · rw[if_pos hg54] at hc18;obtain⟨r19,hr19,hc18⟩:=bind_some hc18;refine rnN 1 ?_;refine clN rfl rfl rfl (yT.ev a0 r19 hr19 _) ?_;refine rnN 1 ?_;cases hc18;refine zb ⟨rfl,_,_,⟨rfl,rfl⟩,.b hg54⟩
     rw[wb hg54] at hc18;refine rnN 3 ?_;cases hc18;refine zb ⟨rfl,_,_,⟨rfl,rfl⟩,.b hg54⟩
   rintro _ _ ⟨rfl,rfl⟩;refine rnN 1 ?_;refine nkN hK ?_;cases h;exact rtA
 rw[if_neg hc12] at h;have t20:=eq_false hc12;apply zd;apply hZ1
 refine rg tok [2] fun K hK=>?_
 simp only[go_sem,qc,qa,t20];apply hK
 cases h;exact rtA
def zE.j23 (x16:Int)(rec18:Int→Option Bool)(x22:Bool):Option Bool:=
 (if x22=true then some false else (rec18 (x16+1)))
def zE.l18 (yh:GTree→Option Bool)(x3:Int)(rec6:Int→Int→Option Bool)(y6:GEntry):List GTree→Int→Option Bool
 |[],x16=>(rec6 (x3+1) y6.fTag)
 |y18::q18,x16=>(Zb y6.fTrees 0).bind fun y27=>(if y18.fKind=y27.fKind then (yh y18).bind fun r34=>(zE.j23 x16 (zE.l18 yh x3 rec6 y6 q18) (!r34)) else (zE.j23 x16 (zE.l18 yh x3 rec6 y6 q18) true))
def zE.l6 (yh:GTree→Option Bool):List GEntry→Int→Int→Option Bool
 |[],x3,x2=>some true
 |y6::q6,x3,x2=>(if ((((decide (y6.fTag≤x2))||(decide (500<y6.fTag)))||(decide ((qb y6.fTrees:Int)<1)))||(decide (64<(qb y6.fTrees:Int))))=true then some false else (zE.l18 yh x3 (zE.l6 yh q6) y6 y6.fTrees 0))
def zE.body (yh:GTree→Option Bool)(xJ:(List GEntry)→Option Bool)(a0:List GEntry):Option Bool:=
 (zE.l6 yh a0 0 0)
theorem zE.step (yh:GTree→Option Bool)(xJ:(List GEntry)→Option Bool)(YN:∀ (a0:GTree) (r:Bool),yh a0=some r→ACalls qg 102 [.agg (cellsGTree a0)] [] (fun r' _=>r'=.bool r))(Yc:∀ (a0:List GEntry) (r:Bool),xJ a0=some r→ACalls qg 154 [.ds true (qd encGEntry a0) (qb a0) false] [] (fun r' _=>r'=.bool r))(a0:List GEntry)(r:Bool)(h:zE.body yh xJ a0=some r):ACalls qg 154 [.ds true (qd encGEntry a0) (qb a0) false] [] (fun r' _=>r'=.bool r):=by
 have ev_ref09_check:=fun a0 r h σ=>(YN a0 r h).c σ
 have ev_ref09_entries:=fun a0 r h σ=>(Yc a0 r h).c σ
 refine zh (rs:=[.tmp 2]) tok Tryz.func154 rfl Tryz.ntmps154 rfl Tryz.call154 (by simp) ?_;refine zl [(0,.ds true (qd encGEntry a0) (qb a0) false)] ⟨rfl,trivial⟩ ?_;unfold zE.body at h;refine rgN [0] ?_;refine rgN [0,3] ?_
 refine za fun Z1 hZ1=>?_
 refine rgN [0,3,4] ?_;apply ze
 refine yD 0 fun hb6=>?_
 replace hb6:qb a0≤9223372036854775807:=hb6.1;refine zF (fun m L τ=>∃ (p6 q6:List GEntry) (x3:Int) (x2:Int),m=qb q6∧L=[(0,.ds true (qd encGEntry a0) (qb a0) false),(3,.int .i64 x2),(4,.int .i64 x3)]∧τ=[]∧a0=p6++q6∧x3=(qb p6:Int)∧zE.l6 yh q6 x3 x2=some r) _ ⟨[],a0,0,0,rfl,rfl,rfl,rfl,rfl,h⟩ .s ?_;rintro m L τ ⟨p6,q6,x3,x2,rfl,rfl,rfl,hE6,hi6,h⟩
 rcases q6 with _|⟨y6,q6⟩
 · have hz6:=yH hE6 hi6;simp only[zE.l6] at h
   refine za fun Z7 hZ7=>?_
   refine rg tok [0,3,4,10] fun K hK=>?_
   simp only[go_sem,qc,qa,reduceCtorEq,hz6];apply hK
   refine zp rfl ?_;apply zA;apply hZ1;refine rgN [2] ?_;cases h;exact rtA
 obtain⟨hz6,hw6,hx6,hE'6,hi'6⟩:=ya hE6 hi6 hb6;simp only[zE.l6] at h
 refine za fun Z8 hZ8=>?_
 refine rg tok [0,3,4,10] fun K hK=>?_
 simp only[go_sem,qc,qa,reduceCtorEq,hz6];apply hK
 refine zs rfl ?_;apply zd;apply hZ8
 refine za fun Z9 hZ9=>?_
 apply ze;have f10:=E34.idxS hx6;have f11:=E34.loadS rfl rfl hx6
 refine rg tok [0,3,4,5] fun K hK=>?_
 simp only[go_sem,qc,qf,qa,qe,reduceCtorEq,cellsGEntry,zZ,f10,f11];apply hK
 refine za fun Z12 hZ12=>?_
 refine rc [0,4,5,37] fun K hK=>?_
 refine rnN 5 ?_;refine zq 4 (fun L τ=>L=[(0,.ds true (qd encGEntry a0) (qb a0) false),(4,.int .i64 x3),(5,.op 0 0 0),(25,.bool ((decide (y6.fTag≤x2))||(decide (500<y6.fTag))))]∧τ=[.cells 0 (cellsGEntry y6)]) ?_ ?_
 · refine yW 21 rfl (fun hg21=>?_) (fun hg21=>?_)
   · have t13:=eq_true hg21;refine rnN 4 ?_;refine zb ⟨rfl,_,_,⟨rfl,rfl⟩,.p t13⟩
   have t14:=eq_false hg21;refine rnN 4 ?_;refine zb ⟨rfl,_,_,⟨rfl,rfl⟩,.p t14⟩
 rintro _ _ ⟨rfl,rfl⟩;refine rnN 1 ?_;refine zq 5 (fun L τ=>L=[(0,.ds true (qd encGEntry a0) (qb a0) false),(4,.int .i64 x3),(5,.op 0 0 0),(31,.bool (((decide (y6.fTag≤x2))||(decide (500<y6.fTag)))||(decide ((qb y6.fTrees:Int)<1))))]∧τ=[.cells 0 (cellsGEntry y6)]) ?_ ?_
 · refine yf (b:=((decide (y6.fTag≤x2))||(decide (500<y6.fTag)))) 26 rfl (fun hg26=>?_) (fun hg26=>?_)
   · refine rnN 5 ?_;refine zb ⟨rfl,_,_,⟨rfl,rfl⟩,.b hg26⟩
   refine rnN 5 ?_;refine zb ⟨rfl,_,_,⟨rfl,rfl⟩,.b hg26⟩
 rintro _ _ ⟨rfl,rfl⟩;refine rnN 1 ?_;refine zq 5 (fun L τ=>L=[(0,.ds true (qd encGEntry a0) (qb a0) false),(4,.int .i64 x3),(5,.op 0 0 0),(37,.bool ((((decide (y6.fTag≤x2))||(decide (500<y6.fTag)))||(decide ((qb y6.fTrees:Int)<1)))||(decide (64<(qb y6.fTrees:Int)))))]∧τ=[.cells 0 (cellsGEntry y6)]) ?_ ?_
 · refine yf (b:=(((decide (y6.fTag≤x2))||(decide (500<y6.fTag)))||(decide ((qb y6.fTrees:Int)<1)))) 32 rfl (fun hg32=>?_) (fun hg32=>?_)
   · refine rnN 5 ?_;refine zb ⟨rfl,_,_,⟨rfl,rfl⟩,.b hg32⟩
   refine rnN 5 ?_;refine zb ⟨rfl,_,_,⟨rfl,rfl⟩,.b hg32⟩
 rintro _ _ ⟨rfl,rfl⟩;refine nkN hK ?_;refine zv (b:=((((decide (y6.fTag≤x2))||(decide (500<y6.fTag)))||(decide ((qb y6.fTrees:Int)<1)))||(decide (64<(qb y6.fTrees:Int))))) rfl (fun hc15=>?_) (fun hc15=>?_)
 · rw[if_pos hc15] at h;refine rgN [2] ?_;cases h;exact rtA
 rw[wb hc15] at h;apply zd;apply hZ12;refine rgN [0,3,4,5] ?_;refine rgN [0,3,4,5,6] ?_;apply ze
 refine Zu 0 rfl fun hb18=>?_
 replace hb18:qb y6.fTrees≤9223372036854775807:=hb18.2.1.1;refine zF (fun m L τ=>∃ (p18 q18:List GTree) (x16:Int),m=qb q18∧L=[(0,.ds true (qd encGEntry a0) (qb a0) false),(3,.int .i64 y6.fTag),(4,.int .i64 x3),(5,.op 0 0 0),(6,.int .i64 x16)]∧τ=[.cells 0 (cellsGEntry y6)]∧y6.fTrees=p18++q18∧x16=(qb p18:Int)∧zE.l18 yh x3 (zE.l6 yh q6) y6 q18 x16=some r) _ ⟨[],y6.fTrees,0,rfl,rfl,rfl,rfl,rfl,h⟩ .s ?_;rintro m L τ ⟨p18,q18,x16,rfl,rfl,rfl,hE18,hi18,h⟩
 rcases q18 with _|⟨y18,q18⟩
 · have hz18:=yH hE18 hi18;simp only[zE.l18] at h
   refine za fun Z19 hZ19=>?_
   refine rg tok [0,3,4,5,6,44] fun K hK=>?_
   simp only[go_sem,qc,qa,qe,reduceCtorEq,hz18];apply hK
   refine zp rfl ?_;apply zA;apply hZ9
   refine rgE tok [0,3,4] fun K hK=>?_
   simp only[go_sem,qc,qa,reduceCtorEq,hw6];apply hK
   exact⟨_,_,_,qy q6.length,⟨p6++[y6],q6,x3+1,y6.fTag,rfl,rfl,rfl,hE'6,hi'6,h⟩,(.t [] false)⟩
 obtain⟨hz18,hw18,hx18,hE'18,hi'18⟩:=ya hE18 hi18 hb18;simp only[zE.l18] at h
 refine za fun Z20 hZ20=>?_
 refine rg tok [0,3,4,5,6,44] fun K hK=>?_
 simp only[go_sem,qc,qa,qe,reduceCtorEq,hz18];apply hK
 refine zs rfl ?_;apply zd;apply hZ20
 refine za fun Z21 hZ21=>?_
 apply ze;refine yU (fun L τ=>∃ (x22:Bool),L=[(0,.ds true (qd encGEntry a0) (qb a0) false),(3,.int .i64 y6.fTag),(4,.int .i64 x3),(5,.op 0 0 0),(6,.int .i64 x16),(67,.bool x22)]∧τ=[.cells 0 (cellsGEntry y6)]∧zE.j23 x16 (zE.l18 yh x3 (zE.l6 yh q6) y6 q18) x22=some r) ?_ ?_
 · refine rdE [0,3,4,5,6,67] fun K hK=>?_
   refine DW.start (T:=tab) [.any,.at [],.any,.any,.any,.at [],.any,.at [],.any,.any,.at [],.any,.any,.any,.at [],.any,.any,.at [],.eff,.any,.any] [] ?_;have f25:=E38.idxS hx18;have f26:=E38.fldS0 (f:=3) rfl rfl hx18;obtain⟨y27,hy27,h⟩:=bind_some h;have f28:=E38.idxS hy27;have f29:=E38.fldS0 (f:=3) rfl rfl hy27;refine DW.runN tok 8 ?_;simp only[go_sem,qc,qa,qe,reduceCtorEq,cellsGTree,zH,f25,f26];refine DW.runN tok 5 ?_;simp only[go_sem,qc,qa,reduceCtorEq,cellsGTree,zH,f28,f29]
   refine DW.if 59 rfl (fun hg59=>?_) (fun hg59=>?_)
   · rw[if_neg hg59] at h;have t30:=eq_false hg59;refine DW.runN tok 8 ?_;simp only[go_sem,qc,qa,reduceCtorEq,t30];refine DW.fin tok (by decide +kernel) rfl ?_;simp only[zf,upd,qa,reduceIte,zV,yz];apply hK
     exact⟨_,_,⟨true,rfl,rfl,h⟩,.s⟩
   rw[if_pos hg59] at h;have t31:=eq_true hg59;have f32:=E38.idxS hx18;have f33:=E38.loadS rfl rfl hx18;obtain⟨r34,hr34,h⟩:=bind_some h;refine DW.runN tok 5 ?_;simp only[go_sem,qc,qa,qe,reduceCtorEq,cellsGTree,zH,t31,f32,f33];refine DW.call rfl rfl rfl (ev_ref09_check y18 r34 hr34 _) ?_;refine DW.runN tok 2 ?_;simp only[go_sem,qc,qa,reduceCtorEq];refine DW.fin tok (by decide +kernel) rfl ?_;simp only[zf,upd,qa,reduceIte,zV,yz];apply hK
   exact⟨_,_,⟨!r34,rfl,rfl,h⟩,.s⟩
 rintro _ _ ⟨x22,rfl,rfl,h⟩;unfold zE.j23 at h;refine zv (b:=x22) rfl (fun hc24=>?_) (fun hc24=>?_)
 · rw[if_pos hc24] at h;refine rgN [2] ?_;cases h;exact rtA
 rw[wb hc24] at h;apply zd;apply hZ21
 refine rgE tok [0,3,4,5,6] fun K hK=>?_
 simp only[go_sem,qc,qa,reduceCtorEq,hw18];apply hK
 exact⟨_,_,_,qy q18.length,⟨p18++[y18],q18,x16+1,rfl,rfl,rfl,hE'18,hi'18,h⟩,.s⟩
end
section
set_option maxRecDepth 4000
set_option maxHeartbeats 1000000
open AM
mutual
def yV : Nat→GTree→Option Bool
 |0,_=>none
 |k+1,a0=>yV.body (yV k) (zE k) a0
def zE : Nat→(List GEntry)→Option Bool
 |0,_=>none
 |k+1,a0=>zE.body (yV k) (zE k) a0
end
theorem yV.all (k:Nat):(∀ (a0:GTree) (r:Bool),yV k a0=some r→ACalls qg 102 [.agg (cellsGTree a0)] [] (fun r' _=>r'=.bool r))∧(∀ (a0:List GEntry) (r:Bool),zE k a0=some r→ACalls qg 154 [.ds true (qd encGEntry a0) (qb a0) false] [] (fun r' _=>r'=.bool r)):=by
 induction k with
 |zero=>exact⟨(fun a0 r h=>by simp only[yV] at h; cases h),(fun a0 r h=>by simp only[zE] at h; cases h)⟩
 |succ k ih=>exact⟨(fun a0 r h=>yV.step _ _ ih.1 ih.2 a0 r (by simpa only [yV] using h)),(fun a0 r h=>zE.step _ _ ih.1 ih.2 a0 r (by simpa only [zE] using h))⟩
theorem yV.ev (k:Nat)(a0:GTree)(r:Bool)(h:yV k a0=some r)(σ:Store):ACalls qg 102 [.agg (cellsGTree a0)] σ (fun r' σ'=>r'=.bool r∧σ'=σ):=
 ((yV.all k).1 a0 r h).c σ
def wK (a0:GTree):Option Bool:=
 (wJ a0).bind fun r1=>(if r1≤10 then (yV rounds a0).bind fun r2=>some r2 else some false).bind fun c2=>some c2
theorem wK.ok (a0:GTree)(r:Bool)(h:wK a0=some r):ACalls qg 66 [.agg (cellsGTree a0)] [] (fun r' _=>r'=.bool r):=by
 refine zh (rs:=[.tmp 2]) tok Tryz.func66 rfl Tryz.ntmps66 rfl Tryz.call66 (by simp) ?_;refine zl [(0,.agg (cellsGTree a0))] ⟨rfl,trivial⟩ ?_;unfold wK at h
 refine rg tok [1] fun K hK=>?_
 simp only[go_sem,qc,qa,qe,reduceCtorEq,cellsGTree];apply hK
 refine rc [2] fun K hK=>?_
 obtain⟨r1,hr1,h⟩:=bind_some h;refine rnN 1 ?_;refine clN rfl rfl rfl (wJ.ev a0 r1 hr1 _) ?_;refine rnN 2 ?_;obtain⟨c2,hc2,h⟩:=bind_some h;refine zq 3 (fun L τ=>L=[(9,.bool c2)]∧τ=[.cells 0 (cellsGTree a0)]) ?_ ?_
 · refine yW 6 rfl (fun hg6=>?_) (fun hg6=>?_)
   · have t3:=eq_true hg6;rw[if_pos hg6] at hc2;obtain⟨r4,hr4,hc2⟩:=bind_some hc2;refine rnN 1 ?_;refine clN rfl rfl rfl (yV.ev rounds a0 r4 hr4 _) ?_;refine rnN 1 ?_;cases hc2;refine zb ⟨rfl,_,_,⟨rfl,rfl⟩,.p t3⟩
   have t5:=eq_false hg6;rw[if_neg hg6] at hc2;refine rnN 3 ?_;cases hc2;refine zb ⟨rfl,_,_,⟨rfl,rfl⟩,.p t5⟩
 rintro _ _ ⟨rfl,rfl⟩;refine rnN 1 ?_;refine nkN hK ?_;cases h;exact rtA
theorem wK.ev (a0:GTree)(r:Bool)(h:wK a0=some r)(σ:Store):ACalls qg 66 [.agg (cellsGTree a0)] σ (fun r' σ'=>r'=.bool r∧σ'=σ):=
 (wK.ok a0 r h).c σ
def zK.j23 (x4:Int)(rec8:Int→List GRaw→Option (List GRaw))(l16:List GRaw)(x17:Int)(rec20:List GRaw→Int→Option (List GRaw))(x22:Bool):Option (List GRaw):=
 (if x22=true then (Zb l16 x17).bind fun y25=>(Zb l16 (IntKind.i64.wrap (x17-1))).bind fun y28=>(Zb (setI l16 (IntKind.i64.wrap (x17-1)) y25) x17).bind fun y34=>(rec20 (setI (setI l16 (IntKind.i64.wrap (x17-1)) y25) x17 y28) (IntKind.i64.wrap (x17-1))) else (rec8 (x4+1) l16))
def zK.l20 (x4:Int)(rec8:Int→List GRaw→Option (List GRaw)):Nat→List GRaw→Int→Option (List GRaw)
 |0,_,_=>none
 |k20+1,l16,x17=>(if 0<x17 then (Zb l16 (IntKind.i64.wrap (x17-1))).bind fun y39=>(Zb l16 x17).bind fun y42=>(zK.j23 x4 rec8 l16 x17 (zK.l20 x4 rec8 k20) (decide (y42.fTag<y39.fTag))) else (zK.j23 x4 rec8 l16 x17 (zK.l20 x4 rec8 k20) false))
def zK.l8 : List GRaw→Int→List GRaw→Option (List GRaw)
 |[],x4,l2=>some l2
 |y8::q8,x4,l2=>(YJ (qb l2+1) 40).bind fun _u14=>(zK.l20 x4 (zK.l8 q8) rounds (l2++[y8]) (qb l2:Int))
def zK (a0:List GRaw):Option (List GRaw):=
 (zK.l8 a0 0 ([]:List GRaw))
theorem zK.own (a0:List GRaw)(r:List GRaw)(h:zK a0=some r):ACalls qg 156 [.ds true (qd encGRaw a0) (qb a0) false] [] (fun r' σ'=>r'=.os true 4 0 0 0 (qb r) false∧σ'=[.cells 0 (qd encGRaw r)]):=by
 refine ACalls.own0 (by simp only[push_cast]) ?_;refine Yn (rs:=[.tmp 2]) tok Tryz.func156 rfl Tryz.ntmps156 rfl Tryz.call156 (by simp) ?_;refine zl [(0,.ds true (qd encGRaw a0) (qb a0) false)] ⟨rfl,trivial⟩ ?_;unfold zK at h;refine rgN [0] ?_;refine rgN [0,3] ?_;refine Zt 3 4 rfl ?_;refine yn (L:=[(0,.ds true (qd encGRaw a0) (qb a0) false),(3,.os true 4 0 0 0 (qb ([]:List GRaw)) false)]) (τ:=[.cells 0 (qd encGRaw ([]:List GRaw))]) .s ?_
 refine za fun Z1 hZ1=>?_
 refine rgN [0,3,4] ?_;apply ze
 refine yD 0 fun hb8=>?_
 replace hb8:qb a0≤9223372036854775807:=hb8.1;refine zF (fun m L τ=>∃ (p8 q8:List GRaw) (x4:Int) (l2:List GRaw) (v3:Nat),m=qb q8∧L=[(0,.ds true (qd encGRaw a0) (qb a0) false),(3,.os true 4 0 v3 0 (qb l2) false),(4,.int .i64 x4)]∧τ=[.cells v3 (qd encGRaw l2)]∧a0=p8++q8∧x4=(qb p8:Int)∧zK.l8 q8 x4 l2=some r) _ ⟨[],a0,0,([]:List GRaw),0,rfl,rfl,rfl,rfl,rfl,h⟩ .s ?_;rintro m L τ ⟨p8,q8,x4,l2,v3,rfl,rfl,rfl,hE8,hi8,h⟩
 rcases q8 with _|⟨y8,q8⟩
 · have hz8:=yH hE8 hi8;simp only[zK.l8] at h
   refine za fun Z9 hZ9=>?_
   refine rg tok [0,3,4,9] fun K hK=>?_
   simp only[go_sem,qc,qa,reduceCtorEq,hz8];apply hK
   refine zp rfl ?_;apply zA;apply hZ1;refine rgN [2] ?_;apply zR;cases h;simp only[wN,ym,yy,xo,exists_eq_left',go_sem];refine⟨0,v3,by simp,?_,?_⟩
   · first|rfl|(simp only[go_sem,qc,qf,qa,qe,ql,qs,reduceIte,reduceCtorEq,push_cast,if_true,qC,qn,qp,qm,qE,qq,qN,qJ,qu,qt,qw,zi,encGRaw]<;>rfl)
   first|rfl|(simp only[go_sem,push_cast,qm,zi]<;>rfl)
 obtain⟨hz8,hw8,hx8,hE'8,hi'8⟩:=ya hE8 hi8 hb8;simp only[zK.l8] at h
 refine za fun Z10 hZ10=>?_
 refine rg tok [0,3,4,9] fun K hK=>?_
 simp only[go_sem,qc,qa,reduceCtorEq,hz8];apply hK
 refine zs rfl ?_;apply zd;apply hZ10
 refine za fun Z11 hZ11=>?_
 apply ze;refine rgN [0,3,4,5] ?_;have f12:=E35.idxS hx8;have f13:=E35.loadS rfl rfl hx8;obtain⟨_u14,hu14,h⟩:=bind_some h;have gu14:=yF hu14;have f15:=(zy E35.len l2)
 refine rg tok [0,3,4,5] fun K hK=>?_
 simp only[go_sem,qc,qf,qa,qe,ql,reduceCtorEq,zM,z8,q1,qT,true_and,ub,yx,zY,yC,encGRaw,f12,f13,gu14,f15,yS,uc,qZ,AV.one,qO,qK,qk,qr,qn,qM];apply hK
 refine yn (L:=[(0,.ds true (qd encGRaw a0) (qb a0) false),(3,.os true 4 0 (v3+1) 0 (qb (l2++[y8])) false),(4,.int .i64 x4),(5,.int .i64 (qb l2:Int))]) (τ:=[.cells (v3+1) (qd encGRaw (l2++[y8])),.cells 0 [.int .i64 y8.fTag,.int .i64 y8.fWire,.int .i64 y8.fN,.str y8.fB]]) .s ?_;apply ze;refine zF (fun m L τ=>∃ (k20:Nat) (l16:List GRaw) (x17:Int),m=0+k20∧L=[(0,.ds true (qd encGRaw a0) (qb a0) false),(3,.os true 4 0 (v3+1) 0 (qb l16) false),(4,.int .i64 x4),(5,.int .i64 x17)]∧τ=[.cells (v3+1) (qd encGRaw l16)]∧zK.l20 x4 (zK.l8 q8) k20 l16 x17=some r) _ ⟨rounds,l2++[y8],(qb l2:Int),rfl,rfl,rfl,h⟩ (.t [0] false) ?_;rintro m L τ ⟨k20,l16,x17,rfl,rfl,rfl,h⟩
 rcases k20 with _|k20
 · cases h
 simp only[zK.l20] at h
 refine za fun Z21 hZ21=>?_
 refine yU (fun L τ=>∃ (x22:Bool),L=[(0,.ds true (qd encGRaw a0) (qb a0) false),(3,.os true 4 0 (v3+1) 0 (qb l16) false),(4,.int .i64 x4),(5,.int .i64 x17),(36,.bool x22)]∧τ=[.cells (v3+1) (qd encGRaw l16)]∧zK.j23 x4 (zK.l8 q8) l16 x17 (zK.l20 x4 (zK.l8 q8) k20) x22=some r) ?_ ?_
 · refine rdE [0,3,4,5,36] fun K hK=>?_
   refine DW.start (T:=tab) [.any,.any,.any,.any,.any,.any,.any,.any,.at [],.any,.any,.any,.any,.at [],.any,.any] [] ?_;refine DW.runN tok 3 ?_;simp only[go_sem,qc,qa,reduceCtorEq]
   refine DW.if 23 rfl (fun hg23=>?_) (fun hg23=>?_)
   · rw[if_pos hg23] at h;have t38:=eq_true hg23;obtain⟨y39,hy39,h⟩:=bind_some h;have f40:=E35.idxO hy39;have f41:=E35.rdfO0 hy39;obtain⟨y42,hy42,h⟩:=bind_some h;have f43:=E35.idxO hy42;have f44:=E35.rdfO0 hy42;refine DW.runN tok 8 ?_;simp only[go_sem,qc,qa,reduceCtorEq,encGRaw,t38,f40,f41];refine DW.runN tok 5 ?_;simp only[go_sem,qc,qa,reduceCtorEq,encGRaw,f43,f44];refine DW.fin tok (by decide +kernel) rfl ?_;simp only[zf,upd,qa,reduceIte,zV,yz];apply hK
     exact⟨_,_,⟨decide (y42.fTag<y39.fTag),rfl,rfl,h⟩,.s⟩
   rw[if_neg hg23] at h;have t45:=eq_false hg23;refine DW.runN tok 8 ?_;simp only[go_sem,qc,qa,reduceCtorEq,t45];refine DW.runN tok 5 ?_;simp only[go_sem,qc,qa,reduceCtorEq];refine DW.fin tok (by decide +kernel) rfl ?_;simp only[zf,upd,qa,reduceIte,zV,yz];apply hK
   exact⟨_,_,⟨false,rfl,rfl,h⟩,.s⟩
 rintro _ _ ⟨x22,rfl,rfl,h⟩;unfold zK.j23 at h;refine zv (b:=x22) rfl (fun hc24=>?_) (fun hc24=>?_)
 · rw[if_pos hc24] at h;apply zd;apply hZ21;apply ze;obtain⟨y25,hy25,h⟩:=bind_some h;have f26:=E35.idxO hy25;have f27:=E35.rdO hy25;obtain⟨y28,hy28,h⟩:=bind_some h;have f29:=E35.idxO hy28;have f30:=E35.rdO hy28;have f31:=E35.idxO hy28;have f32:=E35.stOc hy28;have f33:=E35.stOr hy28 (y:=y25) (cs:=[.int .i64 y25.fTag,.int .i64 y25.fWire,.int .i64 y25.fN,.str y25.fB]) rfl;simp only[xm] at f33;obtain⟨y34,hy34,h⟩:=bind_some h;have f35:=E35.idxO hy34;have f36:=E35.stOc hy34;have f37:=E35.stOr hy34 (y:=y28) (cs:=[.int .i64 y28.fTag,.int .i64 y28.fWire,.int .i64 y28.fN,.str y28.fB]) rfl;simp only[xm] at f37
   refine rd [0,3,4,5] fun K hK=>?_
   refine DW.start (T:=tab) [.any,.any,.any,.any,.any,.any,.any,.any,.at [],.any,.any,.any,.any,.at [],.any,.eff,.any,.eff] [] ?_;refine DW.runN tok 8 ?_;simp only[go_sem,qc,qa,reduceCtorEq,f26];refine DW.runN tok 8 ?_;simp only[go_sem,qc,qa,qe,reduceCtorEq,encGRaw,f27,f29,f30,f32,f33];refine DW.runN tok 2 ?_;simp only[go_sem,qc,qa,qe,reduceCtorEq,f26,f36,f37];refine DW.fin tok (by decide +kernel) rfl ?_;simp only[zf,upd,qa,reduceIte,zV,yz];apply hK
   refine rgE tok [0,3,4,5] fun K hK=>?_
   simp only[go_sem,qc,qa,reduceCtorEq];apply hK
   exact⟨_,_,_,qy (0+k20),⟨k20,setI (setI l16 (IntKind.i64.wrap (x17-1)) y25) x17 y28,IntKind.i64.wrap (x17-1),rfl,rfl,rfl,h⟩,.s⟩
 rw[wb hc24] at h;apply zA;apply hZ11
 refine rgE tok [0,3,4] fun K hK=>?_
 simp only[go_sem,qc,qa,reduceCtorEq,hw8];apply hK
 exact⟨_,_,_,qy q8.length,⟨p8++[y8],q8,x4+1,l16,v3+1,rfl,rfl,rfl,hE'8,hi'8,h⟩,.s⟩
theorem zK.ok (a0:List GRaw)(r:List GRaw)(h:zK a0=some r):ACalls qg 156 [.ds true (qd encGRaw a0) (qb a0) false] [] (fun r' _=>r'=.ds true (qd encGRaw r) (qb r) false):=
 (zK.own a0 r h).ownData (zy E35.len r) (by simp only[push_cast])
theorem zK.ev (a0:List GRaw)(r:List GRaw)(h:zK a0=some r)(σ:Store):ACalls qg 156 [.ds true (qd encGRaw a0) (qb a0) false] σ (fun r' σ'=>r'=.ds true (qd encGRaw r) (qb r) false∧σ'=σ):=
 (zK.ok a0 r h).c σ
def xe.l8 : Nat→List UInt8→Int→Option (List UInt8)
 |0,_,_=>none
 |k8+1,l2,x4=>(if 128≤x4 then (YJ (qb l2+1) 1).bind fun _u13=>((xe.l8 k8) (l2++[qX (qI (IntKind.u8.wrap ((IntKind.u8.wrap ((x4).tmod 128))+128)))]) (IntKind.u64.wrap ((x4).tdiv 128))) else (YJ (qb l2+1) 1).bind fun _u17=>some (l2++[qX (qI (IntKind.u8.wrap x4))]))
def xe (a0:Int):Option (List UInt8):=
 (xe.l8 rounds ([]:List UInt8) a0)
theorem xe.own (a0:Int)(r:List UInt8)(h:xe a0=some r):ACalls qg 202 [.int .u64 a0] [] (fun r' σ'=>r'=.os true 1 0 0 0 (qb r) false∧σ'=[.cells 0 (qd encB r)]):=by
 refine ACalls.own0 (by simp only[push_cast]) ?_;refine Yn (rs:=[.tmp 2]) tok Tryz.func202 rfl Tryz.ntmps202 rfl Tryz.call202 (by simp) ?_;refine zl [(0,.int .u64 a0)] ⟨rfl,trivial⟩ ?_;unfold xe at h;refine rgN [0] ?_;refine rgN [0,3] ?_;refine Zt 3 1 rfl ?_;refine yn (L:=[(0,.int .u64 a0),(3,.os true 1 0 0 0 (qb ([]:List UInt8)) false)]) (τ:=[.cells 0 (qd encB ([]:List UInt8))]) .s ?_
 refine za fun Z1 hZ1=>?_
 apply ze;refine zF (fun m L τ=>∃ (k8:Nat) (l2:List UInt8) (x4:Int) (v3:Nat),m=0+k8∧L=[(0,.int .u64 x4),(3,.os true 1 0 v3 0 (qb l2) false)]∧τ=[.cells v3 (qd encB l2)]∧xe.l8 k8 l2 x4=some r) _ ⟨rounds,([]:List UInt8),a0,0,rfl,rfl,rfl,h⟩ .s ?_;rintro m L τ ⟨k8,l2,x4,v3,rfl,rfl,rfl,h⟩
 rcases k8 with _|k8
 · cases h
 simp only[xe.l8] at h
 refine za fun Z9 hZ9=>?_
 refine rgN [0,3,5] ?_;refine zL rfl (fun hc10=>?_) (fun hc10=>?_)
 · rw[if_pos hc10] at h;have t11:=eq_true hc10;apply zd;apply hZ9;apply ze;have f12:=xU (T:=tab) (src:=287) (dst:=5) rfl rfl rfl;obtain⟨_u13,hu13,h⟩:=bind_some h;have gu13:=yF hu13;have f14:=(zy E48.len l2)
   refine rg tok [0,3] fun K hK=>?_
   simp only[go_sem,qc,qf,qa,ql,reduceCtorEq,zM,z8,q1,qT,true_and,ub,yx,zY,yC,t11,f12,gu13,f14,Int.reduceEq,yS,uc,qZ,AV.one,qO,qK,qk,qr,qn,qM];apply hK
   refine yn (L:=[(0,.int .u64 x4),(3,.os true 1 0 (v3+1) 0 (qb (l2++[qX (qI (IntKind.u8.wrap ((IntKind.u8.wrap ((x4).tmod 128))+128)))])) false)]) (τ:=[.cells (v3+1) (qd encB (l2++[qX (qI (IntKind.u8.wrap ((IntKind.u8.wrap ((x4).tmod 128))+128)))])),.cells 0 [.int .u8 (IntKind.u8.wrap ((IntKind.u8.wrap ((x4).tmod 128))+128))]]) (.same (by first|exact⟨rfl,rfl,trivial⟩|rfl|(simp only[go_sem,reduceCtorEq,Fits,qj,qk,qr,qn,and_self]<;>rfl)) (by first|exact⟨rfl,rfl,trivial⟩|rfl|(simp only[go_sem,encB,q5,qS,uj,qH,vaa]<;>rfl))) ?_
   refine rgE tok [0,3] fun K hK=>?_
   simp only[go_sem,qc,qa,reduceCtorEq,Int.reduceEq];apply hK
   exact⟨_,_,_,qy (0+k8),⟨k8,l2++[qX (qI (IntKind.u8.wrap ((IntKind.u8.wrap ((x4).tmod 128))+128)))],IntKind.u64.wrap ((x4).tdiv 128),v3+1,rfl,rfl,rfl,h⟩,(.t [0] false)⟩
 rw[if_neg hc10] at h;have t15:=eq_false hc10;apply zA;apply hZ1;have f16:=xU (T:=tab) (src:=287) (dst:=5) rfl rfl rfl;obtain⟨_u17,hu17,h⟩:=bind_some h;have gu17:=yF hu17;have f18:=(zy E48.len l2)
 refine rg tok [2] fun K hK=>?_
 simp only[go_sem,qc,qf,qa,ql,reduceCtorEq,zM,z8,q1,qT,true_and,ub,yx,zY,yC,t15,f16,gu17,f18,yS,uc,qZ,AV.one,qO,qK,qk,qr,qn,qM];apply hK
 refine yn (L:=[(2,.os true 1 0 (v3+1) 0 (qb (l2++[qX (qI (IntKind.u8.wrap x4))])) false)]) (τ:=[.cells (v3+1) (qd encB (l2++[qX (qI (IntKind.u8.wrap x4))])),.cells 0 [.int .u8 (IntKind.u8.wrap x4)]]) (.same (by first|exact⟨rfl,trivial⟩|rfl|(simp only[go_sem,Fits,qj,qk,qr,qn,and_self]<;>rfl)) (by first|exact⟨rfl,trivial⟩|rfl|(simp only[go_sem,encB,q5,qS,uj,qH,vaa]<;>rfl))) ?_;apply zR;cases h;simp only[wN,ym,yy,xo,exists_eq_left',go_sem,qe];refine⟨0,v3+1,by simp,?_,?_⟩
 · first|rfl|(simp only[go_sem,qc,qf,qa,qe,ql,qs,reduceIte,reduceCtorEq,push_cast,if_true,qC,qn,qp,qm,qE,qq,qN,qJ,qu,qt,qw,zi]<;>rfl)
 first|rfl|(simp only[go_sem,push_cast,qm,zi]<;>rfl)
theorem xe.ok (a0:Int)(r:List UInt8)(h:xe a0=some r):ACalls qg 202 [.int .u64 a0] [] (fun r' _=>r'=.ds true (qd encB r) (qb r) false):=
 (xe.own a0 r h).ownData (zy E48.len r) (by simp only[push_cast])
theorem xe.ev (a0:Int)(r:List UInt8)(h:xe a0=some r)(σ:Store):ACalls qg 202 [.int .u64 a0] σ (fun r' σ'=>r'=.ds true (qd encB r) (qb r) false∧σ'=σ):=
 (xe.ok a0 r h).c σ
def Zp (a0:Int):Int:=
 (if 0≤a0 then IntKind.u64.wrap (2*(IntKind.u64.wrap a0)) else IntKind.u64.wrap ((IntKind.u64.wrap (2*(IntKind.u64.wrap (IntKind.i64.wrap (0-(IntKind.i64.wrap (a0+1)))))))+1))
theorem Zp.ok (a0:Int)(r:Int)(h:Zp a0=r):ACalls qg 203 [.int .i64 a0] [] (fun r' _=>r'=.int .u64 r):=by
 refine zh (rs:=[.tmp 2]) tok Tryz.func203 rfl Tryz.ntmps203 rfl Tryz.call203 (by simp) ?_;refine zl [(0,.int .i64 a0)] ⟨rfl,trivial⟩ ?_;unfold Zp at h;refine rgN [0] ?_
 refine za fun Z1 hZ1=>?_
 refine rgN [0,4] ?_;refine zL rfl (fun hc2=>?_) (fun hc2=>?_)
 · rw[if_pos hc2] at h;have t3:=eq_true hc2;have f4:=xU (T:=tab) (src:=3) (dst:=287) rfl rfl rfl
   refine rg tok [2] fun K hK=>?_
   simp only[go_sem,qc,qa,reduceCtorEq,t3,f4];apply hK
   cases h;exact rtA
 rw[if_neg hc2] at h;have t5:=eq_false hc2;apply zd;apply hZ1;have f6:=xU (T:=tab) (src:=3) (dst:=287) rfl rfl rfl
 refine rg tok [2] fun K hK=>?_
 simp only[go_sem,qc,qa,reduceCtorEq,t5,f6];apply hK
 cases h;exact rtA
theorem Zp.ev (a0:Int)(r:Int)(h:Zp a0=r)(σ:Store):ACalls qg 203 [.int .i64 a0] σ (fun r' σ'=>r'=.int .u64 r∧σ'=σ):=
 (Zp.ok a0 r h).c σ
def wQ (a0:GRaw):Option (List UInt8):=
 (xe (IntKind.u64.wrap (IntKind.i64.wrap ((IntKind.i64.wrap (2*a0.fTag))+a0.fWire)))).bind fun r2=>(if a0.fWire=0 then bnd (Zp a0.fN) fun r6=>(xe r6).bind fun r7=>(YJ (qb r2+qb r7) 1).bind fun _u9=>some (r2++r7) else (xe (IntKind.u64.wrap (qb a0.fB:Int))).bind fun r13=>(YJ (qb r2+qb r13) 1).bind fun _u15=>(YJ (qb (r2++r13)+qb a0.fB) 1).bind fun _u17=>some ((r2++r13)++a0.fB))
theorem wQ.own (a0:GRaw)(r:List UInt8)(h:wQ a0=some r):ACalls qg 158 [.agg (encGRaw a0)] [] (fun r' σ'=>r'=.os true 1 0 0 0 (qb r) false∧σ'=[.cells 0 (qd encB r)]):=by
 refine ACalls.own0 (by simp only[push_cast]) ?_;refine Yn (rs:=[.tmp 2]) tok Tryz.func158 rfl Tryz.ntmps158 rfl Tryz.call158 (by simp) ?_;refine zl [(0,.agg (encGRaw a0))] ⟨rfl,trivial⟩ ?_;unfold wQ at h
 refine rg tok [1] fun K hK=>?_
 simp only[go_sem,qc,qa,qe,reduceCtorEq,encGRaw];apply hK
 refine rc [1,3] fun K hK=>?_
 have f1:=xU (T:=tab) (src:=3) (dst:=287) rfl rfl rfl;obtain⟨r2,hr2,h⟩:=bind_some h;refine zj tok 7 ?_;simp only[go_sem,qc,qa,qe,f1];refine clN rfl rfl rfl (@id (ACalls qg 202 [.int .u64 (IntKind.u64.wrap (IntKind.i64.wrap ((IntKind.i64.wrap (2*a0.fTag))+a0.fWire)))] [.cells 0 [.int .i64 a0.fTag,.int .i64 a0.fWire,.int .i64 a0.fN,.str a0.fB]] (fun r' σ'=>r'=.os true 1 1 0 0 (qb r2) false∧σ'=[.cells 0 [.int .i64 a0.fTag,.int .i64 a0.fWire,.int .i64 a0.fN,.str a0.fB],.cells 0 (qd encB r2)])) ((xe.own (IntKind.u64.wrap (IntKind.i64.wrap ((IntKind.i64.wrap (2*a0.fTag))+a0.fWire))) r2 hr2).ownAt0 (by simp only[push_cast]) (by simp only[push_cast]) _)) ?_;refine rnN 1 ?_;refine nkN hK ?_
 refine za fun Z3 hZ3=>?_
 refine rgN [1,3,14] ?_;refine zL rfl (fun hc4=>?_) (fun hc4=>?_)
 · rw[if_pos hc4] at h;have t5:=eq_true hc4
   refine rc [2] fun K hK=>?_
   obtain⟨r6,hr6,h⟩:=zD h;refine zj tok 3 ?_;simp only[go_sem,qc,qa,qe,t5];refine clN rfl rfl rfl (Zp.ev a0.fN r6 hr6 _) ?_;obtain⟨r7,hr7,h⟩:=bind_some h;refine clN rfl rfl rfl (xe.ev r6 r7 hr7 _) ?_
   have f8:=fun nl tt σ=>wj E48.len r7 nl tt σ
   obtain⟨_u9,hu9,h⟩:=bind_some h;have gu9:=yF hu9;have f10:=(zy E48.len r2);refine zj tok 2 ?_;simp only[go_sem,qc,qa,yx,zY,yC,true_and,f8,gu9,f10,ZU,qn];refine nkN hK ?_;refine yn (L:=[(2,.os true 1 1 (0+1) 0 (qb (r2++r7)) false)]) (τ:=[.cells 0 [.int .i64 a0.fTag,.int .i64 a0.fWire,.int .i64 a0.fN,.str a0.fB],.cells (0+1) (qd encB (r2++r7))]) .s ?_;apply zR;cases h;simp only[wN,ym,yy,xo,exists_eq_left',go_sem,qe];refine⟨1,0+1,by simp,?_,?_⟩
   · first|rfl|(simp only[go_sem,qc,qf,qa,qe,ql,qs,reduceIte,reduceCtorEq,push_cast,if_true,qC,qn,qp,qm,qE,qq,qN,qJ,qu,qt,qw,zi]<;>rfl)
   first|rfl|(simp only[go_sem,push_cast,qn,qm,zi]<;>rfl)
 rw[if_neg hc4] at h;have t11:=eq_false hc4;apply zd;apply hZ3
 refine rc [1,3] fun K hK=>?_
 have f12:=xU (T:=tab) (src:=3) (dst:=287) rfl rfl rfl;obtain⟨r13,hr13,h⟩:=bind_some h;refine zj tok 5 ?_;simp only[go_sem,qc,qa,qe,t11,f12];refine clN rfl rfl rfl (xe.ev (IntKind.u64.wrap (qb a0.fB:Int)) r13 hr13 _) ?_
 have f14:=fun nl tt σ=>wj E48.len r13 nl tt σ
 obtain⟨_u15,hu15,h⟩:=bind_some h;have gu15:=yF hu15;have f16:=(zy E48.len r2);refine zj tok 2 ?_;simp only[go_sem,qc,qa,yx,zY,yC,true_and,f14,gu15,f16,ZU,qn];refine nkN hK ?_;refine yn (L:=[(1,.op 0 0 0),(3,.os true 1 1 (0+1) 0 (qb (r2++r13)) false)]) (τ:=[.cells 0 [.int .i64 a0.fTag,.int .i64 a0.fWire,.int .i64 a0.fN,.str a0.fB],.cells (0+1) (qd encB (r2++r13))]) .s ?_;obtain⟨_u17,hu17,h⟩:=bind_some h;have gu17:=yF hu17
 first|simp only[qj] at gu17|skip
 have f18:=(zy E48.len (r2++r13));simp only[q5,qj] at f18
 refine rg tok [2] fun K hK=>?_
 simp only[go_sem,qc,qa,qe,yx,zY,yC,true_and,gu17,f18,srcCells_s,Yw,ZU,q5,qj,qk,qr,qn,qv];apply hK
 refine yn (L:=[(2,.os true 1 1 (0+1+1) 0 (qb ((r2++r13)++a0.fB)) false)]) (τ:=[.cells 0 [.int .i64 a0.fTag,.int .i64 a0.fWire,.int .i64 a0.fN,.str a0.fB],.cells (0+1+1) (qd encB ((r2++r13)++a0.fB))]) .s ?_;apply zR;cases h;simp only[wN,ym,yy,xo,exists_eq_left',go_sem,qe];refine⟨1,0+1+1,by simp,?_,?_⟩
 · first|rfl|(simp only[go_sem,qc,qf,qa,qe,ql,qs,reduceIte,reduceCtorEq,push_cast,if_true,qC,qn,qp,qm,qE,qq,qN,qJ,qu,qt,qw,zi]<;>rfl)
 first|rfl|(simp only[go_sem,qe,push_cast,qn,qm,zi]<;>rfl)
theorem wQ.ok (a0:GRaw)(r:List UInt8)(h:wQ a0=some r):ACalls qg 158 [.agg (encGRaw a0)] [] (fun r' _=>r'=.ds true (qd encB r) (qb r) false):=
 (wQ.own a0 r h).ownData (zy E48.len r) (by simp only[push_cast])
theorem wQ.ev (a0:GRaw)(r:List UInt8)(h:wQ a0=some r)(σ:Store):ACalls qg 158 [.agg (encGRaw a0)] σ (fun r' σ'=>r'=.ds true (qd encB r) (qb r) false∧σ'=σ):=
 (wQ.ok a0 r h).c σ
def yk.l13 : List GRaw→Int→List UInt8→Option (List UInt8×Int)
 |[],x9,l7=>some (l7,0)
 |y13::q13,x9,l7=>(wQ y13).bind fun r19=>(YJ (qb l7+qb r19) 1).bind fun _u21=>(if 4096<(qb (l7++r19):Int) then some (([]:List UInt8),4) else ((yk.l13 q13) (x9+1) (l7++r19)))
def yk.l4 (a0:List GRaw):List GRaw→Int→Option (List UInt8×Int)
 |[],x2=>(yk.l13 a0 0 ([]:List UInt8))
 |y4::q4,x2=>bnd (wr y4) fun r30=>(if (!r30)=true then some (([]:List UInt8),1) else ((yk.l4 a0 q4) (x2+1)))
def yk (a0:List GRaw):Option (List UInt8×Int):=
 (yk.l4 a0 a0 0)
theorem yk.ok (a0:List GRaw)(r:List UInt8×Int)(h:yk a0=some r):ACalls qg 104 [.ds true (qd encGRaw a0) (qb a0) false] [] (fun r' _=>r'=.tup [.ds true (qd encB r.1) (qb r.1) false,.int .i64 r.2]):=by
 refine zh (rs:=[.tmp 2,.tmp 3]) tok Tryz.func104 rfl Tryz.ntmps104 rfl Tryz.call104 (by simp) ?_;refine zl [(0,.ds true (qd encGRaw a0) (qb a0) false)] ⟨rfl,trivial⟩ ?_;unfold yk at h;refine rgN [0] ?_;refine rgN [0,4] ?_;refine Zt 4 1 rfl ?_;refine yn (L:=[(0,.ds true (qd encGRaw a0) (qb a0) false),(4,.os true 1 0 0 0 (qb ([]:List UInt8)) false)]) (τ:=[.cells 0 (qd encB ([]:List UInt8))]) .s ?_
 refine za fun Z1 hZ1=>?_
 refine rgN [0,4,5] ?_;apply ze
 refine yD 0 fun hb4=>?_
 replace hb4:qb a0≤9223372036854775807:=hb4.1;refine zF (fun m L τ=>∃ (p4 q4:List GRaw) (x2:Int),m=qb q4∧L=[(0,.ds true (qd encGRaw a0) (qb a0) false),(4,.os true 1 0 0 0 (qb ([]:List UInt8)) false),(5,.int .i64 x2)]∧τ=[.cells 0 (qd encB ([]:List UInt8))]∧a0=p4++q4∧x2=(qb p4:Int)∧yk.l4 a0 q4 x2=some r) _ ⟨[],a0,0,rfl,rfl,rfl,rfl,rfl,h⟩ .s ?_;rintro m L τ ⟨p4,q4,x2,rfl,rfl,rfl,hE4,hi4,h⟩
 rcases q4 with _|⟨y4,q4⟩
 · have hz4:=yH hE4 hi4;simp only[yk.l4] at h
   refine za fun Z5 hZ5=>?_
   refine rg tok [0,4,5,10] fun K hK=>?_
   simp only[go_sem,qc,qa,reduceCtorEq,hz4];apply hK
   refine zp rfl ?_;apply zA;apply hZ1
   refine za fun Z6 hZ6=>?_
   refine rgN [0,4,6] ?_;apply ze
   refine yD 0 fun hb13=>?_
   replace hb13:qb a0≤9223372036854775807:=hb13.1;refine zF (fun m L τ=>∃ (p13 q13:List GRaw) (x9:Int) (l7:List UInt8) (v8:Nat),m=qb q13∧L=[(0,.ds true (qd encGRaw a0) (qb a0) false),(4,.os true 1 0 v8 0 (qb l7) false),(6,.int .i64 x9)]∧τ=[.cells v8 (qd encB l7)]∧a0=p13++q13∧x9=(qb p13:Int)∧yk.l13 q13 x9 l7=some r) _ ⟨[],a0,0,([]:List UInt8),0,rfl,rfl,rfl,rfl,rfl,h⟩ .s ?_;rintro m L τ ⟨p13,q13,x9,l7,v8,rfl,rfl,rfl,hE13,hi13,h⟩
   rcases q13 with _|⟨y13,q13⟩
   · have hz13:=yH hE13 hi13;simp only[yk.l13] at h
     refine za fun Z14 hZ14=>?_
     refine rg tok [0,4,6,22] fun K hK=>?_
     simp only[go_sem,qc,qa,reduceCtorEq,hz13];apply hK
     refine zp rfl ?_;apply zA;apply hZ6;refine rgN [2,3] ?_;cases h;exact rtA
   obtain⟨hz13,hw13,hx13,hE'13,hi'13⟩:=ya hE13 hi13 hb13;simp only[yk.l13] at h
   refine za fun Z15 hZ15=>?_
   refine rg tok [0,4,6,22] fun K hK=>?_
   simp only[go_sem,qc,qa,reduceCtorEq,hz13];apply hK
   refine zs rfl ?_;apply zd;apply hZ15
   refine za fun Z16 hZ16=>?_
   apply ze
   refine rc [0,4,6] fun K hK=>?_
   have f17:=E35.idxS hx13;have f18:=E35.loadS rfl rfl hx13;obtain⟨r19,hr19,h⟩:=bind_some h;refine zj tok 5 ?_;simp only[go_sem,qc,qa,reduceCtorEq,encGRaw,f17,f18];refine clN rfl rfl rfl (wQ.ev y13 r19 hr19 _) ?_
   have f20:=fun nl tt σ=>wj E48.len r19 nl tt σ
   obtain⟨_u21,hu21,h⟩:=bind_some h;have gu21:=yF hu21;have f22:=(zy E48.len l7);refine zj tok 2 ?_;simp only[go_sem,qc,qa,reduceCtorEq,yx,zY,yC,true_and,f20,gu21,f22,ZU];refine nkN hK ?_;refine yn (L:=[(0,.ds true (qd encGRaw a0) (qb a0) false),(4,.os true 1 0 (v8+1) 0 (qb (l7++r19)) false),(6,.int .i64 x9)]) (τ:=[.cells (v8+1) (qd encB (l7++r19))]) .s ?_;refine rgN [0,4,6,34] ?_;refine zL rfl (fun hc23=>?_) (fun hc23=>?_)
   · rw[if_pos hc23] at h;have t24:=eq_true hc23
     refine rg tok [2,3] fun K hK=>?_
     simp only[go_sem,qc,qa,reduceCtorEq,t24];apply hK
     cases h;exact rtA
   rw[if_neg hc23] at h;have t25:=eq_false hc23;apply zd;apply hZ16
   refine rgE tok [0,4,6] fun K hK=>?_
   simp only[go_sem,qc,qa,reduceCtorEq,hw13,t25];apply hK
   exact⟨_,_,_,qy q13.length,⟨p13++[y13],q13,x9+1,l7++r19,v8+1,rfl,rfl,rfl,hE'13,hi'13,h⟩,.s⟩
 obtain⟨hz4,hw4,hx4,hE'4,hi'4⟩:=ya hE4 hi4 hb4;simp only[yk.l4] at h
 refine za fun Z26 hZ26=>?_
 refine rg tok [0,4,5,10] fun K hK=>?_
 simp only[go_sem,qc,qa,reduceCtorEq,hz4];apply hK
 refine zs rfl ?_;apply zd;apply hZ26
 refine za fun Z27 hZ27=>?_
 apply ze
 refine rc [0,4,5,18] fun K hK=>?_
 have f28:=E35.idxS hx4;have f29:=E35.loadS rfl rfl hx4;obtain⟨r30,hr30,h⟩:=zD h;refine zj tok 4 ?_;simp only[go_sem,qc,qa,reduceCtorEq,encGRaw,f28,f29];refine clN rfl rfl rfl (wr.ev y4 r30 hr30 _) ?_;refine rnN 1 ?_;refine nkN hK ?_;refine zv (b:=(!r30)) rfl (fun hc31=>?_) (fun hc31=>?_)
 · rw[if_pos hc31] at h;refine rgN [2,3] ?_;cases h;exact rtA
 rw[wb hc31] at h;apply zd;apply hZ27
 refine rgE tok [0,4,5] fun K hK=>?_
 simp only[go_sem,qc,qa,reduceCtorEq,hw4];apply hK
 exact⟨_,_,_,qy q4.length,⟨p4++[y4],q4,x2+1,rfl,rfl,rfl,hE'4,hi'4,h⟩,.s⟩
theorem yk.ev (a0:List GRaw)(r:List UInt8×Int)(h:yk a0=some r)(σ:Store):ACalls qg 104 [.ds true (qd encGRaw a0) (qb a0) false] σ (fun r' σ'=>r'=.tup [.ds true (qd encB r.1) (qb r.1) false,.int .i64 r.2]∧σ'=σ):=
 (yk.ok a0 r h).c σ
def yO.body (z7:GTree→Option (List UInt8×Int))(wk:GTree→Option (List GRaw×Int))(a0:GTree):Option (List UInt8×Int):=
 (wk a0).bind fun r1=>(if r1.2=0 then (yk r1.1).bind fun r6=>some (r6.1,r6.2) else some (([]:List UInt8),r1.2))
theorem yO.step (z7:GTree→Option (List UInt8×Int))(wk:GTree→Option (List GRaw×Int))(Yr:∀ (a0:GTree) (r:List UInt8×Int),z7 a0=some r→ACalls qg 67 [.agg (cellsGTree a0)] [] (fun r' _=>r'=.tup [.ds true (qd encB r.1) (qb r.1) false,.int .i64 r.2]))(Xj:∀ (a0:GTree) (r:List GRaw×Int),wk a0=some r→ACalls qg 103 [.agg (cellsGTree a0)] [] (fun r' _=>r'=.tup [.ds true (qd encGRaw r.1) (qb r.1) false,.int .i64 r.2]))(a0:GTree)(r:List UInt8×Int)(h:yO.body z7 wk a0=some r):ACalls qg 67 [.agg (cellsGTree a0)] [] (fun r' _=>r'=.tup [.ds true (qd encB r.1) (qb r.1) false,.int .i64 r.2]):=by
 have ev_ref11_encode:=fun a0 r h σ=>(Yr a0 r h).c σ
 have ev_ref11_raws:=fun a0 r h σ=>(Xj a0 r h).c σ
 refine zh (rs:=[.tmp 2,.tmp 3]) tok Tryz.func67 rfl Tryz.ntmps67 rfl Tryz.call67 (by simp) ?_;refine zl [(0,.agg (cellsGTree a0))] ⟨rfl,trivial⟩ ?_;unfold yO.body at h
 refine rg tok [1] fun K hK=>?_
 simp only[go_sem,qc,qa,qe,reduceCtorEq,cellsGTree];apply hK
 refine rc [4,5] fun K hK=>?_
 obtain⟨r1,hr1,h⟩:=bind_some h;refine rnN 1 ?_;refine clN rfl rfl rfl (ev_ref11_raws a0 r1 hr1 _) ?_;refine rnN 5 ?_;refine nkN hK ?_
 refine za fun Z2 hZ2=>?_
 refine rgN [4,5,12] ?_;refine zL rfl (fun hc3=>?_) (fun hc3=>?_)
 · rw[if_neg hc3] at h;have t4:=eq_false hc3
   refine rg tok [2,3] fun K hK=>?_
   simp only[go_sem,qc,qa,t4];apply hK
   cases h;exact rtA
 rw[if_pos hc3] at h;have t5:=eq_true hc3;apply zd;apply hZ2
 refine rc [2,3] fun K hK=>?_
 obtain⟨r6,hr6,h⟩:=bind_some h;refine zj tok 1 ?_;simp only[go_sem,qc,qa,t5];refine clN rfl rfl rfl (yk.ev r1.1 r6 hr6 _) ?_;refine rnN 4 ?_;refine nkN hK ?_;cases h;exact rtA
def zU.j37 (x18:Int)(l16:List GRaw)(rec22:Int→List GRaw→Option (List GRaw×Int))(m2_36:GRaw):Option (List GRaw×Int):=
 (if 4096<(qb m2_36.fB:Int) then some (([]:List GRaw),4) else (YJ (qb l16+1) 40).bind fun _u42=>(rec22 (x18+1) (l16++[m2_36])))
def zU.l22 (z7:GTree→Option (List UInt8×Int))(x4:Int)(rec8:Int→List GRaw→Option (List GRaw×Int))(y8:GEntry):List GTree→Int→List GRaw→Option (List GRaw×Int)
 |[],x18,l16=>(rec8 (x4+1) l16)
 |y22::q22,x18,l16=>(if y22.fKind=1 then (zU.j37 x18 l16 (zU.l22 z7 x4 rec8 y8 q22) (⟨y8.fTag,0,y22.fN,[]⟩:GRaw)) else (if y22.fKind=2 then (zU.j37 x18 l16 (zU.l22 z7 x4 rec8 y8 q22) (⟨y8.fTag,1,0,y22.fS⟩:GRaw)) else (z7 y22).bind fun r50=>(if r50.2=0 then (zU.j37 x18 l16 (zU.l22 z7 x4 rec8 y8 q22) (⟨y8.fTag,1,0,r50.1⟩:GRaw)) else some (([]:List GRaw),r50.2))))
def zU.l8 (z7:GTree→Option (List UInt8×Int))(a0:GTree):List GEntry→Int→List GRaw→Option (List GRaw×Int)
 |[],x4,l2=>(YJ (qb l2+qb a0.fRest) 40).bind fun _u11=>(zK (l2++a0.fRest)).bind fun r13=>some (r13,0)
 |y8::q8,x4,l2=>(zU.l22 z7 x4 (zU.l8 z7 a0 q8) y8 y8.fTrees 0 l2)
def zU.body (z7:GTree→Option (List UInt8×Int))(wk:GTree→Option (List GRaw×Int))(a0:GTree):Option (List GRaw×Int):=
 (zU.l8 z7 a0 a0.fEntries 0 ([]:List GRaw))
theorem zU.step (z7:GTree→Option (List UInt8×Int))(wk:GTree→Option (List GRaw×Int))(Yr:∀ (a0:GTree) (r:List UInt8×Int),z7 a0=some r→ACalls qg 67 [.agg (cellsGTree a0)] [] (fun r' _=>r'=.tup [.ds true (qd encB r.1) (qb r.1) false,.int .i64 r.2]))(Xj:∀ (a0:GTree) (r:List GRaw×Int),wk a0=some r→ACalls qg 103 [.agg (cellsGTree a0)] [] (fun r' _=>r'=.tup [.ds true (qd encGRaw r.1) (qb r.1) false,.int .i64 r.2]))(a0:GTree)(r:List GRaw×Int)(h:zU.body z7 wk a0=some r):ACalls qg 103 [.agg (cellsGTree a0)] [] (fun r' _=>r'=.tup [.ds true (qd encGRaw r.1) (qb r.1) false,.int .i64 r.2]):=by
 have ev_ref11_encode:=fun a0 r h σ=>(Yr a0 r h).c σ
 have ev_ref11_raws:=fun a0 r h σ=>(Xj a0 r h).c σ
 refine zh (rs:=[.tmp 2,.tmp 3]) tok Tryz.func103 rfl Tryz.ntmps103 rfl Tryz.call103 (by simp) ?_;refine zl [(0,.agg (cellsGTree a0))] ⟨rfl,trivial⟩ ?_;unfold zU.body at h
 refine rg tok [1] fun K hK=>?_
 simp only[go_sem,qc,qa,qe,reduceCtorEq,cellsGTree];apply hK
 refine rgN [1,4] ?_;refine Zt 4 4 rfl ?_;refine yn (L:=[(1,.op 0 0 0),(4,.os true 4 1 0 0 (qb ([]:List GRaw)) false)]) (τ:=[.cells 0 (cellsGTree a0),.cells 0 (qd encGRaw ([]:List GRaw))]) .s ?_
 refine za fun Z1 hZ1=>?_
 refine rgN [1,4,5] ?_;apply ze
 refine Zu 0 rfl fun hb8=>?_
 replace hb8:qb a0.fEntries≤9223372036854775807:=hb8.2.2.2.1.1;refine zF (fun m L τ=>∃ (p8 q8:List GEntry) (x4:Int) (l2:List GRaw) (v3:Nat),m=qb q8∧L=[(1,.op 0 0 0),(4,.os true 4 1 v3 0 (qb l2) false),(5,.int .i64 x4)]∧τ=[.cells 0 (cellsGTree a0),.cells v3 (qd encGRaw l2)]∧a0.fEntries=p8++q8∧x4=(qb p8:Int)∧zU.l8 z7 a0 q8 x4 l2=some r) _ ⟨[],a0.fEntries,0,([]:List GRaw),0,rfl,rfl,rfl,rfl,rfl,h⟩ .s ?_;rintro m L τ ⟨p8,q8,x4,l2,v3,rfl,rfl,rfl,hE8,hi8,h⟩
 rcases q8 with _|⟨y8,q8⟩
 · have hz8:=yH hE8 hi8;simp only[zU.l8] at h
   refine za fun Z9 hZ9=>?_
   refine rg tok [1,4,5,15] fun K hK=>?_
   simp only[go_sem,qc,qa,qe,hz8];apply hK
   refine zp rfl ?_;apply zA;apply hZ1
   refine rc [2,3] fun K hK=>?_
   have f10:=fun nl tt σ=>wj E35.len a0.fRest nl tt σ
   obtain⟨_u11,hu11,h⟩:=bind_some h;have gu11:=yF hu11;have f12:=(zy E35.len l2);obtain⟨r13,hr13,h⟩:=bind_some h;refine zj tok 4 ?_;simp only[go_sem,qc,qa,qe,yx,zY,yC,true_and,f10,gu11,f12,ZU,qk,qr,qn];refine YZ (L:=[(80,.ds true (qd encGRaw (l2++a0.fRest)) (qb (l2++a0.fRest)) false)]) (τ:=[]) (.t [] false) ?_;refine clN rfl rfl rfl (zK.ev (l2++a0.fRest) r13 hr13 _) ?_;refine rnN 2 ?_;refine nkN hK ?_;refine yn (L:=[(2,.ds true (qd encGRaw r13) (qb r13) false),(3,.int .i64 0)]) (τ:=[]) .s ?_;cases h;exact rtA
 obtain⟨hz8,hw8,hx8,hE'8,hi'8⟩:=ya hE8 hi8 hb8;simp only[zU.l8] at h
 refine za fun Z14 hZ14=>?_
 refine rg tok [1,4,5,15] fun K hK=>?_
 simp only[go_sem,qc,qa,qe,hz8];apply hK
 refine zs rfl ?_;apply zd;apply hZ14
 refine za fun Z15 hZ15=>?_
 apply ze;refine rgN [1,4,5,6] ?_;apply ze
 refine Zu 0 rfl fun hb22=>?_
 replace hb22:=deepL_idx hb22.2.2.2.1.2 hx8;rw[zZ] at hb22;replace hb22:qb y8.fTrees≤9223372036854775807:=hb22.2.1.1;refine zF (fun m L τ=>∃ (p22 q22:List GTree) (x18:Int) (l16:List GRaw) (v17:Nat),m=qb q22∧L=[(1,.op 0 0 0),(4,.os true 4 1 v17 0 (qb l16) false),(5,.int .i64 x4),(6,.int .i64 x18)]∧τ=[.cells 0 (cellsGTree a0),.cells v17 (qd encGRaw l16)]∧y8.fTrees=p22++q22∧x18=(qb p22:Int)∧zU.l22 z7 x4 (zU.l8 z7 a0 q8) y8 q22 x18 l16=some r) _ ⟨[],y8.fTrees,0,l2,v3,rfl,rfl,rfl,rfl,rfl,h⟩ .s ?_;rintro m L τ ⟨p22,q22,x18,l16,v17,rfl,rfl,rfl,hE22,hi22,h⟩
 rcases q22 with _|⟨y22,q22⟩
 · have hz22:=yH hE22 hi22;simp only[zU.l22] at h
   refine za fun Z23 hZ23=>?_
   have f24:=E34.idxS hx8;have f25:=E34.fldS (f:=38) rfl rfl hx8 (o:=1) (by decide)
   refine rg tok [1,4,5,6,26] fun K hK=>?_
   simp only[go_sem,qc,qa,qe,cellsGEntry,zZ,hz22,f24,f25];apply hK
   refine zp rfl ?_;apply zA;apply hZ15
   refine rgE tok [1,4,5] fun K hK=>?_
   simp only[go_sem,qc,qa,hw8];apply hK
   exact⟨_,_,_,qy q8.length,⟨p8++[y8],q8,x4+1,l16,v17,rfl,rfl,rfl,hE'8,hi'8,h⟩,.s⟩
 obtain⟨hz22,hw22,hx22,hE'22,hi'22⟩:=ya hE22 hi22 hb22;simp only[zU.l22] at h
 refine za fun Z26 hZ26=>?_
 have f27:=E34.idxS hx8;have f28:=E34.fldS (f:=38) rfl rfl hx8 (o:=1) (by decide)
 refine rg tok [1,4,5,6,26] fun K hK=>?_
 simp only[go_sem,qc,qa,qe,cellsGEntry,zZ,hz22,f27,f28];apply hK
 refine zs rfl ?_;apply zd;apply hZ26
 refine za fun Z29 hZ29=>?_
 apply ze;have f30:=E34.idxS hx8;have f31:=E34.fldS (f:=38) rfl rfl hx8 (o:=1) (by decide);have f32:=E38.idxS hx22;have f33:=E38.loadS rfl rfl hx22
 refine rg tok [1,4,5,6,7] fun K hK=>?_
 simp only[go_sem,qc,qf,qa,qe,cellsGEntry,cellsGTree,zZ,zH,f30,f31,f32,f33];apply hK
 have f34:=E34.idxS hx8;have f35:=E34.fldS0 (f:=3) rfl rfl hx8
 refine rg tok [1,4,5,6,7,8] fun K hK=>?_
 simp only[go_sem,qc,qf,qa,qe,cellsGEntry,zZ,f34,f35];apply hK
 refine yU (fun L τ=>∃ (m2_36:GRaw),L=[(1,.op 0 0 0),(4,.os true 4 1 v17 0 (qb l16) false),(5,.int .i64 x4),(6,.int .i64 x18),(8,.op 2 0 0)]∧τ=[.cells 0 (cellsGTree a0),.cells v17 (qd encGRaw l16),.cells 0 [.int .i64 m2_36.fTag,.int .i64 m2_36.fWire,.int .i64 m2_36.fN,.str m2_36.fB]]∧zU.j37 x18 l16 (zU.l22 z7 x4 (zU.l8 z7 a0 q8) y8 q22) m2_36=some r) ?_ ?_
 · refine rgN [1,4,5,6,7,8,46] ?_;apply ze;refine rgN [1,4,5,6,7,8,46,58] ?_;refine zL rfl (fun hc44=>?_) (fun hc44=>?_)
   · rw[if_pos hc44] at h;have t45:=eq_true hc44
     refine rg tok [1,4,5,6,7,8] fun K hK=>?_
     simp only[go_sem,qc,qf,qa,qe,t45];apply hK
     refine rgE tok [1,4,5,6,8] fun K hK=>?_
     simp only[go_sem,qc,qf,qa,qe];apply hK
     exact⟨_,_,⟨(⟨y8.fTag,0,y22.fN,[]⟩:GRaw),rfl,rfl,h⟩,(.t [0,1,3] false)⟩
   rw[if_neg hc44] at h;have t46:=eq_false hc44
   refine rg tok [1,4,5,6,7,8,64] fun K hK=>?_
   simp only[go_sem,qc,qa,t46];apply hK
   refine zL rfl (fun hc47=>?_) (fun hc47=>?_)
   · rw[if_pos hc47] at h;have t48:=eq_true hc47
     refine rgE tok [1,4,5,6,8] fun K hK=>?_
     simp only[go_sem,qc,qf,qa,qe,t48];apply hK
     exact⟨_,_,⟨(⟨y8.fTag,1,0,y22.fS⟩:GRaw),rfl,rfl,h⟩,(.t [0,1,3] false)⟩
   rw[if_neg hc47] at h;have t49:=eq_false hc47
   refine rc [1,4,5,6,8,9,10] fun K hK=>?_
   obtain⟨r50,hr50,h⟩:=bind_some h;refine zj tok 1 ?_;simp only[go_sem,qc,qf,qa,qe,t49];refine clN rfl rfl rfl (ev_ref11_encode y22 r50 hr50 _) ?_;refine rnN 5 ?_;refine nkN hK ?_
   refine za fun Z51 hZ51=>?_
   refine rgN [1,4,5,6,8,9,10,53] ?_;refine zL rfl (fun hc52=>?_) (fun hc52=>?_)
   · rw[if_neg hc52] at h;have t53:=eq_false hc52
     refine rg tok [2,3] fun K hK=>?_
     simp only[go_sem,qc,qa,t53];apply hK
     cases h;exact rtA
   rw[if_pos hc52] at h;have t54:=eq_true hc52;apply zd;apply hZ51;have f55:=XW (T:=tab) (src:=48) (dst:=9) rfl rfl rfl rfl rfl rfl r50.1
   refine rgE tok [1,4,5,6,8] fun K hK=>?_
   simp only[go_sem,qc,qf,qa,qe,t54,f55];apply hK
   exact⟨_,_,⟨(⟨y8.fTag,1,0,r50.1⟩:GRaw),rfl,rfl,h⟩,(.t [0,1,3] false)⟩
 rintro _ _ ⟨m2_36,rfl,rfl,h⟩;unfold zU.j37 at h
 refine za fun Z38 hZ38=>?_
 refine rgN [1,4,5,6,8,72] ?_;refine zL rfl (fun hc39=>?_) (fun hc39=>?_)
 · rw[if_pos hc39] at h;have t40:=eq_true hc39
   refine rg tok [2,3] fun K hK=>?_
   simp only[go_sem,qc,qa,t40];apply hK
   cases h;exact rtA
 rw[if_neg hc39] at h;have t41:=eq_false hc39;apply zd;apply hZ38;obtain⟨_u42,hu42,h⟩:=bind_some h;have gu42:=yF hu42;have f43:=(zy E35.len l16)
 refine rgE tok [1,4,5,6] fun K hK=>?_
 simp only[go_sem,qc,qf,qa,qe,ql,zM,z8,q1,qT,true_and,ub,yx,zY,yC,t41,gu42,f43,yS,uc,qZ,AV.one,qO,qK,qk,qr,qn,qM];apply hK
 apply hZ29
 refine rgE tok [1,4,5,6] fun K hK=>?_
 simp only[go_sem,qc,qa,hw22];apply hK
 exact⟨_,_,_,qy q22.length,⟨p22++[y22],q22,x18+1,l16++[m2_36],v17+1,rfl,rfl,rfl,hE'22,hi'22,h⟩,(.t [0,1] false)⟩
end
section
set_option maxRecDepth 4000
set_option maxHeartbeats 1000000
open AM
mutual
def yO : Nat→GTree→Option (List UInt8×Int)
 |0,_=>none
 |k+1,a0=>yO.body (yO k) (zU k) a0
def zU : Nat→GTree→Option (List GRaw×Int)
 |0,_=>none
 |k+1,a0=>zU.body (yO k) (zU k) a0
end
theorem yO.all (k:Nat):(∀ (a0:GTree) (r:List UInt8×Int),yO k a0=some r→ACalls qg 67 [.agg (cellsGTree a0)] [] (fun r' _=>r'=.tup [.ds true (qd encB r.1) (qb r.1) false,.int .i64 r.2]))∧(∀ (a0:GTree) (r:List GRaw×Int),zU k a0=some r→ACalls qg 103 [.agg (cellsGTree a0)] [] (fun r' _=>r'=.tup [.ds true (qd encGRaw r.1) (qb r.1) false,.int .i64 r.2])):=by
 induction k with
 |zero=>exact⟨(fun a0 r h=>by simp only[yO] at h; cases h),(fun a0 r h=>by simp only[zU] at h; cases h)⟩
 |succ k ih=>exact⟨(fun a0 r h=>yO.step _ _ ih.1 ih.2 a0 r (by simpa only [yO] using h)),(fun a0 r h=>zU.step _ _ ih.1 ih.2 a0 r (by simpa only [zU] using h))⟩
theorem yO.ev (k:Nat)(a0:GTree)(r:List UInt8×Int)(h:yO k a0=some r)(σ:Store):ACalls qg 67 [.agg (cellsGTree a0)] σ (fun r' σ'=>r'=.tup [.ds true (qd encB r.1) (qb r.1) false,.int .i64 r.2]∧σ'=σ):=
 ((yO.all k).1 a0 r h).c σ
def xC (a0:GTree):Option (List UInt8×Int):=
 (if a0.fKind=3 then (wK a0).bind fun r2=>some (!r2) else some true).bind fun c2=>(if c2=true then some (([]:List UInt8),1) else (yO rounds a0).bind fun r7=>some (r7.1,r7.2))
theorem xC.ok (a0:GTree)(r:List UInt8×Int)(h:xC a0=some r):ACalls qg 20 [.agg (cellsGTree a0)] [] (fun r' _=>r'=.tup [.ds true (qd encB r.1) (qb r.1) false,.int .i64 r.2]):=by
 refine zh (rs:=[.tmp 2,.tmp 3]) tok Tryz.func20 rfl Tryz.ntmps20 rfl Tryz.call20 (by simp) ?_;refine zl [(0,.agg (cellsGTree a0))] ⟨rfl,trivial⟩ ?_;unfold xC at h
 refine rg tok [1] fun K hK=>?_
 simp only[go_sem,qc,qa,qe,reduceCtorEq,cellsGTree];apply hK
 refine za fun Z1 hZ1=>?_
 refine rc [1,11] fun K hK=>?_
 refine rnN 4 ?_;obtain⟨c2,hc2,h⟩:=bind_some h;refine zq 4 (fun L τ=>L=[(1,.op 0 0 0),(11,.bool c2)]∧τ=[.cells 0 (cellsGTree a0)]) ?_ ?_
 · refine yW 7 rfl (fun hg7=>?_) (fun hg7=>?_)
   · have t3:=eq_false hg7;rw[if_neg hg7] at hc2;refine rnN 4 ?_;cases hc2;refine zb ⟨rfl,_,_,⟨rfl,rfl⟩,.p t3⟩
   have t4:=eq_true hg7;rw[if_pos hg7] at hc2;obtain⟨r5,hr5,hc2⟩:=bind_some hc2;refine rnN 1 ?_;refine clN rfl rfl rfl (wK.ev a0 r5 hr5 _) ?_;refine rnN 2 ?_;cases hc2;refine zb ⟨rfl,_,_,⟨rfl,rfl⟩,.p t4⟩
 rintro _ _ ⟨rfl,rfl⟩;refine nkN hK ?_;refine zv (b:=c2) rfl (fun hc6=>?_) (fun hc6=>?_)
 · rw[if_pos hc6] at h;refine rgN [2,3] ?_;cases h;exact rtA
 rw[wb hc6] at h;apply zd;apply hZ1
 refine rc [2,3] fun K hK=>?_
 obtain⟨r7,hr7,h⟩:=bind_some h;refine rnN 1 ?_;refine clN rfl rfl rfl (yO.ev rounds a0 r7 hr7 _) ?_;refine rnN 4 ?_;refine nkN hK ?_;cases h;exact rtA
theorem xC.ev (a0:GTree)(r:List UInt8×Int)(h:xC a0=some r)(σ:Store):ACalls qg 20 [.agg (cellsGTree a0)] σ (fun r' σ'=>r'=.tup [.ds true (qd encB r.1) (qb r.1) false,.int .i64 r.2]∧σ'=σ):=
 (xC.ok a0 r h).c σ
def wX  : Option Bool:=
 bnd (wv 1) fun r1=>(xB 1 0 [1] [r1]).bind fun r2=>(match r2.1 with|.none=>(if ((!(decide (r2.2=0)))||true)=true then some false else none)|.some y3=>(if ((!(decide (r2.2=0)))||false)=true then some false else (yq y3 [99] (⟨3,0,[],([]:List GEntry),([]:List GRaw)⟩:GTree)).bind fun r12=>(zo r12.2.2 (⟨2,0,1,1,1,[],0,[]⟩:GPacket)).bind fun r13=>bnd (if (((((decide (r12.2.1=0))&&(decide (r12.1.fKind=1)))&&r13.2.1)&&(decide (r13.1.fKind=3)))&&(decide (r13.1.fVersion=1)))=true then bnd (wE r13.2.2) fun r16=>r16 else false) fun c16=>some c16))
theorem wX.ok  (r:Bool)(h:wX=some r):ACalls qg 24 [] [] (fun r' _=>r'=.bool r):=by
 refine zh (rs:=[.tmp 0]) tok Tryz.func24 rfl Tryz.ntmps24 rfl Tryz.call24 (by simp) ?_;refine zl [] trivial ?_;unfold wX at h;refine rgN [] ?_
 refine rc [1,2] fun K hK=>?_
 obtain⟨r1,hr1,h⟩:=zD h;refine zj tok 1 ?_;simp only[go_sem,qc,qf,ql,zM,z8,q1,qT,true_and,ub];refine clN rfl rfl rfl (wv.ev 1 r1 hr1 _) ?_;obtain⟨r2,hr2,h⟩:=bind_some h;refine zj tok 1 ?_;simp only[go_sem,qc,qf,qa,qe,ql,zM,z8,q1,qT,true_and,ub,encGSchema];refine YZ (L:=[(8,.ds true (qd encI [1]) (qb [1]) false),(10,.ds true (qd encGSchema [r1]) (qb [r1]) false)]) (τ:=[]) (.t [] false) ?_;refine clN rfl rfl rfl (xB.at 1 0 [1] [r1] r2 hr2 _) ?_;refine zj tok 5 ?_;simp only[go_sem,qc,qa,qe,encGSchema];refine nkN hK ?_
 generalize hz3:r2.1=z3 at h ⊢
 rcases z3 with _|y3
 · try dsimp only at h
   simp only[newV_none,newO_none]
   refine za fun Z4 hZ4=>?_
   refine rc [1,19] fun K hK=>?_
   refine rnN 3 ?_;refine zq 3 (fun L τ=>L=[(1,.nilp),(19,.bool ((!(decide (r2.2=0)))||true))]∧τ=[.dead]) ?_ ?_
   · refine yW 16 rfl (fun hg16=>?_) (fun hg16=>?_)
     · have t5:=eq_false hg16;refine rnN 3 ?_;refine zb ⟨rfl,_,_,⟨rfl,rfl⟩,.p t5⟩
     have t6:=eq_true hg16;refine zj tok 3 ?_;simp only[go_sem,qc,qa,evEq];refine zb ⟨rfl,_,_,⟨rfl,rfl⟩,.p t6⟩
   rintro _ _ ⟨rfl,rfl⟩;refine nkN hK ?_;refine zv (b:=((!(decide (r2.2=0)))||true)) rfl (fun hc7=>?_) (fun hc7=>?_)
   · rw[if_pos hc7] at h;refine rgN [0] ?_;cases h;exact rtA
   rw[wb hc7] at h;apply zd;apply hZ4;cases h
 try dsimp only at h
 simp only[newV_some,newO_some]
 refine za fun Z8 hZ8=>?_
 refine rc [1,19] fun K hK=>?_
 refine rnN 3 ?_;refine zq 3 (fun L τ=>L=[(1,.op 0 0 0),(19,.bool ((!(decide (r2.2=0)))||false))]∧τ=[.cells 0 (encGClientClient y3)]) ?_ ?_
 · refine yW 16 rfl (fun hg16=>?_) (fun hg16=>?_)
   · have t9:=eq_false hg16;refine rnN 3 ?_;refine zb ⟨rfl,_,_,⟨rfl,rfl⟩,.p t9⟩
   have t10:=eq_true hg16;refine zj tok 3 ?_;simp only[go_sem,qc,qa,evEq];refine zb ⟨rfl,_,_,⟨rfl,rfl⟩,.p t10⟩
 rintro _ _ ⟨rfl,rfl⟩;refine nkN hK ?_;refine zv (b:=((!(decide (r2.2=0)))||false)) rfl (fun hc11=>?_) (fun hc11=>?_)
 · rw[if_pos hc11] at h;refine rgN [0] ?_;cases h;exact rtA
 rw[wb hc11] at h;apply zd;apply hZ8
 refine rc [1,3,4] fun K hK=>?_
 obtain⟨r12,hr12,h⟩:=bind_some h;refine rnN 2 ?_;refine clN rfl rfl rfl (ACalls.loose (@id (ACalls qg 18 [.op 0 0 0,.str [99],.agg [.int .i64 3,.int .i64 0,.str [],.ds true (qd encGEntry ([]:List GEntry)) (qb ([]:List GEntry)) false,.ds true (qd encGRaw ([]:List GRaw)) (qb ([]:List GRaw)) false]] [.cells 0 (encGClientClient y3)] (fun r' σ'=>r'=.tup [.agg (encGPacket r12.1),.int .i64 r12.2.1]∧σ'=[.cells 0 (encGClientClient r12.2.2)])) ((yq.ok y3 [99] (⟨3,0,[],([]:List GEntry),([]:List GRaw)⟩:GTree) r12 hr12).i [0]))) ?_;refine zj tok 6 ?_;simp only[go_sem,qc,qf,qa,qe,encGPacket];refine nkN hK ?_
 refine rc [1,3,4,5,6] fun K hK=>?_
 obtain⟨r13,hr13,h⟩:=bind_some h;refine rnN 2 ?_;refine clN rfl rfl rfl (@id (ACalls qg 19 [.op 0 0 0,.agg [.int .i64 2,.int .i64 0,.int .i64 1,.int .i64 1,.int .i64 1,.str [],.int .i64 0,.str []]] [.cells 0 (encGClientClient r12.2.2),.cells 0 (encGPacket r12.1)] (fun r' σ'=>r'=.tup [.agg (encGPacket r13.1),.bool r13.2.1]∧σ'=[.cells 0 (encGClientClient r13.2.2),.cells 0 (encGPacket r12.1)])) ((zo.ok r12.2.2 (⟨2,0,1,1,1,[],0,[]⟩:GPacket) r13 hr13).i [0])) ?_;refine zj tok 6 ?_;simp only[go_sem,qc,qf,qa,qe,encGPacket];refine nkN hK ?_
 refine rc [0] fun K hK=>?_
 refine rnN 3 ?_;refine zq 4 (fun L τ=>L=[(1,.op 0 0 0),(5,.op 2 0 0),(6,.bool r13.2.1),(38,.bool ((decide (r12.2.1=0))&&(decide (r12.1.fKind=1))))]∧τ=[.cells 0 (encGClientClient r13.2.2),.cells 0 (encGPacket r12.1),.cells 0 (encGPacket r13.1)]) ?_ ?_
 · refine yW 34 rfl (fun hg34=>?_) (fun hg34=>?_)
   · have t14:=eq_true hg34;refine rnN 4 ?_;refine zb ⟨rfl,_,_,⟨rfl,rfl⟩,.p t14⟩
   have t15:=eq_false hg34;refine rnN 4 ?_;refine zb ⟨rfl,_,_,⟨rfl,rfl⟩,.p t15⟩
 rintro _ _ ⟨rfl,rfl⟩;refine rnN 1 ?_;refine zq 2 (fun L τ=>L=[(1,.op 0 0 0),(5,.op 2 0 0),(41,.bool (((decide (r12.2.1=0))&&(decide (r12.1.fKind=1)))&&r13.2.1))]∧τ=[.cells 0 (encGClientClient r13.2.2),.cells 0 (encGPacket r12.1),.cells 0 (encGPacket r13.1)]) ?_ ?_
 · refine yf (b:=((decide (r12.2.1=0))&&(decide (r12.1.fKind=1)))) 39 rfl (fun hg39=>?_) (fun hg39=>?_)
   · refine rnN 2 ?_;refine zb ⟨rfl,_,_,⟨rfl,rfl⟩,.b hg39⟩
   refine rnN 2 ?_;refine zb ⟨rfl,_,_,⟨rfl,rfl⟩,.b hg39⟩
 rintro _ _ ⟨rfl,rfl⟩;refine rnN 1 ?_;refine zq 4 (fun L τ=>L=[(1,.op 0 0 0),(5,.op 2 0 0),(46,.bool ((((decide (r12.2.1=0))&&(decide (r12.1.fKind=1)))&&r13.2.1)&&(decide (r13.1.fKind=3))))]∧τ=[.cells 0 (encGClientClient r13.2.2),.cells 0 (encGPacket r12.1),.cells 0 (encGPacket r13.1)]) ?_ ?_
 · refine yf (b:=(((decide (r12.2.1=0))&&(decide (r12.1.fKind=1)))&&r13.2.1)) 42 rfl (fun hg42=>?_) (fun hg42=>?_)
   · refine rnN 4 ?_;refine zb ⟨rfl,_,_,⟨rfl,rfl⟩,.b hg42⟩
   refine rnN 4 ?_;refine zb ⟨rfl,_,_,⟨rfl,rfl⟩,.b hg42⟩
 rintro _ _ ⟨rfl,rfl⟩;refine rnN 1 ?_;refine zq 4 (fun L τ=>L=[(1,.op 0 0 0),(51,.bool (((((decide (r12.2.1=0))&&(decide (r12.1.fKind=1)))&&r13.2.1)&&(decide (r13.1.fKind=3)))&&(decide (r13.1.fVersion=1))))]∧τ=[.cells 0 (encGClientClient r13.2.2),.cells 0 (encGPacket r12.1),.cells 0 (encGPacket r13.1)]) ?_ ?_
 · refine yf (b:=((((decide (r12.2.1=0))&&(decide (r12.1.fKind=1)))&&r13.2.1)&&(decide (r13.1.fKind=3)))) 47 rfl (fun hg47=>?_) (fun hg47=>?_)
   · refine rnN 4 ?_;refine zb ⟨rfl,_,_,⟨rfl,rfl⟩,.b hg47⟩
   refine rnN 4 ?_;refine zb ⟨rfl,_,_,⟨rfl,rfl⟩,.b hg47⟩
 rintro _ _ ⟨rfl,rfl⟩;refine rnN 1 ?_;obtain⟨c16,hc16,h⟩:=zD h;refine zq 3 (fun L τ=>L=[(55,.bool c16)]∧τ=[.cells 0 (encGClientClient r13.2.2),.cells 0 (encGPacket r12.1),.cells 0 (encGPacket r13.1)]) ?_ ?_
 · refine yf (b:=(((((decide (r12.2.1=0))&&(decide (r12.1.fKind=1)))&&r13.2.1)&&(decide (r13.1.fKind=3)))&&(decide (r13.1.fVersion=1)))) 52 rfl (fun hg52=>?_) (fun hg52=>?_)
   · rw[if_pos hg52] at hc16;obtain⟨r17,hr17,hc16⟩:=zD hc16;refine rnN 1 ?_;refine clN rfl rfl rfl (@id (ACalls qg 26 [.op 0 0 0] [.cells 0 (encGClientClient r13.2.2),.cells 0 (encGPacket r12.1),.cells 0 (encGPacket r13.1)] (fun r' σ'=>r'=.bool r17∧σ'=[.cells 0 (encGClientClient r13.2.2),.cells 0 (encGPacket r12.1),.cells 0 (encGPacket r13.1)])) ((wE.ok r13.2.2 r17 hr17).i [0])) ?_;refine rnN 1 ?_;subst hc16;refine zb ⟨rfl,_,_,⟨rfl,rfl⟩,.b hg52⟩
   rw[wb hg52] at hc16;refine rnN 3 ?_;subst hc16;refine zb ⟨rfl,_,_,⟨rfl,rfl⟩,.b hg52⟩
 rintro _ _ ⟨rfl,rfl⟩;refine rnN 1 ?_;refine nkN hK ?_;cases h;exact rtA
theorem wX.ev  (r:Bool)(h:wX=some r)(σ:Store):ACalls qg 24 [] σ (fun r' σ'=>r'=.bool r∧σ'=σ):=
 (wX.ok  r h).c σ
def law23_ClientElder.j25 (x24:Bool):Option Bool:=
 some x24
def law23_ClientElder (a0:Int)(a1:Int):Option Bool:=
 bnd (wv 1) fun r1=>bnd (wv 2) fun r2=>(xB 1 0 [1,2] [r1,r2]).bind fun r3=>(match r3.1 with|.none=>(if r3.2=0 then none else some false)|.some y4=>(if r3.2=0 then bnd (zX a0) fun r13=>(yq y4 [99] r13).bind fun r14=>(zo r14.2.2 (⟨2,0,1,r14.1.fID,1,[],0,[]⟩:GPacket)).bind fun r15=>bnd (wC a0) fun r16=>bnd (zX r16) fun r17=>(xC r17).bind fun r18=>bnd (zX a1) fun r19=>(xC r19).bind fun r20=>(zo r15.2.2 (⟨4,0,1,r14.1.fID,1,[],0,r20.1⟩:GPacket)).bind fun r22=>bnd (xX r22.2.2) fun r23=>(if r14.2.1=0 then (if r15.2.1=true then (if r15.1.fBody=r18.1 then (if r15.1.fVersion=1 then (if r23.2.2.2.1=true then (if r23.2.2.1=0 then bnd (zX a1) fun r31=>(zQ rounds r23.2.1 r31).bind fun r32=>(if r32=true then (wX).bind fun r33=>(law23_ClientElder.j25 r33) else (law23_ClientElder.j25 false)) else (law23_ClientElder.j25 false)) else (law23_ClientElder.j25 false)) else (law23_ClientElder.j25 false)) else (law23_ClientElder.j25 false)) else (law23_ClientElder.j25 false)) else (law23_ClientElder.j25 false)) else some false))
theorem law23_ClientElder.ok (a0:Int)(a1:Int)(r:Bool)(h:law23_ClientElder a0 a1=some r):ACalls qg 3 [.int .i64 a0,.int .i64 a1] [] (fun r' _=>r'=.bool r):=by
 refine zh (rs:=[.tmp 4]) tok Tryz.func3 rfl Tryz.ntmps3 rfl Tryz.call3 (by simp) ?_;refine zl [(0,.int .i64 a0),(1,.int .i64 a1)] ⟨rfl,rfl,trivial⟩ ?_;unfold law23_ClientElder at h;refine rgN [0,1] ?_
 refine rc [0,1,5,6] fun K hK=>?_
 obtain⟨r1,hr1,h⟩:=zD h;refine zj tok 1 ?_;simp only[go_sem,qc,qf,qe,ql,zM,z8,q1,qT,true_and,ub];refine clN rfl rfl rfl (wv.ev 1 r1 hr1 _) ?_;obtain⟨r2,hr2,h⟩:=zD h;refine clN rfl rfl rfl (wv.ev 2 r2 hr2 _) ?_;obtain⟨r3,hr3,h⟩:=bind_some h;refine zj tok 1 ?_;simp only[go_sem,qc,qf,qa,qe,ql,reduceCtorEq,zM,z8,q1,qT,true_and,ub,encGSchema];refine YZ (L:=[(0,.int .i64 a0),(1,.int .i64 a1),(21,.ds true (qd encI [1,2]) (qb [1,2]) false),(24,.ds true (qd encGSchema [r1,r2]) (qb [r1,r2]) false)]) (τ:=[]) (.t [] false) ?_;refine clN rfl rfl rfl (xB.at 1 0 [1,2] [r1,r2] r3 hr3 _) ?_;refine zj tok 5 ?_;simp only[go_sem,qc,qa,qe,reduceCtorEq,encGSchema];refine nkN hK ?_
 generalize hz4:r3.1=z4 at h ⊢
 rcases z4 with _|y4
 · try dsimp only at h
   simp only[newV_none,newO_none]
   refine za fun Z5 hZ5=>?_
   refine rgN [0,1,5,29] ?_;refine zL rfl (fun hc6=>?_) (fun hc6=>?_)
   · rw[if_neg hc6] at h;have t7:=eq_false hc6
     refine rg tok [4] fun K hK=>?_
     simp only[go_sem,qc,qa,reduceCtorEq,t7];apply hK
     cases h;exact rtA
   rw[if_pos hc6] at h;have t8:=eq_true hc6;apply zd;apply hZ5
   refine rg tok [0,1,5,7] fun K hK=>?_
   simp only[go_sem,qc,qa,reduceCtorEq,t8];apply hK
   cases h
 try dsimp only at h
 simp only[newV_some,newO_some]
 refine za fun Z9 hZ9=>?_
 refine rgN [0,1,5,29] ?_;refine zL rfl (fun hc10=>?_) (fun hc10=>?_)
 · rw[if_neg hc10] at h;have t11:=eq_false hc10
   refine rg tok [4] fun K hK=>?_
   simp only[go_sem,qc,qa,reduceCtorEq,t11];apply hK
   cases h;exact rtA
 rw[if_pos hc10] at h;have t12:=eq_true hc10;apply zd;apply hZ9
 refine rg tok [0,1,5,7] fun K hK=>?_
 simp only[go_sem,qc,qa,reduceCtorEq,t12];apply hK
 refine rc [0,1,5,7,8,9] fun K hK=>?_
 obtain⟨r13,hr13,h⟩:=zD h;refine rnN 3 ?_;refine clN rfl rfl rfl (zX.ev a0 r13 hr13 _) ?_;obtain⟨r14,hr14,h⟩:=bind_some h;refine clN rfl rfl rfl (@id (ACalls qg 18 [.op 0 0 0,.str [99],.agg (cellsGTree r13)] [.cells 0 (encGClientClient y4)] (fun r' σ'=>r'=.tup [.agg (encGPacket r14.1),.int .i64 r14.2.1]∧σ'=[.cells 0 (encGClientClient r14.2.2)])) ((yq.ok y4 [99] r13 r14 hr14).i [0])) ?_;refine zj tok 6 ?_;simp only[go_sem,qc,qf,qa,qe,reduceCtorEq,encGPacket];refine nkN hK ?_
 refine rc [0,1,5,7,8,9,10,11] fun K hK=>?_
 obtain⟨r15,hr15,h⟩:=bind_some h;refine rnN 4 ?_;refine clN rfl rfl rfl (@id (ACalls qg 19 [.op 0 0 0,.agg [.int .i64 2,.int .i64 0,.int .i64 1,.int .i64 r14.1.fID,.int .i64 1,.str [],.int .i64 0,.str []]] [.cells 0 (encGClientClient r14.2.2),.cells 0 (encGPacket r14.1)] (fun r' σ'=>r'=.tup [.agg (encGPacket r15.1),.bool r15.2.1]∧σ'=[.cells 0 (encGClientClient r15.2.2),.cells 0 (encGPacket r14.1)])) ((zo.ok r14.2.2 (⟨2,0,1,r14.1.fID,1,[],0,[]⟩:GPacket) r15 hr15).i [0])) ?_;refine zj tok 6 ?_;simp only[go_sem,qc,qf,qa,qe,reduceCtorEq,encGPacket];refine nkN hK ?_
 refine rc [1,5,7,8,9,10,11,12] fun K hK=>?_
 obtain⟨r16,hr16,h⟩:=zD h;refine rnN 2 ?_;refine clN rfl rfl rfl (wC.ev a0 r16 hr16 _) ?_;obtain⟨r17,hr17,h⟩:=zD h;refine clN rfl rfl rfl (zX.ev r16 r17 hr17 _) ?_;obtain⟨r18,hr18,h⟩:=bind_some h;refine clN rfl rfl rfl (xC.ev r17 r18 hr18 _) ?_;refine rnN 5 ?_;refine nkN hK ?_
 refine rc [1,5,7,8,9,10,11,12,14] fun K hK=>?_
 obtain⟨r19,hr19,h⟩:=zD h;refine rnN 2 ?_;refine clN rfl rfl rfl (zX.ev a1 r19 hr19 _) ?_;obtain⟨r20,hr20,h⟩:=bind_some h;refine clN rfl rfl rfl (xC.ev r19 r20 hr20 _) ?_;refine rnN 5 ?_;refine nkN hK ?_
 refine rc [1,5,7,9,10,11,12] fun K hK=>?_
 have f21:=XW (T:=tab) (src:=48) (dst:=9) rfl rfl rfl rfl rfl rfl r20.1;obtain⟨r22,hr22,h⟩:=bind_some h;refine zj tok 6 ?_;simp only[go_sem,qc,qf,qa,qe,f21];refine clN rfl rfl rfl (@id (ACalls qg 19 [.op 0 0 0,.agg [.int .i64 4,.int .i64 0,.int .i64 1,.int .i64 r14.1.fID,.int .i64 1,.str [],.int .i64 0,.str r20.1]] [.cells 0 (encGClientClient r15.2.2),.cells 0 (encGPacket r14.1),.cells 0 (encGPacket r15.1)] (fun r' σ'=>r'=.tup [.agg (encGPacket r22.1),.bool r22.2.1]∧σ'=[.cells 0 (encGClientClient r22.2.2),.cells 0 (encGPacket r14.1),.cells 0 (encGPacket r15.1)])) ((zo.ok r15.2.2 (⟨4,0,1,r14.1.fID,1,[],0,r20.1⟩:GPacket) r22 hr22).i [0])) ?_;refine nkN hK ?_
 refine rc [1,7,9,10,11,12,17,18,19] fun K hK=>?_
 obtain⟨r23,hr23,h⟩:=zD h;refine rnN 1 ?_;refine clN rfl rfl rfl (@id (ACalls qg 22 [.op 0 0 0] [.cells 0 (encGClientClient r22.2.2),.cells 0 (encGPacket r14.1),.cells 0 (encGPacket r15.1)] (fun r' σ'=>r'=.tup [.int .i64 r23.1,.agg (cellsGTree r23.2.1),.int .i64 r23.2.2.1,.bool r23.2.2.2.1]∧σ'=[.cells 0 (encGClientClient r23.2.2.2.2),.cells 0 (encGPacket r14.1),.cells 0 (encGPacket r15.1)])) ((xX.ok r22.2.2 r23 hr23).i [0])) ?_;refine zj tok 10 ?_;simp only[go_sem,qc,qf,qa,qe,cellsGTree];refine nkN hK ?_;refine yU (fun L τ=>∃ (x24:Bool),L=[(4,.bool x24)]∧τ=[]∧law23_ClientElder.j25 x24=some r) ?_ ?_
 · refine rdE [4] fun K hK=>?_
   refine DW.start (T:=tab) [.any,.any,.any,.any,.any,.any,.any,.at [],.any,.at [],.any,.any,.any,.any,.at [],.any,.any,.any,.any,.any,.any,.any,.any,.any,.any,.own 1 [],.any,.any,.eff,.eff,.any,.any,.eff,.any,.any] [(1,[])] ?_;refine DW.runN tok 3 ?_;simp only[go_sem,qc,qa]
   refine DW.if 77 rfl (fun hg77=>?_) (fun hg77=>?_)
   · rw[if_pos hg77] at h;have t26:=eq_true hg77;refine DW.runN tok 3 ?_;simp only[go_sem,qc,qa,t26];refine DW.at (b:=r15.2.1) 80 rfl (fun hg80=>?_) (fun hg80=>?_)
     · rw[if_pos hg80] at h;have f27:=XW (T:=tab) (src:=48) (dst:=9) rfl rfl rfl rfl rfl rfl r18.1;refine DW.runN tok 7 ?_;simp only[go_sem,qc,qa,qe,f27]
       refine DW.if 87 rfl (fun hg87=>?_) (fun hg87=>?_)
       · rw[if_pos hg87] at h;have t28:=eq_true hg87;refine DW.runN tok 5 ?_;simp only[go_sem,qc,qa,qe,t28]
         refine DW.if 92 rfl (fun hg92=>?_) (fun hg92=>?_)
         · rw[if_pos hg92] at h;have t29:=eq_true hg92;refine DW.runN tok 3 ?_;simp only[go_sem,qc,qa,t29];refine DW.at (b:=r23.2.2.2.1) 95 rfl (fun hg95=>?_) (fun hg95=>?_)
           · rw[if_pos hg95] at h;refine DW.runN tok 4 ?_;simp only[go_sem,qc,qa]
             refine DW.if 99 rfl (fun hg99=>?_) (fun hg99=>?_)
             · rw[if_pos hg99] at h;have t30:=eq_true hg99;obtain⟨r31,hr31,h⟩:=zD h;refine DW.runN tok 3 ?_;simp only[go_sem,qc,qf,qa,qe,t30];refine DW.call rfl rfl rfl (zX.ev a1 r31 hr31 _) ?_;obtain⟨r32,hr32,h⟩:=bind_some h;refine DW.call rfl rfl rfl (zQ.ev rounds r23.2.1 r31 r32 hr32 _) ?_;refine DW.runN tok 2 ?_;simp only[go_sem,qc,qa,cellsGTree];refine DW.at (b:=r32) 106 rfl (fun hg106=>?_) (fun hg106=>?_)
               · rw[if_pos hg106] at h;obtain⟨r33,hr33,h⟩:=bind_some h;refine DW.call rfl rfl rfl (wX.ev  r33 hr33 _) ?_;refine DW.runN tok 2 ?_;simp only[go_sem,qc,qa];refine DW.fin tok (by decide +kernel) rfl ?_;simp only[zf,upd,qa,reduceIte,zV,yz];apply hK
                 exact⟨_,_,⟨r33,rfl,rfl,h⟩,(.t [] false)⟩
               rw[wb hg106] at h;refine DW.runN tok 3 ?_;simp only[go_sem,qc,qa];refine DW.fin tok (by decide +kernel) rfl ?_;simp only[zf,upd,qa,reduceIte,zV,yz];apply hK
               exact⟨_,_,⟨false,rfl,rfl,h⟩,(.t [] false)⟩
             rw[if_neg hg99] at h;have t34:=eq_false hg99;refine DW.runN tok 8 ?_;simp only[go_sem,qc,qa,t34];refine DW.runN tok 2 ?_;simp only[go_sem,qc,qa];refine DW.fin tok (by decide +kernel) rfl ?_;simp only[zf,upd,qa,reduceIte,zV,yz];apply hK
             exact⟨_,_,⟨false,rfl,rfl,h⟩,(.t [] false)⟩
           rw[wb hg95] at h;refine DW.runN tok 8 ?_;simp only[go_sem,qc,qa];refine DW.runN tok 6 ?_;simp only[go_sem,qc,qa];refine DW.fin tok (by decide +kernel) rfl ?_;simp only[zf,upd,qa,reduceIte,zV,yz];apply hK
           exact⟨_,_,⟨false,rfl,rfl,h⟩,(.t [] false)⟩
         rw[if_neg hg92] at h;have t35:=eq_false hg92;refine DW.runN tok 8 ?_;simp only[go_sem,qc,qa,t35];refine DW.runN tok 8 ?_;simp only[go_sem,qc,qa];refine DW.runN tok 1 ?_;simp only[go_sem,qc,qa];refine DW.fin tok (by decide +kernel) rfl ?_;simp only[zf,upd,qa,reduceIte,zV,yz];apply hK
         exact⟨_,_,⟨false,rfl,rfl,h⟩,(.t [] false)⟩
       rw[if_neg hg87] at h;have t36:=eq_false hg87;refine DW.runN tok 8 ?_;simp only[go_sem,qc,qa,t36];refine DW.runN tok 8 ?_;simp only[go_sem,qc,qa];refine DW.runN tok 6 ?_;simp only[go_sem,qc,qa];refine DW.fin tok (by decide +kernel) rfl ?_;simp only[zf,upd,qa,reduceIte,zV,yz];apply hK
       exact⟨_,_,⟨false,rfl,rfl,h⟩,(.t [] false)⟩
     rw[wb hg80] at h;refine DW.runN tok 8 ?_;simp only[go_sem,qc,qa];refine DW.runN tok 8 ?_;simp only[go_sem,qc,qa];refine DW.runN tok 8 ?_;simp only[go_sem,qc,qa];refine DW.runN tok 5 ?_;simp only[go_sem,qc,qa];refine DW.fin tok (by decide +kernel) rfl ?_;simp only[zf,upd,qa,reduceIte,zV,yz];apply hK
     exact⟨_,_,⟨false,rfl,rfl,h⟩,(.t [] false)⟩
   rw[if_neg hg77] at h;have t37:=eq_false hg77;refine DW.runN tok 8 ?_;simp only[go_sem,qc,qa,t37];refine DW.runN tok 8 ?_;simp only[go_sem,qc,qa];refine DW.runN tok 8 ?_;simp only[go_sem,qc,qa];refine DW.runN tok 8 ?_;simp only[go_sem,qc,qa];refine DW.fin tok (by decide +kernel) rfl ?_;simp only[zf,upd,qa,reduceIte,zV,yz];apply hK
   exact⟨_,_,⟨false,rfl,rfl,h⟩,(.t [] false)⟩
 rintro _ _ ⟨x24,rfl,rfl,h⟩;unfold law23_ClientElder.j25 at h;cases h;exact rtA
end
section
set_option maxRecDepth 4000
open AM
def vb (n:Nat):List UInt8:=if h:n<128 then [qX n] else qX (n % 128+128)::vb (n / 128)
termination_by n
decreasing_by omega
theorem vb_lt {n:Nat}(h:n<128):vb n=[qX n]:=by rw[vb,dif_pos h]
theorem vb_ge {n:Nat}(h:¬ n<128):vb n=qX (n % 128+128)::vb (n / 128):=by rw[vb,dif_neg h]
theorem vb_pos (n:Nat):0<(vb n).length:=by
 by_cases h:n<128
 · rw[vb_lt h]; exact Nat.one_pos
 rw[vb_ge h,qk]; omega
theorem vb_len : ∀ (k n:Nat),n<2^(7*(k+1))→(vb n).length≤k+1
 |0,n,h=>by rw[vb_lt (by simpa using h)]; exact qx _
 |k+1,n,h=>by
  by_cases h1:n<128
  · rw[vb_lt h1,qk,qr]; omega
  rw[vb_ge h1,qk]
  have:=vb_len k (n / 128) (by
   have e:2^(7*(k+1+1))=128*2^(7*(k+1)):=by rw[show 7*(k+1+1)=7+7*(k+1) by omega,Nat.pow_add]
   rw[e] at h
   exact Nat.div_lt_of_lt_mul h)
  omega
theorem Zv {n:Nat}(h:n<2^64):(vb n).length≤10:=vb_len 9 n (ug h (by decide))
theorem vbo {p:Prop} [Decidable p](h:p):grd p=some ():=if_pos h
theorem wA {n b:Nat}(h:n*b≤140737488355328):YJ n b=some ():=if_pos h
theorem u64w {n:Nat}(h:n<2^64):IntKind.u64.wrap (n:Int)=(n:Int):=by rw[IntKind.wrap_u64]; omega
theorem u64i {x:Int}(h:0≤x)(h':x<18446744073709551616):IntKind.u64.wrap x=x:=by rw[IntKind.wrap_u64]; omega
theorem u8w (n:Nat):IntKind.u8.wrap (n:Int)=((n % 256:Nat):Int):=by
 simp only[IntKind.wrap,IntKind.bits,IntKind.signed,Bool.false_and]
 simp
theorem vbc (n:Nat)(h:n<256):(qX n).toNat=n:=by
 rw[UInt8.toNat_ofNat']; omega
theorem or128 : ∀ m:Fin 256,(qD 8 ((m.val:Nat):Int) ||| qD 8 128).toNat=m.val % 128+128:=by decide
theorem and127 : ∀ m:Fin 256,(qD 8 ((m.val:Nat):Int) &&& ~~~(qD 8 128)).toNat=m.val % 128:=by decide
theorem moreByte (n:Nat):qX (qI (IntKind.u8.wrap ((um (qD 8 (IntKind.u8.wrap (n:Int)) ||| qD 8 128):Nat):Int)))=qX (n % 128+128):=by
 have h:=or128 ⟨n % 256,Nat.mod_lt _ (by decide)⟩;simp only at h;rw[u8w n,h,u8w (n % 256 % 128+128),qV]
 congr 1
 have:=Nat.mod_mod_of_dvd n (show 128 ∣ 256 by decide)
 omega
theorem lastByte (n:Nat)(h:n<128):qX (qI (IntKind.u8.wrap (n:Int)))=qX n:=by
 rw[u8w,qV]; congr 1; omega
theorem shr7 (n:Nat):Int.fdiv (n:Int) (2^(min (qI 7) 64))=((n / 128:Nat):Int):=by
 rw[show ((2:Int)^(min (qI 7) 64))=128 from by decide,Int.fdiv_eq_ediv_of_nonneg _ (by decide)]
 omega
theorem vint_Put_l : ∀ (k n:Nat) (l:List UInt8),n<2^(7*k)→l.length+k≤140737488355328→xr.l9 k l (n:Int)=some (l++vb n)∨k=0
 |0,_,_,_,_=>Or.inr rfl
 |k+1,n,l,h,hl=>by
  left
  by_cases h1:n<128
  · rw[xr.l9,if_neg (by omega),wA (by omega),qh,lastByte n h1,vb_lt h1]
  rw[xr.l9,if_pos (by omega),wA (by omega),qh,moreByte,shr7,vb_ge h1]
  have hk:n / 128<2^(7*k):=by
   have e:2^(7*(k+1))=128*2^(7*k):=by rw[show 7*(k+1)=7+7*k by omega,Nat.pow_add]
   rw[e] at h; exact Nat.div_lt_of_lt_mul h
  rcases vint_Put_l k (n / 128) (l++[qX (n % 128+128)]) hk (by rw[qj,qQ]; omega) with e|e
  · rw[e,qv]; rfl
  exfalso; subst e; simp at hk; omega
theorem vint_Put_m : ∀ (k j n:Nat) (l r:List UInt8),xr.l9 k l (n:Int)=some r→xr.l9 (k+j) l (n:Int)=some r
 |0,_,_,_,_,h=>by cases h
 |k+1,j,n,l,r,h=>by
  rw[Nat.succ_add_eq_add_succ,Nat.add_succ]
  by_cases h1:(128:Int)≤(n:Int)
  · rw[xr.l9,if_pos h1] at h ⊢
    cases hr:YJ (qb l+1) 1 with
    |none=>rw[hr] at h; cases h
    |some u=>
     rw[hr,qh,shr7] at h
     rw[qh,shr7]; exact vint_Put_m k j _ _ _ h
  rw[xr.l9,if_neg h1] at h ⊢; exact h
theorem X9 (a:List UInt8){n:Nat}(h:n<2^64)(ha:a.length≤140737488355000):xr a (n:Int)=some (a++vb n):=by
 by_cases h1:n<128
 · rw[xr,if_neg (by omega),wA (by omega),qh,lastByte n h1,vb_lt h1]
 rw[xr,if_pos (by omega),wA (by omega),qh,moreByte,shr7,vb_ge h1]
 rcases vint_Put_l 10 (n / 128) (a++[qX (n % 128+128)]) (by omega) (by rw[qj,qQ]; omega) with e|e
 · have:=vint_Put_m 10 999999999999999999990 _ _ _ e;rw[show 10+999999999999999999990=rounds from rfl] at this
   rw[this,qv]; rfl
 cases e
theorem orAdd {i acc d:Nat}(h:acc<2^i):acc ||| d*2^i=acc+d*2^i:=by
 rw[Nat.or_comm,Nat.mul_comm,← Nat.two_pow_add_eq_or_of_lt h]; omega
theorem bv64 {n:Nat}(h:n<2^64):(qD 64 (n:Int)).toNat=n:=by
 rw[BitVec.ofInt_natCast,BitVec.toNat_ofNat]; exact Nat.mod_eq_of_lt h
theorem stepv {acc i:Nat}{y:UInt8}(hi:i≤9)(ha:acc<2^(7*i))(h9:i=9→y.toNat≤1):IntKind.u64.wrap ((um (qD 64 (acc:Int) ||| qD 64 (IntKind.u64.wrap ((IntKind.u64.wrap (IntKind.u8.wrap ((um (qD 8 (y.toNat:Int) &&& ~~~(qD 8 128)):Nat):Int)))*2^(min (qI (IntKind.i64.wrap (7*(i:Int)))) 64)))):Nat):Int)=((acc+(y.toNat % 128)*2^(7*i):Nat):Int)∧acc+(y.toNat % 128)*2^(7*i)<2^64∧(i<9→acc+(y.toNat % 128)*2^(7*i)<2^(7*(i+1))):=by
 have hy:y.toNat<256:=y.toNat_lt;have h:=and127 ⟨y.toNat,hy⟩;simp only at h
 have e:IntKind.i64.wrap (7*(i:Int))=((7*i:Nat):Int):=by rw[xN (by omega) (by omega)]; omega
 have hm:min (7*i) 64=7*i:=by omega
 have hd:y.toNat % 128<128:=Nat.mod_lt _ (by decide)
 have hp:2^(7*(i+1))=128*2^(7*i):=by rw[show 7*(i+1)=7+7*i by omega,Nat.pow_add]
 have hs:i<9→acc+(y.toNat % 128)*2^(7*i)<2^(7*(i+1)):=by
  intro _
  rw[hp];have:(y.toNat % 128)*2^(7*i)≤127*2^(7*i):=qY _ (by omega)
  omega
 have hb:acc+(y.toNat % 128)*2^(7*i)<2^64:=by
  by_cases h8:i<9
  · have:=hs h8;have h2:2^(7*(i+1))≤2^63:=Nat.pow_le_pow_right (by decide) (by omega)
    omega
  have hi9:i=9:=by omega
  have h1:=h9 hi9;subst hi9
  have:y.toNat % 128≤1:=by omega
  have h2:(y.toNat % 128)*2^(7*9)≤1*2^(7*9):=qY _ this
  omega
 refine⟨?_,hb,hs⟩;rw[h,u8w,Nat.mod_eq_of_lt (show y.toNat % 128<256 by omega),e,qV,hm]
 have hc:((((y.toNat % 128:Nat):Int))*2^(7*i))=(((y.toNat % 128)*2^(7*i):Nat):Int):=by
  rw[Int.natCast_mul,Int.natCast_pow]; rfl
 have hu:IntKind.u64.wrap ((y.toNat % 128:Nat):Int)=((y.toNat % 128:Nat):Int):=u64w (by omega);rw[hu,hc,u64w (n:=y.toNat % 128*2^(7*i)) (by omega),BitVec.toNat_or,bv64 (by omega),bv64 (by omega),orAdd ha,u64w hb]
theorem vbG (a:Nat)(hA:a≤4611686018427387904):∀ (q post:List UInt8) (v i acc:Nat),q=vb v++post→i≤9→acc<2^(7*i)→v*2^(7*i)<2^64→(0<i→v≠0)→
 xG.l12 (a:Int) q (i:Int) (acc:Int)=some (((acc+v*2^(7*i):Nat):Int),((a+i+(vb v).length:Nat):Int),0)
 |[],post,v,i,acc,h,_,_,_,_=>by
  have:=vb_pos v;have h2:=congrArg qb h
  rw[qj,qr] at h2; omega
 |y::q,post,v,i,acc,h,hi,ha,hv,h0=>by
  by_cases h1:v<128
  · rw[vb_lt h1] at h ⊢
    obtain⟨rfl,rfl⟩:y=qX v∧q=post:=by injection h with h2 h3; exact⟨h2,h3⟩
    have hy:(qX v).toNat=v:=vbc v (by omega)
    have h9:i=9→v≤1:=by
     intro e; subst e
     apply Nat.le_of_not_lt; intro hc
     have:2*2^(7*9)≤v*2^(7*9):=qY _ hc
     omega
    have st:=(stepv (y:=qX v) hi ha (by rw[hy]; exact h9)).1;have hw1:IntKind.i64.wrap (7*(i:Int))=7*(i:Int):=xN (by omega) (by omega);rw[xG.l12,st,hy];rw[if_neg (by simp only[qz,decide_eq_true_eq,not_and]; intro e; have:=h9 (by omega); omega),vbo (by rw[xN (by omega) (by omega)]; omega),qh,if_neg (by omega),if_neg (by simp only[qz,decide_eq_true_eq,not_and]; intro e e2; exact h0 (by omega) (by omega))];rw[Nat.mod_eq_of_lt h1,xN (x:=(a:Int)+(i:Int)) (by omega) (by omega),xN (x:=(a:Int)+(i:Int)+1) (by omega) (by omega),qQ];simp only[Int.natCast_add,Int.natCast_one]
  rw[vb_ge h1] at h ⊢
  obtain⟨rfl,rfl⟩:y=qX (v % 128+128)∧q=vb (v / 128)++post:=by injection h with h2 h3; exact⟨h2,h3⟩
  have hy:(qX (v % 128+128)).toNat=v % 128+128:=vbc _ (by omega)
  have hi8:i<9:=by
   apply Nat.lt_of_not_le; intro hc
   have:i=9:=by omega
   subst this;have:128*2^(7*9)≤v*2^(7*9):=qY _ (by omega)
   omega
  obtain⟨st,sb,sn⟩:=stepv (y:=qX (v % 128+128)) hi ha (by intro e; omega);rw[xG.l12,st,hy,if_neg (by simp only[qz,decide_eq_true_eq,not_and]; intro e; omega),vbo (by rw[xN (by omega) (by omega)]; omega),qh,if_pos (by omega)];rw[hy] at sn
  have hm:(v % 128+128) % 128=v % 128:=by omega
  rw[hm] at sn ⊢
  have hp:2^(7*(i+1))=128*2^(7*i):=by rw[show 7*(i+1)=7+7*i by omega,Nat.pow_add]
  have hvd:v=128*(v / 128)+v % 128:=(Nat.div_add_mod v 128).symm
  have hmul:v*2^(7*i)=(v / 128)*2^(7*(i+1))+(v % 128)*2^(7*i):=by
   rw[hp]
   calc v*2^(7*i)=(128*(v / 128)+v % 128)*2^(7*i):=by rw[← hvd]
    _=_:=by rw[uL,Nat.mul_comm 128,Nat.mul_assoc]
  have ih:=vbG a hA (vb (v / 128)++post) post (v / 128) (i+1) (acc+v % 128*2^(7*i)) rfl (by omega) (sn hi8) (by rw[hmul] at hv; omega) (by intro _; omega);rw[show ((i:Int)+1)=((i+1:Nat):Int) by omega,ih,hmul,qk]
  congr 2
  · congr 1; omega
  congr 2; omega
theorem vbF (a:Nat)(hA:a≤4611686018427387904):∀ (q:List UInt8) (i acc:Nat),i+q.length≤10→acc<2^(7*i)→∃ r,xG.l12 (a:Int) q (i:Int) (acc:Int)=some r∧
 (r.2.2=0→∃ v post,q=vb v++post∧v*2^(7*i)<2^64∧(0<i→v≠0))∧0≤r.2.2
 |[],i,acc,_,_=>⟨_,rfl,(by intro h; cases h),by decide⟩
 |y::q,i,acc,hl,ha=>by
  rw[qk] at hl;rw[xG.l12]
  by_cases h9:((decide ((i:Int)=9))&&(decide (1<(y.toNat:Int))))=true
  · rw[if_pos h9]; exact⟨_,rfl,(by intro h; cases h),by decide⟩
  rw[if_neg h9]
  have h9':i=9→y.toNat≤1:=by
   intro e
   simp only[qz,decide_eq_true_eq,not_and] at h9
   have:=h9 (by omega); omega
  obtain⟨st,sb,sn⟩:=stepv (y:=y) (show i≤9 by omega) ha h9';rw[st,vbo (by rw[xN (by omega) (by omega)]; omega),qh];have hy:y.toNat<256:=y.toNat_lt
  by_cases h1:(128:Int)≤(y.toNat:Int)
  · rw[if_pos h1]
    have hi8:i<9:=by
     apply Nat.lt_of_not_le; intro hc
     have:=h9' (by omega); omega
    obtain⟨r,e,hr,h0⟩:=vbF a hA q (i+1) (acc+y.toNat % 128*2^(7*i)) (by omega) (sn hi8);rw[show ((i:Int)+1)=((i+1:Nat):Int) by omega];refine⟨r,e,?_,h0⟩
    intro hz
    obtain⟨v,post,hq,hv,hn⟩:=hr hz
    have hp:2^(7*(i+1))=128*2^(7*i):=by rw[show 7*(i+1)=7+7*i by omega,Nat.pow_add]
    have hvn:=hn (by omega)
    have hw:¬ (v*128+y.toNat % 128)<128:=by omega
    refine⟨v*128+y.toNat % 128,post,?_,?_,by intro _; omega⟩
    · rw[vb_ge hw,show (v*128+y.toNat % 128) % 128+128=y.toNat by omega,show (v*128+y.toNat % 128) / 128=v by omega,UInt8.ofNat_toNat,hq]; rfl
    rw[hp] at hv
    have hmul:(v*128+y.toNat % 128)*2^(7*i)=v*(128*2^(7*i))+y.toNat % 128*2^(7*i):=by rw[uL,Nat.mul_assoc]
    rw[hmul]
    by_cases hi7:i<9
    · have hd:y.toNat % 128*2^(7*i)<128*2^(7*i):=Nat.mul_lt_mul_of_pos_right (by omega) (Nat.pow_pos (by decide))
      have h64:128*2^(7*i) ∣ 2^64:=by rw[← hp]; exact Nat.pow_dvd_pow 2 (by omega)
      obtain⟨c,hc⟩:=h64;rw[hc] at hv ⊢
      have hvc:v<c:=by
       apply Nat.lt_of_not_le; intro hle
       have:=qY (128*2^(7*i)) hle
       rw[Nat.mul_comm c] at this; omega
      have h3:(v+1)*(128*2^(7*i))≤c*(128*2^(7*i)):=qY _ hvc;rw[uL,Nat.one_mul] at h3
      rw[Nat.mul_comm (128*2^(7*i)) c]; omega
    omega
  rw[if_neg h1]
  by_cases h2:((decide ((y.toNat:Int)=0))&&(decide (0<(i:Int))))=true
  · rw[if_pos h2]; exact⟨_,rfl,(by intro h; cases h),by decide⟩
  rw[if_neg h2];refine⟨_,rfl,?_,Int.le_refl 0⟩
  intro _
  refine⟨y.toNat,q,?_,?_,?_⟩
  · rw[vb_lt (by omega),UInt8.ofNat_toNat]; rfl
  · rw[Nat.mod_eq_of_lt (by omega)] at sb; omega
  intro hi e
  apply h2
  simp only[qz,decide_eq_true_eq]; omega
theorem get_head {b:List UInt8}{n:Nat}(hb:b.length≤4096)(hn:n≤b.length):xG b (n:Int)=xG.l12 (n:Int) ((b.drop n).take 10) 0 0:=by
 have e1:IntKind.i64.wrap ((qb b:Int)-(n:Int))=((b.length-n:Nat):Int):=by rw[xN (by omega) (by omega)]; omega
 rw[xG,if_neg (by simp only[ua,decide_eq_true_eq]; omega),e1]
 by_cases h:(10:Int)<((b.length-n:Nat):Int)
 · rw[if_pos h]
   have e2:IntKind.i64.wrap ((n:Int)+10)=((n+10:Nat):Int):=by rw[xN (by omega) (by omega)]; omega
   rw[e2,vbo (by omega),qh,vaK,qV,qV,show n+10-n=10 by omega]
 rw[if_neg h]
 have e2:IntKind.i64.wrap ((n:Int)+((b.length-n:Nat):Int))=(b.length:Int):=by rw[xN (by omega) (by omega)]; omega
 rw[e2,vbo (by omega),qh,vaK,qV,qV,uf (by rw[List.length_drop]; exact qx _),uf (by rw[List.length_drop]; omega)]
theorem get_ok {b post:List UInt8}{n v:Nat}(hb:b.length≤4096)(hn:n≤b.length)(h:b.drop n=vb v++post)(hv:v<2^64):xG b (n:Int)=some ((v:Int),((n+(vb v).length:Nat):Int),0):=by
 have:=vbG n (by omega) ((b.drop n).take 10) (post.take (10-(vb v).length)) v 0 0 (by rw[h,List.take_append,uf (Zv hv)]) (by omega) (by decide) (by omega) (by omega);rw[get_head hb hn]
 simpa using this
theorem get_inv {b:List UInt8}{n:Nat}(hb:b.length≤4096)(hn:n≤b.length):∃ r,xG b (n:Int)=some r∧(r.2.2=0→∃ v post,b.drop n=vb v++post∧v<2^64∧r=((v:Int),((n+(vb v).length:Nat):Int),0))∧0≤r.2.2:=by
 obtain⟨r,e,hr,h0⟩:=vbF n (by omega) ((b.drop n).take 10) 0 0 (by rw[uF]; omega) (by decide);rw[get_head hb hn];refine⟨r,e,?_,h0⟩
 intro hz
 obtain⟨v,post,hq,hv,_⟩:=hr hz
 have hv':v<2^64:=by omega
 have hd:b.drop n=vb v++(post++(b.drop n).drop 10):=by
  rw[← qv,← hq,uo]
 refine⟨v,_,hd,hv',?_⟩;have:=get_ok hb hn hd hv';rw[get_head hb hn] at this;exact Option.some.inj (e.symm.trans this)
end
section
set_option maxRecDepth 4000
open AM
def Xd (n:Int):Prop := -9223372036854775808≤n∧n<9223372036854775808
def zg (n:Int):Nat:=if 0≤n then (2*n).toNat else (-2*n-1).toNat
def zu (v:Nat):Int:=if v % 2=0 then ((v / 2:Nat):Int) else -((v / 2:Nat):Int)-1
theorem zg_lt {n:Int}(h:Xd n):zg n<2^64:=by
 unfold zg; obtain⟨h1,h2⟩:=h; split<;>omega
theorem zu_zg (n:Int):zu (zg n)=n:=by
 unfold zg zu; split<;>split<;>omega
theorem zg_zu (v:Nat):zg (zu v)=v:=by
 unfold zg zu; split<;>split<;>omega
theorem zu_in {v:Nat}(h:v<2^64):Xd (zu v):=by
 unfold zu Xd; split<;>omega
theorem bvm1 : qD 64 (-1)=BitVec.allOnes 64:=by decide
theorem bv0 : qD 64 0=0#64:=by decide
theorem fdiv2 (n:Int)(k:Nat):Int.fdiv n (2^k)=n / (2^k):=Int.fdiv_eq_ediv_of_nonneg _ (Int.le_of_lt (Int.pow_pos (by decide)))
theorem vint_Zig_eq {n:Int}(h:Xd n):ZS n=(zg n:Int):=by
 obtain⟨h1,h2⟩:=h;unfold ZS zg;rw[show min (qI 1) 64=1 from rfl,show min (qI 63) 64=63 from rfl,fdiv2]
 by_cases h0:0≤n
 · have e:n / 2^63=0:=Int.ediv_eq_zero_of_lt h0 (by omega);rw[if_pos h0,e,show IntKind.u64.wrap 0=0 from by rw[IntKind.wrap_u64]; rfl,bv0,BitVec.xor_zero]
   have e2:IntKind.u64.wrap (IntKind.u64.wrap n*2^1)=(((2*n).toNat:Nat):Int):=by rw[IntKind.wrap_u64,IntKind.wrap_u64]; omega
   rw[e2,bv64 (by omega),u64w (by omega)]
 have e:n / 2^63 = -1:=by omega
 have e1:IntKind.u64.wrap (-1)=18446744073709551615:=by rw[IntKind.wrap_u64]; rfl
 have e3:qD 64 18446744073709551615=BitVec.allOnes 64:=by decide
 rw[if_neg h0,e,e1,e3,BitVec.xor_allOnes,BitVec.toNat_not]
 have e2:IntKind.u64.wrap (IntKind.u64.wrap n*2^1)=(((2*n+18446744073709551616).toNat:Nat):Int):=by rw[IntKind.wrap_u64,IntKind.wrap_u64]; omega
 rw[e2,bv64 (by omega),u64w (by omega)]
 omega
theorem vint_Zag_eq {v:Nat}(h:v<2^64):ZT (v:Int)=zu v:=by
 unfold ZT zu;rw[show min (qI 1) 64=1 from rfl,fdiv2]
 have ea:(qD 64 (v:Int) &&& qD 64 1).toNat=v % 2:=by
  rw[BitVec.toNat_and,bv64 h,show (qD 64 1).toNat=1 from by decide,Nat.and_one_is_mod]
 have e1:IntKind.i64.wrap ((v:Int) / 2^1)=((v / 2:Nat):Int):=by rw[xN (by omega) (by omega)]; omega
 rw[ea,e1,u64w (n:=v % 2) (by omega)]
 by_cases h0:v % 2=0
 · rw[if_pos h0,h0]
   have e2:IntKind.i64.wrap (0-IntKind.i64.wrap ((0:Nat):Int))=0:=by decide
   rw[e2,bv0,BitVec.xor_zero,bv64 (by omega),xN (by omega) (by omega)]
 have h1:v % 2=1:=by omega
 rw[if_neg h0,h1]
 have e2:IntKind.i64.wrap (0-IntKind.i64.wrap ((1:Nat):Int)) = -1:=by decide
 rw[e2,bvm1,BitVec.xor_allOnes,BitVec.toNat_not,bv64 (by omega),IntKind.wrap_i64]
 omega
def YK (r:GRaw):Prop:=yw r=true∧Xd r.fN
def vaX (r:GRaw):Nat:=(2*r.fTag+r.fWire).toNat
def vaj (r:GRaw):List UInt8:=vb (vaX r)++(if r.fWire=0 then vb (zg r.fN) else vb r.fB.length++r.fB)
def Zy (l:List GRaw):List UInt8:=l.flatMap vaj
theorem ZQ {r:GRaw}(h:yw r=true):1≤r.fTag∧r.fTag≤500∧((r.fWire=0∧r.fB=[])∨(r.fWire=1∧r.fN=0∧r.fB.length≤4096)):=by
 unfold yw at h
 split at h
 · cases h
 rename_i h1
 simp only[ua,decide_eq_true_eq,not_or] at h1;refine⟨by omega,by omega,?_⟩
 split at h
 · left; exact⟨‹_›,by simpa using h⟩
 split at h
 · right
   simp only[qz,decide_eq_true_eq] at h;exact⟨‹_›,h.1,by omega⟩
 cases h
theorem check_num {t n:Int}(h1:1≤t)(h2:t≤500):yw ⟨t,0,n,[]⟩=true:=by
 unfold yw
 rw[if_neg (by simp only[ua,decide_eq_true_eq]; omega)]; rfl
theorem va5 {t:Int}{s:List UInt8}(h1:1≤t)(h2:t≤500)(h3:s.length≤4096):yw ⟨t,1,0,s⟩=true:=by
 unfold yw;rw[if_neg (by simp only[ua,decide_eq_true_eq]; omega)];simp only[decide_true,uq]
 rw[if_neg (by decide),if_pos trivial]; exact decide_eq_true (by omega)
theorem rawB_pos (r:GRaw):2≤(vaj r).length:=by
 unfold vaj;have h1:=vb_pos (vaX r);have h2:=vb_pos (zg r.fN);have h3:=vb_pos r.fB.length
 split<;>simp only[qj]<;>omega
theorem rawB_le {r:GRaw}(h:YK r):(vaj r).length≤4116:=by
 obtain⟨hc,hn⟩:=h;obtain⟨h1,h2,h3⟩:=ZQ hc;unfold vaj vaX;have k1:(vb (2*r.fTag+r.fWire).toNat).length≤10:=Zv (by omega);have k2:(vb (zg r.fN)).length≤10:=Zv (zg_lt hn)
 rcases h3 with ⟨h3,h4⟩|⟨h3,h4,h5⟩
 · rw[if_pos h3,qj]; omega
 have k3:(vb r.fB.length).length≤10:=Zv (by omega)
 rw[if_neg (by omega),qj,qj]; omega
theorem wire_Put_eq {a:List UInt8}{r:GRaw}(h:YK r)(ha:a.length≤1000000):ZR a r=some (a++vaj r,true):=by
 obtain⟨hc,hn⟩:=h;obtain⟨h1,h2,h3⟩:=ZQ hc;unfold ZR bnd
 rw[hc]; simp only[]
 have ek:IntKind.u64.wrap (IntKind.i64.wrap ((IntKind.i64.wrap (2*r.fTag))+r.fWire))=((vaX r:Nat):Int):=by
  rw[xN (x:=2*r.fTag) (by omega) (by omega),xN (by omega) (by omega),u64i (by omega) (by omega),vaX]; omega
 have k1:vaX r<2^64:=by unfold vaX; omega
 have kl:=Zv k1;rw[if_neg (by decide),ek,X9 a k1 (by omega),qh]
 rcases h3 with ⟨h3,h4⟩|⟨h3,h4,h5⟩
 · rw[if_pos h3,vint_Zig_eq hn,X9 _ (zg_lt hn) (by rw[qj]; omega),qh,vaj,if_pos h3,qv]
 have hb:=Zv (n:=r.fB.length) (by omega);rw[if_neg (by omega),u64w (by omega),X9 _ (by omega) (by rw[qj]; omega),qh,wA (by simp only[qj]; omega),qh,vaj,if_neg (by omega)];simp only[qv]
theorem putAll_l11 : ∀ (q:List GRaw) (x:Int) (acc:List UInt8),(∀ r∈q,YK r)→acc.length≤4096→yi.l11 q x acc=some (if 4096<(acc++Zy q).length then ([],4) else (acc++Zy q,0))
 |[],x,acc,_,ha=>by
  rw[yi.l11,Zy,uj,qH,if_neg (by omega)]
 |r::q,x,acc,h,ha=>by
  have hr:=h r (qA ..)
  rw[yi.l11,wire_Put_eq hr (by omega),qh]; dsimp only
  have e:acc++Zy (r::q)=(acc++vaj r)++Zy q:=by rw[Zy,qS,qv]; rfl
  rw[e]
  by_cases h1:4096<(acc++vaj r).length
  · rw[if_pos (by omega),if_pos (by rw[qj]; omega)]
  rw[if_neg (by omega),putAll_l11 q (x+1) _ (fun s hs=>h s (qB _ hs)) (by omega)]
theorem putAll_l4 (a:List GRaw):∀ (q:List GRaw) (x:Int),yi.l4 a q x=if q.all yw then yi.l11 a 0 [] else some ([],1)
 |[],x=>by rw[yi.l4]; rfl
 |r::q,x=>by
  rw[yi.l4,bnd,qZ]
  by_cases h:yw r=true
  · rw[h,if_neg (by decide),putAll_l4 a q]; rfl
  rw[if_pos (by simpa using h),if_neg (by rw[qz]; exact fun hh=>h hh.1)]
theorem putAll_eq {l:List GRaw}(h:∀ r∈l,Xd r.fN):yi l=some (if l.all yw then (if 4096<(Zy l).length then ([],4) else (Zy l,0)) else ([],1)):=by
 rw[yi,putAll_l4]
 by_cases h1:l.all yw=true
 · rw[if_pos h1,if_pos h1,putAll_l11 l 0 [] (fun r hr=>⟨q7.1 h1 r hr,h r hr⟩) (by decide)]; rfl
 rw[if_neg h1,if_neg h1]
theorem Yv {b x post:List UInt8}{n:Nat}(h:b.drop n=x++post):b.drop (n+x.length)=post:=by
 rw[← uV,h,List.drop_left' rfl]
theorem XV {b x post:List UInt8}{n:Nat}(hn:n≤b.length)(h:b.drop n=x++post):n+x.length+post.length=b.length:=by
 have:=congrArg qb h
 rw[List.length_drop,qj] at this; omega
theorem one_ok {b post:List UInt8}{n:Nat}{r:GRaw}(hb:b.length≤4096)(hn:n≤b.length)(h:b.drop n=vaj r++post)(hr:YK r):wU b (n:Int)=some (r,((n+(vaj r).length:Nat):Int),0):=by
 obtain⟨hc,hN⟩:=hr;obtain⟨h1,h2,h3⟩:=ZQ hc
 have k1:vaX r<2^64:=by unfold vaX; omega
 rw[vaj,qv] at h;have hl:=XV hn h;unfold wU;rw[get_ok hb hn h k1,qh];have hk:vaX r=(2*r.fTag+r.fWire).toNat:=rfl
 have d1:((vaX r:Nat):Int).tdiv 2=r.fTag:=by rw[Int.tdiv_eq_ediv_of_nonneg (by omega),hk]; rcases h3 with h3|h3<;>omega
 have d2:((vaX r:Nat):Int).tmod 2=r.fWire:=by rw[Int.tmod_eq_emod_of_nonneg (by omega),hk]; rcases h3 with h3|h3<;>omega
 simp only[d1,d2];rw[if_pos trivial,if_neg (by rw[u64i (by omega) (by omega)]; simp only[ua,decide_eq_true_eq]; omega),u64i (x:=r.fTag) (by omega) (by omega),xN (x:=r.fTag) (by omega) (by omega),xN (x:=r.fWire) (by omega) (by omega)];have h':=Yv h
 rcases h3 with ⟨h3,h4⟩|⟨h3,h4,h5⟩
 · rw[if_pos h3] at h';rw[get_ok hb (by omega) h' (zg_lt hN),qh];simp only[];rw[if_pos trivial,if_pos h3,bnd,vint_Zag_eq (zg_lt hN),zu_zg,vaj,if_pos h3]
   have e:r=⟨r.fTag,r.fWire,r.fN,[]⟩:=by cases r; simp only at h4; subst h4; rfl
   rw[← e,qj,Nat.add_assoc]
 rw[if_neg (by omega)] at h' hl;rw[qv] at h';have hl':=XV (by omega) h';rw[qj] at hl';rw[get_ok hb (by omega) h' (show r.fB.length<2^64 by omega),qh];simp only[];have h'':=Yv h'
 have e1:IntKind.i64.wrap ((b.length:Int)-((n+(vb (vaX r)).length+(vb r.fB.length).length:Nat):Int))=((r.fB.length+post.length:Nat):Int):=by rw[xN (by omega) (by omega)]; omega
 have e2:IntKind.i64.wrap (r.fB.length:Int)=(r.fB.length:Int):=xN (by omega) (by omega)
 have e3:IntKind.i64.wrap (((n+(vb (vaX r)).length+(vb r.fB.length).length:Nat):Int)+(r.fB.length:Int))=((n+(vb (vaX r)).length+(vb r.fB.length).length+r.fB.length:Nat):Int):=by rw[xN (by omega) (by omega)]; omega
 rw[if_pos trivial,if_neg (by omega),e1,u64w (by omega),if_neg (by omega),e2,e3,vbo (by omega),qh,vaK,qV,qV,h'',Nat.add_sub_cancel_left,List.take_left' rfl,vaj,if_neg (by omega),qj,qj]
 have e:r=⟨r.fTag,r.fWire,0,r.fB⟩:=by cases r; simp only at h4; subst h4; rfl
 rw[← e,show n+(vb (vaX r)).length+(vb r.fB.length).length+r.fB.length=n+((vb (vaX r)).length+((vb r.fB.length).length+r.fB.length)) by omega]
theorem one_inv {b:List UInt8}{n:Nat}(hb:b.length≤4096)(hn:n≤b.length):∃ r,wU b (n:Int)=some r∧
 (r.2.2=0→∃ x post,b.drop n=vaj x++post∧YK x∧r=(x,((n+(vaj x).length:Nat):Int),0))∧0≤r.2.2:=by
 obtain⟨r1,e1,i1,p1⟩:=get_inv hb hn
 by_cases z1:r1.2.2=0
 · obtain⟨v,post,hd,hv,rfl⟩:=i1 z1;have hl:=XV hn hd;have hd':=Yv hd
   by_cases c1:(decide ((v:Int)<2)||decide ((500:Int)<IntKind.u64.wrap ((v:Int).tdiv 2)))=true
   · refine⟨_,by unfold wU; rw[e1,qh,if_pos rfl,if_pos c1],?_,by decide⟩
     intro h; exact absurd h (by decide)
   have c1':=c1;simp only[ua,decide_eq_true_eq,not_or] at c1;obtain⟨c2,c3⟩:=c1
   have d1:(v:Int).tdiv 2=((v / 2:Nat):Int):=by rw[Int.tdiv_eq_ediv_of_nonneg (by omega)]; omega
   have d2:(v:Int).tmod 2=((v % 2:Nat):Int):=by rw[Int.tmod_eq_emod_of_nonneg (by omega)]; omega
   rw[d1,u64w (by omega)] at c3;obtain⟨r2,e2,i2,p2⟩:=get_inv hb (n:=n+(vb v).length) (by omega)
   by_cases z2:r2.2.2=0
   · obtain⟨w,post2,hd2,hw,rfl⟩:=i2 z2;have hl2:=XV (by omega) hd2
     by_cases c4:v % 2=0
     · have ok:YK ⟨((v / 2:Nat):Int),0,zu w,[]⟩:=⟨check_num (by omega) (by omega),zu_in hw⟩
       have hkey:vaX ⟨((v / 2:Nat):Int),0,zu w,[]⟩=v:=by unfold vaX; simp only[]; omega
       have hdr:b.drop n=vaj ⟨((v / 2:Nat):Int),0,zu w,[]⟩++post2:=by
        rw[vaj,hkey,if_pos rfl]; simp only[zg_zu]; rw[hd,← hd',hd2,qv]
       refine⟨_,one_ok hb hn hdr ok,?_,Int.le_refl 0⟩
       intro _; exact⟨_,_,hdr,ok,rfl⟩
     have c5:v % 2=1:=by omega
     by_cases c6:w≤post2.length
     · have ok:YK ⟨((v / 2:Nat):Int),1,0,post2.take w⟩:=⟨va5 (by omega) (by omega) (by rw[uF]; omega),(show Xd 0 from ⟨by decide,by decide⟩)⟩
       have hkey:vaX ⟨((v / 2:Nat):Int),1,0,post2.take w⟩=v:=by unfold vaX; simp only[]; omega
       have hdr:b.drop n=vaj ⟨((v / 2:Nat):Int),1,0,post2.take w⟩++post2.drop w:=by
        rw[vaj,hkey,if_neg (show ¬ (1:Int)=0 by decide)];simp only[uF,Nat.min_eq_left c6];rw[hd,← hd',hd2,qv,qv,uo]
       refine⟨_,one_ok hb hn hdr ok,?_,Int.le_refl 0⟩
       intro _; exact⟨_,_,hdr,ok,rfl⟩
     have e3:IntKind.i64.wrap ((b.length:Int)-((n+(vb v).length+(vb w).length:Nat):Int))=((post2.length:Nat):Int):=by rw[xN (by omega) (by omega)]; omega
     refine⟨_,by unfold wU; rw[e1,qh,if_pos rfl,if_neg c1',e2,qh,if_pos rfl,d2,if_neg (by rw[xN (by omega) (by omega)]; omega),e3,u64w (by omega),if_pos (by omega)],?_,by decide⟩
     intro h; exact absurd h (by decide)
   refine⟨_,by unfold wU; rw[e1,qh,if_pos rfl,if_neg c1',e2,qh,if_neg z2],?_,p2⟩
   intro h; exact absurd h z2
 refine⟨_,by unfold wU; rw[e1,qh,if_neg z1],?_,p1⟩
 intro h; exact absurd h z1
theorem vaR (r:GRaw)(l:List GRaw):Zy (r::l)=vaj r++Zy l:=by rw[Zy,qS]; rfl
theorem get_l_ok {b:List UInt8}(hb:b.length≤4096):∀ (l:List GRaw) (k n:Nat) (acc:List GRaw),n≤b.length→b.drop n=Zy l→(∀ r∈l,YK r)→2*acc.length≤n→b.length<k+n→
 xE.l12 b k acc (n:Int)=some (acc++l,0)
 |l,0,n,acc,hn,_,_,_,hk=>by omega
 |[],k+1,n,acc,hn,hd,_,_,hk=>by
  have:=congrArg qb hd;rw[List.length_drop,Zy,uj,qr] at this;rw[xE.l12,if_neg (by omega),qH]
 |r::l,k+1,n,acc,hn,hd,hr,ha,hk=>by
  rw[vaR] at hd;have hl:=XV hn hd;have h2:=rawB_pos r;rw[xE.l12,if_pos (by omega),one_ok hb hn hd (hr r (qA ..)),qh,if_pos rfl,wA (by omega),qh]
  rw[get_l_ok hb l k (n+(vaj r).length) (acc++[r]) (by omega) (Yv hd) (fun s hs=>hr s (qB _ hs)) (by rw[qj,qQ]; omega) (by omega),qv]; rfl
theorem get_l_inv {b:List UInt8}(hb:b.length≤4096):∀ (k n:Nat) (acc:List GRaw),n≤b.length→2*acc.length≤n→b.length<k+n→
 ∃ r,xE.l12 b k acc (n:Int)=some r∧(r.2=0→∃ l,b.drop n=Zy l∧(∀ r∈l,YK r)∧r=(acc++l,0))∧0≤r.2∧(r.2≠0→r.1=[])
 |0,n,acc,hn,_,hk=>by omega
 |k+1,n,acc,hn,ha,hk=>by
  by_cases h:n<b.length
  · obtain⟨r1,e1,i1,p1⟩:=one_inv hb hn
    by_cases z1:r1.2.2=0
    · obtain⟨x,post,hd,ok,rfl⟩:=i1 z1;have hl:=XV hn hd;have h2:=rawB_pos x;obtain⟨r2,e2,i2,p2⟩:=get_l_inv hb k (n+(vaj x).length) (acc++[x]) (by omega) (by rw[qj,qQ]; omega) (by omega);refine⟨r2,by rw[xE.l12,if_pos (by omega),e1,qh,if_pos rfl,wA (by omega),qh]; exact e2,?_,p2⟩
      intro hz
      obtain⟨l,hd2,hok,rfl⟩:=i2 hz;refine⟨x::l,?_,?_,by rw[qv]; rfl⟩
      · rw[vaR,hd,← hd2,Yv hd]
      intro s hs
      rcases qU.1 hs with rfl|hs
      · exact ok
      exact hok s hs
    refine⟨_,by rw[xE.l12,if_pos (by omega),e1,qh,if_neg z1],fun h=>absurd h z1,p1,fun _=>rfl⟩
  refine⟨_,by rw[xE.l12,if_neg (by omega)],fun _=>⟨[],?_,(fun r hr=>by cases hr),by rw[qH]⟩,Int.le_refl 0,fun h=>absurd rfl h⟩
  rw[List.drop_eq_nil_of_le (by omega)]; rfl
theorem get_rounds : 4097≤rounds:=by decide
theorem wire_Get_ok {l:List GRaw}(h:∀ r∈l,YK r)(hb:(Zy l).length≤4096):xE (Zy l)=some (l,0):=by
 rw[xE,if_neg (by omega)];have:=get_l_ok hb l rounds 0 [] (ut _) rfl h (qx _) (by have:=get_rounds; omega)
 simpa using this
theorem va8 (b:List UInt8):∃ r,xE b=some r∧(r.2=0→b=Zy r.1∧b.length≤4096∧∀ x∈r.1,YK x)∧0≤r.2∧(r.2≠0→r.1=[]):=by
 by_cases hb:b.length≤4096
 · obtain⟨r,e,i,p,q⟩:=get_l_inv hb rounds 0 [] (ut _) (qx _) (by have:=get_rounds; omega);refine⟨r,by rw[xE,if_neg (by omega)]; exact e,?_,p,q⟩
   intro hz
   obtain⟨l,hd,ok,rfl⟩:=i hz;exact⟨hd,hb,ok⟩
 refine⟨_,by rw[xE,if_pos (by omega)],fun h=>absurd h (by decide),by decide,fun _=>rfl⟩
end
section
set_option maxRecDepth 4000
open AM
def vbd (r:GRaw):List GRaw→List GRaw
 |[]=>[r]
 |x::l=>if r.fTag<x.fTag then r::x::l else x::vbd r l
def srtA : List GRaw→List GRaw→List GRaw
 |[],S=>S
 |r::q,S=>srtA q (vbd r S)
def srt (l:List GRaw):List GRaw:=srtA l []
def TagLe (a b:GRaw):Prop:=a.fTag≤b.fTag
theorem vbx {r:GRaw}:∀ {A B:List GRaw},(∀ a∈A,a.fTag≤r.fTag)→(∀ b∈B,r.fTag<b.fTag)→vbd r (A++B)=A++r::B
 |[],[],_,_=>rfl
 |[],b::B,_,hB=>by
  rw[qK,vbd,if_pos (hB b (qA ..))]; rfl
 |a::A,B,hA,hB=>by
  rw[qM,vbd,if_neg (by have:=hA a (qA ..); omega),vbx (fun x hx=>hA x (qB _ hx)) hB]; rfl
theorem insR_mem {r x:GRaw}:∀ {l:List GRaw},x∈vbd r l↔x=r∨x∈l
 |[]=>by simp[vbd]
 |y::l=>by
  rw[vbd]; split
  · simp
  rw[qU,insR_mem,qU]
  constructor
  · rintro (h|h|h)
    · exact Or.inr (Or.inl h)
    · exact Or.inl h
    exact Or.inr (Or.inr h)
  rintro (h|h|h)
  · exact Or.inr (Or.inl h)
  · exact Or.inl h
  exact Or.inr (Or.inr h)
theorem vbw (r:GRaw):∀ l:List GRaw,(vbd r l).length=l.length+1
 |[]=>rfl
 |x::l=>by
  rw[vbd]; split
  · rfl
  rw[qk,vbw r l,qk]
theorem ZN {r:GRaw}:∀ {l:List GRaw},l.Pairwise TagLe→(vbd r l).Pairwise TagLe
 |[],_=>by simp[vbd]
 |x::l,h=>by
  rw[un] at h
  rw[vbd]; split
  · rename_i hlt
    rw[un,un];refine⟨?_,h⟩
    intro y hy
    rcases qU.1 hy with rfl|hy
    · unfold TagLe; omega
    have:=h.1 y hy; unfold TagLe at *; omega
  rename_i hge
  rw[un];refine⟨?_,ZN h.2⟩
  intro y hy
  rcases insR_mem.1 hy with rfl|hy
  · unfold TagLe; omega
  exact h.1 y hy
theorem vb4 {r:GRaw}(t:Int):∀ {l:List GRaw},l.Pairwise TagLe→(vbd r l).filter (fun x=>x.fTag=t)=l.filter (fun x=>x.fTag=t)++(if r.fTag=t then [r] else [])
 |[],_=>by rw[vbd,List.filter_nil,qK,ux,List.filter_nil]; simp only[decide_eq_true_eq]
 |x::l,h=>by
  rw[un] at h
  rw[vbd]; split
  · rename_i hlt
    rw[ux]
    by_cases hr:r.fTag=t
    · have hn:(x::l).filter (fun x=>x.fTag=t)=[]:=by
       rw[List.filter_eq_nil_iff]
       intro y hy
       simp only[decide_eq_true_eq]
       rcases qU.1 hy with rfl|hy
       · omega
       have:=h.1 y hy; unfold TagLe at this; omega
      rw[hn,if_pos (by simpa using hr),if_pos hr]; rfl
    rw[if_neg (by simpa using hr),if_neg hr,qH]
  rw[ux,ux,vb4 t h.2]
  split<;>rfl
theorem vbL : ∀ {l S:List GRaw},S.Pairwise TagLe→(srtA l S).Pairwise TagLe
 |[],_,h=>h
 |r::l,S,h=>by rw[srtA]; exact vbL (l:=l) (ZN h)
theorem vaM (l:List GRaw):(srt l).Pairwise TagLe:=vbL List.Pairwise.nil
theorem srtA_mem {x:GRaw}:∀ {l S:List GRaw},x∈srtA l S↔x∈S∨x∈l
 |[],S=>by simp[srtA]
 |r::l,S=>by
  rw[srtA,srtA_mem,insR_mem,qU]
  constructor
  · rintro ((h|h)|h)
    · exact Or.inr (Or.inl h)
    · exact Or.inl h
    exact Or.inr (Or.inr h)
  rintro (h|h|h)
  · exact Or.inl (Or.inr h)
  · exact Or.inl (Or.inl h)
  exact Or.inr h
theorem srt_mem {x:GRaw}{l:List GRaw}:x∈srt l↔x∈l:=by rw[srt,srtA_mem]; simp
theorem vbM (t:Int):∀ {l S:List GRaw},S.Pairwise TagLe→(srtA l S).filter (fun x=>x.fTag=t)=S.filter (fun x=>x.fTag=t)++l.filter (fun x=>x.fTag=t)
 |[],S,_=>by rw[srtA,List.filter_nil,qH]
 |r::l,S,h=>by
  rw[srtA,vbM t (ZN h),vb4 t h,ux,qv]
  congr 1
  simp only[decide_eq_true_eq]
  split<;>rfl
theorem vaN (l:List GRaw)(t:Int):(srt l).filter (fun x=>x.fTag=t)=l.filter (fun x=>x.fTag=t):=by
 rw[srt,vbM t List.Pairwise.nil]; rfl
theorem srtA_id : ∀ {l S:List GRaw},(S++l).Pairwise TagLe→srtA l S=S++l
 |[],S,_=>by rw[srtA,qH]
 |r::l,S,h=>by
  have hS:∀ a∈S,a.fTag≤r.fTag:=fun a ha=>(List.pairwise_append.1 h).2.2 a ha r (qA ..)
  have e:vbd r S=S++[r]:=by
   have:=vbx (r:=r) (A:=S) (B:=[]) hS (fun b hb=>by cases hb)
   rwa [qH] at this
  rw[srtA,e,srtA_id (by rwa [qv]),qv]; rfl
theorem srt_id {l:List GRaw}(h:l.Pairwise TagLe):srt l=l:=srtA_id (S:=[]) h
theorem sorted_ext : ∀ {l m:List GRaw},l.Pairwise TagLe→m.Pairwise TagLe→(∀ t:Int,l.filter (fun x=>x.fTag=t)=m.filter (fun x=>x.fTag=t))→l=m
 |[],[],_,_,_=>rfl
 |[],y::m,_,_,h=>by
  have:=h y.fTag
  rw[List.filter_nil,ux,if_pos (by simp)] at this; cases this
 |x::l,[],_,_,h=>by
  have:=h x.fTag
  rw[List.filter_nil,ux,if_pos (by simp)] at this; cases this
 |x::l,y::m,hl,hm,h=>by
  rw[un] at hl hm
  have hxy:x.fTag=y.fTag:=by
   have h1:x∈(y::m).filter (fun z=>z.fTag=x.fTag):=by rw[← h,ux,if_pos (by simp)]; exact qA ..
   have h2:y∈(x::l).filter (fun z=>z.fTag=y.fTag):=by rw[h,ux,if_pos (by simp)]; exact qA ..
   have a1:y.fTag≤x.fTag:=by
    rcases qU.1 (List.mem_filter.1 h1).1 with e|h1
    · rw[e]; exact Int.le_refl _
    exact hm.1 x h1
   have a2:x.fTag≤y.fTag:=by
    rcases qU.1 (List.mem_filter.1 h2).1 with e|h2
    · rw[e]; exact Int.le_refl _
    exact hl.1 y h2
   omega
  have e:x=y:=by
   have:=h x.fTag;rw[ux,ux,if_pos (by simp),if_pos (by simp[hxy])] at this
   injection this
  subst e
  congr 1
  refine sorted_ext hl.2 hm.2 fun t=>?_
  have:=h t;rw[ux,ux] at this
  split at this
  · injection this
  exact this
theorem srt_of {l m:List GRaw}(hm:m.Pairwise TagLe)(h:∀ t:Int,l.filter (fun x=>x.fTag=t)=m.filter (fun x=>x.fTag=t)):srt l=m:=
 sorted_ext (vaM l) hm fun t=>by rw[vaN,h]
theorem ZH {α:Type}{A B:List α}{x:α}{i:Int}(h:i=A.length):Zb (A++x::B) i=some x:=by
 subst h
 rw[Zb,if_pos (by omega),qV,ui (qx _),uD]; rfl
theorem idx_t {α:Type}{l:List α}{i:Int}{x:α}(h0:0≤i)(h:l[i.toNat]?=some x):Zb l i=some x:=by rw[Zb,if_pos h0,h]
theorem sorted_l17 {r z:GRaw}{S P:List GRaw}(rec8:Int→List GRaw→Option (List GRaw)):∀ (k:Nat) (A B:List GRaw),S=A++B→(∀ b∈B,r.fTag<b.fTag)→A.Pairwise TagLe→A.length<k→S.length<1000000→
 zP.l17 (S.length:Int) (S++z::P) rec8 r k (A.length:Int)=rec8 ((S.length:Int)+1) (vbd r S++P)
 |0,_,_,_,_,_,h,_=>by omega
 |k+1,A,B,hS,hB,hA,hk,hn=>by
  have stop:(∀ a∈A,a.fTag≤r.fTag)→zP.j20 (S.length:Int) (S++z::P) rec8 r (A.length:Int) (zP.l17 (S.length:Int) (S++z::P) rec8 r k) false=rec8 ((S.length:Int)+1) (vbd r S++P):=by
   intro hle
   have hl:S.length=A.length+B.length:=by rw[hS,qj]
   have e1:IntKind.i64.wrap ((A.length:Int)+1)=((A.length+1:Nat):Int):=by rw[xN (by omega) (by omega)]; omega
   rw[zP.j20,if_neg (by decide),e1,vbo (by rw[qj,qk]; omega),qh,vbo (by rw[qj,qk]; omega),qh]
   have e2:qI ((S.length:Int)+1)=S.length+1:=by omega
   rw[qV,qV,qV,e2,show min (S.length-A.length) (S.length+1-(A.length+1))=B.length by omega]
   have hc:∃ w:GRaw,A.length<(S++z::P).length∧X0 (S++z::P) (A.length+1) A.length B.length=A++w::(B++P):=by
    cases hB':B with
    |nil=>
     subst hB';rw[qH] at hS;refine⟨z,by rw[hS,qj,qk]; omega,?_⟩;rw[X0,hS,qr,List.take_zero,qK,uO,List.drop_append,List.drop_eq_nil_of_le (by omega),List.take_append,uf (by omega)];rw[show A.length+1-A.length=1 by omega]
     simp
    |cons b B'=>
     refine⟨b,by rw[hS,hB',qj,qj,qk]; omega,?_⟩;rw[hS,hB',X0]
     have t1:((A++b::B')++z::P).take (A.length+1)=A++[b]:=by
      rw[qv,List.take_append,uf (by omega),show A.length+1-A.length=1 by omega]; rfl
     have t2:(((A++b::B')++z::P).drop A.length).take (b::B').length=b::B':=by
      rw[qv,List.drop_left' rfl,List.take_left' rfl]
     have t3:((A++b::B')++z::P).drop (A.length+1+(b::B').length)=P:=by
      rw[show (A++b::B')++z::P=((A++b::B')++[z])++P by rw[qv (A++b::B')]; rfl];rw[List.drop_left']
      simp only[qj,qk,qr]; omega
     rw[t1,t2,t3];simp only[qv,qM,qK]
   obtain⟨w,hlt,hc⟩:=hc
   rw[hc,ZH rfl,qh,setI,qV,List.set_append_right _ _ (qx _),uD,uu,hS,vbx hle hB,qv]; rfl
  rcases List.eq_nil_or_concat A with rfl|⟨A',a,rfl⟩
  · rw[zP.l17,if_neg (by simp)];exact stop (fun a ha=>by cases ha)
  rw[List.concat_eq_append] at *
  have hlA:(A'++[a]).length=A'.length+1:=by rw[qj,qQ]
  have hlS:S.length=(A'++[a]).length+B.length:=by rw[hS,qj]
  have e1:IntKind.i64.wrap (((A'++[a]).length:Int)-1)=(A'.length:Int):=by
   rw[xN (by omega) (by omega)]; omega
  rw[zP.l17,if_pos (by omega),e1]
  have ei:Zb (S++z::P) (A'.length:Int)=some a:=by
   rw[hS,qv,qv]; exact ZH rfl
  rw[ei,qh]
  by_cases hgt:r.fTag<a.fTag
  · rw[decide_eq_true hgt,zP.j20,if_pos rfl,e1];refine sorted_l17 rec8 k A' (a::B) (by rw[hS,qv]; rfl) ?_ (List.pairwise_append.1 hA).1 (by omega) hn
    intro b hb
    rcases qU.1 hb with rfl|hb
    · exact hgt
    exact hB b hb
  rw[decide_eq_false hgt];refine stop ?_
  intro x hx
  rcases uM.1 hx with hx|hx
  · have:=(List.pairwise_append.1 hA).2.2 x hx a (uP.2 rfl)
    unfold TagLe at this; omega
  rw[uP] at hx; subst hx; omega
theorem sorted_l8 : ∀ (q S P:List GRaw),P.length=q.length→S.Pairwise TagLe→S.length+q.length<1000000→zP.l8 q (S.length:Int) (S++P)=some (srtA q S)
 |[],S,P,hP,_,_=>by
  have:P=[]:=qF.1 (by simpa using hP);subst this;rw[zP.l8,srtA,qH]
 |r::q,S,[],hP,_,_=>by cases hP
 |r::q,S,z::P,hP,hS,hn=>by
  rw[qk] at hn;rw[zP.l8,sorted_l17 (S:=S) (zP.l8 q) rounds S [] (qH S).symm (fun b hb=>by cases hb) hS (ug (show S.length<1000000 by omega) (by decide)) (by omega)]
  have e:(S.length:Int)+1=((vbd r S).length:Int):=by rw[vbw]; omega
  rw[e,sorted_l8 q (vbd r S) P (by simpa using hP) (ZN hS) (by rw[vbw]; omega),srtA]
theorem sorted_eq {l:List GRaw}(h:l.length<1000000):zP l=some (srt l):=by
 rw[zP,vbo (by omega),qh,qV];exact sorted_l8 l [] _ List.length_replicate List.Pairwise.nil (by rw[qr]; omega)
end
section
set_option maxRecDepth 4000
open AM
theorem decU_pos (s:List UInt8)(p:Nat):1≤(vbr s p).2:=by
 unfold vbr Utf8.decode
 dsimp only
 repeat' split
 all_goals first|exact qx 1|exact (by decide:1≤2)|exact (by decide:1≤3)|exact (by decide:1≤4)
theorem runesNext_t (a:List UInt8)(n:Nat)(h:a.length≤9223372036854775807):∃ r,w5 a (n:Int)=some r:=by
 unfold w5
 split
 · exact⟨_,rfl⟩
 rename_i h1
 simp only[ua,decide_eq_true_eq,not_or] at h1;rw[vbo (by omega),qh,bnd]
 split<;>exact⟨_,rfl⟩
theorem va9 (a:List UInt8)(h:a.length≤9223372036854775807):∀ (k p:Nat),0<k→a.length<p+k→∃ v,yR.l4 a k p=some v
 |0,p,h0,hk=>by omega
 |k+1,p,_,hk=>by
  have hd:=decU_pos a p;rw[yR.l4]
  split
  · have ih:=va9 a h k (p+(vbr a p).2) (by omega) (by omega)
    split
    · obtain⟨r,e⟩:=runesNext_t a p h;rw[e,qh]
      split
      · exact⟨_,rfl⟩
      exact ih
    exact ih
  exact⟨_,rfl⟩
theorem wg : 9223372036854775808≤rounds:=by decide
def runesV (b:List UInt8):Bool:=(yR b).getD false
theorem runesV_eq {a:List UInt8}(h:a.length≤9223372036854775807):yR a=some (runesV a):=by
 obtain⟨v,e⟩:=va9 a h rounds 0 (by have:=wg; omega) (by have:=wg; omega);unfold runesV
 rw[show yR a=some v from e]; rfl
theorem Zd (t:Int)(l:List GTree):(GEntry.mk t l).fTag=t:=rfl
theorem Yj (t:Int)(l:List GTree):(GEntry.mk t l).fTrees=l:=rfl
def Xr (a b:GEntry):Prop:=a.fTag<b.fTag
def Yh (t:Int)(rep:Prop) [Decidable rep](x:GTree):List GEntry→List GEntry
 |[]=>[⟨t,[x]⟩]
 |e::l=>if e.fTag<t then e::Yh t rep x l else if e.fTag=t then ⟨t,(if rep then e.fTrees else [])++[x]⟩::l else ⟨t,[x]⟩::e::l
def vaT (t:Int)(rep:Prop) [Decidable rep]:List GEntry→Nat
 |[]=>1
 |e::l=>if e.fTag<t then vaT t rep l else if e.fTag=t then (if rep then e.fTrees.length else 0)+1 else 1
theorem vbu {t:Int}{rep:Prop} [Decidable rep]{x:GTree}{B:List GEntry}:∀ {A:List GEntry},(∀ a∈A,a.fTag<t)→Yh t rep x (A++B)=A++Yh t rep x B
 |[],_=>rfl
 |a::A,h=>by
  rw[qM,Yh,if_pos (h a (qA ..)),vbu fun b hb=>h b (qB _ hb)]; rfl
theorem vbt {t:Int}{rep:Prop} [Decidable rep]{B:List GEntry}:∀ {A:List GEntry},(∀ a∈A,a.fTag<t)→vaT t rep (A++B)=vaT t rep B
 |[],_=>rfl
 |a::A,h=>by
  rw[qM,vaT,if_pos (h a (qA ..)),vbt fun b hb=>h b (qB _ hb)]
theorem splitE (t:Int):∀ {es:List GEntry},es.Pairwise Xr→∃ A B,es=A++B∧(∀ a∈A,a.fTag<t)∧(∀ b∈B,t≤b.fTag)
 |[],_=>⟨[],[],rfl,(fun _ h=>by cases h),(fun _ h=>by cases h)⟩
 |e::es,h=>by
  rw[un] at h
  by_cases he:e.fTag<t
  · obtain⟨A,B,rfl,hA,hB⟩:=splitE t h.2;refine⟨e::A,B,rfl,?_,hB⟩
    intro a ha
    rcases qU.1 ha with rfl|ha
    · exact he
    exact hA a ha
  refine⟨[],e::es,rfl,(fun _ h=>by cases h),?_⟩
  intro b hb
  rcases qU.1 hb with rfl|hb
  · omega
  have:=h.1 b hb; unfold Xr at this; omega
theorem put1_eq {e:GEntry}{t:Int}(h1:1≤e.fTag∧e.fTag≤500)(h2:1≤t∧t≤500):xZ e t=e.fTag-t:=by
 unfold xZ; exact xN (by omega) (by omega)
theorem half {x y:Nat}(h:x+y<9223372036854775808):IntKind.i64.wrap (Int.fdiv (IntKind.u64.wrap (IntKind.i64.wrap ((x:Int)+(y:Int)))) (2^(min (qI 1) 64)))=(((x+y) / 2:Nat):Int):=by
 rw[xN (x:=(x:Int)+y) (by omega) (by omega),u64i (by omega) (by omega),show min (qI 1) 64=1 from rfl,Int.fdiv_eq_ediv_of_nonneg _ (by decide),xN (by omega) (by omega)]
 omega
def Y3 (t:Int):List GEntry→Bool
 |[]=>false
 |b::_=>decide (b.fTag=t)
theorem bs_l {t:Int}{A B:List GEntry}(ht:1≤t∧t≤500)(hA:∀ a∈A,a.fTag<t)(hB:∀ b∈B,t≤b.fTag)(hr:∀ e∈A++B,1≤e.fTag∧e.fTag≤500)(hn:(A++B).length<4611686018427387904):
 ∀ (k x y:Nat),x≤A.length→A.length≤y→y≤(A++B).length→y<x+k→zn.l6 (A++B) t k (x:Int) (y:Int)=some ((A.length:Int),Y3 t B)
 |0,x,y,_,_,_,hk=>by omega
 |k+1,x,y,hx,hy,hl,hk=>by
  rw[zn.l6]
  by_cases hlt:x<y
  · rw[if_pos (by omega),half (by omega)]
    have hm:(x+y) / 2<(A++B).length:=by omega
    rw[idx_t (by omega) (show (A++B)[qI (((x+y) / 2:Nat):Int)]?=some ((A++B)[(x+y) / 2]'hm) by rw[qV]; exact q3 hm),qh,bnd,put1_eq (hr _ (List.getElem_mem hm)) ht]
    by_cases hc:(x+y) / 2<A.length
    · have e:(A++B)[(x+y) / 2]'hm=A[(x+y) / 2]'hc:=List.getElem_append_left hc;have:=hA _ (List.getElem_mem hc);rw[e,if_pos (by omega),xN (by omega) (by omega),show (((x+y) / 2:Nat):Int)+1=(((x+y) / 2+1:Nat):Int) by omega];exact bs_l ht hA hB hr hn k _ y (by omega) hy hl (by omega)
    have hlB:(x+y) / 2-A.length<B.length:=by rw[qj] at hm; omega
    have e:(A++B)[(x+y) / 2]'hm=B[(x+y) / 2-A.length]'hlB:=List.getElem_append_right (by omega);have:=hB _ (List.getElem_mem hlB);rw[e,if_neg (by omega)];exact bs_l ht hA hB hr hn k x _ hx (by omega) (by omega) (by omega)
  have e:x=A.length:=by omega
  subst e;rw[if_neg (by omega)]
  cases B with
  |nil=>rw[qH,if_neg (by omega)]; rfl
  |cons b B=>
   rw[if_pos (by rw[qj,qk]; omega),ZH rfl,qh,bnd,put1_eq (hr b (uI _ (qA ..))) ht,qh,Y3]
   congr 2
   exact decide_eq_decide.2 (by omega)
theorem decode_put_eq {es:List GEntry}{f:GField}{x:GTree}(hs:es.Pairwise Xr)(hr:∀ e∈es,1≤e.fTag∧e.fTag≤500)(hf:1≤f.fTag∧f.fTag≤500)(hn:es.length<1000000)(ht:∀ e∈es,e.fTrees.length<1000000):
 Y6 es f x=some (Yh f.fTag (f.fLabel=3) x es,decide (vaT f.fTag (f.fLabel=3) es≤64)):=by
 obtain⟨A,B,rfl,hA,hB⟩:=splitE f.fTag hs;have hln:(A++B).length=A.length+B.length:=qj;have bs:zn (A++B) f.fTag=some ((A.length:Int),Y3 f.fTag B):=bs_l hf hA hB hr (by omega) rounds 0 (A++B).length (ut _) (by omega) (qx _) (by have:=wg; omega);rw[Y6,bs,qh,vbu hA,vbt hA]
 have ins:∀ (B:List GEntry),(A++B).length<1000000→Y3 f.fTag B=false→(∀ b∈B,f.fTag≤b.fTag)→((if ((A.length:Int),Y3 f.fTag B).2=true then some (A++B) else (grd (0≤((A.length:Int),Y3 f.fTag B).1∧((A.length:Int),Y3 f.fTag B).1≤((A++B).length:Int))).bind fun _=>(YJ ((A++B).length+1) 32).bind fun _=>some ((A++B).take ((A.length:Int),Y3 f.fTag B).1.toNat++⟨f.fTag,[]⟩::(A++B).drop ((A.length:Int),Y3 f.fTag B).1.toNat)).bind fun es1=>
  (Zb es1 ((A.length:Int),Y3 f.fTag B).1).bind fun e=>
  (YJ ((if f.fLabel=3 then e.fTrees.length else 0)+1) 80).bind fun _=>
  some (es1.set ((A.length:Int),Y3 f.fTag B).1.toNat ⟨e.fTag,(if f.fLabel=3 then e.fTrees else [])++[x]⟩,decide ((((if f.fLabel=3 then e.fTrees else [])++[x]).length:Int)≤64)))=some (A++⟨f.fTag,[x]⟩::B,true):=by
  intro B hln hh _
  have hl2:(A++B).length=A.length+B.length:=qj;rw[hh];simp only[qV];rw[if_neg (by decide),vbo (by omega),qh,wA (by omega),qh,qh,List.take_left' rfl,List.drop_left' rfl,ZH rfl,qh,wA (by rw[Yj]; split<;>decide),qh,List.set_append_right _ _ (qx _),uD,uu]
  simp only[Zd,Yj,ite_self,qK,qQ]; rfl
 cases B with
 |nil=>
  rw[ins [] hn rfl (fun _ h=>by cases h)]; rfl
 |cons b B=>
  have hb:=hB b (qA ..)
  by_cases hbt:b.fTag=f.fTag
  · have hh:Y3 f.fTag (b::B)=true:=decide_eq_true hbt;have htb:=ht b (uI _ (qA ..));rw[hh];simp only[qV];rw[if_pos trivial,qh,ZH rfl,qh,wA (by split<;>omega),qh,List.set_append_right _ _ (qx _),uD,uu,Yh,if_neg (show ¬ b.fTag<f.fTag by omega),if_pos hbt,vaT,if_neg (show ¬ b.fTag<f.fTag by omega),if_pos hbt,hbt]
    congr 2
    refine decide_eq_decide.2 ?_;rw[qj,qQ]
    by_cases h3:f.fLabel=3
    · rw[if_pos h3,if_pos h3]; omega
    rw[if_neg h3,if_neg h3,qr]; omega
  have hh:Y3 f.fTag (b::B)=false:=decide_eq_false hbt
  rw[ins (b::B) hn hh hB,Yh,if_neg (by omega),if_neg hbt,vaT,if_neg (by omega),if_neg hbt]; rfl
theorem putE_mem {t:Int}{rep:Prop} [Decidable rep]{x:GTree}{e:GEntry}:∀ {es:List GEntry},e∈Yh t rep x es→e∈es∨e.fTag=t
 |[],h=>by rw[Yh,uP] at h; subst h; exact Or.inr rfl
 |a::es,h=>by
  rw[Yh] at h; split at h
  · rcases qU.1 h with rfl|h
    · exact Or.inl (qA ..)
    rcases putE_mem h with h|h
    · exact Or.inl (qB _ h)
    exact Or.inr h
  split at h
  · rcases qU.1 h with rfl|h
    · exact Or.inr rfl
    exact Or.inl (qB _ h)
  rcases qU.1 h with rfl|h
  · exact Or.inr rfl
  exact Or.inl h
theorem vbY {t:Int}{rep:Prop} [Decidable rep]{x:GTree}:∀ {es:List GEntry},es.Pairwise Xr→(Yh t rep x es).Pairwise Xr
 |[],_=>by simp[Yh]
 |a::es,h=>by
  rw[un] at h
  rw[Yh]; split
  · rename_i hlt
    rw[un];refine⟨?_,vbY h.2⟩
    intro b hb
    rcases putE_mem hb with hb|hb
    · exact h.1 b hb
    unfold Xr; omega
  split
  · rename_i hge heq
    rw[un];refine⟨?_,h.2⟩
    intro b hb
    have:=h.1 b hb; unfold Xr at *; simp only[Zd]; omega
  rename_i hge hne
  rw[un,un];refine⟨?_,h⟩
  intro b hb
  rcases qU.1 hb with rfl|hb
  · unfold Xr; simp only[Zd]; omega
  have:=h.1 b hb; unfold Xr at *; simp only[Zd]; omega
theorem putE_len {t:Int}{rep:Prop} [Decidable rep]{x:GTree}:∀ {es:List GEntry},(Yh t rep x es).length≤es.length+1
 |[]=>by rw[Yh]; exact qx _
 |a::es=>by
  rw[Yh]; split
  · rw[qk,qk]; have:=putE_len (t:=t) (rep:=rep) (x:=x) (es:=es); omega
  split<;>simp only[qk]<;>omega
theorem putE_all {t:Int}{rep:Prop} [Decidable rep]{x:GTree}{e:GEntry}:∀ {es:List GEntry},e∈Yh t rep x es→e∈es∨(e.fTag=t∧e.fTrees.length=vaT t rep es∧e.fTrees≠[])
 |[],h=>by rw[Yh,uP] at h; subst h; exact Or.inr ⟨rfl,rfl,by rw[Yj]; simp⟩
 |a::es,h=>by
  rw[Yh] at h; rw[vaT]; split at h
  · rename_i hlt
    rw[if_pos hlt]
    rcases qU.1 h with rfl|h
    · exact Or.inl (qA ..)
    rcases putE_all h with h|h
    · exact Or.inl (qB _ h)
    exact Or.inr h
  rename_i hlt
  rw[if_neg hlt]
  split at h
  · rename_i heq
    rw[if_pos heq]
    rcases qU.1 h with rfl|h
    · refine Or.inr ⟨rfl,?_,by rw[Yj]; simp⟩
      simp only[Yj,qj,qQ]; split<;>rfl
    exact Or.inl (qB _ h)
  rename_i hne
  rw[if_neg hne]
  rcases qU.1 h with rfl|h
  · exact Or.inr ⟨rfl,rfl,by rw[Yj]; simp⟩
  exact Or.inl h
def YI : GTree:=⟨0,0,[],[],[]⟩
def isZ (m:GMessage)(e:GEntry):Bool:=decide ((zk m e.fTag).1.fLabel=1)&&xQ (e.fTrees.headD YI)
def zdel (m:GMessage)(es:List GEntry):List GEntry:=es.filter fun e => !isZ m e
theorem vaD {m:GMessage}:∀ {es:List GEntry},(∀ e∈es,e.fTrees≠[])→wS m es=some (zdel m es)
 |[],_=>rfl
 |e::es,h=>by
  have he:=h e (qA ..);rw[wS,xq,bnd]
  have e1:(if (zk m e.fTag).1.fLabel=1 then (Zb e.fTrees 0).bind fun y2=>bnd (xQ y2) fun r5=>some r5 else some false)=some (isZ m e):=by
   unfold isZ
   split
   · rename_i hl
     cases ht:e.fTrees with
     |nil=>exact absurd ht he
     |cons a l=>
      rw[idx_t (Int.le_refl 0) (show (a::l)[qI 0]?=some a from rfl),qh,bnd,hl]; rfl
   rename_i hl
   rw[decide_eq_false hl,Bool.false_and]
  rw[e1,qh,qh,vaD fun a ha=>h a (qB _ ha),qh]
  unfold zdel; rw[ux]
  cases isZ m e<;>rfl
def X6 (m:GMessage)(one:GType→GRaw→GTree×Int):List GRaw→List GEntry→List GRaw→GTree×Int
 |[],es,rest=>(⟨3,0,[],zdel m es,srt rest⟩,0)
 |r::q,es,rest=>
  if (zk m r.fTag).2=true then
   (if (one (zk m r.fTag).1.fType r).2=0 then
    (if vaT r.fTag ((zk m r.fTag).1.fLabel=3) es≤64 then X6 m one q (Yh r.fTag ((zk m r.fTag).1.fLabel=3) (one (zk m r.fTag).1.fType r).1 es) rest else (YI,4))
   else (YI,(one (zk m r.fTag).1.fType r).2))
  else X6 m one q es (rest++[r])
theorem checkField_tag {m:GMessage}{t:Int}(h:(zk m t).2=true):(zk m t).1.fTag=t∧(zk m t).1∈m.fFields:=by
 have key:∀ (l:List GField) (i:Int),(zk.l4 t l i).2=true→(zk.l4 t l i).1.fTag=t∧(zk.l4 t l i).1∈l:=by
  intro l
  induction l with
  |nil=>intro i h; cases h
  |cons f l ih=>
   intro i h
   rw[zk.l4] at h ⊢
   split at h
   · rename_i hf
     rw[if_pos hf]; exact⟨hf,qA ..⟩
   rename_i hf
   rw[if_neg hf];obtain⟨h1,h2⟩:=ih _ h;exact⟨h1,qB _ h2⟩
 exact key m.fFields 0 h
theorem fldD_eq {self:GSchema→GType→GRaw→Int→Option (GTree×Int)}{s:GSchema}{m:GMessage}{deep:Int}{one:GType→GRaw→GTree×Int}:
 ∀ {l:List GRaw} {es:List GEntry} {rest:List GRaw},(∀ r∈l,1≤r.fTag∧r.fTag≤500)→(∀ r∈l,∀ y,self s y r deep=some (one y r))→es.Pairwise Xr→(∀ e∈es,(1≤e.fTag∧e.fTag≤500)∧e.fTrees≠[]∧e.fTrees.length≤64)→es.length+l.length<100000→rest.length+l.length<100000→
 zB.l self s m deep l es rest=some (X6 m one l es rest)
 |[],es,rest,_,_,_,he,hn,hn'=>by
  rw[zB.l,wA (by simp only[qr] at hn; omega),qh,vaD fun e h=>(he e h).2.1,qh,sorted_eq (by simp only[qr] at hn'; omega),qh,X6]
 |r::l,es,rest,ht,ho,hs,he,hn,hn'=>by
  rw[qk] at hn hn';have hr:=ht r (qA ..)
  have ht':∀ r∈l,1≤r.fTag∧r.fTag≤500:=fun x hx=>ht x (qB _ hx)
  have ho':∀ r∈l,∀ y,self s y r deep=some (one y r):=fun x hx=>ho x (qB _ hx)
  rw[zB.l,bnd,X6]
  by_cases hf:(zk m r.fTag).2=true
  · obtain⟨hft,_⟩:=checkField_tag hf;rw[if_pos hf,if_pos hf,ho r (qA ..),qh]
    by_cases h0:(one (zk m r.fTag).1.fType r).2=0
    · rw[if_pos h0,if_pos h0,decode_put_eq hs (fun e h=>(he e h).1) (by rw[hft]; exact hr) (by omega) (fun e h=>by have:=(he e h).2.2; omega),qh,hft]
      by_cases hp:vaT r.fTag ((zk m r.fTag).1.fLabel=3) es≤64
      · rw[if_pos hp,if_pos (decide_eq_true hp)];refine fldD_eq (es:=Yh r.fTag ((zk m r.fTag).1.fLabel=3) (one (zk m r.fTag).1.fType r).1 es) ht' ho' (vbY hs) ?_ (by have:=putE_len (t:=r.fTag) (rep:=(zk m r.fTag).1.fLabel=3) (x:=(one (zk m r.fTag).1.fType r).1) (es:=es); omega) (by omega)
        intro e h
        rcases putE_all h with h|⟨h1,h2,h3⟩
        · exact he e h
        exact⟨by rw[h1]; exact hr,h3,by omega⟩
      rw[if_neg hp,if_neg (by simpa using hp)]; rfl
    rw[if_neg h0,if_neg h0]; rfl
  rw[if_neg hf,if_neg hf,wA (by omega),qh];exact fldD_eq ht' ho' hs he (by omega) (by rw[qj,qQ]; omega)
def msgOf (s:GSchema)(n:List UInt8):GMessage:=(zG s n).1
def oneD (msg:GMessage→List UInt8→GTree×Int)(s:GSchema)(y:GType)(r:GRaw):GTree×Int:=
 if (if y.fKind=4∨y.fKind=5∨y.fKind=7 then r.fWire=1 else r.fWire=0) then
  (if y.fKind=3∨y.fKind=6 then (if xH y r.fN=true then (⟨1,r.fN,[],[],[]⟩,0) else (YI,11))
  else if y.fKind=4 then (if runesV r.fB=true then (⟨2,0,r.fB,[],[]⟩,0) else (YI,9))
  else if y.fKind=7 then msg (msgOf s y.fName) r.fB
  else (if r.fWire=1 then ⟨2,0,r.fB,[],[]⟩ else ⟨1,r.fN,[],[],[]⟩,0))
 else (YI,8)
theorem oneD_eq {self:GSchema→GMessage→List UInt8→Int→Option (GTree×Int)}{self2:GSchema→GType→GRaw→Int→Option (GTree×Int)}{s:GSchema}{y:GType}{r:GRaw}{deep:Int}{msg:GMessage→List UInt8→GTree×Int}(hw:r.fWire=0∨r.fWire=1)(hb:r.fB.length≤4096)(hd:deep<1000)(hd':0≤deep)(hs:self s (msgOf s y.fName) r.fB (deep+1)=some (msg (msgOf s y.fName) r.fB)):
 zS.body self self2 s y r deep=some (oneD msg s y r):=by
 have hv:=runesV_eq (a:=r.fB) (by omega);have ed:IntKind.i64.wrap (deep+1)=deep+1:=xN (by omega) (by omega)
 have hm:∀ z:GTree×Int,some (z.1,z.2)=some z:=fun z=>rfl
 unfold zS.body zS.j2 zS.j26 zS.j3 zS.j6 zS.j4 oneD bnd;unfold msgOf at hs ⊢;simp only[vbo (show r.fB.length≤9223372036854775807 by omega),hv,ed,qh,hs]
 rcases hw with hw|hw<;>simp only[hw,reduceIte,reduceCtorEq,Int.reduceEq] <;>
  by_cases k4:y.fKind=4<;>by_cases k5:y.fKind=5<;>by_cases k7:y.fKind=7<;>by_cases k3:y.fKind=3<;>by_cases k6:y.fKind=6 <;>
  first
   |(exfalso; omega)
   |(simp only[k4,k5,k7,k3,k6,reduceIte,reduceCtorEq,Int.reduceEq,decide_true,decide_false,or_true,true_or,or_false,false_or,or_self,q2]<;>first|rfl|(cases xH y r.fN<;>rfl)|(cases runesV r.fB<;>rfl))
def getD (b:List UInt8):List GRaw×Int:=(xE b).getD ([],99)
theorem getD_eq (b:List UInt8):xE b=some (getD b):=by
 obtain⟨r,e,_⟩:=va8 b
 unfold getD; rw[e]; rfl
theorem getD_ok {b:List UInt8}(h:(getD b).2=0):b=Zy (getD b).1∧b.length≤4096∧∀ x∈(getD b).1,YK x:=by
 obtain⟨r,e,i,_⟩:=va8 b;rw[getD_eq] at e;obtain rfl:=Option.some.inj e;exact i h
theorem rawsB_len2 : ∀ l:List GRaw,2*l.length≤(Zy l).length
 |[]=>ut _
 |r::l=>by
  rw[vaR,qj,qk]
  have:=rawsB_len2 l; have:=rawB_pos r; omega
def decM (s:GSchema):Nat→GMessage→List UInt8→GTree×Int
 |0,_,_=>(YI,10)
 |d+1,m,b=>if (getD b).2=0 then X6 m (oneD (decM s d) s) (getD b).1 [] [] else (YI,(getD b).2)
theorem Y7 (s:GSchema):∀ (d k:Nat) (m:GMessage) (b:List UInt8) (deep:Int),d≤10→deep=11-d→2*d+1≤k→zB k s m b deep=some (decM s d m b)
 |d,0,m,b,deep,_,_,h=>by omega
 |0,k+1,m,b,deep,_,h,_=>by
  rw[zB,zB.body,if_pos (by omega)]; rfl
 |d+1,k+1,m,b,deep,h10,hd,hk=>by
  rw[zB,zB.body,if_neg (by omega),getD_eq,qh,decM]
  by_cases h0:(getD b).2=0
  · rw[if_pos h0,if_pos h0];obtain⟨hb,hl,hok⟩:=getD_ok h0
    have hlen:(getD b).1.length<100000:=by
     have:=rawsB_len2 (getD b).1
     rw[← hb] at this; omega
    refine fldD_eq ?_ ?_ List.Pairwise.nil (fun _ h=>by cases h) (by rw[qr]; omega) (by rw[qr]; omega)
    · intro r hr
      have:=ZQ (hok r hr).1;exact⟨this.1,this.2.1⟩
    intro r hr y
    obtain⟨k',rfl⟩:∃ k',k=k'+1:=⟨k-1,by omega⟩
    rw[zS];have hc:=(ZQ (hok r hr).1).2.2
    have hbl:r.fB.length≤4096:=by
     rcases hc with ⟨_,hc⟩|⟨_,_,hc⟩
     · rw[hc]; decide
     exact hc
    refine oneD_eq (by rcases hc with hc|hc; exact Or.inl hc.1; exact Or.inr hc.1) hbl (by omega) (by omega) ?_;exact Y7 s d k' _ _ _ (by omega) (by omega) (by omega)
  rw[if_neg h0,if_neg h0]; rfl
theorem decode_eq {s:GSchema}{name b:List UInt8}(hc:z6 s=some 0)(hm:(zG s name).2=true):xM s name b=some (decM s 10 (msgOf s name) b):=by
 rw[xM,hc,qh,if_pos rfl,bnd,hm,if_neg (by decide),Y7 s 10 rounds _ b 1 (qx _) rfl (by have:=wg; omega),qh]; rfl
end
section
set_option maxRecDepth 4000
open AM
def maxD (f:GTree→Nat):List GTree→Nat→Nat
 |[],d=>d
 |x::l,d=>maxD f l (max d (f x))
theorem maxD_ge {f:GTree→Nat}:∀ (l:List GTree) (d:Nat),d≤maxD f l d
 |[],d=>qx _
 |x::l,d=>uE (Nat.le_max_left _ _) (maxD_ge l _)
theorem maxD_mem {f:GTree→Nat}{x:GTree}:∀ {l:List GTree} {d:Nat},x∈l→f x≤maxD f l d
 |y::l,d,h=>by
  rw[maxD]
  rcases qU.1 h with rfl|h
  · exact uE (Nat.le_max_right _ _) (maxD_ge l _)
  exact maxD_mem h
theorem maxD_le {f:GTree→Nat}{n:Nat}:∀ {l:List GTree} {d:Nat},d≤n→(∀ x∈l,f x≤n)→maxD f l d≤n
 |[],d,h,_=>h
 |x::l,d,h,hl=>maxD_le (l:=l) (Nat.max_le.2 ⟨h,hl x (qA ..)⟩) fun y hy=>hl y (qB _ hy)
theorem maxD_app (f:GTree→Nat):∀ (l m:List GTree) (d:Nat),maxD f (l++m) d=maxD f m (maxD f l d)
 |[],_,_=>rfl
 |x::l,m,d=>maxD_app f l m _
def kids (t:GTree):List GTree:=t.fEntries.flatMap GEntry.fTrees
def XN : Nat→GTree→Nat
 |0,_=>0
 |m+1,t=>if t.fKind=3 then maxD (XN m) (kids t) 0+1 else 0
theorem depT_le : ∀ (m:Nat) (t:GTree),XN m t≤m
 |0,_=>qx _
 |m+1,t=>by
  rw[XN]; split
  · exact Nat.succ_le_succ (maxD_le (ut _) fun x _=>depT_le m x)
  exact ut _
theorem deep_l20 {self:GTree→Int→Option Int}{m:Nat}(hm:m<1000)(hs:∀ x,self x (m:Int)=some ((XN m x:Nat):Int)){x7:Int}{rec10:Int→Int→Option Int}:∀ (l:List GTree) (i:Int) (d:Nat),
 yb.l20 self ((m+1:Nat):Int) x7 rec10 l i (d:Int)=rec10 (x7+1) ((maxD (XN m) l d:Nat):Int)
 |[],i,d=>rfl
 |x::l,i,d=>by
  rw[yb.l20,show IntKind.i64.wrap (((m+1:Nat):Int)-1)=(m:Int) by rw[xN (by omega) (by omega)]; omega,hs,qh,maxD]
  have e:(if (d:Int)<((XN m x:Nat):Int) then ((XN m x:Nat):Int) else (d:Int))=((max d (XN m x):Nat):Int):=by split<;>omega
  rw[e]; exact deep_l20 hm hs l _ _
theorem deep_l10 {self:GTree→Int→Option Int}{m:Nat}(hm:m<1000)(hs:∀ x,self x (m:Int)=some ((XN m x:Nat):Int)):∀ (l:List GEntry) (i:Int) (d:Nat),d≤1000→
 yb.l10 self ((m+1:Nat):Int) l i (d:Int)=some ((maxD (XN m) (l.flatMap GEntry.fTrees) d+1:Nat):Int)
 |[],i,d,hd=>by
  rw[yb.l10,xN (by omega) (by omega),uj,maxD]; rfl
 |e::l,i,d,hd=>by
  rw[yb.l10,deep_l20 hm hs,deep_l10 hm hs l _ _ (maxD_le hd fun x _=>uE (depT_le m x) (by omega)),qS,maxD_app]
theorem deep_eq : ∀ (m k:Nat) (t:GTree),m<1000→m<k→yb k t (m:Int)=some ((XN m t:Nat):Int)
 |m,0,t,_,h=>by omega
 |0,k+1,t,_,_=>by
  rw[yb,yb.body,if_pos (by simp)]; rfl
 |m+1,k+1,t,hm,hk=>by
  rw[yb,yb.body,XN]
  by_cases h3:t.fKind=3
  · rw[if_neg (by simp only[h3,decide_true,qt,uH,decide_eq_true_eq]; omega),if_pos h3];exact deep_l10 (by omega) (fun x=>deep_eq m k x (by omega) (by omega)) t.fEntries 0 0 (by omega)
  rw[if_pos (by simp[h3]),if_neg h3]; rfl
theorem Depth_eq (t:GTree):wI t=some ((XN 101 t:Nat):Int):=by
 rw[wI,show (101:Int)=((101:Nat):Int) from rfl,deep_eq 101 rounds t (by omega) (by have:=wg; omega)]; rfl
def risB : List GRaw→Bool
 |a::b::l=>decide (a.fTag≤b.fTag)&&risB (b::l)
 |_=>true
theorem risB_iff : ∀ {l:List GRaw},risB l=true↔l.Pairwise TagLe
 |[]=>by simp[risB]
 |[a]=>by simp[risB]
 |a::b::l=>by
  rw[risB,qz,decide_eq_true_eq,risB_iff,un (a:=a)]
  constructor
  · rintro ⟨h1,h2⟩;refine⟨?_,h2⟩
    intro c hc
    rcases qU.1 hc with rfl|hc
    · exact h1
    have:=(un.1 h2).1 c hc; unfold TagLe at *; omega
  rintro ⟨h1,h2⟩;exact⟨h1 b (qA ..),h2⟩
theorem rising_l {L:List GRaw}(hL:L.length<4611686018427387904):∀ (k:Nat) (A:List GRaw) (a:GRaw) (B:List GRaw),L=A++a::B→B.length<k→xj.l4 L k ((A.length+1:Nat):Int)=some (risB (a::B))
 |0,_,_,_,_,h=>by omega
 |k+1,A,a,[],h,_=>by
  rw[xj.l4,if_neg (by rw[h,qj,qQ]; omega)]; rfl
 |k+1,A,a,b::B,h,hk=>by
  have hl:L.length=A.length+(B.length+2):=by rw[h,qj,qk,qk]
  have e1:Zb L ((A.length+1:Nat):Int)=some b:=by
   rw[h,show A++a::b::B=(A++[a])++b::B by rw[qv]; rfl];exact ZH (by rw[qj,qQ])
  have e2:IntKind.i64.wrap (((A.length+1:Nat):Int)-1)=(A.length:Int):=by rw[xN (by omega) (by omega)]; omega
  have e3:Zb L (A.length:Int)=some a:=by rw[h]; exact ZH rfl
  have e4:IntKind.i64.wrap (((A.length+1:Nat):Int)+1)=(((A++[a]).length+1:Nat):Int):=by rw[xN (by omega) (by omega),qj,qQ]; omega
  rw[xj.l4,if_pos (by omega),e1,qh,e2,e3,qh,risB]
  by_cases hlt:b.fTag<a.fTag
  · rw[if_pos hlt,decide_eq_false (by omega)]; rfl
  rw[if_neg hlt,e4,rising_l hL k (A++[a]) b B (by rw[h,qv]; rfl) (by simpa using hk),decide_eq_true (by omega),uq]
theorem rising_eq {l:List GRaw}(h:l.length<4611686018427387904):xj l=some (risB l):=by
 cases l with
 |nil=>rfl
 |cons a l=>exact rising_l h rounds [] a l rfl (by have:=wg; rw[qk] at h; omega)
def restB (t:GTree):Bool:=t.fRest.all (fun r=>yw r && !(t.fEntries.any fun e=>decide (e.fTag=r.fTag)))&&risB t.fRest
theorem rest_l16 {x2:Int}{rec4:Int→Option Bool}{y:GRaw}:∀ (l:List GEntry) (i:Int),yM.l16 x2 rec4 y l i=if (l.any fun e=>decide (e.fTag=y.fTag))=true then some false else rec4 (x2+1)
 |[],i=>by rw[yM.l16]; rfl
 |e::l,i=>by
  rw[yM.l16,List.any_cons]
  by_cases h:e.fTag=y.fTag
  · rw[if_pos h,decide_eq_true h,Bool.true_or,if_pos rfl]
  rw[if_neg h,decide_eq_false h,uH,rest_l16]
theorem rest_l4 {t:GTree}(hr:t.fRest.length<4611686018427387904):∀ (l:List GRaw) (i:Int),yM.l4 t l i=some (l.all (fun r=>yw r && !(t.fEntries.any fun e=>decide (e.fTag=r.fTag)))&&risB t.fRest)
 |[],i=>by rw[yM.l4,rising_eq hr]; rfl
 |r::l,i=>by
  rw[yM.l4,bnd,qZ]
  cases hc:yw r with
  |false=>rfl
  |true=>
   rw[if_neg (by decide),rest_l16]
   cases ha:t.fEntries.any fun e=>decide (e.fTag=r.fTag) with
   |true=>rfl
   |false=>rw[if_neg (by decide),rest_l4 hr l]; rfl
theorem rest_eq {t:GTree}(hr:t.fRest.length<4611686018427387904):yM t=some (restB t):=rest_l4 hr _ _
def entB (f:GTree→Bool):Int→List GEntry→Bool
 |_,[]=>true
 |last,e::l=>decide (last<e.fTag∧e.fTag≤500∧1≤e.fTrees.length∧e.fTrees.length≤64)&&(e.fTrees.all fun x=>decide (x.fKind=(e.fTrees.headD YI).fKind)&&f x)&&entB f e.fTag l
def vbm (t:GTree):Bool:=
 if t.fKind=1 then decide (t.fS=[])&&decide ((qb t.fEntries:Int)=0)&&decide ((qb t.fRest:Int)=0)
 else if t.fKind=2 then decide (t.fN=0)&&decide ((qb t.fEntries:Int)=0)&&decide ((qb t.fRest:Int)=0)
 else false
def wn : Nat→GTree→Bool
 |0,t=>vbm t
 |d+1,t=>if t.fKind=3 then decide (t.fN=0)&&decide (t.fS=[])&&entB (wn d) 0 t.fEntries&&restB t else vbm t
def ownS (t:GTree):Prop:=Xd t.fN∧t.fRest.length≤900000∧∀ r∈t.fRest,Xd r.fN
def szT : Nat→GTree→Prop
 |0,t=>ownS t
 |d+1,t=>ownS t∧∀ x∈kids t,szT d x
theorem vcb {self:GTree→Option Bool}{f:GTree→Bool}{x3:Int}{rec6:Int→Int→Option Bool}{y:GEntry}(hy:1≤y.fTrees.length):∀ (l:List GTree) (i:Int),(∀ x∈l,self x=some (f x))→
 zz.l18 self x3 rec6 y l i=if (l.all fun x=>decide (x.fKind=(y.fTrees.headD YI).fKind)&&f x)=true then rec6 (x3+1) y.fTag else some false
 |[],i,_=>by rw[zz.l18]; rfl
 |x::l,i,h=>by
  have e1:Zb y.fTrees 0=some (y.fTrees.headD YI):=by
   cases ht:y.fTrees with
   |nil=>rw[ht] at hy; exact absurd hy (by decide)
   |cons a l=>rfl
  rw[zz.l18,e1,qh,qZ]
  by_cases hk:x.fKind=(y.fTrees.headD YI).fKind
  · rw[if_pos hk,h x (qA ..),qh,decide_eq_true hk,uq]
    cases f x with
    |false=>rfl
    |true=>
     rw[zz.j25,if_neg (by decide),vcb hy l _ fun z hz=>h z (qB _ hz),uq]
  rw[if_neg hk,decide_eq_false hk]; rfl
theorem entries_l6 {self:GTree→Option Bool}{f:GTree→Bool}:∀ (l:List GEntry) (i last:Int),(∀ e∈l,∀ x∈e.fTrees,self x=some (f x))→zz.l6 self l i last=some (entB f last l)
 |[],i,last,_=>rfl
 |e::l,i,last,h=>by
  rw[zz.l6,entB]
  by_cases hc:last<e.fTag∧e.fTag≤500∧1≤e.fTrees.length∧e.fTrees.length≤64
  · rw[if_neg (by simp only[ua,decide_eq_true_eq]; omega),vcb hc.2.2.1 e.fTrees 0 (h e (qA ..)),decide_eq_true hc,uq]
    cases ha:e.fTrees.all fun x=>decide (x.fKind=(e.fTrees.headD YI).fKind)&&f x with
    |false=>rfl
    |true=>rw[if_pos rfl,entries_l6 l _ _ fun y hy=>h y (qB _ hy),uq]
  rw[if_pos (by simp only[ua,decide_eq_true_eq]; omega),decide_eq_false hc]; rfl
theorem ZF {t:GTree}{e:GEntry}{x:GTree}(he:e∈t.fEntries)(hx:x∈e.fTrees):x∈kids t:=List.mem_flatMap.2 ⟨e,he,hx⟩
theorem right_eq : ∀ (d m k:Nat) (t:GTree),d<m→XN m t≤d→2*d<k→szT d t→xl k t=some (wn d t)
 |d,m,0,t,_,_,h,_=>by omega
 |0,m+1,k+1,t,_,hd,_,hz=>by
  have h3:¬ t.fKind=3:=by
   intro h; rw[XN,if_pos h] at hd; omega
  rw[xl,xl.body,wn,vbm,if_neg h3]
  split<;>first|rfl|(split<;>rfl)
 |d+1,m+1,k+1,t,hm,hd,hk,hz=>by
  rw[xl,xl.body,wn]
  by_cases h3:t.fKind=3
  · have hd':maxD (XN m) (kids t) 0≤d:=by rw[XN,if_pos h3] at hd; omega
    obtain⟨k',rfl⟩:∃ k',k=k'+1:=⟨k-1,by omega⟩
    have he:zz (k'+1) t=some (entB (wn d) 0 t.fEntries):=by
     rw[zz,zz.body]
     exact entries_l6 t.fEntries 0 0 fun e he x hx=>right_eq d m k' x (by omega) (uE (maxD_mem (ZF he hx)) hd') (by omega) (hz.2 x (ZF he hx))
    rw[if_neg (by omega),if_neg (by omega),if_pos h3,if_pos h3,he,rest_eq (by have:=hz.1.2.1; omega)]
    cases decide (t.fN=0)&&decide (t.fS=[]) with
    |false=>rfl
    |true=>cases entB (wn d) 0 t.fEntries<;>rfl
  rw[if_neg h3,if_neg h3,vbm]
  split<;>first|rfl|(split<;>rfl)
def Yf (t:GTree):Bool:=decide (XN 101 t≤10)&&wn 10 t
theorem check_eq {t:GTree}(hz:szT 10 t):wq t=some (Yf t):=by
 rw[wq,Depth_eq,qh,Yf]
 by_cases h:XN 101 t≤10
 · rw[if_pos (by omega),right_eq 10 101 rounds t (by omega) h (by have:=wg; omega) hz,decide_eq_true h,uq]; rfl
 rw[if_neg (by omega),decide_eq_false h]; rfl
end
section
set_option maxRecDepth 4000
open AM
theorem in0 : Xd 0:=⟨by decide,by decide⟩
def rawT (enc:GTree→Option (List UInt8))(tag:Int)(x:GTree):Option GRaw:=
 if x.fKind=1 then some ⟨tag,0,x.fN,[]⟩
 else if x.fKind=2 then (if 4096<x.fS.length then none else some ⟨tag,1,0,x.fS⟩)
 else (enc x).bind fun b=>some ⟨tag,1,0,b⟩
def rawL (enc:GTree→Option (List UInt8))(tag:Int):List GTree→Option (List GRaw)
 |[]=>some []
 |x::l=>(rawT enc tag x).bind fun r=>(rawL enc tag l).bind fun m=>some (r::m)
def rawE (enc:GTree→Option (List UInt8)):List GEntry→Option (List GRaw)
 |[]=>some []
 |e::l=>(rawL enc e.fTag e.fTrees).bind fun a=>(rawE enc l).bind fun m=>some (a++m)
def putB (l:List GRaw):Option (List UInt8):=if 4096<(Zy l).length then none else some (Zy l)
def YA : Nat→GTree→Option (List UInt8)
 |0,_=>none
 |d+1,t=>(rawE (YA d) t.fEntries).bind fun L=>putB (srt (t.fRest++L))
def X2 : Nat→GTree→GValueValue
 |0,t=>if t.fKind=1 then .num t.fN else if t.fKind=2 then .str t.fS else .node [] t.fRest
 |d+1,t=>if t.fKind=1 then .num t.fN else if t.fKind=2 then .str t.fS else .node (t.fEntries.map fun e=>⟨e.fTag,e.fTrees.map (X2 d)⟩) t.fRest
theorem made_l62 {self:GTree→Option GValueValue}{f:GTree→GValueValue}{t:GTree}{r12:List GRaw}{y:GEntry}:∀ (l:List GTree) (i:Int) (acc:List GValueValue),(∀ x∈l,self x=some (f x))→acc.length+l.length≤64→
 zO.l62 self t r12 y l i acc=zO.l20 self t r12 rounds [⟨y.fTag,acc++l.map f⟩] 1
 |[],i,acc,_,_=>by
  rw[zO.l62,qm,qH,xN (by decide) (by decide)]; rfl
 |x::l,i,acc,h,hl=>by
  rw[qk] at hl
  rw[zO.l62,h x (qA ..),qh,wA (by omega),qh,made_l62 l _ _ (fun z hz=>h z (qB _ hz)) (by rw[qj,qQ]; omega),qv]; rfl
theorem made_l35 {self:GTree→Option GValueValue}{f:GTree→GValueValue}{l14:List GValueEntry}{x16:Int}{rec20:List GValueEntry→Int→Option GValueValue}{y:GEntry}(hl14:l14.length≤1000):∀ (l:List GTree) (i:Int) (acc:List GValueValue),(∀ x∈l,self x=some (f x))→acc.length+l.length≤64→
 zO.l35 self l14 x16 rec20 y l i acc=rec20 (l14++[⟨y.fTag,acc++l.map f⟩]) (IntKind.i64.wrap (x16+1))
 |[],i,acc,_,_=>by
  rw[zO.l35,qm,qH,wA (by omega),qh]
 |x::l,i,acc,h,hl=>by
  rw[qk] at hl
  rw[zO.l35,h x (qA ..),qh,wA (by omega),qh,made_l35 hl14 l _ _ (fun z hz=>h z (qB _ hz)) (by rw[qj,qQ]; omega),qv]; rfl
def entV (f:GTree→GValueValue)(e:GEntry):GValueEntry:=⟨e.fTag,e.fTrees.map f⟩
theorem made_l20 {self:GTree→Option GValueValue}{f:GTree→GValueValue}{t:GTree}{r12:List GRaw}(hn:t.fEntries.length≤1000)(hs:∀ e∈t.fEntries,e.fTrees.length≤64∧∀ x∈e.fTrees,self x=some (f x)):∀ (k:Nat) (A B:List GEntry),t.fEntries=A++B→B.length<k→
 zO.l20 self t r12 k (A.map (entV f)) (A.length:Int)=some (.node (t.fEntries.map (entV f)) r12)
 |0,A,B,_,h=>by omega
 |k+1,A,[],h,_=>by
  rw[qH] at h;rw[zO.l20,if_neg (by rw[h]; omega),h]
 |k+1,A,e::B,h,hk=>by
  rw[qk] at hk
  have hl:t.fEntries.length=A.length+(B.length+1):=by rw[h,qj,qk]
  have he:=hs e (by rw[h]; exact uI _ (qA ..))
  have ei:Zb t.fEntries (A.length:Int)=some e:=by rw[h]; exact ZH rfl
  rw[zO.l20,if_pos (by omega),ei,qh,made_l35 (f:=f) (by rw[uh]; omega) e.fTrees 0 [] he.2 (by rw[qr]; omega),xN (by omega) (by omega)];have:=made_l20 (self:=self) (f:=f) (r12:=r12) hn hs k (A++[e]) B (by rw[h,qv]; rfl) (by omega);rw[qE,qj,qQ] at this;rw[show (A.length:Int)+1=((A.length+1:Nat):Int) by omega];exact this
theorem ZV {f:GTree→Bool}:∀ {l:List GEntry} {last:Int},entB f last l=true→∀ e∈l,last<e.fTag∧e.fTag≤500∧1≤e.fTrees.length∧e.fTrees.length≤64∧(∀ x∈e.fTrees,x.fKind=(e.fTrees.headD YI).fKind∧f x=true)
 |[],_,_,e,he=>by cases he
 |a::l,last,h,e,he=>by
  rw[entB,qz,qz,decide_eq_true_eq] at h
  rcases qU.1 he with rfl|he
  · refine⟨h.1.1.1,h.1.1.2.1,h.1.1.2.2.1,h.1.1.2.2.2,fun x hx=>?_⟩;have:=q7.1 h.1.2 x hx;rw[qz,decide_eq_true_eq] at this;exact this
  obtain⟨h1,h2⟩:=ZV h.2 e he;exact⟨by omega,h2⟩
theorem Xq {f:GTree→Bool}:∀ {l:List GEntry} {last:Int},entB f last l=true→l.Pairwise Xr
 |[],_,_=>List.Pairwise.nil
 |a::l,last,h=>by
  rw[entB,qz,qz] at h;rw[un];exact⟨fun e he=>(ZV h.2 e he).1,Xq h.2⟩
theorem sorted_len {n:Nat}:∀ {l:List GEntry} {lo:Int},l.Pairwise Xr→(∀ e∈l,lo<e.fTag∧e.fTag≤lo+n)→l.length≤n
 |[],_,_,_=>ut _
 |a::l,lo,h,hl=>by
  rw[un] at h;have ha:=hl a (qA ..)
  cases n with
  |zero=>omega
  |succ n=>
   rw[qk];refine Nat.succ_le_succ (sorted_len (n:=n) (lo:=lo+1) h.2 fun e he=>?_);have h1:=h.1 e he;have h2:=hl e (qB _ he)
   unfold Xr at h1; omega
theorem Xp {d:Nat}{t:GTree}(h:wn (d+1) t=true)(h3:t.fKind=3):t.fEntries.length≤500∧entB (wn d) 0 t.fEntries=true∧restB t=true∧t.fN=0∧t.fS=[]:=by
 rw[wn,if_pos h3] at h;simp only[qz,decide_eq_true_eq] at h;refine⟨?_,h.1.2,h.2,h.1.1.1,h.1.1.2⟩
 exact sorted_len (n:=500) (lo:=0) (Xq h.1.2) fun e he=>by
  have:=ZV h.1.2 e he; omega
theorem XJ {t:GTree}(h:vbm t=true):t.fKind=1∨t.fKind=2:=by
 unfold vbm at h
 split at h
 · exact Or.inl ‹_›
 split at h
 · exact Or.inr ‹_›
 cases h
theorem XT {d:Nat}{t:GTree}(h:wn d t=true):t.fKind=1∨t.fKind=2∨t.fKind=3:=by
 cases d with
 |zero=>rcases XJ h with h|h; exact Or.inl h; exact Or.inr (Or.inl h)
 |succ d=>
  rw[wn] at h
  split at h
  · exact Or.inr (Or.inr ‹_›)
  rcases XJ h with h|h; exact Or.inl h; exact Or.inr (Or.inl h)
theorem made_eq : ∀ (d k:Nat) (t:GTree),d<k→wn d t=true→szT d t→zO k t=some (X2 d t)
 |d,0,t,h,_,_=>by omega
 |0,k+1,t,_,hr,_=>by
  rw[zO,zO.body,X2]
  rcases XJ hr with h|h
  · rw[if_pos h,if_pos h]; rfl
  rw[if_neg (by omega),if_pos h,if_neg (by omega),if_pos h]; rfl
 |d+1,k+1,t,hk,hr,hz=>by
  rw[zO,zO.body,X2]
  by_cases h1:t.fKind=1
  · rw[if_pos h1,if_pos h1]; rfl
  by_cases h2:t.fKind=2
  · rw[if_neg h1,if_pos h2,if_neg h1,if_pos h2]; rfl
  have h3:t.fKind=3:=by rcases XT hr with h|h|h<;>omega
  obtain⟨hl,he,_,_,_⟩:=Xp hr h3
  have hs:∀ e∈t.fEntries,e.fTrees.length≤64∧∀ x∈e.fTrees,zO k x=some (X2 d x):=fun e hm=>by
   have:=ZV he e hm;exact⟨this.2.2.2.1,fun x hx=>made_eq d k x (by omega) (this.2.2.2.2 x hx).2 (hz.2 x (ZF hm hx))⟩
  rw[if_neg h1,if_neg h2,if_neg h1,if_neg h2,yX,wA (by have:=hz.1.2.1; omega),qh,qh]
  cases hE:t.fEntries with
  |nil=>rfl
  |cons a E=>
   rw[if_pos (by rw[qk]; omega)];have ha:=hs a (by rw[hE]; exact qA ..);rw[idx_t (Int.le_refl 0) (show (a::E)[qI 0]?=some a from rfl),qh,made_l62 (f:=X2 d) a.fTrees 0 [] ha.2 (by rw[qr]; omega)];have:=made_l20 (self:=zO k) (f:=X2 d) (r12:=t.fRest) (by omega) hs rounds [a] E (by rw[hE]; rfl) (by have:=wg; rw[hE,qk] at hl; omega);rw[hE] at this;exact this
theorem of_eq {t:GTree}(hz:szT 10 t):Zi t=some (if Yf t=true then (X2 10 t,true) else (.nil,false)):=by
 rw[Zi,check_eq hz,qh]
 by_cases h:Yf t=true
 · rw[h]
   have hr:wn 10 t=true:=by unfold Yf at h; rw[qz] at h; exact h.2
   rw[if_neg (by decide),made_eq 10 rounds t (by have:=wg; omega) hr hz]; rfl
 rw[if_pos (by simpa using h),if_neg h]
theorem tags_l8 : ∀ (l:List GValueEntry) (i:Int) (acc:List Int),acc.length+l.length≤1000→yd.l8 l i acc=some (acc++l.map GValueEntry.ftag)
 |[],i,acc,_=>by rw[yd.l8,qm,qH]
 |e::l,i,acc,h=>by
  rw[qk] at h
  rw[yd.l8,wA (by omega),qh,tags_l8 l _ _ (by rw[qj,qQ]; omega),qv]; rfl
theorem get_l4 {f:GTree→GValueValue}{e:GEntry}{B:List GEntry}(he:e.fTrees.length≤64):∀ (A:List GEntry) (i:Int),(∀ a∈A,a.fTag≠e.fTag)→ye.l4 e.fTag ((A++e::B).map (entV f)) i=some (e.fTrees.map f)
 |[],i,_=>by
  rw[qK,qp,ye.l4,if_pos (show (entV f e).ftag=e.fTag from rfl),show (entV f e).fl=e.fTrees.map f from rfl,xV,wA (by rw[uh]; omega)]; rfl
 |a::A,i,h=>by
  rw[qM,qp,ye.l4,if_neg (show ¬ (entV f a).ftag=e.fTag from h a (qA ..))]
  exact get_l4 he A _ fun b hb=>h b (qB _ hb)
theorem rawL_len {enc:GTree→Option (List UInt8)}{tag:Int}:∀ {l:List GTree} {m:List GRaw},rawL enc tag l=some m→m.length=l.length
 |[],m,h=>by cases h; rfl
 |x::l,m,h=>by
  obtain⟨r,_,h⟩:=bind_some h;obtain⟨m',h1,h⟩:=bind_some h;cases h;rw[qk,qk,rawL_len h1]
def YY (o:Option (List GRaw))(k:List GRaw→Option (List GRaw×Int)):Option (List GRaw×Int):=
 match o with
 |some m=>k m
 |none=>some ([],4)
theorem raws_l24 {selfR:Int→GValueValue→Option (GRaw×Int)}{f:GTree→GValueValue}{enc:GTree→Option (List UInt8)}{x6:Int}{rec10:Int→List GRaw→Option (List GRaw×Int)}{tag:Int}:∀ (l:List GTree) (i:Int) (acc:List GRaw),(∀ x∈l,selfR tag (f x)=some (match rawT enc tag x with|some r=>(r,0)|none=>(⟨0,0,0,[]⟩,4)))→acc.length+l.length<3518437208882→
 zT.l24 selfR x6 rec10 tag (l.map f) i acc=YY (rawL enc tag l) fun m=>rec10 (x6+1) (acc++m)
 |[],i,acc,_,_=>by rw[qm,zT.l24,rawL,YY,qH]
 |x::l,i,acc,h,hl=>by
  rw[qk] at hl;rw[qp,zT.l24,h x (qA ..),qh,rawL]
  cases hx:rawT enc tag x with
  |none=>rfl
  |some r=>
   dsimp only
   rw[if_pos rfl,wA (by omega),qh,raws_l24 l _ _ (fun z hz=>h z (qB _ hz)) (by rw[qj,qQ]; omega),qh]
   cases rawL enc tag l with
   |none=>rfl
   |some m=>simp only[YY,qh,qv,qM,qK]
theorem raws_l10 {selfR:Int→GValueValue→Option (GRaw×Int)}{f:GTree→GValueValue}{enc:GTree→Option (List UInt8)}{E:List GEntry}{rest:List GRaw}(hs:E.Pairwise Xr)(ht:∀ e∈E,e.fTrees.length≤64∧∀ x∈e.fTrees,selfR e.fTag (f x)=some (match rawT enc e.fTag x with|some r=>(r,0)|none=>(⟨0,0,0,[]⟩,4)))(hn:E.length≤500):
 ∀ (B A:List GEntry) (i:Int) (acc:List GRaw),E=A++B→acc.length≤900000+64*A.length→zT.l10 selfR ⟨E.map (entV f),rest⟩ (B.map GEntry.fTag) i acc=YY (rawE enc B) fun m=>some (srt (acc++m),0)
 |[],A,i,acc,h,ha=>by
  have hl:E.length=A.length:=by rw[h,qH]
  rw[qm,zT.l10,sorted_eq (by omega),rawE,YY,qH]; rfl
 |e::B,A,i,acc,h,ha=>by
  have hl:E.length=A.length+(B.length+1):=by rw[h,qj,qk]
  have he:=ht e (by rw[h]; exact uI _ (qA ..))
  have hA:∀ a∈A,a.fTag≠e.fTag:=fun a hm=>by
   rw[h] at hs;have:=(List.pairwise_append.1 hs).2.2 a hm e (qA ..)
   unfold Xr at this; omega
  have hg:ye ⟨E.map (entV f),rest⟩ e.fTag=some (e.fTrees.map f):=by
   rw[ye,h]; exact get_l4 he.1 A 0 hA
  rw[qp,zT.l10,hg,qh,raws_l24 (enc:=enc) e.fTrees 0 acc he.2 (by omega),rawE]
  cases hL:rawL enc e.fTag e.fTrees with
  |none=>rfl
  |some m=>
   have hm:=rawL_len hL;rw[YY,raws_l10 hs ht hn B (A++[e]) _ _ (by rw[h,qv]; rfl) (by rw[qj,qj,qQ]; omega),qh]
   cases rawE enc B with
   |none=>rfl
   |some m'=>simp only[YY,qh,qv]
end
section
set_option maxRecDepth 4000
open AM
theorem putB_some {l:List GRaw}{b:List UInt8}(h:putB l=some b):b=Zy l∧b.length≤4096:=by
 unfold putB at h
 split at h
 · cases h
 cases h; exact⟨rfl,by omega⟩
theorem vcc {d:Nat}{t:GTree}{b:List UInt8}(h:YA d t=some b):b.length≤4096:=by
 cases d with
 |zero=>cases h
 |succ d=>
  rw[YA] at h;obtain⟨L,_,h⟩:=bind_some h;exact (putB_some h).2
theorem rawT_ok {d:Nat}{tag:Int}{x:GTree}{r:GRaw}(h1:1≤tag)(h2:tag≤500)(hx:Xd x.fN)(h:rawT (YA d) tag x=some r):YK r∧r.fTag=tag:=by
 unfold rawT at h
 split at h
 · cases h; exact⟨⟨check_num h1 h2,hx⟩,rfl⟩
 split at h
 · split at h
   · cases h
   cases h; exact⟨⟨va5 h1 h2 (by omega),in0⟩,rfl⟩
 obtain⟨b,hb,h⟩:=bind_some h
 cases h; exact⟨⟨va5 h1 h2 (vcc hb),in0⟩,rfl⟩
theorem rawL_ok {d:Nat}{tag:Int}(h1:1≤tag)(h2:tag≤500):∀ {l:List GTree} {m:List GRaw},(∀ x∈l,Xd x.fN)→rawL (YA d) tag l=some m→∀ r∈m,YK r∧r.fTag=tag
 |[],m,_,h,r,hr=>by cases h; cases hr
 |x::l,m,hx,h,r,hr=>by
  obtain⟨a,ha,h⟩:=bind_some h;obtain⟨m',hm,h⟩:=bind_some h;cases h
  rcases qU.1 hr with rfl|hr
  · exact rawT_ok h1 h2 (hx x (qA ..)) ha
  exact rawL_ok h1 h2 (fun z hz=>hx z (qB _ hz)) hm r hr
theorem rawE_ok {d:Nat}:∀ {l:List GEntry} {m:List GRaw},(∀ e∈l,1≤e.fTag∧e.fTag≤500∧∀ x∈e.fTrees,Xd x.fN)→rawE (YA d) l=some m→∀ r∈m,YK r∧∃ e∈l,r.fTag=e.fTag
 |[],m,_,h,r,hr=>by cases h; cases hr
 |e::l,m,hx,h,r,hr=>by
  obtain⟨a,ha,h⟩:=bind_some h;obtain⟨m',hm,h⟩:=bind_some h;cases h;have he:=hx e (qA ..)
  rcases uM.1 hr with hr|hr
  · have:=rawL_ok he.1 he.2.1 he.2.2 ha r hr;exact⟨this.1,e,qA ..,this.2⟩
  obtain⟨h1,e',h2,h3⟩:=rawE_ok (fun z hz=>hx z (qB _ hz)) hm r hr;exact⟨h1,e',qB _ h2,h3⟩
theorem szT_own {d:Nat}{t:GTree}(h:szT d t):ownS t:=by
 cases d with
 |zero=>exact h
 |succ d=>exact h.1
theorem restB_mem {t:GTree}(h:restB t=true):(∀ r∈t.fRest,yw r=true∧∀ e∈t.fEntries,e.fTag≠r.fTag)∧t.fRest.Pairwise TagLe:=by
 unfold restB at h;rw[qz] at h;refine⟨fun r hr=>?_,risB_iff.1 h.2⟩;have:=q7.1 h.1 r hr;rw[qz,uW] at this;refine⟨this.1,fun e he hc=>?_⟩;have h2:=List.any_eq_false.1 this.2 e he;exact h2 (decide_eq_true hc)
theorem raws_ok {d:Nat}{t:GTree}{L:List GRaw}(hr:wn (d+1) t=true)(h3:t.fKind=3)(hz:szT (d+1) t)(hL:rawE (YA d) t.fEntries=some L):∀ r∈srt (t.fRest++L),YK r:=by
 obtain⟨_,he,hb,_,_⟩:=Xp hr h3
 intro r hm
 rw[srt_mem] at hm
 rcases uM.1 hm with hm|hm
 · exact⟨((restB_mem hb).1 r hm).1,hz.1.2.2 r hm⟩
 exact (rawE_ok (fun e hm=>by
  have:=ZV he e hm
  exact⟨by omega,this.2.1,fun x hx=>(szT_own (hz.2 x (ZF hm hx))).1⟩) hL r hm).1
def vb0 (o:Option (List UInt8)):List UInt8×Int:=
 match o with
 |some b=>(b,0)
 |none=>([],4)
theorem vac {l:List GRaw}(h:∀ r∈l,YK r):yi l=some (vb0 (putB l)):=by
 rw[putAll_eq fun r hr=>(h r hr).2,if_pos (q7.2 fun r hr=>(h r hr).1),putB]
 split
 · rfl
 rfl
theorem tags_eq {f:GTree→GValueValue}{E:List GEntry}{rest:List GRaw}(h:E.length≤500):yd ⟨E.map (entV f),rest⟩=some (E.map GEntry.fTag):=by
 rw[yd];have:=tags_l8 (E.map (entV f)) 0 [] (by rw[qr,uh]; omega)
 rw[this,qK,List.map_map]; rfl
theorem raws_eq {selfB:GValueNode→Option (List UInt8×Int)}{selfR:Int→GValueValue→Option (GRaw×Int)}{selfS:GValueNode→Option (List GRaw×Int)}{f:GTree→GValueValue}{enc:GTree→Option (List UInt8)}{E:List GEntry}{rest:List GRaw}(hs:E.Pairwise Xr)(ht:∀ e∈E,e.fTrees.length≤64∧∀ x∈e.fTrees,selfR e.fTag (f x)=some (match rawT enc e.fTag x with|some r=>(r,0)|none=>(⟨0,0,0,[]⟩,4)))(hn:E.length≤500)(hr:rest.length≤900000):
 zT.body selfB selfR selfS ⟨E.map (entV f),rest⟩=YY (rawE enc E) fun m=>some (srt (rest++m),0):=by
 rw[zT.body,tags_eq hn,y5,yX,wA (by dsimp only; omega),qh,qh,qh,qh];exact raws_l10 hs ht hn E [] 0 rest rfl (by rw[qr]; omega)
theorem bytes_eq : ∀ (d k:Nat) (t:GTree) (es:List GValueEntry) (rs:List GRaw),3*d≤k→wn d t=true→t.fKind=3→szT d t→X2 d t=.node es rs→xp k ⟨es,rs⟩=some (vb0 (YA d t))
 |0,k,t,es,rs,_,hr,h3,_,_=>by
  rcases XJ hr with h|h<;>omega
 |d+1,k,t,es,rs,hk,hr,h3,hz,hv=>by
  obtain⟨k',rfl⟩:∃ k',k=k'+3:=⟨k-3,by omega⟩
  obtain⟨hl,he,hb,_,_⟩:=Xp hr h3;rw[X2,if_neg (by omega),if_neg (by omega)] at hv;cases hv
  have hs:∀ e∈t.fEntries,e.fTrees.length≤64∧∀ x∈e.fTrees,yP (k'+1) e.fTag (X2 d x)=some (match rawT (YA d) e.fTag x with|some r=>(r,0)|none=>(⟨0,0,0,[]⟩,4)):=by
   intro e hm
   have h1:=ZV he e hm;refine⟨h1.2.2.2.1,fun x hx=>?_⟩;have hrx:=(h1.2.2.2.2 x hx).2;have hzx:=hz.2 x (ZF hm hx);rw[yP,yP.body,rawT]
   rcases XT hrx with h|h|h
   · have hv:X2 d x=.num x.fN:=by cases d<;>rw[X2,if_pos h]
     rw[hv,if_pos h]; rfl
   · have hv:X2 d x=.str x.fS:=by cases d<;>rw[X2,if_neg (by omega),if_pos h]
     rw[hv,if_neg (by omega),if_pos h,show wt (.str x.fS)=some (.str x.fS) from rfl,qh]
     dsimp only
     rw[yP.j3]
     by_cases hc:4096<x.fS.length
     · rw[if_pos hc,if_pos (by dsimp only; omega)]
     rw[if_neg hc,if_neg (by dsimp only; omega)]
   have h1':¬ x.fKind=1:=by omega
   have h2':¬ x.fKind=2:=by omega
   obtain⟨es,rs,hv⟩:∃ es rs,X2 d x=.node es rs:=by cases d<;>exact⟨_,_,by rw[X2,if_neg h1',if_neg h2']⟩
   rw[hv,if_neg h1',if_neg h2',show wt (.node es rs)=some (.node es rs) from rfl,qh]
   dsimp only
   rw[bytes_eq d k' x es rs (by omega) hrx h hzx hv,qh]
   cases hx':YA d x with
   |none=>rfl
   |some b=>
    have hbl:=vcc hx'
    rw[vb0]; dsimp only
    rw[if_pos rfl,yP.j3,if_neg (by dsimp only; omega),qh]
  have hR:zT (k'+2) ⟨t.fEntries.map fun e=>⟨e.fTag,e.fTrees.map (X2 d)⟩,t.fRest⟩=YY (rawE (YA d) t.fEntries) fun m=>some (srt (t.fRest++m),0):=by
   rw[zT];exact raws_eq (f:=X2 d) (Xq he) hs hl hz.1.2.1
  rw[xp,xp.body,hR,YA]
  cases hL:rawE (YA d) t.fEntries with
  |none=>rfl
  |some L=>
   rw[YY,qh]; dsimp only
   rw[if_pos rfl,vac (raws_ok hr h3 hz hL),qh,qh]
theorem rawE_eq {d k:Nat}{t:GTree}(hk:3*d+2≤k)(hr:wn (d+1) t=true)(h3:t.fKind=3)(hz:szT (d+1) t):zT k ⟨t.fEntries.map (entV (X2 d)),t.fRest⟩=YY (rawE (YA d) t.fEntries) fun m=>some (srt (t.fRest++m),0):=by
 obtain⟨k',rfl⟩:∃ k',k=k'+2:=⟨k-2,by omega⟩
 obtain⟨hl,he,hb,_,_⟩:=Xp hr h3;rw[zT];refine raws_eq (f:=X2 d) (Xq he) ?_ hl hz.1.2.1
 intro e hm
 have h1:=ZV he e hm;refine⟨h1.2.2.2.1,fun x hx=>?_⟩;have hrx:=(h1.2.2.2.2 x hx).2;have hzx:=hz.2 x (ZF hm hx);rw[yP,yP.body,rawT]
 rcases XT hrx with h|h|h
 · have hv:X2 d x=.num x.fN:=by cases d<;>rw[X2,if_pos h]
   rw[hv,if_pos h]; rfl
 · have hv:X2 d x=.str x.fS:=by cases d<;>rw[X2,if_neg (by omega),if_pos h]
   rw[hv,if_neg (by omega),if_pos h,show wt (.str x.fS)=some (.str x.fS) from rfl,qh]
   dsimp only
   rw[yP.j3]
   by_cases hc:4096<x.fS.length
   · rw[if_pos hc,if_pos (by dsimp only; omega)]
   rw[if_neg hc,if_neg (by dsimp only; omega)]
 have h1':¬ x.fKind=1:=by omega
 have h2':¬ x.fKind=2:=by omega
 obtain⟨es,rs,hv⟩:∃ es rs,X2 d x=.node es rs:=by cases d<;>exact⟨_,_,by rw[X2,if_neg h1',if_neg h2']⟩
 rw[hv,if_neg h1',if_neg h2',show wt (.node es rs)=some (.node es rs) from rfl,qh]
 dsimp only
 rw[bytes_eq d k' x es rs (by omega) hrx h hzx hv,qh]
 cases hx':YA d x with
 |none=>rfl
 |some b=>
  have hbl:=vcc hx'
  rw[vb0]; dsimp only
  rw[if_pos rfl,yP.j3,if_neg (by dsimp only; omega),qh]
theorem vag {t:GTree}(h:Yf t=true):wn 10 t=true∧XN 101 t≤10:=by
 unfold Yf at h;rw[qz,decide_eq_true_eq] at h;exact⟨h.2,h.1⟩
theorem Raws_eq {t:GTree}(hz:szT 10 t):wM t=some (if Yf t=true∧t.fKind=3 then (match rawE (YA 9) t.fEntries with|some L=>(srt (t.fRest++L),(0:Int))|none=>([],4)) else ([],1)):=by
 rw[wM,of_eq hz,qh]
 by_cases hc:Yf t=true
 · rw[if_pos hc]
   by_cases h3:t.fKind=3
   · rw[if_neg (by rw[decide_eq_true h3]; exact Bool.false_ne_true),if_pos ⟨hc,h3⟩]
     have hv:X2 10 t=.node (t.fEntries.map (entV (X2 9))) t.fRest:=by rw[X2,if_neg (by omega),if_neg (by omega)]; rfl
     rw[hv,show yA (.node (t.fEntries.map (entV (X2 9))) t.fRest)=some ⟨t.fEntries.map (entV (X2 9)),t.fRest⟩ from rfl,qh,rawE_eq (d:=9) (by have:=wg; omega) (vag hc).1 h3 hz]
     cases rawE (YA 9) t.fEntries<;>rfl
   rw[if_pos (by rw[decide_eq_false h3]; rfl),if_neg (fun h=>h3 h.2)]
 rw[if_neg hc,if_pos (by rfl),if_neg (fun h=>hc h.1)]
theorem Encode_eq {t:GTree}(hz:szT 10 t):xF t=some (if Yf t=true∧t.fKind=3 then vb0 (YA 10 t) else ([],1)):=by
 rw[xF,Raws_eq hz,qh]
 by_cases hc:Yf t=true∧t.fKind=3
 · rw[if_pos hc,if_pos hc,YA]
   cases hL:rawE (YA 9) t.fEntries with
   |none=>rfl
   |some L=>
    dsimp only
    rw[if_pos rfl,vac (raws_ok (vag hc.1).1 hc.2 hz hL),qh,qh]
 rw[if_neg hc,if_neg hc]; rfl
end
section
set_option maxRecDepth 4000
open AM
theorem ref_more (n:Nat):qX (qI (IntKind.u8.wrap ((IntKind.u8.wrap ((n:Int).tmod 128))+128)))=qX (n % 128+128):=by
 have e:(n:Int).tmod 128=((n % 128:Nat):Int):=by rw[Int.tmod_eq_emod_of_nonneg (by omega)]; omega
 rw[e,u8w,show ((n % 128 % 256:Nat):Int)+128=((n % 128+128:Nat):Int) by omega,u8w,qV]
 congr 1; omega
theorem ref_next {n:Nat}(h:n<2^64):IntKind.u64.wrap ((n:Int).tdiv 128)=((n / 128:Nat):Int):=by
 rw[Int.tdiv_eq_ediv_of_nonneg (by omega),u64i (by omega) (by omega)]; omega
theorem ref02_l : ∀ (k n:Nat) (l:List UInt8),n<2^64→(vb n).length≤k→l.length+k≤1000000→xe.l8 k l (n:Int)=some (l++vb n)
 |0,n,l,_,h,_=>by have:=vb_pos n; omega
 |k+1,n,l,hn,h,hl=>by
  by_cases h1:n<128
  · rw[xe.l8,if_neg (by omega),wA (by omega),qh,lastByte n h1,vb_lt h1]
  rw[vb_ge h1,qk] at h
  rw[xe.l8,if_pos (by omega),wA (by omega),qh,ref_more,ref_next hn,vb_ge h1,ref02_l k (n / 128) _ (by omega) (by omega) (by rw[qj,qQ]; omega),qv]; rfl
theorem ref02_m : ∀ (k j n:Nat) (l r:List UInt8),n<2^64→xe.l8 k l (n:Int)=some r→xe.l8 (k+j) l (n:Int)=some r
 |0,_,_,_,_,_,h=>by cases h
 |k+1,j,n,l,r,hn,h=>by
  rw[Nat.succ_add_eq_add_succ,Nat.add_succ]
  by_cases h1:(128:Int)≤(n:Int)
  · rw[xe.l8,if_pos h1] at h ⊢
    cases hr:YJ (qb l+1) 1 with
    |none=>rw[hr] at h; cases h
    |some u=>
     rw[hr,qh,ref_next hn] at h
     rw[qh,ref_next hn]; exact ref02_m k j _ _ _ (by omega) h
  rw[xe.l8,if_neg h1] at h ⊢; exact h
theorem XF {n:Nat}(h:n<2^64):xe (n:Int)=some (vb n):=by
 have:=ref02_m 10 999999999999999999990 n [] (vb n) h (ref02_l 10 n [] h (Zv h) (by decide));exact this
theorem ref02_Zig_eq {n:Int}(h:Xd n):Zp n=(zg n:Int):=by
 obtain⟨h1,h2⟩:=h;unfold Zp zg
 by_cases h0:0≤n
 · rw[if_pos h0,if_pos h0,u64i h0 (by omega),u64i (by omega) (by omega)]; omega
 rw[if_neg h0,if_neg h0,xN (x:=n+1) (by omega) (by omega),xN (by omega) (by omega),u64i (x:=0-(n+1)) (by omega) (by omega),u64i (x:=2*(0-(n+1))) (by omega) (by omega),u64i (by omega) (by omega)]; omega
theorem X4 (r:GRaw):wr r=yw r:=by
 unfold wr yw
 by_cases h0:r.fWire=0
 · simp only[h0,if_true]
 by_cases h1:r.fWire=1
 · simp only[h1,decide_true,uq,if_true]
 simp only[h0,h1,if_false,decide_false,Bool.false_and]
theorem ref04_Put_eq {r:GRaw}(h:YK r):wQ r=some (vaj r):=by
 obtain⟨hc,hn⟩:=h;obtain⟨h1,h2,h3⟩:=ZQ hc
 have ek:IntKind.u64.wrap (IntKind.i64.wrap ((IntKind.i64.wrap (2*r.fTag))+r.fWire))=((vaX r:Nat):Int):=by
  rw[xN (x:=2*r.fTag) (by omega) (by omega),xN (by omega) (by omega),u64i (by omega) (by omega),vaX]; omega
 have k1:vaX r<2^64:=by unfold vaX; omega
 have kl:=Zv k1;unfold wQ;rw[ek,XF k1,qh]
 rcases h3 with ⟨h3,h4⟩|⟨h3,h4,h5⟩
 · have hz:=Zv (zg_lt hn);rw[if_pos h3,bnd,ref02_Zig_eq hn,XF (zg_lt hn),qh,wA (by omega),qh,vaj,if_pos h3]
 have hb:=Zv (n:=r.fB.length) (by omega);rw[if_neg (by omega),u64w (by omega),XF (by omega),qh,wA (by omega),qh,wA (by rw[qj]; omega),qh,vaj,if_neg (by omega),qv]
theorem ref04_l13 : ∀ (q:List GRaw) (x:Int) (acc:List UInt8),(∀ r∈q,YK r)→acc.length≤4096→yk.l13 q x acc=some (if 4096<(acc++Zy q).length then ([],4) else (acc++Zy q,0))
 |[],x,acc,_,ha=>by
  rw[yk.l13,Zy,uj,qH,if_neg (by omega)]
 |r::q,x,acc,h,ha=>by
  have hr:=h r (qA ..);have hrl:=rawB_le hr;rw[yk.l13,ref04_Put_eq hr,qh,wA (by omega),qh]
  have e:acc++Zy (r::q)=(acc++vaj r)++Zy q:=by rw[Zy,qS,qv]; rfl
  rw[e]
  by_cases h1:4096<(acc++vaj r).length
  · rw[if_pos (by omega),if_pos (by rw[qj]; omega)]
  rw[if_neg (by omega),ref04_l13 q (x+1) _ (fun s hs=>h s (qB _ hs)) (by omega)]
theorem ref04_l4 (a:List GRaw):∀ (q:List GRaw) (x:Int),yk.l4 a q x=if q.all yw then yk.l13 a 0 [] else some ([],1)
 |[],x=>by rw[yk.l4]; rfl
 |r::q,x=>by
  rw[yk.l4,bnd,qZ,X4]
  by_cases h:yw r=true
  · rw[h,if_neg (by decide),ref04_l4 a q]; rfl
  rw[if_pos (by simpa using h),if_neg (by rw[qz]; exact fun hh=>h hh.1)]
theorem vbX {l:List GRaw}(h:∀ r∈l,Xd r.fN):yk l=yi l:=by
 rw[putAll_eq h,yk,ref04_l4]
 by_cases h1:l.all yw=true
 · rw[if_pos h1,if_pos h1,ref04_l13 l 0 [] (fun r hr=>⟨q7.1 h1 r hr,h r hr⟩) (by decide)]; rfl
 rw[if_neg h1,if_neg h1]
theorem set_app0 {α:Type}{A B:List α}{x y:α}{i:Int}(h:i=A.length):setI (A++x::B) i y=A++y::B:=by
 subst h;rw[setI,qV,List.set_append_right _ _ (qx _),uD,uu]
theorem ref_l20 {r:GRaw}(x4:Int)(rec8:Int→List GRaw→Option (List GRaw)):∀ (k:Nat) (A B:List GRaw),A.Pairwise TagLe→(∀ b∈B,r.fTag<b.fTag)→A.length<k→A.length<1000000→
 zK.l20 x4 rec8 k (A++r::B) (A.length:Int)=rec8 (x4+1) (vbd r (A++B))
 |0,A,B,_,_,h,_=>by omega
 |k+1,A,B,hA,hB,hk,hn=>by
  have stop:(∀ a∈A,a.fTag≤r.fTag)→zK.j23 x4 rec8 (A++r::B) (A.length:Int) (zK.l20 x4 rec8 k) false=rec8 (x4+1) (vbd r (A++B)):=by
   intro hle
   rw[zK.j23,if_neg (by decide),vbx hle hB]
  rcases List.eq_nil_or_concat A with rfl|⟨A',a,rfl⟩
  · rw[zK.l20,if_neg (by simp)];exact stop (fun a ha=>by cases ha)
  rw[List.concat_eq_append] at *
  have hlA:(A'++[a]).length=A'.length+1:=by rw[qj,qQ]
  have e1:IntKind.i64.wrap (((A'++[a]).length:Int)-1)=(A'.length:Int):=by rw[xN (by omega) (by omega)]; omega
  have i1:Zb ((A'++[a])++r::B) (A'.length:Int)=some a:=by rw[qv]; exact ZH rfl
  have i2:Zb ((A'++[a])++r::B) ((A'++[a]).length:Int)=some r:=ZH rfl;rw[zK.l20,if_pos (by omega),e1,i1,qh,i2,qh]
  by_cases hgt:r.fTag<a.fTag
  · have s1:setI ((A'++[a])++r::B) (A'.length:Int) r=(A'++[r])++r::B:=by
     rw[qv,qv]; exact set_app0 rfl
    have i3:Zb ((A'++[r])++r::B) ((A'++[a]).length:Int)=some r:=ZH (by rw[hlA,qj,qQ]);have s2:setI ((A'++[r])++r::B) ((A'++[a]).length:Int) a=(A'++[r])++a::B:=set_app0 (by rw[hlA,qj,qQ]);rw[decide_eq_true hgt,zK.j23,if_pos rfl,i2,qh,e1,i1,qh,s1,i3,qh,s2,qv]
    have:=ref_l20 (r:=r) x4 rec8 k A' (a::B) (List.pairwise_append.1 hA).1 (fun b hb=>by
     rcases qU.1 hb with rfl|hb
     · exact hgt
     exact hB b hb) (by omega) (by omega)
    rw[qv];exact this
  rw[decide_eq_false hgt];refine stop ?_
  intro x hx
  rcases uM.1 hx with hx|hx
  · have:=(List.pairwise_append.1 hA).2.2 x hx a (uP.2 rfl)
    unfold TagLe at this; omega
  rw[uP] at hx; subst hx; omega
theorem ref_l8 : ∀ (q S:List GRaw) (x:Int),S.Pairwise TagLe→S.length+q.length<1000000→zK.l8 q x S=some (srtA q S)
 |[],S,x,_,_=>rfl
 |r::q,S,x,hS,hn=>by
  rw[qk] at hn;rw[zK.l8,wA (by omega),qh];have:=ref_l20 (r:=r) x (zK.l8 q) rounds S [] hS (fun b hb=>by cases hb) (by have:=wg; omega) (by omega);rw[qH] at this;rw[this,ref_l8 q (vbd r S) _ (ZN hS) (by rw[vbw]; omega),srtA]
theorem vbV {l:List GRaw}(h:l.length<1000000):zK l=some (srt l):=
 ref_l8 l [] 0 List.Pairwise.nil (by rw[qr]; omega)
theorem ref04_ris : ∀ (L:List GRaw) (k:Nat) (x:Int),xv.l4 L k x=xj.l4 L k x
 |L,0,x=>rfl
 |L,k+1,x=>by
  rw[xv.l4,xj.l4];simp only[ref04_ris L k]
theorem vbW (l:List GRaw):xv l=xj l:=ref04_ris l rounds 1
theorem rdeep_l18 {self:GTree→Int→Option Int}{m:Nat}{a:Int}(ha:a=100-m)(hm:m≤100)(hs:∀ x,self x (a+1)=some ((XN m x:Nat):Int)){x7:Int}{rec10:Int→Int→Option Int}:∀ (l:List GTree) (i:Int) (d:Nat),
 zW.l18 self a x7 rec10 l i (d:Int)=rec10 (x7+1) ((maxD (XN m) l d:Nat):Int)
 |[],i,d=>rfl
 |x::l,i,d=>by
  rw[zW.l18,xN (by omega) (by omega),hs,qh,maxD]
  have e:(if (d:Int)<((XN m x:Nat):Int) then ((XN m x:Nat):Int) else (d:Int))=((max d (XN m x):Nat):Int):=by split<;>omega
  rw[e]; exact rdeep_l18 ha hm hs l _ _
theorem rdeep_l10 {self:GTree→Int→Option Int}{m:Nat}{a:Int}(ha:a=100-m)(hm:m≤100)(hs:∀ x,self x (a+1)=some ((XN m x:Nat):Int)):∀ (l:List GEntry) (i:Int) (d:Nat),d≤m→
 zW.l10 self a l i (d:Int)=some ((maxD (XN m) (l.flatMap GEntry.fTrees) d+1:Nat):Int)
 |[],i,d,hd=>by
  rw[zW.l10,xN (by omega) (by omega),uj,maxD,if_neg (by omega)]; rfl
 |e::l,i,d,hd=>by
  rw[zW.l10,rdeep_l18 ha hm hs,rdeep_l10 ha hm hs l _ _ (maxD_le hd fun x _=>depT_le m x),qS,maxD_app]
theorem rdeep_eq : ∀ (m k:Nat) (t:GTree) (a:Int),m≤101→m<k→a=101-m→zW k t a=some ((XN m t:Nat):Int)
 |m,0,t,a,_,h,_=>by omega
 |0,k+1,t,a,_,_,ha=>by
  rw[zW,zW.body,if_pos (by simp only[ua,decide_eq_true_eq]; right; omega)]; rfl
 |m+1,k+1,t,a,hm,hk,ha=>by
  rw[zW,zW.body,XN]
  by_cases h3:t.fKind=3
  · rw[if_neg (by simp only[h3,decide_true,qt,uH,decide_eq_true_eq]; omega),if_pos h3];exact rdeep_l10 (by omega) (by omega) (fun x=>rdeep_eq m k x _ (by omega) (by omega) (by omega)) t.fEntries 0 0 (ut _)
  rw[if_pos (by simp[h3]),if_neg h3]; rfl
theorem ref09_Depth_eq (t:GTree):wJ t=some ((XN 101 t:Nat):Int):=by
 rw[wJ,rdeep_eq 101 rounds t 0 (by omega) (by have:=wg; omega) (by omega)]; rfl
theorem rhas_eq {a:Int}:∀ (l:List GEntry) (i:Int),wm.l4 a l i=l.any fun e=>decide (e.fTag=a)
 |[],i=>rfl
 |e::l,i=>by
  rw[wm.l4,List.any_cons]
  by_cases h:e.fTag=a
  · rw[if_pos h,decide_eq_true h,Bool.true_or]
  rw[if_neg h,decide_eq_false h,uH,rhas_eq]
theorem rrest_l4 {t:GTree}(hr:t.fRest.length<4611686018427387904):∀ (l:List GRaw) (i:Int),yT.l4 t l i=some (l.all (fun r=>yw r && !(t.fEntries.any fun e=>decide (e.fTag=r.fTag)))&&risB t.fRest)
 |[],i=>by rw[yT.l4,vbW,rising_eq hr]; rfl
 |r::l,i=>by
  rw[yT.l4,bnd,qZ,X4]
  cases hc:yw r with
  |false=>rfl
  |true=>
   rw[if_neg (by decide),bnd,wm,rhas_eq]
   cases ha:t.fEntries.any fun e=>decide (e.fTag=r.fTag) with
   |true=>rfl
   |false=>rw[yT.j10,if_neg (by decide),rrest_l4 hr l]; rfl
theorem vba {self:GTree→Option Bool}{f:GTree→Bool}{x3:Int}{rec6:Int→Int→Option Bool}{y:GEntry}(hy:1≤y.fTrees.length):∀ (l:List GTree) (i:Int),(∀ x∈l,self x=some (f x))→
 zE.l18 self x3 rec6 y l i=if (l.all fun x=>decide (x.fKind=(y.fTrees.headD YI).fKind)&&f x)=true then rec6 (x3+1) y.fTag else some false
 |[],i,_=>by rw[zE.l18]; rfl
 |x::l,i,h=>by
  have e1:Zb y.fTrees 0=some (y.fTrees.headD YI):=by
   cases ht:y.fTrees with
   |nil=>rw[ht] at hy; exact absurd hy (by decide)
   |cons a l=>rfl
  rw[zE.l18,e1,qh,qZ]
  by_cases hk:x.fKind=(y.fTrees.headD YI).fKind
  · rw[if_pos hk,h x (qA ..),qh,decide_eq_true hk,uq]
    cases f x with
    |false=>rfl
    |true=>
     rw[zE.j23,if_neg (by decide),vba hy l _ fun z hz=>h z (qB _ hz),uq]
  rw[if_neg hk,decide_eq_false hk]; rfl
theorem vbT {self:GTree→Option Bool}{f:GTree→Bool}:∀ (l:List GEntry) (i last:Int),(∀ e∈l,∀ x∈e.fTrees,self x=some (f x))→zE.l6 self l i last=some (entB f last l)
 |[],i,last,_=>rfl
 |e::l,i,last,h=>by
  rw[zE.l6,entB]
  by_cases hc:last<e.fTag∧e.fTag≤500∧1≤e.fTrees.length∧e.fTrees.length≤64
  · rw[if_neg (by simp only[ua,decide_eq_true_eq]; omega),vba hc.2.2.1 e.fTrees 0 (h e (qA ..)),decide_eq_true hc,uq]
    cases ha:e.fTrees.all fun x=>decide (x.fKind=(e.fTrees.headD YI).fKind)&&f x with
    |false=>rfl
    |true=>rw[if_pos rfl,vbT l _ _ fun y hy=>h y (qB _ hy),uq]
  rw[if_pos (by simp only[ua,decide_eq_true_eq]; omega),decide_eq_false hc]; rfl
theorem rright_eq : ∀ (d m k:Nat) (t:GTree),d<m→XN m t≤d→2*d<k→szT d t→yV k t=some (wn d t)
 |d,m,0,t,_,_,h,_=>by omega
 |0,m+1,k+1,t,_,hd,_,hz=>by
  have h3:¬ t.fKind=3:=by
   intro h; rw[XN,if_pos h] at hd; omega
  rw[yV,yV.body,wn,vbm,if_neg h3]
  split<;>first|rfl|(split<;>rfl)
 |d+1,m+1,k+1,t,hm,hd,hk,hz=>by
  rw[yV,yV.body,wn]
  by_cases h3:t.fKind=3
  · have hd':maxD (XN m) (kids t) 0≤d:=by rw[XN,if_pos h3] at hd; omega
    obtain⟨k',rfl⟩:∃ k',k=k'+1:=⟨k-1,by omega⟩
    have he:zE (k'+1) t.fEntries=some (entB (wn d) 0 t.fEntries):=by
     rw[zE,zE.body]
     exact vbT t.fEntries 0 0 fun e he x hx=>rright_eq d m k' x (by omega) (uE (maxD_mem (ZF he hx)) hd') (by omega) (hz.2 x (ZF he hx))
    have hr:yT t=some (restB t):=rrest_l4 (by have:=hz.1.2.1; omega) _ _;rw[if_neg (by omega),if_neg (by omega),if_pos h3,if_pos h3,he,hr]
    cases decide (t.fN=0)&&decide (t.fS=[]) with
    |false=>rfl
    |true=>cases entB (wn d) 0 t.fEntries<;>rfl
  rw[if_neg h3,if_neg h3,vbm]
  split<;>first|rfl|(split<;>rfl)
theorem ref09_Check_eq {t:GTree}(hz:szT 10 t):wK t=some (Yf t):=by
 rw[wK,ref09_Depth_eq,qh,Yf]
 by_cases h:XN 101 t≤10
 · rw[if_pos (by omega),rright_eq 10 101 rounds t (by omega) h (by have:=wg; omega) hz,decide_eq_true h,uq]; rfl
 rw[if_neg (by omega),decide_eq_false h]; rfl
end
section
set_option maxRecDepth 4000
open AM
theorem rraws_l22 {selfE:GTree→Option (List UInt8×Int)}{enc:GTree→Option (List UInt8)}{x4:Int}{rec8:Int→List GRaw→Option (List GRaw×Int)}{y:GEntry}:∀ (l:List GTree) (i:Int) (acc:List GRaw),(∀ x∈l,(x.fKind=1∨x.fKind=2∨x.fKind=3)∧(x.fKind=3→selfE x=some (vb0 (enc x))∧∀ b,enc x=some b→b.length≤4096))→acc.length+l.length<3000000→
 zU.l22 selfE x4 rec8 y l i acc=YY (rawL enc y.fTag l) fun m=>rec8 (x4+1) (acc++m)
 |[],i,acc,_,_=>by rw[zU.l22,rawL,YY,qH]
 |x::l,i,acc,h,hl=>by
  rw[qk] at hl;have hx:=h x (qA ..)
  have go:∀ r:GRaw,rawT enc y.fTag x=some r→r.fB.length≤4096→zU.j37 i acc (zU.l22 selfE x4 rec8 y l) r=YY (rawL enc y.fTag (x::l)) fun m=>rec8 (x4+1) (acc++m):=by
   intro r hr hb
   rw[zU.j37,if_neg (by omega),wA (by omega),qh,rraws_l22 l _ _ (fun z hz=>h z (qB _ hz)) (by rw[qj,qQ]; omega),rawL,hr,qh]
   cases rawL enc y.fTag l with
   |none=>rfl
   |some m=>simp only[YY,qh,qv,qM,qK]
  rw[zU.l22]
  by_cases h1:x.fKind=1
  · rw[if_pos h1];exact go _ (by rw[rawT,if_pos h1]) (ut _)
  rw[if_neg h1]
  by_cases h2:x.fKind=2
  · rw[if_pos h2]
    by_cases hb:4096<x.fS.length
    · rw[zU.j37,if_pos (by dsimp only; omega),rawL,rawT,if_neg h1,if_pos h2,if_pos hb]; rfl
    exact go _ (by rw[rawT,if_neg h1,if_pos h2,if_neg hb]) (by dsimp only; omega)
  rw[if_neg h2];obtain⟨he,hl4⟩:=hx.2 (by rcases hx.1 with h|h|h<;>omega);rw[he,qh]
  cases hx':enc x with
  |none=>rw[rawL,rawT,if_neg h1,if_neg h2,hx']; rfl
  |some b=>
   rw[vb0]; dsimp only
   rw[if_pos rfl];exact go _ (by rw[rawT,if_neg h1,if_neg h2,hx',qh]) (hl4 b hx')
theorem rraws_l8 {selfE:GTree→Option (List UInt8×Int)}{enc:GTree→Option (List UInt8)}{t:GTree}(hr:t.fRest.length≤900000):∀ (l:List GEntry) (i:Int) (acc:List GRaw),(∀ e∈l,e.fTrees.length≤64∧∀ x∈e.fTrees,(x.fKind=1∨x.fKind=2∨x.fKind=3)∧(x.fKind=3→selfE x=some (vb0 (enc x))∧∀ b,enc x=some b→b.length≤4096))→acc.length+64*l.length≤64000→
 zU.l8 selfE t l i acc=YY (rawE enc l) fun m=>some (srt ((acc++m)++t.fRest),0)
 |[],i,acc,_,hl=>by
  rw[zU.l8,wA (by simp only[qr] at hl; omega),qh,vbV (by rw[qj]; simp only[qr] at hl; omega),rawE,YY,qH]; rfl
 |e::l,i,acc,h,hl=>by
  rw[qk] at hl;have he:=h e (qA ..);rw[zU.l8,rraws_l22 e.fTrees 0 acc he.2 (by omega),rawE]
  cases hL:rawL enc e.fTag e.fTrees with
  |none=>rfl
  |some m=>
   have hm:=rawL_len hL;rw[YY,rraws_l8 hr l _ _ (fun z hz=>h z (qB _ hz)) (by rw[qj]; omega),qh]
   cases rawE enc l with
   |none=>rfl
   |some m'=>simp only[YY,qh,qv]
theorem vb9 {l:List GRaw}{t:Int}(h:∀ r∈l,r.fTag≠t):l.filter (fun x=>x.fTag=t)=[]:=by
 rw[List.filter_eq_nil_iff]
 intro r hr
 simpa using h r hr
theorem srt_swap {l m:List GRaw}(h:∀ a∈l,∀ b∈m,a.fTag≠b.fTag):srt (l++m)=srt (m++l):=by
 refine srt_of (vaM _) fun t=>?_
 rw[vaN,List.filter_append,List.filter_append]
 by_cases hl:∃ a∈l,a.fTag=t
 · obtain⟨a,ha,rfl⟩:=hl;rw[vb9 (l:=m) (t:=a.fTag) fun b hb hc=>h a ha b hb hc.symm,qH,qK]
 rw[vb9 (l:=l) (t:=t) fun a ha hc=>hl ⟨a,ha,hc⟩,qH,qK]
theorem rest_apart {d:Nat}{t:GTree}{L:List GRaw}(hr:wn (d+1) t=true)(h3:t.fKind=3)(hz:szT (d+1) t)(hL:rawE (YA d) t.fEntries=some L):∀ a∈L,∀ b∈t.fRest,a.fTag≠b.fTag:=by
 obtain⟨_,he,hb,_,_⟩:=Xp hr h3
 intro a ha b hb' hc
 obtain⟨_,e,hm,he'⟩:=rawE_ok (fun e hm=>by
  have:=ZV he e hm
  exact⟨by omega,this.2.1,fun x hx=>(szT_own (hz.2 x (ZF hm hx))).1⟩) hL a ha
 exact ((restB_mem hb).1 b hb').2 e hm (he'.symm.trans hc)
theorem rencode_eq : ∀ (d k:Nat) (t:GTree),2*d≤k→wn d t=true→t.fKind=3→szT d t→yO k t=some (vb0 (YA d t))
 |0,k,t,_,hr,h3,_=>by
  rcases XJ hr with h|h<;>omega
 |d+1,k,t,hk,hr,h3,hz=>by
  obtain⟨k',rfl⟩:∃ k',k=k'+2:=⟨k-2,by omega⟩
  obtain⟨hl,he,hb,_,_⟩:=Xp hr h3
  have hs:∀ e∈t.fEntries,e.fTrees.length≤64∧∀ x∈e.fTrees,(x.fKind=1∨x.fKind=2∨x.fKind=3)∧(x.fKind=3→yO k' x=some (vb0 (YA d x))∧∀ b,YA d x=some b→b.length≤4096):=by
   intro e hm
   have h1:=ZV he e hm;refine⟨h1.2.2.2.1,fun x hx=>?_⟩;have hrx:=(h1.2.2.2.2 x hx).2;exact⟨XT hrx,fun hx3=>⟨rencode_eq d k' x (by omega) hrx hx3 (hz.2 x (ZF hm hx)),fun b=>vcc⟩⟩
  rw[yO,yO.body,zU,zU.body,rraws_l8 (enc:=YA d) hz.1.2.1 t.fEntries 0 [] hs (by rw[qr]; omega),YA]
  cases hL:rawE (YA d) t.fEntries with
  |none=>rfl
  |some L=>
   have hok:=raws_ok hr h3 hz hL
   rw[YY,qh,qK,srt_swap (rest_apart hr h3 hz hL)]; dsimp only
   rw[if_pos rfl,vbX fun r hr=>(hok r hr).2,vac hok,qh,qh]
theorem vbU {t:GTree}(hz:szT 10 t):xC t=some (if Yf t=true∧t.fKind=3 then vb0 (YA 10 t) else ([],1)):=by
 rw[xC,ref09_Check_eq hz]
 by_cases h3:t.fKind=3
 · rw[if_pos h3,qh,qh]
   by_cases hc:Yf t=true
   · rw[if_neg (by rw[hc]; decide),if_pos ⟨hc,h3⟩,rencode_eq 10 rounds t (by have:=wg; omega) (vag hc).1 h3 hz,qh]
   rw[if_pos (by simpa using hc),if_neg (fun h=>hc h.1)]
 rw[if_neg h3,qh,if_pos rfl,if_neg (fun h=>h3 h.2)]
def deepT : Nat→GTree→Prop
 |0,t=>kids t=[]
 |d+1,t=>∀ x∈kids t,deepT d x
theorem rawEqB {r:GRaw}:(!(decide (r.fTag=r.fTag)&&(decide (r.fWire=r.fWire)&&(decide (r.fN=r.fN)&&decide (r.fB=r.fB)))))=false:=by simp
theorem same_l28 {self:GTree→GTree→Option Bool}{x11:Int}{rec13:Int→Option Bool}{y:GEntry}:∀ (B A:List GTree),y.fTrees=A++B→(∀ x∈B,self x x=some true)→zQ.l28 self x11 rec13 y B (A.length:Int)=rec13 (x11+1)
 |[],A,_,_=>rfl
 |x::B,A,h,hs=>by
  have ei:Zb y.fTrees (A.length:Int)=some x:=by rw[h]; exact ZH rfl
  rw[zQ.l28,ei,qh,hs x (qA ..),qh,if_neg (by decide),show (A.length:Int)+1=((A++[x]).length:Int) by rw[qj,qQ]; omega]
  exact same_l28 B (A++[x]) (by rw[h,qv]; rfl) fun z hz=>hs z (qB _ hz)
theorem same_l13 {self:GTree→GTree→Option Bool}{t:GTree}:∀ (B A:List GEntry),t.fEntries=A++B→(∀ e∈B,∀ x∈e.fTrees,self x x=some true)→zQ.l13 self t B (A.length:Int)=some true
 |[],A,_,_=>rfl
 |e::B,A,h,hs=>by
  have ei:Zb t.fEntries (A.length:Int)=some e:=by rw[h]; exact ZH rfl
  rw[zQ.l13,ei,qh,if_neg (by simp)];have:=same_l28 (self:=self) (x11:=(A.length:Int)) (rec13:=zQ.l13 self t B) (y:=e) e.fTrees [] rfl (hs e (qA ..));rw[qr] at this;refine this.trans ?_;rw[show (A.length:Int)+1=((A++[e]).length:Int) by rw[qj,qQ]; omega]
  exact same_l13 B (A++[e]) (by rw[h,qv]; rfl) fun z hz=>hs z (qB _ hz)
theorem same_l8 {self:GTree→GTree→Option Bool}{t:GTree}:∀ (B A:List GRaw),t.fRest=A++B→zQ.l8 self t t B (A.length:Int)=zQ.l13 self t t.fEntries 0
 |[],A,_=>rfl
 |r::B,A,h=>by
  have ei:Zb t.fRest (A.length:Int)=some r:=by rw[h]; exact ZH rfl
  rw[zQ.l8,ei,qh,rawEqB,if_neg (by decide),show (A.length:Int)+1=((A++[r]).length:Int) by rw[qj,qQ]; omega];exact same_l8 B (A++[r]) (by rw[h,qv]; rfl)
theorem same_refl : ∀ (d k:Nat) (t:GTree),d<k→deepT d t→zQ k t t=some true
 |d,0,t,h,_=>by omega
 |d,k+1,t,hk,hd=>by
  rw[zQ,zQ.body,if_neg (by simp)];have h8:=same_l8 (self:=zQ k) (t:=t) t.fRest [] rfl;rw[qr] at h8;refine h8.trans ?_
  have h13:=same_l13 (self:=zQ k) (t:=t) t.fEntries [] rfl fun e he x hx=>by
   have hm:=ZF he hx
   cases d with
   |zero=>rw[show kids t=[] from hd] at hm; cases hm
   |succ d=>exact same_refl d k x (by omega) (hd x hm)
  rw[qr] at h13;exact h13
theorem Same_refl {d:Nat}{t:GTree}(hd:d<1000)(h:deepT d t):zQ rounds t t=some true:=same_refl d rounds t (by have:=wg; omega) h
theorem right_deep : ∀ (d:Nat) (t:GTree),wn d t=true→deepT d t
 |0,t,h=>by
  have:t.fEntries=[]:=by
   unfold wn vbm at h
   split at h
   · simp only[qz,decide_eq_true_eq] at h;exact qF.1 (by omega)
   split at h
   · simp only[qz,decide_eq_true_eq] at h;exact qF.1 (by omega)
   cases h
  rw[deepT,kids,this]; rfl
 |d+1,t,h=>by
  rw[deepT]
  intro x hx
  obtain⟨e,he,hxe⟩:=List.mem_flatMap.1 hx
  by_cases h3:t.fKind=3
  · obtain⟨_,hE,_⟩:=Xp h h3;exact right_deep d x ((ZV hE e he).2.2.2.2 x hxe).2
  rw[wn,if_neg h3] at h
  have:t.fEntries=[]:=by
   unfold vbm at h
   split at h
   · simp only[qz,decide_eq_true_eq] at h;exact qF.1 (by omega)
   split at h
   · simp only[qz,decide_eq_true_eq] at h;exact qF.1 (by omega)
   cases h
  rw[this] at he; cases he
end
section
set_option maxRecDepth 4000
open AM

end
end Go.Proofs.YtaahlckibpiphaaGreatDoor
