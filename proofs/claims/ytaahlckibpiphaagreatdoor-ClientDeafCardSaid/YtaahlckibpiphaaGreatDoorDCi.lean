/- Parts of the proof, cut down to what it needs. -/
import Derived.Test.YtaahlckibpiphaaGreatDoorDFB
import Derived.Test.YtaahlckibpiphaaGreatDoorDFBa
set_option linter.constructorNameAsVariable false
set_option linter.unusedSimpArgs false
set_option linter.unusedVariables false
namespace Go.Proofs.YtaahlckibpiphaaGreatDoor
open _root_.List renaming length → qg, flatMap → qh, drop_zero → qn, map_append → qo, map_cons → qp, map_nil → qs, length_append → qw, length_cons → qx, length_nil → qz, flatMap_append → qA, flatMap_cons → qB, getD_eq_getElem?_getD → qC, append_assoc → qD, append_nil → qF, cons_append → qH, nil_append → qJ, length_eq_zero_iff → qK, flatMap_nil → qL, replicate → qO, getElem?_append_left → qQ, getElem?_eq_some_iff → qR, range_zero → qS, all_cons → qT, getElem?_eq_getElem → qU, all_nil → qV, range_succ → qY, getElem?_set_ne → qZ, getElem?_append_right → q7, getElem?_eq_none → ua, length_map → ub, take_length → uc, all_eq_true → ud, mem_cons_of_mem → ue, take_of_length_le → ug, getElem?_set_self → uh, take_append_drop → ui, mem_cons → uk, mem_map → um, getElem?_cons_zero → uu, getElem?_cons_succ → uv, range → uw, set_cons_zero → ux, set_cons_succ → uy, length_take → uE, mem_of_getElem? → uL, mem_append_left → uM, eq_nil_of_length_eq_zero → uN, mem_cons_self → uO
open _root_.Option renaming bind_some → un, map_some → uq, getD_some → uB
open _root_.Nat renaming reduceEqDiff → qa, reduceLeDiff → qb, reduceAdd → qc, reduceSub → qd, reduceMul → qe, reduceLT → qf, zero_add → ql, le_refl → qy, lt_succ_self → qE, zero_le → qX, mul_le_mul_right → q2, reduceMod → q3, lt_of_lt_of_le → q5, add_assoc → ur, zero_mul → ut, sub_zero → uC, succ_mul → uH, sub_self → uI, le_trans → uJ, add_zero → uK, lt_or_ge → uQ
open _root_.Bool renaming not_false → qk, and_true → qm, or_true → qq, not_true → qr, and_false → qt, or_false → qv, and_self → qG, and_eq_true → qM, false_eq_true → qW, or_eq_true → uj, true_and → uF, false_or → uG
open _root_.Int renaming toNat → qP, toNat_natCast → uA
open _root_.BitVec renaming ofInt → qN, toNat → uf
open _root_.Array renaming length_toList → q1, getD_eq_getD_getElem? → ul, getElem?_eq_getElem → uz, getElem?_setIfInBounds_ne → uD, replicate → uP, getElem?_modify → uR
open _root_.UInt8 renaming ofNat → uo
open Result renaming andThen_ok → qj
open Sem renaming run_bind → qu, run_pure → qI
open _root_.Go.Proofs.Tryz renaming prog → qi
section
set_option maxRecDepth 4000
set_option maxHeartbeats 1000000
open AM
theorem wF.ev (a0:GTree)(r:List GRaw×Int)(h:wF a0=some r)(σ:Store):ACalls qi 95 [.agg (cellsGTree a0)] σ (fun r' σ'=>r'=.tup [.ds true (qh encGRaw r.1) (qg r.1) false,.int .i64 r.2]∧σ'=σ):=
 (wF.ok a0 r h).c σ
def xu (a0:GTree):Option (List UInt8×Int):=
 (wF a0).bind fun r1=>(if r1.2=0 then (yC r1.1).bind fun r6=>some (r6.1,r6.2) else some (([]:List UInt8),r1.2))
theorem xu.ok (a0:GTree)(r:List UInt8×Int)(h:xu a0=some r):ACalls qi 62 [.agg (cellsGTree a0)] [] (fun r' _=>r'=.tup [.ds true (qh encB r.1) (qg r.1) false,.int .i64 r.2]):=by
 refine zj (rs:=[.tmp 2,.tmp 3]) tok Tryz.func62 rfl Tryz.ntmps62 rfl Tryz.call62 (by simp) ?_;refine zm [(0,.agg (cellsGTree a0))] ⟨rfl,trivial⟩ ?_;unfold xu at h
 refine rg tok [1] fun K hK=>?_
 simp only[go_sem,qf,qb,qa,qc,qe,qd,reduceIte,reduceCtorEq,cellsGTree,zb];apply hK
 refine rc [4,5] fun K hK=>?_
 obtain⟨r1,hr1,h⟩:=bind_some h;refine za tok 1 ?_;simp only[go_sem,qf,qb,qa,qc,qe,qd,reduceIte,reduceCtorEq,cellsGTree,zb];refine clN rfl rfl rfl (wF.ev a0 r1 hr1 _) ?_;refine za tok 5 ?_;simp only[go_sem,qf,qb,qa,qc,qe,qd,reduceIte,reduceCtorEq,cellsGTree,zb];refine nkN hK ?_
 refine zd fun Z2 hZ2=>?_
 refine rg tok [4,5,12] fun K hK=>?_
 simp only[go_sem,qf,qb,qa,qc,qe,qd,reduceIte,reduceCtorEq,zn];apply hK
 refine zM rfl (fun hc3=>?_) (fun hc3=>?_)
 · rw[if_neg hc3] at h;have t4:=eq_false hc3
   refine rg tok [2,3] fun K hK=>?_
   simp only[go_sem,qf,qb,qa,qc,qe,qd,reduceIte,reduceCtorEq,t4];apply hK
   cases h;exact rtA
 rw[if_pos hc3] at h;have t5:=eq_true hc3;apply zf;apply hZ2
 refine rc [2,3] fun K hK=>?_
 obtain⟨r6,hr6,h⟩:=bind_some h;refine za tok 1 ?_;simp only[go_sem,qf,qb,qa,qc,qe,qd,reduceIte,reduceCtorEq,t5];refine clN rfl rfl rfl (yC.ev r1.1 r6 hr6 _) ?_;refine za tok 4 ?_;simp only[go_sem,qf,qb,qa,qc,qe,qd,reduceIte,reduceCtorEq,t5];refine nkN hK ?_;cases h;exact rtA
theorem xu.ev (a0:GTree)(r:List UInt8×Int)(h:xu a0=some r)(σ:Store):ACalls qi 62 [.agg (cellsGTree a0)] σ (fun r' σ'=>r'=.tup [.ds true (qh encB r.1) (qg r.1) false,.int .i64 r.2]∧σ'=σ):=
 (xu.ok a0 r h).c σ
def zW.l26 (a0:GClientClient)(a1:List UInt8)(a2:GTree):List Int→Int→List UInt8→Option (GPacket×Int×GClientClient)
 |[],x22,l20=>some ((⟨1,a0.fself,a0.fserver,IntKind.i64.wrap (a0.fid+1),0,[],0,l20⟩:GPacket),0,(⟨a0.fself,a0.fserver,a0.fnumbers,a0.fschemas,IntKind.i64.wrap (a0.fid+1),1,a1,a2,a0.fagreed,(⟨1,a0.fself,a0.fserver,IntKind.i64.wrap (a0.fid+1),0,[],0,l20⟩:GPacket),(none:Option GClientResult)⟩:GClientClient))
 |y26::q26,x22,l20=>(Xj (qg l20+1) 1).bind fun _u34=>((zW.l26 a0 a1 a2 q26) (x22+1) (l20++[uo (qP (IntKind.u8.wrap y26))]))
def zW (a0:GClientClient)(a1:List UInt8)(a2:GTree):Option (GPacket×Int×GClientClient):=
 (yh a0).bind fun r1=>bnd (ym r1 a1) fun r2=>(if a0.fwaits=0 then (if (!r2.2)=true then some ((⟨0,0,0,0,0,[],0,[]⟩:GPacket),21,a0) else (yh a0).bind fun r9=>(wi r9 r2.1.fIn a2).bind fun r10=>(if r10=0 then (xu a2).bind fun r15=>(if r15.2=0 then (zW.l26 a0 a1 a2 a0.fnumbers 0 ([]:List UInt8)) else some ((⟨0,0,0,0,0,[],0,[]⟩:GPacket),r15.2,a0)) else some ((⟨0,0,0,0,0,[],0,[]⟩:GPacket),r10,a0))) else some ((⟨0,0,0,0,0,[],0,[]⟩:GPacket),19,a0))
theorem zW.ok (a0:GClientClient)(a1:List UInt8)(a2:GTree)(r:GPacket×Int×GClientClient)(h:zW a0 a1 a2=some r):ACalls qi 18 [.op 0 0 0,.str a1,.agg (cellsGTree a2)] [.cells 0 (encGClientClient a0)] (fun r' σ'=>r'=.tup [.agg (encGPacket r.1),.int .i64 r.2.1]∧σ'=[.cells 0 (encGClientClient r.2.2)]):=by
 refine xE [0] (rs:=[.cell 6 43,.tmp 7]) tok Tryz.func18 rfl Tryz.ntmps18 rfl Tryz.call18 (by simp) rfl ?_;refine zm [(0,.op 0 0 0),(1,.str a1),(2,.agg (cellsGTree a2))] ⟨rfl,rfl,rfl,trivial⟩ ?_;unfold zW at h
 refine rg tok [0,1,5,6] fun K hK=>?_
 simp only[go_sem,qf,qb,qa,qc,qe,qd,reduceIte,reduceCtorEq,cellsGTree,zb];apply hK
 refine rc [0,1,5,6,8,9] fun K hK=>?_
 obtain⟨r1,hr1,h⟩:=bind_some h;refine rnN 1 ?_;refine clN rfl rfl rfl (@id (ACalls qi 60 [.op 0 0 0] [.cells 0 (encGClientClient a0),.cells 0 (cellsGTree a2),.cells 0 [.int .i64 0,.int .i64 0,.int .i64 0,.int .i64 0,.int .i64 0,.str [],.int .i64 0,.str []]] (fun r' σ'=>r'=.agg (encGSchema r1)∧σ'=[.cells 0 (encGClientClient a0),.cells 0 (cellsGTree a2),.cells 0 [.int .i64 0,.int .i64 0,.int .i64 0,.int .i64 0,.int .i64 0,.str [],.int .i64 0,.str []]])) ((yh.ok a0 r1 hr1).i [0])) ?_;obtain⟨r2,hr2,h⟩:=zB h;refine rnN 1 ?_;refine clN rfl rfl rfl (ym.ev r1 a1 r2 hr2 _) ?_;refine za tok 6 ?_;simp only[go_sem,qf,qb,qa,qc,qe,qd,reduceIte,reduceCtorEq,encGMethod];refine nkN hK ?_
 refine zd fun Z3 hZ3=>?_
 apply zg
 refine rg tok [0,1,5,6,8,9,23] fun K hK=>?_
 simp only[go_sem,qf,qb,qa,qc,qe,qd,reduceIte,reduceCtorEq,zn];apply hK
 refine zM rfl (fun hc4=>?_) (fun hc4=>?_)
 · rw[if_neg hc4] at h;have t5:=eq_false hc4
   refine rg tok [6,7] fun K hK=>?_
   simp only[go_sem,qf,qb,qa,qc,qe,qd,reduceIte,reduceCtorEq,encGPacket,t5];apply hK
   apply zJ;cases h;simp only[wb,ya,yf,yS,exists_eq_left',go_sem,qf,qb,qa,qc,qe,qd,reduceIte,reduceCtorEq,cellsGTree,encGClientClient,encGPacket,zb];refine⟨by decide,by simp,?_,?_⟩
   · first|rfl|(simp only[go_sem,qf,qb,qa,qc,qe,qd,reduceIte,reduceCtorEq,push_cast,if_true,qn,ql,qp,qs,qo,qq,qv,qm,qt,qr,qk,zh,cellsGTree,encGClientClient,encGPacket,zb]<;>rfl)
   first|rfl|(simp only[go_sem,qf,qb,qa,qc,qe,qd,reduceIte,reduceCtorEq,push_cast,if_true,qn,ql,qp,qs,qo,qq,qv,qm,qt,qr,qk,zh,cellsGTree,encGClientClient,encGPacket,zb]<;>rfl)
 rw[if_pos hc4] at h;have t6:=eq_true hc4
 refine rg tok [0,1,5,6,8,30] fun K hK=>?_
 simp only[go_sem,qf,qb,qa,qc,qe,qd,reduceIte,reduceCtorEq,t6];apply hK
 refine zs (b:=(!r2.2)) rfl (fun hc7=>?_) (fun hc7=>?_)
 · rw[if_pos hc7] at h
   refine rg tok [6,7] fun K hK=>?_
   simp only[go_sem,qf,qb,qa,qc,qe,qd,reduceIte,reduceCtorEq,encGPacket,t6];apply hK
   apply zJ;cases h;simp only[wb,ya,yf,yS,exists_eq_left',go_sem,qf,qb,qa,qc,qe,qd,reduceIte,reduceCtorEq,cellsGTree,encGClientClient,encGPacket,zb];refine⟨by decide,by simp,?_,?_⟩
   · first|rfl|(simp only[go_sem,qf,qb,qa,qc,qe,qd,reduceIte,reduceCtorEq,push_cast,if_true,qn,ql,qp,qs,qo,qq,qv,qm,qt,qr,qk,zh,cellsGTree,encGClientClient,encGPacket,zb]<;>rfl)
   first|rfl|(simp only[go_sem,qf,qb,qa,qc,qe,qd,reduceIte,reduceCtorEq,push_cast,if_true,qn,ql,qp,qs,qo,qq,qv,qm,qt,qr,qk,zh,cellsGTree,encGClientClient,encGPacket,zb]<;>rfl)
 rw[xI hc7] at h;apply zf;apply hZ3
 refine zd fun Z8 hZ8=>?_
 obtain⟨r9,hr9,h⟩:=bind_some h;obtain⟨r10,hr10,h⟩:=bind_some h
 refine rd [0,1,5,6,10] fun K hK=>?_
 refine DW.start (T:=tab) [.any,.eff,.any,.own 1 [],.own 1 [],.eff,.any] [(1,[])] ?_;refine DW.runN tok 1 ?_;simp only[go_sem,qf,qb,qa,qc,qe,qd,reduceIte,reduceCtorEq,cellsGTree,zb,t6];refine DW.callS rfl rfl rfl (@id (ACalls qi 60 [.op 0 0 0] [.cells 0 (encGClientClient a0),.cells 0 (cellsGTree a2),.cells 0 [.int .i64 0,.int .i64 0,.int .i64 0,.int .i64 0,.int .i64 0,.str [],.int .i64 0,.str []],.cells 0 [.str r2.1.fName,.str r2.1.fIn,.str r2.1.fOut]] (fun r' σ'=>r'=.agg (encGSchema r9)∧σ'=[.cells 0 (encGClientClient a0),.cells 0 (cellsGTree a2),.cells 0 [.int .i64 0,.int .i64 0,.int .i64 0,.int .i64 0,.int .i64 0,.str [],.int .i64 0,.str []],.cells 0 [.str r2.1.fName,.str r2.1.fIn,.str r2.1.fOut]])) ((yh.ok a0 r9 hr9).i [0])) (Zt (by simp only[go_sem,qf,qb,qa,qc,qe,qd,reduceIte,reduceCtorEq])) ?_;refine DW.runN tok 3 ?_;simp only[go_sem,qf,qb,qa,qc,qe,qd,reduceIte,reduceCtorEq,cellsGTree,zb,t6];refine DW.call rfl rfl rfl (wi.ev r9 r2.1.fIn a2 r10 hr10 _) ?_;refine DW.runN tok 1 ?_;simp only[go_sem,qf,qb,qa,qc,qe,qd,reduceIte,reduceCtorEq,cellsGTree,zb,t6];refine DW.fin tok (by decide +kernel) rfl ?_;simp only[zk,zw,zD,xJ,upd,qa,reduceIte,z1,yA];apply hK
 refine rg tok [0,1,5,6,10,41] fun K hK=>?_
 simp only[go_sem,qf,qb,qa,qc,qe,qd,reduceIte,reduceCtorEq,zn,t6];apply hK
 refine zM rfl (fun hc11=>?_) (fun hc11=>?_)
 · rw[if_neg hc11] at h;have t12:=eq_false hc11
   refine rg tok [6,7] fun K hK=>?_
   simp only[go_sem,qf,qb,qa,qc,qe,qd,reduceIte,reduceCtorEq,encGPacket,t6,t12];apply hK
   apply zJ;cases h;simp only[wb,ya,yf,yS,exists_eq_left',go_sem,qf,qb,qa,qc,qe,qd,reduceIte,reduceCtorEq,cellsGTree,encGClientClient,encGPacket,zb];refine⟨by decide,by simp,?_,?_⟩
   · first|rfl|(simp only[go_sem,qf,qb,qa,qc,qe,qd,reduceIte,reduceCtorEq,push_cast,if_true,qn,ql,qp,qs,qo,qq,qv,qm,qt,qr,qk,zh,cellsGTree,encGClientClient,encGPacket,zb]<;>rfl)
   first|rfl|(simp only[go_sem,qf,qb,qa,qc,qe,qd,reduceIte,reduceCtorEq,push_cast,if_true,qn,ql,qp,qs,qo,qq,qv,qm,qt,qr,qk,zh,cellsGTree,encGClientClient,encGPacket,zb]<;>rfl)
 rw[if_pos hc11] at h;have t13:=eq_true hc11;apply zf;apply hZ8
 refine zd fun Z14 hZ14=>?_
 refine rc [0,1,5,6,12] fun K hK=>?_
 obtain⟨r15,hr15,h⟩:=bind_some h;refine za tok 1 ?_;simp only[go_sem,qf,qb,qa,qc,qe,qd,reduceIte,reduceCtorEq,cellsGTree,zb,t6,t13];refine clN rfl rfl rfl (xu.ev a2 r15 hr15 _) ?_;refine za tok 5 ?_;simp only[go_sem,qf,qb,qa,qc,qe,qd,reduceIte,reduceCtorEq,cellsGTree,zb,t6,t13];refine nkN hK ?_
 refine rg tok [0,1,5,6,12,50] fun K hK=>?_
 simp only[go_sem,qf,qb,qa,qc,qe,qd,reduceIte,reduceCtorEq,zn,t6,t13];apply hK
 refine zM rfl (fun hc16=>?_) (fun hc16=>?_)
 · rw[if_neg hc16] at h;have t17:=eq_false hc16
   refine rg tok [6,7] fun K hK=>?_
   simp only[go_sem,qf,qb,qa,qc,qe,qd,reduceIte,reduceCtorEq,encGPacket,t6,t13,t17];apply hK
   apply zJ;cases h;simp only[wb,ya,yf,yS,exists_eq_left',go_sem,qf,qb,qa,qc,qe,qd,reduceIte,reduceCtorEq,cellsGTree,encGClientClient,encGPacket,zb];refine⟨by decide,by simp,?_,?_⟩
   · first|rfl|(simp only[go_sem,qf,qb,qa,qc,qe,qd,reduceIte,reduceCtorEq,push_cast,if_true,qn,ql,qp,qs,qo,qq,qv,qm,qt,qr,qk,zh,cellsGTree,encGClientClient,encGPacket,zb]<;>rfl)
   first|rfl|(simp only[go_sem,qf,qb,qa,qc,qe,qd,reduceIte,reduceCtorEq,push_cast,if_true,qn,ql,qp,qs,qo,qq,qv,qm,qt,qr,qk,zh,cellsGTree,encGClientClient,encGPacket,zb]<;>rfl)
 rw[if_pos hc16] at h;have t18:=eq_true hc16;apply zf;apply hZ14
 refine rg tok [0,1,5,6,13] fun K hK=>?_
 simp only[go_sem,qf,qb,qa,qc,qe,qd,reduceIte,reduceCtorEq,t6,t13,t18];apply hK
 refine Yq 13 1 rfl ?_;refine yB (L:=[(0,.op 0 0 0),(1,.str a1),(5,.op 1 0 0),(6,.op 2 0 0),(13,.os true 1 4 0 0 (qg ([]:List UInt8)) false)]) (τ:=[.cells 0 (encGClientClient a0),.cells 0 (cellsGTree a2),.cells 0 [.int .i64 0,.int .i64 0,.int .i64 0,.int .i64 0,.int .i64 0,.str [],.int .i64 0,.str []],.cells 0 [.str r2.1.fName,.str r2.1.fIn,.str r2.1.fOut],.cells 0 (qh encB ([]:List UInt8))]) .s ?_
 refine zd fun Z19 hZ19=>?_
 refine rg tok [0,1,5,6,13,56,57,58] fun K hK=>?_
 simp only[go_sem,qf,qb,qa,qc,qe,qd,reduceIte,reduceCtorEq,t6,t13,t18];apply hK
 apply zg
 refine yq 56 fun hb26=>?_
 replace hb26:qg a0.fnumbers≤9223372036854775807:=hb26.1;refine zP (fun m L τ=>∃ (p26 q26:List Int) (x22:Int) (l20:List UInt8) (v21:Nat),m=qg q26∧L=[(0,.op 0 0 0),(1,.str a1),(5,.op 1 0 0),(6,.op 2 0 0),(13,.os true 1 3 v21 0 (qg l20) false),(56,.ds true (qh encI a0.fnumbers) (qg a0.fnumbers) false),(57,.int .i64 (qg a0.fnumbers:Int)),(58,.int .i64 x22)]∧τ=[.cells 0 (encGClientClient a0),.cells 0 (cellsGTree a2),.cells 0 [.int .i64 0,.int .i64 0,.int .i64 0,.int .i64 0,.int .i64 0,.str [],.int .i64 0,.str []],.cells v21 (qh encB l20)]∧a0.fnumbers=p26++q26∧x22=(qg p26:Int)∧zW.l26 a0 a1 a2 q26 x22 l20=some r) _ ⟨[],a0.fnumbers,0,([]:List UInt8),0,rfl,rfl,rfl,rfl,rfl,h⟩ (.t [0,1,2,4] false) ?_;rintro m L τ ⟨p26,q26,x22,l20,v21,rfl,rfl,rfl,hE26,hi26,h⟩
 rcases q26 with _|⟨y26,q26⟩
 · have hz26:=yN hE26 hi26;simp only[zW.l26] at h
   refine rg tok [0,1,5,6,13,56,57,58,59] fun K hK=>?_
   simp only[go_sem,qf,qb,qa,qc,qe,qd,reduceIte,reduceCtorEq,zn,t6,t13,t18,hz26];apply hK
   refine zd fun Z27 hZ27=>?_
   refine zo rfl ?_;apply zI;apply hZ19
   refine rg tok [0,1,5,6,13] fun K hK=>?_
   simp only[go_sem,qf,qb,qa,qc,qe,qd,reduceIte,reduceCtorEq,zn,cellsGTree,encGClientClient,encGPacket,zb,t6,t13,t18,hz26];apply hK
   refine rd [0,6,13] fun K hK=>?_
   refine DW.start (T:=tab) [.any,.any,.any,.any,.any,.own 2 [0],.any,.any,.eff,.any,.any,.eff,.any,.any,.eff,.any,.any,.eff] [(2,[0])] ?_;refine DW.runN tok 8 ?_;simp only[go_sem,qf,qb,qa,qc,qe,qd,reduceIte,reduceCtorEq,cellsGTree,encGClientClient,encGPacket,zb,t6,t13,t18,hz26];refine DW.runN tok 8 ?_;simp only[go_sem,qf,qb,qa,qc,qe,qd,reduceIte,reduceCtorEq,cellsGTree,encGClientClient,encGPacket,zb,t6,t13,t18,hz26];refine DW.runN tok 2 ?_;simp only[go_sem,qf,qb,qa,qc,qe,qd,reduceIte,reduceCtorEq,cellsGTree,encGClientClient,encGPacket,zb,t6,t13,t18,hz26];refine DW.fin tok (by decide +kernel) rfl ?_;simp only[zk,zw,zD,xJ,upd,qa,reduceIte,z1,yA];apply hK
   have f28:=conv_b2so (T:=tab) (src:=48) (dst:=9) rfl rfl rfl rfl rfl rfl l20 (σ:=[.cells 0 [.int .i64 a0.fself,.int .i64 a0.fserver,.ds true (qh encI a0.fnumbers) (qg a0.fnumbers) false,.ds true (qh encGSchema a0.fschemas) (qg a0.fschemas) false,.int .i64 (IntKind.i64.wrap (a0.fid+1)),.int .i64 1,.str a1,.int .i64 a2.fKind,.int .i64 a2.fN,.str a2.fS,.ds true (qh encGEntry a2.fEntries) (qg a2.fEntries) false,.ds true (qh encGRaw a2.fRest) (qg a2.fRest) false,.int .i64 a0.fagreed,.int .i64 a0.fsent.fKind,.int .i64 a0.fsent.fFrom,.int .i64 a0.fsent.fTo,.int .i64 a0.fsent.fID,.int .i64 a0.fsent.fVersion,.str a0.fsent.fMethod,.int .i64 a0.fsent.fErr,.str a0.fsent.fBody,.nilp],.cells 0 (cellsGTree a2),.cells 0 [.int .i64 0,.int .i64 0,.int .i64 0,.int .i64 0,.int .i64 0,.str [],.int .i64 0,.str []],.cells v21 (qh encB l20)]) (id:=3) (ver:=v21) (by simp only[Store.at_hd,Store.at_tl,if_true]) true false
   refine rd [0,6] fun K hK=>?_
   refine DW.start (T:=tab) [.any,.any,.any,.any,.at [],.any,.any,.any,.at [],.any,.any,.any,.at [],.any,.at [],.any,.any,.any,.eff] [] ?_;refine DW.runN tok 8 ?_;simp only[go_sem,qf,qb,qa,qc,qe,qd,reduceIte,reduceCtorEq,cellsGTree,encGClientClient,encGPacket,zb,t6,t13,t18,hz26,f28,Store.at_hd,Store.at_tl,if_true];refine DW.runN tok 8 ?_;simp only[go_sem,qf,qb,qa,qc,qe,qd,reduceIte,reduceCtorEq,cellsGTree,encGClientClient,encGPacket,zb,t6,t13,t18,hz26,f28,Store.at_hd,Store.at_tl,if_true];refine DW.runN tok 3 ?_;simp only[go_sem,qf,qb,qa,qc,qe,qd,reduceIte,reduceCtorEq,cellsGTree,encGClientClient,encGPacket,zb,t6,t13,t18,hz26,f28,Store.at_hd,Store.at_tl,if_true];refine DW.fin tok (by decide +kernel) rfl ?_;simp only[zk,zw,zD,xJ,upd,qa,reduceIte,z1,yA];apply hK
   refine rg tok [6,7] fun K hK=>?_
   simp only[go_sem,qf,qb,qa,qc,qe,qd,reduceIte,reduceCtorEq,encGPacket,t6,t13,t18,hz26];apply hK
   apply zJ;cases h;simp only[wb,ya,yf,yS,exists_eq_left',go_sem,qf,qb,qa,qc,qe,qd,reduceIte,reduceCtorEq,cellsGTree,encGClientClient,encGPacket,zb];refine⟨by decide,by simp,?_,?_⟩
   · first|rfl|(simp only[go_sem,qf,qb,qa,qc,qe,qd,reduceIte,reduceCtorEq,push_cast,if_true,qn,ql,qp,qs,qo,qq,qv,qm,qt,qr,qk,zh,cellsGTree,encGClientClient,encGPacket,zb]<;>rfl)
   first|rfl|(simp only[go_sem,qf,qb,qa,qc,qe,qd,reduceIte,reduceCtorEq,push_cast,if_true,qn,ql,qp,qs,qo,qq,qv,qm,qt,qr,qk,zh,cellsGTree,encGClientClient,encGPacket,zb]<;>rfl)
 obtain⟨hz26,hw26,hx26,hE'26,hi'26⟩:=yo hE26 hi26 hb26;simp only[zW.l26] at h
 refine rg tok [0,1,5,6,13,56,57,58,59] fun K hK=>?_
 simp only[go_sem,qf,qb,qa,qc,qe,qd,reduceIte,reduceCtorEq,zn,t6,t13,t18,hz26,hw26];apply hK
 refine zd fun Z29 hZ29=>?_
 refine zu rfl ?_;apply zf;apply hZ29
 refine zd fun Z30 hZ30=>?_
 apply zg;have f31:=E26.idxS hx26;have f32:=E26.fldS0 (f:=3) rfl rfl hx26
 refine rg tok [0,1,5,6,13,15,56,57,58] fun K hK=>?_
 simp only[go_sem,qf,qb,qa,qc,qe,qd,reduceIte,reduceCtorEq,encI,t6,t13,t18,hz26,hw26,f31,f32];apply hK
 have f33:=xS (T:=tab) (src:=3) (dst:=5) rfl rfl rfl;obtain⟨_u34,hu34,h⟩:=bind_some h;have gu34:=yI hu34;have f35:=(zE E48.len l20)
 refine rgE tok [0,1,5,6,13,56,57,58] fun K hK=>?_
 simp only[go_sem,qf,qb,qa,qc,qe,qd,reduceIte,reduceCtorEq,zL,zX,qY,qS,qX,true_and,q3,yv,yb,yx,encB,t6,t13,t18,hz26,hw26,f33,gu34,f35,yu,qV,qT,AV.one,qG,qm,gt_iff_lt,zF,qA,qB,qL,qF,qJ,qw,qx,qz,ql,qD,qH];apply hK
 apply hZ30
 refine rgE tok [0,1,5,6,13,56,57,58] fun K hK=>?_
 simp only[go_sem,qf,qb,qa,qc,qe,qd,reduceIte,reduceCtorEq,zn,t6,t13,t18,hz26,hw26];apply hK
 exact⟨_,_,_,qE q26.length,⟨p26++[y26],q26,x22+1,l20++[uo (qP (IntKind.u8.wrap y26))],v21+1,rfl,rfl,rfl,hE'26,hi'26,h⟩,(.t [0,1,2,3] false)⟩
def z7.j2 (a0:GClientClient)(a2:Int)(m1_1:GTree):GClientClient:=
 (⟨a0.fself,a0.fserver,a0.fnumbers,a0.fschemas,a0.fid,0,a0.fmethod,a0.ft,a0.fagreed,a0.fsent,(some (⟨a0.fid,m1_1,a2⟩:GClientResult))⟩:GClientClient)
def z7 (a0:GClientClient)(a1:GTree)(a2:Int):GClientClient:=
 (if a2=0 then (z7.j2 a0 a2 a1) else (z7.j2 a0 a2 (⟨0,0,[],([]:List GEntry),([]:List GRaw)⟩:GTree)))
theorem z7.ok (a0:GClientClient)(a1:GTree)(a2:Int)(r:GClientClient)(h:z7 a0 a1 a2=r):ACalls qi 64 [.op 0 0 0,.agg (cellsGTree a1),.int .i64 a2] [.cells 0 (encGClientClient a0)] (fun r' σ'=>r'=.tup []∧σ'=[.cells 0 (encGClientClient r)]):=by
 refine xE [0] (rs:=[]) tok Tryz.func64 rfl Tryz.ntmps64 rfl Tryz.call64 (by simp) rfl ?_;refine zm [(0,.op 0 0 0),(1,.agg (cellsGTree a1)),(2,.int .i64 a2)] ⟨rfl,rfl,rfl,trivial⟩ ?_;unfold z7 at h
 refine rg tok [0,2,4] fun K hK=>?_
 simp only[go_sem,qf,qb,qa,qc,qe,qd,reduceIte,reduceCtorEq,cellsGTree,zb];apply hK
 refine yR (fun L τ=>∃ (m1_1:GTree),L=[(0,.op 0 0 0),(2,.int .i64 a2),(4,.op 1 0 0)]∧τ=[.cells 0 (encGClientClient a0),.cells 0 (cellsGTree m1_1)]∧z7.j2 a0 a2 m1_1=r) ?_ ?_
 · refine rg tok [0,2,4,7] fun K hK=>?_
   simp only[go_sem,qf,qb,qa,qc,qe,qd,reduceIte,reduceCtorEq,zn];apply hK
   refine zM rfl (fun hc3=>?_) (fun hc3=>?_)
   · rw[if_neg hc3] at h;have t4:=eq_false hc3
     refine rgE tok [0,2,4] fun K hK=>?_
     simp only[go_sem,qf,qb,qa,qc,qe,qd,reduceIte,reduceCtorEq,cellsGTree,zb,t4];apply hK
     exact⟨_,_,⟨(⟨0,0,[],([]:List GEntry),([]:List GRaw)⟩:GTree),rfl,rfl,h⟩,(.t [0,1] true)⟩
   rw[if_pos hc3] at h;have t5:=eq_true hc3;apply zf;exact⟨_,_,⟨a1,rfl,rfl,h⟩,.s⟩
 rintro _ _ ⟨m1_1,rfl,rfl,h⟩;unfold z7.j2 at h
 refine rdE [] fun K hK=>?_
 refine DW.startP (T:=tab) [0,1,2,3,4,5,6,7,8,10,11,12,9,13,14,15] (by decide +kernel) [.any,.any,.any,.any,.any,.at [],.own 1 [0],.any,.any,.any,.any,.eff,.flt,.any,.any,.eff] [(1,[0])] ?_;simp only[Y9,qp,qs,List.getD_cons_zero,List.getD_cons_succ,renumb];refine DW.runN tok 8 ?_;simp only[go_sem,qf,qb,qa,qc,qe,qd,reduceIte,reduceCtorEq,cellsGTree,encGClientClient,encGClientResult,encGPacket,zb];refine DW.runN tok 8 ?_;simp only[go_sem,qf,qb,qa,qc,qe,qd,reduceIte,reduceCtorEq,cellsGTree,encGClientClient,encGClientResult,encGPacket,zb];refine DW.fin tok (by decide +kernel) rfl ?_;simp only[zk,zw,zD,xJ,upd,qa,reduceIte,z1,yA];apply hK
 -- end
 obtain rfl:=h;simp only[wb,ya,yf,yS,exists_eq_left',go_sem,qf,qb,qa,qc,qe,qd,reduceIte,reduceCtorEq,cellsGTree,encGClientClient,encGPacket,zb];refine⟨by decide,by simp,?_,?_⟩
 · first|rfl|(simp only[go_sem,qf,qb,qa,qc,qe,qd,reduceIte,reduceCtorEq,push_cast,if_true,qn,ql,qp,qs,qo,qq,qv,qm,qt,qr,qk,zh,cellsGTree,encGClientClient,encGPacket,zb]<;>rfl)
 first|rfl|(simp only[go_sem,qf,qb,qa,qc,qe,qd,reduceIte,reduceCtorEq,push_cast,if_true,qn,ql,qp,qs,qo,qq,qv,qm,qt,qr,qk,zh,cellsGTree,encGClientClient,encGPacket,zb]<;>rfl)
def yM.j6 (a0:yH)(l2:List GAdaptPair)(v3:Nat)(l4:List (GAdaptPair×Int))(x5:Int):Option (Int×yH):=
 some (x5,(⟨a0.ffrom,a0.fto,l2,v3,l4⟩:yH))
def yM (a0:yH)(a1:GAdaptPair):Option (Int×yH):=
 (if (!((vat a0.fplace a1).isSome))=true then (Xj (qg a0.fl+1) 32).bind fun _u9=>(yM.j6 a0 (a0.fl++[a1]) (a0.vl+1) (setM a0.fplace a1 (qg a0.fl:Int)) (qg a0.fl:Int)) else (yM.j6 a0 a0.fl a0.vl a0.fplace ((vat a0.fplace a1).getD 0)))
theorem yM.ok (a0:yH)(a1:GAdaptPair)(r:Int×yH)(h:yM a0 a1=some r):ACalls qi 150 [.op 0 0 0,.agg (encGAdaptPair a1)] [.cells 0 [.str a0.ffrom.fName,.ds true (qh encGMessage a0.ffrom.fMessages) (qg a0.ffrom.fMessages) false,.ds true (qh encGEnumeration a0.ffrom.fEnums) (qg a0.ffrom.fEnums) false,.ds true (qh encGMethod a0.ffrom.fMethods) (qg a0.ffrom.fMethods) false,.str a0.fto.fName,.ds true (qh encGMessage a0.fto.fMessages) (qg a0.fto.fMessages) false,.ds true (qh encGEnumeration a0.fto.fEnums) (qg a0.fto.fEnums) false,.ds true (qh encGMethod a0.fto.fMethods) (qg a0.fto.fMethods) false,.os true 2 1 (a0.vl) 0 (qg a0.fl) false,.mp 2],.cells (a0.vl) (qh encGAdaptPair a0.fl),.map (xw kvGAdaptPair (AV.int .i64) a0.fplace)] (fun r' σ'=>r'=.int .i64 r.1∧σ'=[.cells 0 [.str r.2.ffrom.fName,.ds true (qh encGMessage r.2.ffrom.fMessages) (qg r.2.ffrom.fMessages) false,.ds true (qh encGEnumeration r.2.ffrom.fEnums) (qg r.2.ffrom.fEnums) false,.ds true (qh encGMethod r.2.ffrom.fMethods) (qg r.2.ffrom.fMethods) false,.str r.2.fto.fName,.ds true (qh encGMessage r.2.fto.fMessages) (qg r.2.fto.fMessages) false,.ds true (qh encGEnumeration r.2.fto.fEnums) (qg r.2.fto.fEnums) false,.ds true (qh encGMethod r.2.fto.fMethods) (qg r.2.fto.fMethods) false,.os true 2 1 (r.2.vl) 0 (qg r.2.fl) false,.mp 2],.cells (r.2.vl) (qh encGAdaptPair r.2.fl),.map (xw kvGAdaptPair (AV.int .i64) r.2.fplace)]):=by
 refine xE [0,1,2] (rs:=[.tmp 4]) tok Tryz.func150 rfl Tryz.ntmps150 rfl Tryz.call150 (by simp) rfl ?_;refine zm [(0,.op 0 0 0),(1,.agg (encGAdaptPair a1))] ⟨rfl,rfl,trivial⟩ ?_;unfold yM at h
 refine rg tok [0,3] fun K hK=>?_
 simp only[go_sem,qf,qb,qa,qc,qe,qd,reduceIte,reduceCtorEq,encGAdaptPair];apply hK
 have f1:=fun (o0:AObj) (o1:AObj) (x:Store)=>Xr (T:=tab) (t:=239) (ek:=kvGAdaptPair) (ev:=(AV.int .i64)) (z:=0) KA245 rfl rfl rfl rfl a0.fplace a1 true (o0::o1::.map (xw kvGAdaptPair (AV.int .i64) a0.fplace)::x) 2 rfl
 simp only[kvGAdaptPair,encGAdaptPair] at f1
 refine rd [0,3,5,6] fun K hK=>?_
 refine DW.start (T:=tab) [.any,.any,.any,.at [],.at [],.at [],.any,.any,.any,.any,.any] [] ?_;refine DW.runN tok 8 ?_;simp only[go_sem,qf,qb,qa,qc,qe,qd,reduceIte,reduceCtorEq,ZI,qW,if_false,if_true,encGAdaptPair,kvGAdaptPair,f1];refine DW.runN tok 3 ?_;simp only[go_sem,qf,qb,qa,qc,qe,qd,reduceIte,reduceCtorEq,encGAdaptPair,kvGAdaptPair,f1];refine DW.fin tok (by decide +kernel) rfl ?_;simp only[zk,zw,zD,xJ,upd,qa,reduceIte,z1,yA];apply hK
 refine yR (fun L τ=>∃ (l2:List GAdaptPair) (v3:Nat) (l4:List (GAdaptPair×Int)) (x5:Int),L=[(5,.int .i64 x5)]∧τ=[.cells 0 [.str a0.ffrom.fName,.ds true (qh encGMessage a0.ffrom.fMessages) (qg a0.ffrom.fMessages) false,.ds true (qh encGEnumeration a0.ffrom.fEnums) (qg a0.ffrom.fEnums) false,.ds true (qh encGMethod a0.ffrom.fMethods) (qg a0.ffrom.fMethods) false,.str a0.fto.fName,.ds true (qh encGMessage a0.fto.fMessages) (qg a0.fto.fMessages) false,.ds true (qh encGEnumeration a0.fto.fEnums) (qg a0.fto.fEnums) false,.ds true (qh encGMethod a0.fto.fMethods) (qg a0.fto.fMethods) false,.os true 2 1 v3 0 (qg l2) false,.mp 2],.cells v3 (qh encGAdaptPair l2),.map (xw kvGAdaptPair (AV.int .i64) l4)]∧yM.j6 a0 l2 v3 l4 x5=some r) ?_ ?_
 · refine rgN [0,3,5,17] ?_;refine zs (b:=(!((vat a0.fplace a1).isSome))) rfl (fun hc7=>?_) (fun hc7=>?_)
   · rw[if_pos hc7] at h;refine rgN [0,3,5] ?_
     have f8:=fun (o0:AObj) (o1:AObj) (x:Store)=>Xf (T:=tab) (t:=239) (ek:=kvGAdaptPair) (ev:=(AV.int .i64)) KA245 rfl rfl a0.fplace a1 (qg a0.fl:Int) (o0::o1::.map (xw kvGAdaptPair (AV.int .i64) a0.fplace)::x) 2 rfl
     simp only[kvGAdaptPair,encGAdaptPair] at f8
     refine rd [0,3,5] fun K hK=>?_
     refine DW.start (T:=tab) [.any,.any,.any,.at [],.at [],.any,.eff] [] ?_;refine DW.runN tok 7 ?_;simp only[go_sem,qf,qb,qa,qc,qe,qd,reduceIte,reduceCtorEq,encGAdaptPair,kvGAdaptPair,f8];refine DW.fin tok (by decide +kernel) rfl ?_;simp only[zk,zw,zD,xJ,upd,qa,reduceIte,z1,yA];apply hK
     obtain⟨_u9,hu9,h⟩:=bind_some h;have gu9:=yI hu9;have f10:=(zE E240.len a0.fl)
     refine rdE [5] fun K hK=>?_
     refine DW.start (T:=tab) [.any,.any,.any,.any,.own 1 [],.at [],.eff,.eff,.any,.any,.eff] [(1,[])] ?_;refine DW.runN tok 8 ?_;simp only[go_sem,qf,qb,qa,qc,qe,qd,reduceIte,reduceCtorEq,zL,zX,qY,qS,qX,true_and,q3,yv,yb,yx,encGAdaptPair,encGSchema,gu9,f10,yu,qV,qT,AV.one,qG,qm,gt_iff_lt,zF,qA,qB,qL,qF,qJ,qw,qx,qz,ql,qD,qH];refine DW.runN tok 3 ?_;simp only[go_sem,qf,qb,qa,qc,qe,qd,reduceIte,reduceCtorEq,encGAdaptPair,encGSchema,gu9,f10,yu,qV,qT,AV.one,qG,qm,gt_iff_lt,zF,qA,qB,qL,qF,qJ,qw,qx,qz,ql,qD,qH];refine DW.fin tok (by decide +kernel) rfl ?_;simp only[zk,zw,zD,xJ,upd,qa,reduceIte,z1,yA];apply hK
     exact⟨_,_,⟨a0.fl++[a1],a0.vl+1,setM a0.fplace a1 (qg a0.fl:Int),(qg a0.fl:Int),rfl,rfl,h⟩,(.t [0,1,2] false)⟩
   rw[xI hc7] at h;apply zf;exact⟨_,_,⟨a0.fl,a0.vl,a0.fplace,(vat a0.fplace a1).getD 0,rfl,rfl,h⟩,(.t [0,1,2] false)⟩
 rintro _ _ ⟨l2,v3,l4,x5,rfl,rfl,h⟩;unfold yM.j6 at h;refine rgN [4] ?_;apply zJ;cases h;simp only[wb,ya,yf,yS,exists_eq_left',go_sem,qf,qb,qa,qc,qe,qd,reduceIte,reduceCtorEq,encGAdaptPair,encGSchema];refine⟨by decide,by simp,?_,?_⟩
 · first|rfl|(simp only[go_sem,qf,qb,qa,qc,qe,qd,reduceIte,reduceCtorEq,push_cast,if_true,qn,ql,qp,qs,qo,qq,qv,qm,qt,qr,qk,zh,encGAdaptPair,encGSchema]<;>rfl)
 first|rfl|(simp only[go_sem,qf,qb,qa,qc,qe,qd,reduceIte,reduceCtorEq,push_cast,if_true,qn,ql,qp,qs,qo,qq,qv,qm,qt,qr,qk,zh,encGAdaptPair,encGSchema]<;>rfl)
def yL.j9 (m0__03:GSchema)(m0__14:GSchema)(l5:List GAdaptPair)(v6:Nat)(l7:List (GAdaptPair×Int))(m4_8:GStep):Option (GStep×Bool×yH):=
 some (m4_8,true,(⟨m0__03,m0__14,l5,v6,l7⟩:yH))
def yL (a0:yH)(a1:GMessage)(a2:GMessage)(a3:Int):Option (GStep×Bool×yH):=
 bnd (yw a1 a3) fun r1=>bnd (yw a2 a3) fun r2=>(if (((!r1.2)||(!r2.2))||(!(decide (r1.1.fLabel=r2.1.fLabel))))=true then some ((⟨0,0,0⟩:GStep),false,(⟨a0.ffrom,a0.fto,a0.fl,a0.vl,a0.fplace⟩:yH)) else (if ((decide (r1.1.fType.fKind=7))&&(decide (r2.1.fType.fKind=7)))=true then (yM (⟨a0.ffrom,a0.fto,a0.fl,a0.vl,a0.fplace⟩:yH) (⟨r1.1.fType.fName,r2.1.fType.fName⟩:GAdaptPair)).bind fun r14=>(if r1.1.fLabel=1 then (yL.j9 r14.2.ffrom r14.2.fto r14.2.fl r14.2.vl r14.2.fplace (⟨4,a3,r14.1⟩:GStep)) else (yL.j9 r14.2.ffrom r14.2.fto r14.2.fl r14.2.vl r14.2.fplace (⟨3,a3,r14.1⟩:GStep))) else (if ((decide (r1.1.fType.fKind=2))&&(decide (r2.1.fType.fKind=1)))=true then (yL.j9 a0.ffrom a0.fto a0.fl a0.vl a0.fplace (⟨2,a3,0⟩:GStep)) else (if ((!(decide (r1.1.fType.fKind=r2.1.fType.fKind)))&&((!(decide (r1.1.fType.fKind=1)))||(!(decide (r2.1.fType.fKind=2)))))=true then some ((⟨0,0,0⟩:GStep),false,(⟨a0.ffrom,a0.fto,a0.fl,a0.vl,a0.fplace⟩:yH)) else (yL.j9 a0.ffrom a0.fto a0.fl a0.vl a0.fplace (⟨1,a3,0⟩:GStep))))))
theorem yL.ok (a0:yH)(a1:GMessage)(a2:GMessage)(a3:Int)(r:GStep×Bool×yH)(h:yL a0 a1 a2 a3=some r):ACalls qi 151 [.op 0 0 0,.agg (encGMessage a1),.agg (encGMessage a2),.int .i64 a3] [.cells 0 [.str a0.ffrom.fName,.ds true (qh encGMessage a0.ffrom.fMessages) (qg a0.ffrom.fMessages) false,.ds true (qh encGEnumeration a0.ffrom.fEnums) (qg a0.ffrom.fEnums) false,.ds true (qh encGMethod a0.ffrom.fMethods) (qg a0.ffrom.fMethods) false,.str a0.fto.fName,.ds true (qh encGMessage a0.fto.fMessages) (qg a0.fto.fMessages) false,.ds true (qh encGEnumeration a0.fto.fEnums) (qg a0.fto.fEnums) false,.ds true (qh encGMethod a0.fto.fMethods) (qg a0.fto.fMethods) false,.os true 2 1 (a0.vl) 0 (qg a0.fl) false,.mp 2],.cells (a0.vl) (qh encGAdaptPair a0.fl),.map (xw kvGAdaptPair (AV.int .i64) a0.fplace)] (fun r' σ'=>r'=.tup [.agg (encGStep r.1),.bool r.2.1]∧σ'=[.cells 0 [.str r.2.2.ffrom.fName,.ds true (qh encGMessage r.2.2.ffrom.fMessages) (qg r.2.2.ffrom.fMessages) false,.ds true (qh encGEnumeration r.2.2.ffrom.fEnums) (qg r.2.2.ffrom.fEnums) false,.ds true (qh encGMethod r.2.2.ffrom.fMethods) (qg r.2.2.ffrom.fMethods) false,.str r.2.2.fto.fName,.ds true (qh encGMessage r.2.2.fto.fMessages) (qg r.2.2.fto.fMessages) false,.ds true (qh encGEnumeration r.2.2.fto.fEnums) (qg r.2.2.fto.fEnums) false,.ds true (qh encGMethod r.2.2.fto.fMethods) (qg r.2.2.fto.fMethods) false,.os true 2 1 (r.2.2.vl) 0 (qg r.2.2.fl) false,.mp 2],.cells (r.2.2.vl) (qh encGAdaptPair r.2.2.fl),.map (xw kvGAdaptPair (AV.int .i64) r.2.2.fplace)]):=by
 refine xE [0,1,2] (rs:=[.cell 8 248,.tmp 9]) tok Tryz.func151 rfl Tryz.ntmps151 rfl Tryz.call151 (by simp) rfl ?_;refine zm [(0,.op 0 0 0),(1,.agg (encGMessage a1)),(2,.agg (encGMessage a2)),(3,.int .i64 a3)] ⟨rfl,rfl,rfl,rfl,trivial⟩ ?_;unfold yL at h
 refine rg tok [0,3,5,6,8] fun K hK=>?_
 simp only[go_sem,qf,qb,qa,qc,qe,qd,reduceIte,reduceCtorEq,encGMessage];apply hK
 refine rc [0,3,6,8,10,11] fun K hK=>?_
 obtain⟨r1,hr1,h⟩:=zB h;refine za tok 2 ?_;simp only[go_sem,qf,qb,qa,qc,qe,qd,reduceIte,reduceCtorEq,encGMessage];refine clN rfl rfl rfl (yw.ev a1 a3 r1 hr1 _) ?_;refine za tok 6 ?_;simp only[go_sem,qf,qb,qa,qc,qe,qd,reduceIte,reduceCtorEq,encGField,encGMessage,encGType];refine nkN hK ?_
 refine rc [0,3,8,10,11,12,13] fun K hK=>?_
 obtain⟨r2,hr2,h⟩:=zB h;refine za tok 2 ?_;simp only[go_sem,qf,qb,qa,qc,qe,qd,reduceIte,reduceCtorEq,encGMessage];refine clN rfl rfl rfl (yw.ev a2 a3 r2 hr2 _) ?_;refine za tok 6 ?_;simp only[go_sem,qf,qb,qa,qc,qe,qd,reduceIte,reduceCtorEq,encGField,encGMessage,encGType];refine nkN hK ?_
 refine rg tok [0,8,10,11,12,13,14] fun K hK=>?_
 simp only[go_sem,qf,qb,qa,qc,qe,qd,reduceIte,reduceCtorEq,encGStep];apply hK
 refine yR (fun L τ=>∃ (m0__03:GSchema) (m0__14:GSchema) (l5:List GAdaptPair) (v6:Nat) (l7:List (GAdaptPair×Int)) (m4_8:GStep),L=[(8,.op 3 0 0),(14,.op 4 0 0)]∧τ=[.cells 0 [.str m0__03.fName,.ds true (qh encGMessage m0__03.fMessages) (qg m0__03.fMessages) false,.ds true (qh encGEnumeration m0__03.fEnums) (qg m0__03.fEnums) false,.ds true (qh encGMethod m0__03.fMethods) (qg m0__03.fMethods) false,.str m0__14.fName,.ds true (qh encGMessage m0__14.fMessages) (qg m0__14.fMessages) false,.ds true (qh encGEnumeration m0__14.fEnums) (qg m0__14.fEnums) false,.ds true (qh encGMethod m0__14.fMethods) (qg m0__14.fMethods) false,.os true 2 1 v6 0 (qg l5) false,.mp 2],.cells v6 (qh encGAdaptPair l5),.map (xw kvGAdaptPair (AV.int .i64) l7),.cells 0 [.int .i64 0,.int .i64 0,.int .i64 0],.cells 0 [.int .i64 m4_8.fOp,.int .i64 m4_8.fTag,.int .i64 m4_8.fSub]]∧yL.j9 m0__03 m0__14 l5 v6 l7 m4_8=some r) ?_ ?_
 · refine rd [0,8,10,11,12,13,14,15,16] fun K hK=>?_
   refine DW.start (T:=tab) [.any,.any,.at [],.any,.any,.at [],.any,.any] [] ?_;refine DW.runN tok 8 ?_;simp only[go_sem,qf,qb,qa,qc,qe,qd,reduceIte,reduceCtorEq];refine DW.fin tok (by decide +kernel) rfl ?_;simp only[zk,zw,zD,xJ,upd,qa,reduceIte,z1,yA];apply hK
   apply zg
   refine rc [0,8,10,12,14,15,16,37] fun K hK=>?_
   refine rnN 3 ?_;refine zl 3 (fun L τ=>L=[(0,.op 0 0 0),(8,.op 5 0 0),(10,.op 6 0 0),(12,.op 7 0 0),(14,.op 8 0 0),(15,.int .i64 r1.1.fType.fKind),(16,.int .i64 r2.1.fType.fKind),(43,.bool ((!r1.2)||(!r2.2)))]∧τ=[.cells 0 [.str a0.ffrom.fName,.ds true (qh encGMessage a0.ffrom.fMessages) (qg a0.ffrom.fMessages) false,.ds true (qh encGEnumeration a0.ffrom.fEnums) (qg a0.ffrom.fEnums) false,.ds true (qh encGMethod a0.ffrom.fMethods) (qg a0.ffrom.fMethods) false,.str a0.fto.fName,.ds true (qh encGMessage a0.fto.fMessages) (qg a0.fto.fMessages) false,.ds true (qh encGEnumeration a0.fto.fEnums) (qg a0.fto.fEnums) false,.ds true (qh encGMethod a0.fto.fMethods) (qg a0.fto.fMethods) false,.os true 2 1 (a0.vl) 0 (qg a0.fl) false,.mp 2],.cells (a0.vl) (qh encGAdaptPair a0.fl),.map (xw kvGAdaptPair (AV.int .i64) a0.fplace),.cells 0 (encGMessage a1),.cells 0 (encGMessage a2),.cells 0 [.int .i64 0,.int .i64 0,.int .i64 0],.cells 0 (encGField r1.1),.cells 0 (encGField r2.1),.cells 0 [.int .i64 1,.int .i64 a3,.int .i64 0]]) ?_ ?_
   · refine zR (b:=(!r1.2)) 40 rfl (fun hg40=>?_) (fun hg40=>?_)
     · refine rnN 3 ?_;refine ze ⟨rfl,_,_,⟨rfl,rfl⟩,.b hg40⟩
     refine rnN 3 ?_;refine ze ⟨rfl,_,_,⟨rfl,rfl⟩,.b hg40⟩
   rintro _ _ ⟨rfl,rfl⟩;refine rnN 1 ?_;refine zl 6 (fun L τ=>L=[(0,.op 0 0 0),(8,.op 5 0 0),(10,.op 6 0 0),(12,.op 7 0 0),(14,.op 8 0 0),(15,.int .i64 r1.1.fType.fKind),(16,.int .i64 r2.1.fType.fKind),(50,.bool (((!r1.2)||(!r2.2))||(!(decide (r1.1.fLabel=r2.1.fLabel)))))]∧τ=[.cells 0 [.str a0.ffrom.fName,.ds true (qh encGMessage a0.ffrom.fMessages) (qg a0.ffrom.fMessages) false,.ds true (qh encGEnumeration a0.ffrom.fEnums) (qg a0.ffrom.fEnums) false,.ds true (qh encGMethod a0.ffrom.fMethods) (qg a0.ffrom.fMethods) false,.str a0.fto.fName,.ds true (qh encGMessage a0.fto.fMessages) (qg a0.fto.fMessages) false,.ds true (qh encGEnumeration a0.fto.fEnums) (qg a0.fto.fEnums) false,.ds true (qh encGMethod a0.fto.fMethods) (qg a0.fto.fMethods) false,.os true 2 1 (a0.vl) 0 (qg a0.fl) false,.mp 2],.cells (a0.vl) (qh encGAdaptPair a0.fl),.map (xw kvGAdaptPair (AV.int .i64) a0.fplace),.cells 0 (encGMessage a1),.cells 0 (encGMessage a2),.cells 0 [.int .i64 0,.int .i64 0,.int .i64 0],.cells 0 (encGField r1.1),.cells 0 (encGField r2.1),.cells 0 [.int .i64 1,.int .i64 a3,.int .i64 0]]) ?_ ?_
   · refine zR (b:=((!r1.2)||(!r2.2))) 44 rfl (fun hg44=>?_) (fun hg44=>?_)
     · refine za tok 6 ?_;simp only[go_sem,qf,qb,qa,qc,qe,qd,reduceIte,reduceCtorEq,zn];refine ze ⟨rfl,_,_,⟨rfl,rfl⟩,.b hg44⟩
     refine za tok 6 ?_;simp only[go_sem,qf,qb,qa,qc,qe,qd,reduceIte,reduceCtorEq,zn];refine ze ⟨rfl,_,_,⟨rfl,rfl⟩,.b hg44⟩
   rintro _ _ ⟨rfl,rfl⟩;refine rnN 1 ?_;refine nkN hK ?_;refine zs (b:=(((!r1.2)||(!r2.2))||(!(decide (r1.1.fLabel=r2.1.fLabel))))) rfl (fun hc10=>?_) (fun hc10=>?_)
   · rw[if_pos hc10] at h
     refine rg tok [8,9] fun K hK=>?_
     simp only[go_sem,qf,qb,qa,qc,qe,qd,reduceIte,reduceCtorEq,encGStep];apply hK
     apply zJ;cases h;simp only[wb,ya,yf,yS,exists_eq_left',go_sem,qf,qb,qa,qc,qe,qd,reduceIte,reduceCtorEq,encGAdaptPair,encGSchema,encGStep];refine⟨by decide,by simp,?_,?_⟩
     · first|rfl|(simp only[go_sem,qf,qb,qa,qc,qe,qd,reduceIte,reduceCtorEq,push_cast,if_true,qn,ql,qp,qs,qo,qq,qv,qm,qt,qr,qk,zh,encGAdaptPair,encGSchema,encGStep]<;>rfl)
     first|rfl|(simp only[go_sem,qf,qb,qa,qc,qe,qd,reduceIte,reduceCtorEq,push_cast,if_true,qn,ql,qp,qs,qo,qq,qv,qm,qt,qr,qk,zh,encGAdaptPair,encGSchema,encGStep]<;>rfl)
   rw[xI hc10] at h
   refine rc [0,8,10,12,14,15,16,52] fun K hK=>?_
   refine za tok 3 ?_;simp only[go_sem,qf,qb,qa,qc,qe,qd,reduceIte,reduceCtorEq,zn];refine zl 3 (fun L τ=>L=[(0,.op 0 0 0),(8,.op 5 0 0),(10,.op 6 0 0),(12,.op 7 0 0),(14,.op 8 0 0),(15,.int .i64 r1.1.fType.fKind),(16,.int .i64 r2.1.fType.fKind),(58,.bool ((decide (r1.1.fType.fKind=7))&&(decide (r2.1.fType.fKind=7))))]∧τ=[.cells 0 [.str a0.ffrom.fName,.ds true (qh encGMessage a0.ffrom.fMessages) (qg a0.ffrom.fMessages) false,.ds true (qh encGEnumeration a0.ffrom.fEnums) (qg a0.ffrom.fEnums) false,.ds true (qh encGMethod a0.ffrom.fMethods) (qg a0.ffrom.fMethods) false,.str a0.fto.fName,.ds true (qh encGMessage a0.fto.fMessages) (qg a0.fto.fMessages) false,.ds true (qh encGEnumeration a0.fto.fEnums) (qg a0.fto.fEnums) false,.ds true (qh encGMethod a0.fto.fMethods) (qg a0.fto.fMethods) false,.os true 2 1 (a0.vl) 0 (qg a0.fl) false,.mp 2],.cells (a0.vl) (qh encGAdaptPair a0.fl),.map (xw kvGAdaptPair (AV.int .i64) a0.fplace),.cells 0 (encGMessage a1),.cells 0 (encGMessage a2),.cells 0 [.int .i64 0,.int .i64 0,.int .i64 0],.cells 0 (encGField r1.1),.cells 0 (encGField r2.1),.cells 0 [.int .i64 1,.int .i64 a3,.int .i64 0]]) ?_ ?_
   · refine yQ 55 rfl (fun hg55=>?_) (fun hg55=>?_)
     · have t11:=eq_true hg55;refine za tok 3 ?_;simp only[go_sem,qf,qb,qa,qc,qe,qd,reduceIte,reduceCtorEq,zn];refine ze ⟨rfl,_,_,⟨rfl,rfl⟩,.p t11⟩
     have t12:=eq_false hg55;refine za tok 3 ?_;simp only[go_sem,qf,qb,qa,qc,qe,qd,reduceIte,reduceCtorEq,zn];refine ze ⟨rfl,_,_,⟨rfl,rfl⟩,.p t12⟩
   rintro _ _ ⟨rfl,rfl⟩;refine rnN 1 ?_;refine nkN hK ?_;refine zs (b:=((decide (r1.1.fType.fKind=7))&&(decide (r2.1.fType.fKind=7)))) rfl (fun hc13=>?_) (fun hc13=>?_)
   · rw[if_pos hc13] at h
     refine rc [8,10,14] fun K hK=>?_
     obtain⟨r14,hr14,h⟩:=bind_some h;refine rnN 8 ?_;refine clN rfl rfl rfl (@id (ACalls qi 150 [.op 0 0 0,.agg [.str r1.1.fType.fName,.str r2.1.fType.fName]] [.cells 0 [.str a0.ffrom.fName,.ds true (qh encGMessage a0.ffrom.fMessages) (qg a0.ffrom.fMessages) false,.ds true (qh encGEnumeration a0.ffrom.fEnums) (qg a0.ffrom.fEnums) false,.ds true (qh encGMethod a0.ffrom.fMethods) (qg a0.ffrom.fMethods) false,.str a0.fto.fName,.ds true (qh encGMessage a0.fto.fMessages) (qg a0.fto.fMessages) false,.ds true (qh encGEnumeration a0.fto.fEnums) (qg a0.fto.fEnums) false,.ds true (qh encGMethod a0.fto.fMethods) (qg a0.fto.fMethods) false,.os true 2 1 (a0.vl) 0 (qg a0.fl) false,.mp 2],.cells (a0.vl) (qh encGAdaptPair a0.fl),.map (xw kvGAdaptPair (AV.int .i64) a0.fplace),.cells 0 (encGMessage a1),.cells 0 (encGMessage a2),.cells 0 [.int .i64 0,.int .i64 0,.int .i64 0],.cells 0 (encGField r1.1),.cells 0 (encGField r2.1),.cells 0 [.int .i64 1,.int .i64 a3,.int .i64 0]] (fun r' σ'=>r'=.int .i64 r14.1∧σ'=[.cells 0 [.str r14.2.ffrom.fName,.ds true (qh encGMessage r14.2.ffrom.fMessages) (qg r14.2.ffrom.fMessages) false,.ds true (qh encGEnumeration r14.2.ffrom.fEnums) (qg r14.2.ffrom.fEnums) false,.ds true (qh encGMethod r14.2.ffrom.fMethods) (qg r14.2.ffrom.fMethods) false,.str r14.2.fto.fName,.ds true (qh encGMessage r14.2.fto.fMessages) (qg r14.2.fto.fMessages) false,.ds true (qh encGEnumeration r14.2.fto.fEnums) (qg r14.2.fto.fEnums) false,.ds true (qh encGMethod r14.2.fto.fMethods) (qg r14.2.fto.fMethods) false,.os true 2 1 (r14.2.vl) 0 (qg r14.2.fl) false,.mp 2],.cells (r14.2.vl) (qh encGAdaptPair r14.2.fl),.map (xw kvGAdaptPair (AV.int .i64) r14.2.fplace),.cells 0 (encGMessage a1),.cells 0 (encGMessage a2),.cells 0 [.int .i64 0,.int .i64 0,.int .i64 0],.cells 0 (encGField r1.1),.cells 0 (encGField r2.1),.cells 0 [.int .i64 1,.int .i64 a3,.int .i64 0]])) ((yM.ok (⟨a0.ffrom,a0.fto,a0.fl,a0.vl,a0.fplace⟩:yH) (⟨r1.1.fType.fName,r2.1.fType.fName⟩:GAdaptPair) r14 hr14).ix [0,1,2])) ?_;refine za tok 4 ?_;simp only[go_sem,qf,qb,qa,qc,qe,qd,reduceIte,reduceCtorEq,encGStep];refine nkN hK ?_
     refine rg tok [8,14,72] fun K hK=>?_
     simp only[go_sem,qf,qb,qa,qc,qe,qd,reduceIte,reduceCtorEq,zn];apply hK
     refine zM rfl (fun hc15=>?_) (fun hc15=>?_)
     · rw[if_pos hc15] at h;have t16:=eq_true hc15
       refine rgE tok [8,14] fun K hK=>?_
       simp only[go_sem,qf,qb,qa,qc,qe,qd,reduceIte,reduceCtorEq,encGStep,t16];apply hK
       exact⟨_,_,⟨r14.2.ffrom,r14.2.fto,r14.2.fl,r14.2.vl,r14.2.fplace,(⟨4,a3,r14.1⟩:GStep),rfl,rfl,h⟩,(.t [0,1,2,5,8] false)⟩
     rw[if_neg hc15] at h;have t17:=eq_false hc15;apply zf;exact⟨_,_,⟨r14.2.ffrom,r14.2.fto,r14.2.fl,r14.2.vl,r14.2.fplace,(⟨3,a3,r14.1⟩:GStep),rfl,rfl,h⟩,(.t [0,1,2,5,8] false)⟩
   rw[xI hc13] at h
   refine rc [8,14,15,16,74] fun K hK=>?_
   refine za tok 3 ?_;simp only[go_sem,qf,qb,qa,qc,qe,qd,reduceIte,reduceCtorEq,zn];refine zl 3 (fun L τ=>L=[(8,.op 5 0 0),(14,.op 8 0 0),(15,.int .i64 r1.1.fType.fKind),(16,.int .i64 r2.1.fType.fKind),(80,.bool ((decide (r1.1.fType.fKind=2))&&(decide (r2.1.fType.fKind=1))))]∧τ=[.cells 0 [.str a0.ffrom.fName,.ds true (qh encGMessage a0.ffrom.fMessages) (qg a0.ffrom.fMessages) false,.ds true (qh encGEnumeration a0.ffrom.fEnums) (qg a0.ffrom.fEnums) false,.ds true (qh encGMethod a0.ffrom.fMethods) (qg a0.ffrom.fMethods) false,.str a0.fto.fName,.ds true (qh encGMessage a0.fto.fMessages) (qg a0.fto.fMessages) false,.ds true (qh encGEnumeration a0.fto.fEnums) (qg a0.fto.fEnums) false,.ds true (qh encGMethod a0.fto.fMethods) (qg a0.fto.fMethods) false,.os true 2 1 (a0.vl) 0 (qg a0.fl) false,.mp 2],.cells (a0.vl) (qh encGAdaptPair a0.fl),.map (xw kvGAdaptPair (AV.int .i64) a0.fplace),.cells 0 (encGMessage a1),.cells 0 (encGMessage a2),.cells 0 [.int .i64 0,.int .i64 0,.int .i64 0],.cells 0 (encGField r1.1),.cells 0 (encGField r2.1),.cells 0 [.int .i64 1,.int .i64 a3,.int .i64 0]]) ?_ ?_
   · refine yQ 77 rfl (fun hg77=>?_) (fun hg77=>?_)
     · have t18:=eq_true hg77;refine za tok 3 ?_;simp only[go_sem,qf,qb,qa,qc,qe,qd,reduceIte,reduceCtorEq,zn];refine ze ⟨rfl,_,_,⟨rfl,rfl⟩,.p t18⟩
     have t19:=eq_false hg77;refine za tok 3 ?_;simp only[go_sem,qf,qb,qa,qc,qe,qd,reduceIte,reduceCtorEq,zn];refine ze ⟨rfl,_,_,⟨rfl,rfl⟩,.p t19⟩
   rintro _ _ ⟨rfl,rfl⟩;refine rnN 1 ?_;refine nkN hK ?_;refine zs (b:=((decide (r1.1.fType.fKind=2))&&(decide (r2.1.fType.fKind=1)))) rfl (fun hc20=>?_) (fun hc20=>?_)
   · rw[if_pos hc20] at h
     refine rgE tok [8,14] fun K hK=>?_
     simp only[go_sem,qf,qb,qa,qc,qe,qd,reduceIte,reduceCtorEq,encGStep];apply hK
     exact⟨_,_,⟨a0.ffrom,a0.fto,a0.fl,a0.vl,a0.fplace,(⟨2,a3,0⟩:GStep),rfl,rfl,h⟩,(.t [0,1,2,5,8] false)⟩
   rw[xI hc20] at h
   refine rc [8,14,82] fun K hK=>?_
   refine za tok 4 ?_;simp only[go_sem,qf,qb,qa,qc,qe,qd,reduceIte,reduceCtorEq,zn];refine zl 7 (fun L τ=>L=[(8,.op 5 0 0),(14,.op 8 0 0),(93,.bool ((!(decide (r1.1.fType.fKind=r2.1.fType.fKind)))&&((!(decide (r1.1.fType.fKind=1)))||(!(decide (r2.1.fType.fKind=2))))))]∧τ=[.cells 0 [.str a0.ffrom.fName,.ds true (qh encGMessage a0.ffrom.fMessages) (qg a0.ffrom.fMessages) false,.ds true (qh encGEnumeration a0.ffrom.fEnums) (qg a0.ffrom.fEnums) false,.ds true (qh encGMethod a0.ffrom.fMethods) (qg a0.ffrom.fMethods) false,.str a0.fto.fName,.ds true (qh encGMessage a0.fto.fMessages) (qg a0.fto.fMessages) false,.ds true (qh encGEnumeration a0.fto.fEnums) (qg a0.fto.fEnums) false,.ds true (qh encGMethod a0.fto.fMethods) (qg a0.fto.fMethods) false,.os true 2 1 (a0.vl) 0 (qg a0.fl) false,.mp 2],.cells (a0.vl) (qh encGAdaptPair a0.fl),.map (xw kvGAdaptPair (AV.int .i64) a0.fplace),.cells 0 (encGMessage a1),.cells 0 (encGMessage a2),.cells 0 [.int .i64 0,.int .i64 0,.int .i64 0],.cells 0 (encGField r1.1),.cells 0 (encGField r2.1),.cells 0 [.int .i64 1,.int .i64 a3,.int .i64 0]]) ?_ ?_
   · refine yQ 86 rfl (fun hg86=>?_) (fun hg86=>?_)
     · have t21:=eq_false hg86;refine za tok 3 ?_;simp only[go_sem,qf,qb,qa,qc,qe,qd,reduceIte,reduceCtorEq,zn];refine zl 3 (fun L τ=>L=[(8,.op 5 0 0),(14,.op 8 0 0),(86,.bool true),(92,.bool ((!(decide (r1.1.fType.fKind=1)))||(!(decide (r2.1.fType.fKind=2)))))]∧τ=[.cells 0 [.str a0.ffrom.fName,.ds true (qh encGMessage a0.ffrom.fMessages) (qg a0.ffrom.fMessages) false,.ds true (qh encGEnumeration a0.ffrom.fEnums) (qg a0.ffrom.fEnums) false,.ds true (qh encGMethod a0.ffrom.fMethods) (qg a0.ffrom.fMethods) false,.str a0.fto.fName,.ds true (qh encGMessage a0.fto.fMessages) (qg a0.fto.fMessages) false,.ds true (qh encGEnumeration a0.fto.fEnums) (qg a0.fto.fEnums) false,.ds true (qh encGMethod a0.fto.fMethods) (qg a0.fto.fMethods) false,.os true 2 1 (a0.vl) 0 (qg a0.fl) false,.mp 2],.cells (a0.vl) (qh encGAdaptPair a0.fl),.map (xw kvGAdaptPair (AV.int .i64) a0.fplace),.cells 0 (encGMessage a1),.cells 0 (encGMessage a2),.cells 0 [.int .i64 0,.int .i64 0,.int .i64 0],.cells 0 (encGField r1.1),.cells 0 (encGField r2.1),.cells 0 [.int .i64 1,.int .i64 a3,.int .i64 0]]) ?_ ?_
       · refine yQ 89 rfl (fun hg89=>?_) (fun hg89=>?_)
         · have t22:=eq_false hg89;refine za tok 3 ?_;simp only[go_sem,qf,qb,qa,qc,qe,qd,reduceIte,reduceCtorEq,zn];refine ze ⟨rfl,_,_,⟨rfl,rfl⟩,.p t22⟩
         have t23:=eq_true hg89;refine za tok 3 ?_;simp only[go_sem,qf,qb,qa,qc,qe,qd,reduceIte,reduceCtorEq,zn];refine ze ⟨rfl,_,_,⟨rfl,rfl⟩,.p t23⟩
       rintro _ _ ⟨rfl,rfl⟩;refine rnN 1 ?_;refine ze ⟨rfl,_,_,⟨rfl,rfl⟩,.p t21⟩
     have t24:=eq_true hg86;refine za tok 7 ?_;simp only[go_sem,qf,qb,qa,qc,qe,qd,reduceIte,reduceCtorEq,zn];refine ze ⟨rfl,_,_,⟨rfl,rfl⟩,.p t24⟩
   rintro _ _ ⟨rfl,rfl⟩;refine rnN 1 ?_;refine nkN hK ?_;refine zs (b:=((!(decide (r1.1.fType.fKind=r2.1.fType.fKind)))&&((!(decide (r1.1.fType.fKind=1)))||(!(decide (r2.1.fType.fKind=2)))))) rfl (fun hc25=>?_) (fun hc25=>?_)
   · rw[if_pos hc25] at h
     refine rg tok [8,9] fun K hK=>?_
     simp only[go_sem,qf,qb,qa,qc,qe,qd,reduceIte,reduceCtorEq,encGStep];apply hK
     apply zJ;cases h;simp only[wb,ya,yf,yS,exists_eq_left',go_sem,qf,qb,qa,qc,qe,qd,reduceIte,reduceCtorEq,encGAdaptPair,encGSchema,encGStep];refine⟨by decide,by simp,?_,?_⟩
     · first|rfl|(simp only[go_sem,qf,qb,qa,qc,qe,qd,reduceIte,reduceCtorEq,push_cast,if_true,qn,ql,qp,qs,qo,qq,qv,qm,qt,qr,qk,zh,encGAdaptPair,encGSchema,encGStep]<;>rfl)
     first|rfl|(simp only[go_sem,qf,qb,qa,qc,qe,qd,reduceIte,reduceCtorEq,push_cast,if_true,qn,ql,qp,qs,qo,qq,qv,qm,qt,qr,qk,zh,encGAdaptPair,encGSchema,encGStep]<;>rfl)
   rw[xI hc25] at h;apply zf;exact⟨_,_,⟨a0.ffrom,a0.fto,a0.fl,a0.vl,a0.fplace,(⟨1,a3,0⟩:GStep),rfl,rfl,h⟩,(.t [0,1,2,5,8] false)⟩
 rintro _ _ ⟨m0__03,m0__14,l5,v6,l7,m4_8,rfl,rfl,h⟩;unfold yL.j9 at h
 refine rg tok [8,9] fun K hK=>?_
 simp only[go_sem,qf,qb,qa,qc,qe,qd,reduceIte,reduceCtorEq,encGStep];apply hK
 apply zJ;cases h;simp only[wb,ya,yf,yS,exists_eq_left',go_sem,qf,qb,qa,qc,qe,qd,reduceIte,reduceCtorEq,encGAdaptPair,encGSchema,encGStep];refine⟨by decide,by simp,?_,?_⟩
 · first|rfl|(simp only[go_sem,qf,qb,qa,qc,qe,qd,reduceIte,reduceCtorEq,push_cast,if_true,qn,ql,qp,qs,qo,qq,qv,qm,qt,qr,qk,zh,encGAdaptPair,encGSchema,encGStep]<;>rfl)
 first|rfl|(simp only[go_sem,qf,qb,qa,qc,qe,qd,reduceIte,reduceCtorEq,push_cast,if_true,qn,ql,qp,qs,qo,qq,qv,qm,qt,qr,qk,zh,encGAdaptPair,encGSchema,encGStep]<;>rfl)
end
section
set_option maxRecDepth 4000
set_option maxHeartbeats 1000000
open AM
def yk.j70 (x50:Int)(rec59:List (GAdaptPair×Int)→GSchema→GSchema→List GAdaptPair→Nat→List GStep→Int→Option (GAdaptProgram×Int))(l63:List (GAdaptPair×Int))(m4__064:GSchema)(m4__165:GSchema)(l66:List GAdaptPair)(v67:Nat)(l68:List GStep):Option (GAdaptProgram×Int):=
 (rec59 l63 m4__064 m4__165 l66 v67 l68 (IntKind.i64.wrap (x50+1)))
def yk.l59 (l19:List (List GStep))(x21:Int)(rec30:List (GAdaptPair×Int)→GSchema→GSchema→List GAdaptPair→Nat→List (List GStep)→Int→Option (GAdaptProgram×Int))(r38:GMessage×Bool)(r41:GMessage×Bool):Nat→List (GAdaptPair×Int)→GSchema→GSchema→List GAdaptPair→Nat→List GStep→Int→Option (GAdaptProgram×Int)
 |0,_,_,_,_,_,_,_=>none
 |k59+1,l43,m4__044,m4__145,l46,v47,l48,x50=>(if x50≤500 then (yL (⟨m4__044,m4__145,l46,v47,l43⟩:yH) r38.1 r41.1 x50).bind fun r71=>(if r71.2.1=true then (Xj (qg l48+1) 24).bind fun _u73=>(yk.j70 x50 (yk.l59 l19 x21 rec30 r38 r41 k59) r71.2.2.fplace r71.2.2.ffrom r71.2.2.fto r71.2.2.fl r71.2.2.vl (l48++[r71.1])) else (yk.j70 x50 (yk.l59 l19 x21 rec30 r38 r41 k59) r71.2.2.fplace r71.2.2.ffrom r71.2.2.fto r71.2.2.fl r71.2.2.vl l48)) else (Xj (qg l19+1) 24).bind fun _u76=>(rec30 l43 m4__044 m4__145 l46 v47 (l19++[l48]) (IntKind.i64.wrap (x21+1))))
def yk.l30 (a0:GSchema)(a1:GSchema):Nat→List (GAdaptPair×Int)→GSchema→GSchema→List GAdaptPair→Nat→List (List GStep)→Int→Option (GAdaptProgram×Int)
 |0,_,_,_,_,_,_,_=>none
 |k30+1,l14,m4__015,m4__116,l17,v18,l19,x21=>(if x21<(qg l17:Int) then (YD l17 x21).bind fun y35=>bnd (zH a0 y35.ffrom) fun r38=>bnd (zH a1 y35.fto) fun r41=>(yk.l59 l19 x21 (yk.l30 a0 a1 k30) r38 r41 xl l14 m4__015 m4__116 l17 v18 ([]:List GStep) 1) else some ((⟨l19⟩:GAdaptProgram),0))
def yk (a0:GSchema)(a1:GSchema)(a2:List UInt8)(a3:List UInt8):Option (GAdaptProgram×Int):=
 (zS a0).bind fun r2=>(if r2=0 then (zS a1).bind fun r3=>some (!(decide (r3=0))) else some true).bind fun c3=>(if c3=true then some ((⟨([]:List (List GStep))⟩:GAdaptProgram),1) else bnd (zH a0 a2) fun r8=>bnd (zH a1 a3) fun r9=>(if ((!r8.2)||(!r9.2))=true then some ((⟨([]:List (List GStep))⟩:GAdaptProgram),14) else (yM (⟨a0,a1,([]:List GAdaptPair),0,([]:List (GAdaptPair×Int))⟩:yH) (⟨a2,a3⟩:GAdaptPair)).bind fun r12=>(yk.l30 a0 a1 xl r12.2.fplace r12.2.ffrom r12.2.fto r12.2.fl r12.2.vl ([]:List (List GStep)) 0)))
theorem yk.ok (a0:GSchema)(a1:GSchema)(a2:List UInt8)(a3:List UInt8)(r:GAdaptProgram×Int)(h:yk a0 a1 a2 a3=some r):ACalls qi 99 [.agg (encGSchema a0),.agg (encGSchema a1),.str a2,.str a3] [] (fun r' _=>r'=.tup [.agg (encGAdaptProgram r.1),.int .i64 r.2]):=by
 refine zj (rs:=[.cell 8 178,.tmp 9]) tok Tryz.func99 rfl Tryz.ntmps99 rfl Tryz.call99 (by simp) ?_;refine zm [(0,.agg (encGSchema a0)),(1,.agg (encGSchema a1)),(2,.str a2),(3,.str a3)] ⟨rfl,rfl,rfl,rfl,trivial⟩ ?_;unfold yk at h
 refine rg tok [2,3,4,5,8] fun K hK=>?_
 simp only[go_sem,qf,qb,qa,qc,qe,qd,reduceIte,reduceCtorEq,encGSchema];apply hK
 refine zd fun Z1 hZ1=>?_
 refine rc [2,3,4,5,8,32] fun K hK=>?_
 obtain⟨r2,hr2,h⟩:=bind_some h;refine za tok 1 ?_;simp only[go_sem,qf,qb,qa,qc,qe,qd,reduceIte,reduceCtorEq,encGSchema];refine clN rfl rfl rfl (zS.ev a0 r2 hr2 _) ?_;refine za tok 2 ?_;simp only[go_sem,qf,qb,qa,qc,qe,qd,reduceIte,reduceCtorEq,zn,encGSchema];obtain⟨c3,hc3,h⟩:=bind_some h;refine zl 4 (fun L τ=>L=[(2,.str a2),(3,.str a3),(4,.op 0 0 0),(5,.op 1 0 0),(8,.op 2 0 0),(32,.bool c3)]∧τ=[.cells 0 (encGSchema a0),.cells 0 (encGSchema a1),.cells 0 [.ds true [] 0 true]]) ?_ ?_
 · refine yQ 28 rfl (fun hg28=>?_) (fun hg28=>?_)
   · have t4:=eq_false hg28;rw[if_neg hg28] at hc3;refine za tok 4 ?_;simp only[go_sem,qf,qb,qa,qc,qe,qd,reduceIte,reduceCtorEq,zn,encGSchema];cases hc3;refine ze ⟨rfl,_,_,⟨rfl,rfl⟩,.p t4⟩
   have t5:=eq_true hg28;rw[if_pos hg28] at hc3;obtain⟨r6,hr6,hc3⟩:=bind_some hc3;refine za tok 1 ?_;simp only[go_sem,qf,qb,qa,qc,qe,qd,reduceIte,reduceCtorEq,encGSchema];refine clN rfl rfl rfl (zS.ev a1 r6 hr6 _) ?_;refine za tok 2 ?_;simp only[go_sem,qf,qb,qa,qc,qe,qd,reduceIte,reduceCtorEq,zn,encGSchema];cases hc3;refine ze ⟨rfl,_,_,⟨rfl,rfl⟩,.p t5⟩
 rintro _ _ ⟨rfl,rfl⟩;refine nkN hK ?_;refine zs (b:=c3) rfl (fun hc7=>?_) (fun hc7=>?_)
 · rw[if_pos hc7] at h
   refine rg tok [8,9] fun K hK=>?_
   simp only[go_sem,qf,qb,qa,qc,qe,qd,reduceIte,reduceCtorEq,encGAdaptProgram];apply hK
   cases h;exact rtA
 rw[xI hc7] at h;apply zf;apply hZ1
 refine rc [2,3,4,5,8,11] fun K hK=>?_
 obtain⟨r8,hr8,h⟩:=zB h;refine za tok 2 ?_;simp only[go_sem,qf,qb,qa,qc,qe,qd,reduceIte,reduceCtorEq,encGSchema];refine clN rfl rfl rfl (zH.ev a0 a2 r8 hr8 _) ?_;refine za tok 6 ?_;simp only[go_sem,qf,qb,qa,qc,qe,qd,reduceIte,reduceCtorEq,encGMessage,encGSchema];refine nkN hK ?_
 refine rc [2,3,4,5,8,11,13] fun K hK=>?_
 obtain⟨r9,hr9,h⟩:=zB h;refine za tok 2 ?_;simp only[go_sem,qf,qb,qa,qc,qe,qd,reduceIte,reduceCtorEq,encGSchema];refine clN rfl rfl rfl (zH.ev a1 a3 r9 hr9 _) ?_;refine za tok 6 ?_;simp only[go_sem,qf,qb,qa,qc,qe,qd,reduceIte,reduceCtorEq,encGMessage,encGSchema];refine nkN hK ?_
 refine zd fun Z10 hZ10=>?_
 refine rc [2,3,4,5,8,51] fun K hK=>?_
 refine rnN 3 ?_;refine zl 3 (fun L τ=>L=[(2,.str a2),(3,.str a3),(4,.op 0 0 0),(5,.op 1 0 0),(8,.op 2 0 0),(51,.bool ((!r8.2)||(!r9.2)))]∧τ=[.cells 0 (encGSchema a0),.cells 0 (encGSchema a1),.cells 0 [.ds true [] 0 true],.cells 0 (encGMessage r8.1),.cells 0 (encGMessage r9.1)]) ?_ ?_
 · refine zR (b:=(!r8.2)) 48 rfl (fun hg48=>?_) (fun hg48=>?_)
   · refine rnN 3 ?_;refine ze ⟨rfl,_,_,⟨rfl,rfl⟩,.b hg48⟩
   refine rnN 3 ?_;refine ze ⟨rfl,_,_,⟨rfl,rfl⟩,.b hg48⟩
 rintro _ _ ⟨rfl,rfl⟩;refine nkN hK ?_;refine zs (b:=((!r8.2)||(!r9.2))) rfl (fun hc11=>?_) (fun hc11=>?_)
 · rw[if_pos hc11] at h
   refine rg tok [8,9] fun K hK=>?_
   simp only[go_sem,qf,qb,qa,qc,qe,qd,reduceIte,reduceCtorEq,encGAdaptProgram];apply hK
   cases h;exact rtA
 rw[xI hc11] at h;apply zf;apply hZ10
 refine rg tok [2,3,4,5,8,14] fun K hK=>?_
 simp only[go_sem,qf,qb,qa,qc,qe,qd,reduceIte,reduceCtorEq,encGSchema];apply hK
 refine wI 6 8 2 rfl (by simp) rfl (L:=[(2,.str a2),(3,.str a3),(4,.op 0 0 0),(5,.op 1 0 0),(8,.op 2 0 0),(14,.op 6 0 0)]) (τ:=[.cells 0 (encGSchema a0),.cells 0 (encGSchema a1),.cells 0 [.ds true [] 0 true],.cells 0 (encGMessage r8.1),.cells 0 (encGMessage r9.1),.map (xw kvGAdaptPair (AV.int .i64) []),.cells 0 [.str a0.fName,.ds true (qh encGMessage a0.fMessages) (qg a0.fMessages) false,.ds true (qh encGEnumeration a0.fEnums) (qg a0.fEnums) false,.ds true (qh encGMethod a0.fMethods) (qg a0.fMethods) false,.str a1.fName,.ds true (qh encGMessage a1.fMessages) (qg a1.fMessages) false,.ds true (qh encGEnumeration a1.fEnums) (qg a1.fEnums) false,.ds true (qh encGMethod a1.fMethods) (qg a1.fMethods) false,.os true 2 7 0 0 (qg ([]:List GAdaptPair)) false,.mp 5],.cells 0 (qh encGAdaptPair ([]:List GAdaptPair))]) .s ?_;refine yB (L:=[(2,.str a2),(3,.str a3),(4,.op 0 0 0),(5,.op 1 0 0),(8,.op 2 0 0),(14,.op 6 0 0)]) (τ:=[.cells 0 (encGSchema a0),.cells 0 (encGSchema a1),.cells 0 [.ds true [] 0 true],.cells 0 (encGMessage r8.1),.cells 0 (encGMessage r9.1),.map (xw kvGAdaptPair (AV.int .i64) []),.cells 0 [.str a0.fName,.ds true (qh encGMessage a0.fMessages) (qg a0.fMessages) false,.ds true (qh encGEnumeration a0.fEnums) (qg a0.fEnums) false,.ds true (qh encGMethod a0.fMethods) (qg a0.fMethods) false,.str a1.fName,.ds true (qh encGMessage a1.fMessages) (qg a1.fMessages) false,.ds true (qh encGEnumeration a1.fEnums) (qg a1.fEnums) false,.ds true (qh encGMethod a1.fMethods) (qg a1.fMethods) false,.os true 2 7 0 0 (qg ([]:List GAdaptPair)) false,.mp 5],.cells 0 (qh encGAdaptPair ([]:List GAdaptPair))]) .s ?_
 refine rc [4,5,8,14] fun K hK=>?_
 obtain⟨r12,hr12,h⟩:=bind_some h;refine rnN 4 ?_;refine clN rfl rfl rfl (@id (ACalls qi 150 [.op 6 0 0,.agg [.str a2,.str a3]] [.cells 0 (encGSchema a0),.cells 0 (encGSchema a1),.cells 0 [.ds true [] 0 true],.cells 0 (encGMessage r8.1),.cells 0 (encGMessage r9.1),.map (xw kvGAdaptPair (AV.int .i64) []),.cells 0 [.str a0.fName,.ds true (qh encGMessage a0.fMessages) (qg a0.fMessages) false,.ds true (qh encGEnumeration a0.fEnums) (qg a0.fEnums) false,.ds true (qh encGMethod a0.fMethods) (qg a0.fMethods) false,.str a1.fName,.ds true (qh encGMessage a1.fMessages) (qg a1.fMessages) false,.ds true (qh encGEnumeration a1.fEnums) (qg a1.fEnums) false,.ds true (qh encGMethod a1.fMethods) (qg a1.fMethods) false,.os true 2 7 0 0 (qg ([]:List GAdaptPair)) false,.mp 5],.cells 0 (qh encGAdaptPair ([]:List GAdaptPair))] (fun r' σ'=>r'=.int .i64 r12.1∧σ'=[.cells 0 (encGSchema a0),.cells 0 (encGSchema a1),.cells 0 [.ds true [] 0 true],.cells 0 (encGMessage r8.1),.cells 0 (encGMessage r9.1),.map (xw kvGAdaptPair (AV.int .i64) r12.2.fplace),.cells 0 [.str r12.2.ffrom.fName,.ds true (qh encGMessage r12.2.ffrom.fMessages) (qg r12.2.ffrom.fMessages) false,.ds true (qh encGEnumeration r12.2.ffrom.fEnums) (qg r12.2.ffrom.fEnums) false,.ds true (qh encGMethod r12.2.ffrom.fMethods) (qg r12.2.ffrom.fMethods) false,.str r12.2.fto.fName,.ds true (qh encGMessage r12.2.fto.fMessages) (qg r12.2.fto.fMessages) false,.ds true (qh encGEnumeration r12.2.fto.fEnums) (qg r12.2.fto.fEnums) false,.ds true (qh encGMethod r12.2.fto.fMethods) (qg r12.2.fto.fMethods) false,.os true 2 7 (r12.2.vl) 0 (qg r12.2.fl) false,.mp 5],.cells (r12.2.vl) (qh encGAdaptPair r12.2.fl)])) ((yM.ok (⟨a0,a1,([]:List GAdaptPair),0,([]:List (GAdaptPair×Int))⟩:yH) (⟨a2,a3⟩:GAdaptPair) r12 hr12).ix [6,7,5])) ?_;refine nkN hK ?_;refine rgN [4,5,8,14,15] ?_;refine wI 8 0 1 rfl (by simp) rfl (L:=[(4,.op 0 0 0),(5,.op 1 0 0),(8,.op 2 0 0),(14,.op 6 0 0),(15,.op 8 0 0)]) (τ:=[.cells 0 (encGSchema a0),.cells 0 (encGSchema a1),.cells 0 [.ds true [] 0 true],.cells 0 (encGMessage r8.1),.cells 0 (encGMessage r9.1),.map (xw kvGAdaptPair (AV.int .i64) r12.2.fplace),.cells 0 [.str r12.2.ffrom.fName,.ds true (qh encGMessage r12.2.ffrom.fMessages) (qg r12.2.ffrom.fMessages) false,.ds true (qh encGEnumeration r12.2.ffrom.fEnums) (qg r12.2.ffrom.fEnums) false,.ds true (qh encGMethod r12.2.ffrom.fMethods) (qg r12.2.ffrom.fMethods) false,.str r12.2.fto.fName,.ds true (qh encGMessage r12.2.fto.fMessages) (qg r12.2.fto.fMessages) false,.ds true (qh encGEnumeration r12.2.fto.fEnums) (qg r12.2.fto.fEnums) false,.ds true (qh encGMethod r12.2.fto.fMethods) (qg r12.2.fto.fMethods) false,.os true 2 7 (r12.2.vl) 0 (qg r12.2.fl) false,.mp 5],.cells (r12.2.vl) (qh encGAdaptPair r12.2.fl),.cells 0 [.os true 1 9 0 0 (qg ([]:List (List GStep))) false],.cells 0 (qh (Zz encGStep) ([]:List (List GStep)))]) .s ?_
 refine zd fun Z13 hZ13=>?_
 refine rgN [4,5,8,14,15,16] ?_;apply zg;refine zP (fun m L τ=>∃ (k30:Nat) (l14:List (GAdaptPair×Int)) (m4__015:GSchema) (m4__116:GSchema) (l17:List GAdaptPair) (v18:Nat) (l19:List (List GStep)) (x21:Int) (v20:Nat),m=0+k30∧L=[(4,.op 0 0 0),(5,.op 1 0 0),(8,.op 2 0 0),(14,.op 4 0 0),(15,.op 6 0 0),(16,.int .i64 x21)]∧τ=[.cells 0 (encGSchema a0),.cells 0 (encGSchema a1),.cells 0 [.ds true [] 0 true],.map (xw kvGAdaptPair (AV.int .i64) l14),.cells 0 [.str m4__015.fName,.ds true (qh encGMessage m4__015.fMessages) (qg m4__015.fMessages) false,.ds true (qh encGEnumeration m4__015.fEnums) (qg m4__015.fEnums) false,.ds true (qh encGMethod m4__015.fMethods) (qg m4__015.fMethods) false,.str m4__116.fName,.ds true (qh encGMessage m4__116.fMessages) (qg m4__116.fMessages) false,.ds true (qh encGEnumeration m4__116.fEnums) (qg m4__116.fEnums) false,.ds true (qh encGMethod m4__116.fMethods) (qg m4__116.fMethods) false,.os true 2 5 v18 0 (qg l17) false,.mp 3],.cells v18 (qh encGAdaptPair l17),.cells 0 [.os true 1 7 v20 0 (qg l19) false],.cells v20 (qh (Zz encGStep) l19)]∧yk.l30 a0 a1 k30 l14 m4__015 m4__116 l17 v18 l19 x21=some r) _ ⟨xl,r12.2.fplace,r12.2.ffrom,r12.2.fto,r12.2.fl,r12.2.vl,([]:List (List GStep)),0,0,rfl,rfl,rfl,h⟩ (.t [0,1,2,5,6,7,8,9] false) ?_;rintro m L τ ⟨k30,l14,m4__015,m4__116,l17,v18,l19,x21,v20,rfl,rfl,rfl,h⟩
 rcases k30 with _|k30
 · cases h
 simp only[yk.l30] at h
 refine zd fun Z31 hZ31=>?_
 refine rg tok [4,5,8,14,15,16,69] fun K hK=>?_
 simp only[go_sem,qf,qb,qa,qc,qe,qd,reduceIte,reduceCtorEq,zn];apply hK
 refine zM rfl (fun hc32=>?_) (fun hc32=>?_)
 · rw[if_pos hc32] at h;have t33:=eq_true hc32;apply zf;apply hZ31
   refine zd fun Z34 hZ34=>?_
   apply zg;obtain⟨y35,hy35,h⟩:=bind_some h;have f36:=E240.idxO hy35;have f37:=E240.rdfO0 hy35;obtain⟨r38,hr38,h⟩:=zB h
   refine rd [4,5,8,14,15,16,17] fun K hK=>?_
   refine DW.start (T:=tab) [.at [],.any,.any,.any,.at [],.any,.any,.any,.at [],.eff,.any,.any,.any,.flt,.eff,.any] [] ?_;refine DW.runN tok 8 ?_;simp only[go_sem,qf,qb,qa,qc,qe,qd,reduceIte,reduceCtorEq,encGAdaptPair,encGMessage,encGSchema,t33,f36,f37];refine DW.runN tok 1 ?_;simp only[go_sem,qf,qb,qa,qc,qe,qd,reduceIte,reduceCtorEq,encGAdaptPair,encGMessage,encGSchema,t33,f36,f37];refine DW.call rfl rfl rfl (zH.ev a0 y35.ffrom r38 hr38 _) ?_;refine DW.runN tok 6 ?_;simp only[go_sem,qf,qb,qa,qc,qe,qd,reduceIte,reduceCtorEq,encGAdaptPair,encGMessage,encGSchema,t33,f36,f37];refine DW.fin tok (by decide +kernel) rfl ?_;simp only[zk,zw,zD,xJ,upd,qa,reduceIte,z1,yA];apply hK
   have f39:=E240.idxO hy35;have f40:=E240.rdfO hy35 (o:=1) (by decide);obtain⟨r41,hr41,h⟩:=zB h
   refine rd [4,5,8,14,15,16,17,19] fun K hK=>?_
   refine DW.start (T:=tab) [.at [],.any,.any,.any,.at [],.any,.any,.any,.at [],.eff,.any,.any,.any,.flt,.eff,.any] [] ?_;refine DW.runN tok 8 ?_;simp only[go_sem,qf,qb,qa,qc,qe,qd,reduceIte,reduceCtorEq,encGAdaptPair,encGMessage,encGSchema,t33,f39,f40];refine DW.runN tok 1 ?_;simp only[go_sem,qf,qb,qa,qc,qe,qd,reduceIte,reduceCtorEq,encGAdaptPair,encGMessage,encGSchema,t33,f39,f40];refine DW.call rfl rfl rfl (zH.ev a1 y35.fto r41 hr41 _) ?_;refine DW.runN tok 6 ?_;simp only[go_sem,qf,qb,qa,qc,qe,qd,reduceIte,reduceCtorEq,encGAdaptPair,encGMessage,encGSchema,t33,f39,f40];refine DW.fin tok (by decide +kernel) rfl ?_;simp only[zk,zw,zD,xJ,upd,qa,reduceIte,z1,yA];apply hK
   refine rg tok [4,5,8,14,15,16,17,19,21] fun K hK=>?_
   simp only[go_sem,qf,qb,qa,qc,qe,qd,reduceIte,reduceCtorEq,t33];apply hK
   refine Yq 21 3 rfl ?_;refine yB (L:=[(4,.op 0 0 0),(5,.op 1 0 0),(8,.op 2 0 0),(14,.op 4 0 0),(15,.op 6 0 0),(16,.int .i64 x21),(17,.op 8 0 0),(19,.op 9 0 0),(21,.os true 3 10 0 0 (qg ([]:List GStep)) false)]) (τ:=[.cells 0 (encGSchema a0),.cells 0 (encGSchema a1),.cells 0 [.ds true [] 0 true],.map (xw kvGAdaptPair (AV.int .i64) l14),.cells 0 [.str m4__015.fName,.ds true (qh encGMessage m4__015.fMessages) (qg m4__015.fMessages) false,.ds true (qh encGEnumeration m4__015.fEnums) (qg m4__015.fEnums) false,.ds true (qh encGMethod m4__015.fMethods) (qg m4__015.fMethods) false,.str m4__116.fName,.ds true (qh encGMessage m4__116.fMessages) (qg m4__116.fMessages) false,.ds true (qh encGEnumeration m4__116.fEnums) (qg m4__116.fEnums) false,.ds true (qh encGMethod m4__116.fMethods) (qg m4__116.fMethods) false,.os true 2 5 v18 0 (qg l17) false,.mp 3],.cells v18 (qh encGAdaptPair l17),.cells 0 [.os true 1 7 v20 0 (qg l19) false],.cells v20 (qh (Zz encGStep) l19),.cells 0 (encGMessage r38.1),.cells 0 (encGMessage r41.1),.cells 0 (qh encGStep ([]:List GStep))]) .s ?_
   refine zd fun Z42 hZ42=>?_
   refine rg tok [4,5,8,14,15,16,17,19,21,22] fun K hK=>?_
   simp only[go_sem,qf,qb,qa,qc,qe,qd,reduceIte,reduceCtorEq,t33];apply hK
   apply zg;refine zP (fun m L τ=>∃ (k59:Nat) (l43:List (GAdaptPair×Int)) (m4__044:GSchema) (m4__145:GSchema) (l46:List GAdaptPair) (v47:Nat) (l48:List GStep) (x50:Int) (v49:Nat),m=0+k59∧L=[(4,.op 0 0 0),(5,.op 1 0 0),(8,.op 2 0 0),(14,.op 4 0 0),(15,.op 6 0 0),(16,.int .i64 x21),(17,.op 8 0 0),(19,.op 9 0 0),(21,.os true 3 10 v49 0 (qg l48) false),(22,.int .i64 x50)]∧τ=[.cells 0 (encGSchema a0),.cells 0 (encGSchema a1),.cells 0 [.ds true [] 0 true],.map (xw kvGAdaptPair (AV.int .i64) l43),.cells 0 [.str m4__044.fName,.ds true (qh encGMessage m4__044.fMessages) (qg m4__044.fMessages) false,.ds true (qh encGEnumeration m4__044.fEnums) (qg m4__044.fEnums) false,.ds true (qh encGMethod m4__044.fMethods) (qg m4__044.fMethods) false,.str m4__145.fName,.ds true (qh encGMessage m4__145.fMessages) (qg m4__145.fMessages) false,.ds true (qh encGEnumeration m4__145.fEnums) (qg m4__145.fEnums) false,.ds true (qh encGMethod m4__145.fMethods) (qg m4__145.fMethods) false,.os true 2 5 v47 0 (qg l46) false,.mp 3],.cells v47 (qh encGAdaptPair l46),.cells 0 [.os true 1 7 v20 0 (qg l19) false],.cells v20 (qh (Zz encGStep) l19),.cells 0 (encGMessage r38.1),.cells 0 (encGMessage r41.1),.cells v49 (qh encGStep l48)]∧yk.l59 l19 x21 (yk.l30 a0 a1 k30) r38 r41 k59 l43 m4__044 m4__145 l46 v47 l48 x50=some r) _ ⟨xl,l14,m4__015,m4__116,l17,v18,([]:List GStep),1,0,rfl,rfl,rfl,h⟩ .s ?_;rintro m L τ ⟨k59,l43,m4__044,m4__145,l46,v47,l48,x50,v49,rfl,rfl,rfl,h⟩
   rcases k59 with _|k59
   · cases h
   simp only[yk.l59] at h
   refine zd fun Z60 hZ60=>?_
   refine rg tok [4,5,8,14,15,16,17,19,21,22,99] fun K hK=>?_
   simp only[go_sem,qf,qb,qa,qc,qe,qd,reduceIte,reduceCtorEq,zn,t33];apply hK
   refine zM rfl (fun hc61=>?_) (fun hc61=>?_)
   · rw[if_pos hc61] at h;have t62:=eq_true hc61;apply zf;apply hZ60;refine yR (fun L τ=>∃ (l63:List (GAdaptPair×Int)) (m4__064:GSchema) (m4__165:GSchema) (l66:List GAdaptPair) (v67:Nat) (l68:List GStep) (v69:Nat),L=[(4,.op 0 0 0),(5,.op 1 0 0),(8,.op 2 0 0),(14,.op 4 0 0),(15,.op 6 0 0),(16,.int .i64 x21),(17,.op 8 0 0),(19,.op 9 0 0),(21,.os true 3 10 v69 0 (qg l68) false),(22,.int .i64 x50)]∧τ=[.cells 0 (encGSchema a0),.cells 0 (encGSchema a1),.cells 0 [.ds true [] 0 true],.map (xw kvGAdaptPair (AV.int .i64) l63),.cells 0 [.str m4__064.fName,.ds true (qh encGMessage m4__064.fMessages) (qg m4__064.fMessages) false,.ds true (qh encGEnumeration m4__064.fEnums) (qg m4__064.fEnums) false,.ds true (qh encGMethod m4__064.fMethods) (qg m4__064.fMethods) false,.str m4__165.fName,.ds true (qh encGMessage m4__165.fMessages) (qg m4__165.fMessages) false,.ds true (qh encGEnumeration m4__165.fEnums) (qg m4__165.fEnums) false,.ds true (qh encGMethod m4__165.fMethods) (qg m4__165.fMethods) false,.os true 2 5 v67 0 (qg l66) false,.mp 3],.cells v67 (qh encGAdaptPair l66),.cells 0 [.os true 1 7 v20 0 (qg l19) false],.cells v20 (qh (Zz encGStep) l19),.cells 0 (encGMessage r38.1),.cells 0 (encGMessage r41.1),.cells v69 (qh encGStep l68)]∧yk.j70 x50 (yk.l59 l19 x21 (yk.l30 a0 a1 k30) r38 r41 k59) l63 m4__064 m4__165 l66 v67 l68=some r) ?_ ?_
     · apply zg
       refine rc [4,5,8,14,15,16,17,19,21,22,23,24] fun K hK=>?_
       obtain⟨r71,hr71,h⟩:=bind_some h;refine za tok 4 ?_;simp only[go_sem,qf,qb,qa,qc,qe,qd,reduceIte,reduceCtorEq,encGMessage,t33,t62];refine clN rfl rfl rfl (@id (ACalls qi 151 [.op 4 0 0,.agg (encGMessage r38.1),.agg (encGMessage r41.1),.int .i64 x50] [.cells 0 (encGSchema a0),.cells 0 (encGSchema a1),.cells 0 [.ds true [] 0 true],.map (xw kvGAdaptPair (AV.int .i64) l43),.cells 0 [.str m4__044.fName,.ds true (qh encGMessage m4__044.fMessages) (qg m4__044.fMessages) false,.ds true (qh encGEnumeration m4__044.fEnums) (qg m4__044.fEnums) false,.ds true (qh encGMethod m4__044.fMethods) (qg m4__044.fMethods) false,.str m4__145.fName,.ds true (qh encGMessage m4__145.fMessages) (qg m4__145.fMessages) false,.ds true (qh encGEnumeration m4__145.fEnums) (qg m4__145.fEnums) false,.ds true (qh encGMethod m4__145.fMethods) (qg m4__145.fMethods) false,.os true 2 5 v47 0 (qg l46) false,.mp 3],.cells v47 (qh encGAdaptPair l46),.cells 0 [.os true 1 7 v20 0 (qg l19) false],.cells v20 (qh (Zz encGStep) l19),.cells 0 (encGMessage r38.1),.cells 0 (encGMessage r41.1),.cells v49 (qh encGStep l48)] (fun r' σ'=>r'=.tup [.agg (encGStep r71.1),.bool r71.2.1]∧σ'=[.cells 0 (encGSchema a0),.cells 0 (encGSchema a1),.cells 0 [.ds true [] 0 true],.map (xw kvGAdaptPair (AV.int .i64) r71.2.2.fplace),.cells 0 [.str r71.2.2.ffrom.fName,.ds true (qh encGMessage r71.2.2.ffrom.fMessages) (qg r71.2.2.ffrom.fMessages) false,.ds true (qh encGEnumeration r71.2.2.ffrom.fEnums) (qg r71.2.2.ffrom.fEnums) false,.ds true (qh encGMethod r71.2.2.ffrom.fMethods) (qg r71.2.2.ffrom.fMethods) false,.str r71.2.2.fto.fName,.ds true (qh encGMessage r71.2.2.fto.fMessages) (qg r71.2.2.fto.fMessages) false,.ds true (qh encGEnumeration r71.2.2.fto.fEnums) (qg r71.2.2.fto.fEnums) false,.ds true (qh encGMethod r71.2.2.fto.fMethods) (qg r71.2.2.fto.fMethods) false,.os true 2 5 (r71.2.2.vl) 0 (qg r71.2.2.fl) false,.mp 3],.cells (r71.2.2.vl) (qh encGAdaptPair r71.2.2.fl),.cells 0 [.os true 1 7 v20 0 (qg l19) false],.cells v20 (qh (Zz encGStep) l19),.cells 0 (encGMessage r38.1),.cells 0 (encGMessage r41.1),.cells v49 (qh encGStep l48)])) ((yL.ok (⟨m4__044,m4__145,l46,v47,l43⟩:yH) r38.1 r41.1 x50 r71 hr71).ix [4,5,3])) ?_;refine za tok 6 ?_;simp only[go_sem,qf,qb,qa,qc,qe,qd,reduceIte,reduceCtorEq,encGMessage,encGStep,t33,t62];refine nkN hK ?_
       refine rg tok [4,5,8,14,15,16,17,19,21,22,23,110] fun K hK=>?_
       simp only[go_sem,qf,qb,qa,qc,qe,qd,reduceIte,reduceCtorEq,t33,t62];apply hK
       refine zs (b:=r71.2.1) rfl (fun hc72=>?_) (fun hc72=>?_)
       · rw[if_pos hc72] at h;obtain⟨_u73,hu73,h⟩:=bind_some h;have gu73:=yI hu73;have f74:=(zE E246.len l48)
         refine rgE tok [4,5,8,14,15,16,17,19,21,22] fun K hK=>?_
         simp only[go_sem,qf,qb,qa,qc,qe,qd,reduceIte,reduceCtorEq,zL,zX,qY,qS,qX,true_and,q3,yv,yb,yx,encGStep,t33,t62,gu73,f74,yu,qV,qT,AV.one,qG,qm,gt_iff_lt,zF,qA,qB,qL,qF,qJ,qw,qx,qz,ql,qD,qH];apply hK
         exact⟨_,_,⟨r71.2.2.fplace,r71.2.2.ffrom,r71.2.2.fto,r71.2.2.fl,r71.2.2.vl,l48++[r71.1],v49+1,rfl,rfl,h⟩,(.t [0,1,2,3,4,5,6,7,8,9,10] false)⟩
       rw[xI hc72] at h;apply zf;exact⟨_,_,⟨r71.2.2.fplace,r71.2.2.ffrom,r71.2.2.fto,r71.2.2.fl,r71.2.2.vl,l48,v49,rfl,rfl,h⟩,(.t [0,1,2,3,4,5,6,7,8,9,10] false)⟩
     rintro _ _ ⟨l63,m4__064,m4__165,l66,v67,l68,v69,rfl,rfl,h⟩;unfold yk.j70 at h
     refine rgE tok [4,5,8,14,15,16,17,19,21,22] fun K hK=>?_
     simp only[go_sem,qf,qb,qa,qc,qe,qd,reduceIte,reduceCtorEq,zn,t33,t62];apply hK
     exact⟨_,_,_,qE (0+k59),⟨k59,l63,m4__064,m4__165,l66,v67,l68,IntKind.i64.wrap (x50+1),v69,rfl,rfl,rfl,h⟩,.s⟩
   rw[if_neg hc61] at h;have t75:=eq_false hc61;apply zI;apply hZ42;obtain⟨_u76,hu76,h⟩:=bind_some h;have gu76:=yI hu76;have f77:=(zE E176.len l19)
   refine rgE tok [4,5,8,14,15,16] fun K hK=>?_
   simp only[go_sem,qf,qb,qa,qc,qe,qd,reduceIte,reduceCtorEq,zL,zX,qY,qS,qX,true_and,q3,yv,yb,yx,encGAdaptProgram,Zz,t33,t75,gu76,f77,yu,qV,qT,AV.one,qG,qm,gt_iff_lt,zF,qA,qB,qL,qF,qJ,qw,qx,qz,ql,qD,qH];apply hK
   apply hZ34
   refine rgE tok [4,5,8,14,15,16] fun K hK=>?_
   simp only[go_sem,qf,qb,qa,qc,qe,qd,reduceIte,reduceCtorEq,zn,t33,t75];apply hK
   exact⟨_,_,_,qE (0+k30),⟨k30,l43,m4__044,m4__145,l46,v47,l19++[l48],IntKind.i64.wrap (x21+1),v20+1,rfl,rfl,rfl,h⟩,(.t [0,1,2,3,4,5,6,7] false)⟩
 rw[if_neg hc32] at h;have t78:=eq_false hc32;apply zI;apply hZ13
 refine rg tok [8,9] fun K hK=>?_
 simp only[go_sem,qf,qb,qa,qc,qe,qd,reduceIte,reduceCtorEq,encGAdaptProgram,t78];apply hK
 cases h;exact rtA
theorem yk.ev (a0:GSchema)(a1:GSchema)(a2:List UInt8)(a3:List UInt8)(r:GAdaptProgram×Int)(h:yk a0 a1 a2 a3=some r)(σ:Store):ACalls qi 99 [.agg (encGSchema a0),.agg (encGSchema a1),.str a2,.str a3] σ (fun r' σ'=>r'=.tup [.agg (encGAdaptProgram r.1),.int .i64 r.2]∧σ'=σ):=
 (yk.ok a0 a1 a2 a3 r h).c σ
def xj.j6 (a0:GStep)(a1:Int)(x5:Bool):Bool:=
 (if x5=true then ((decide (0≤a0.fSub))&&(decide (a0.fSub<a1))) else false)
def xj.j3 (a0:GStep)(a1:Int)(x2:Bool):Bool:=
 (if x2=true then decide (a0.fSub=0) else (if a0.fOp=3 then (xj.j6 a0 a1 (decide (a0.fOp=3))) else (xj.j6 a0 a1 (decide (a0.fOp=4)))))
def xj (a0:GStep)(a1:Int):Bool:=
 (if a0.fOp=1 then (xj.j3 a0 a1 (decide (a0.fOp=1))) else (xj.j3 a0 a1 (decide (a0.fOp=2))))
theorem xj.ok (a0:GStep)(a1:Int)(r:Bool)(h:xj a0 a1=r):ACalls qi 236 [.agg (encGStep a0),.int .i64 a1] [] (fun r' _=>r'=.bool r):=by
 refine zj (rs:=[.tmp 4]) tok Tryz.func236 rfl Tryz.ntmps236 rfl Tryz.call236 (by simp) ?_;refine zm [(0,.agg (encGStep a0)),(1,.int .i64 a1)] ⟨rfl,rfl,trivial⟩ ?_;unfold xj at h
 refine rg tok [1,2] fun K hK=>?_
 simp only[go_sem,qf,qb,qa,qc,qe,qd,reduceIte,reduceCtorEq,encGStep];apply hK
 refine zd fun Z1 hZ1=>?_
 refine rgN [1,2,6] ?_;apply zg;refine yR (fun L τ=>∃ (x2:Bool),L=[(1,.int .i64 a1),(2,.op 0 0 0),(6,.int .i64 a0.fOp),(7,.bool x2)]∧τ=[.cells 0 [.int .i64 a0.fOp,.int .i64 a0.fTag,.int .i64 a0.fSub]]∧xj.j3 a0 a1 x2=r) ?_ ?_
 · refine rg tok [1,2,6,7] fun K hK=>?_
   simp only[go_sem,qf,qb,qa,qc,qe,qd,reduceIte,reduceCtorEq,zn];apply hK
   refine zM rfl (fun hc13=>?_) (fun hc13=>?_)
   · rw[if_pos hc13] at h;have t14:=eq_true hc13;apply zf;exact⟨_,_,⟨decide (a0.fOp=1),rfl,rfl,h⟩,.s⟩
   rw[if_neg hc13] at h;have t15:=eq_false hc13
   refine rgE tok [1,2,6,7] fun K hK=>?_
   simp only[go_sem,qf,qb,qa,qc,qe,qd,reduceIte,reduceCtorEq,zn,t15];apply hK
   exact⟨_,_,⟨decide (a0.fOp=2),rfl,rfl,h⟩,.s⟩
 rintro _ _ ⟨x2,rfl,rfl,h⟩;unfold xj.j3 at h;refine zs (b:=x2) rfl (fun hc4=>?_) (fun hc4=>?_)
 · rw[if_pos hc4] at h
   refine rg tok [4] fun K hK=>?_
   simp only[go_sem,qf,qb,qa,qc,qe,qd,reduceIte,reduceCtorEq,zn];apply hK
   cases h;exact rtA
 rw[xI hc4] at h;refine yR (fun L τ=>∃ (x5:Bool),L=[(1,.int .i64 a1),(2,.op 0 0 0),(13,.bool x5)]∧τ=[.cells 0 [.int .i64 a0.fOp,.int .i64 a0.fTag,.int .i64 a0.fSub]]∧xj.j6 a0 a1 x5=r) ?_ ?_
 · refine rg tok [1,2,6,13] fun K hK=>?_
   simp only[go_sem,qf,qb,qa,qc,qe,qd,reduceIte,reduceCtorEq,zn];apply hK
   refine zM rfl (fun hc10=>?_) (fun hc10=>?_)
   · rw[if_pos hc10] at h;have t11:=eq_true hc10;apply zf;exact⟨_,_,⟨decide (a0.fOp=3),rfl,rfl,h⟩,.s⟩
   rw[if_neg hc10] at h;have t12:=eq_false hc10
   refine rgE tok [1,2,13] fun K hK=>?_
   simp only[go_sem,qf,qb,qa,qc,qe,qd,reduceIte,reduceCtorEq,zn,t12];apply hK
   exact⟨_,_,⟨decide (a0.fOp=4),rfl,rfl,h⟩,.s⟩
 rintro _ _ ⟨x5,rfl,rfl,h⟩;unfold xj.j6 at h;refine zs (b:=x5) rfl (fun hc7=>?_) (fun hc7=>?_)
 · rw[if_pos hc7] at h
   refine rc [4] fun K hK=>?_
   refine za tok 4 ?_;simp only[go_sem,qf,qb,qa,qc,qe,qd,reduceIte,reduceCtorEq,zn];refine zl 5 (fun L τ=>L=[(24,.bool ((decide (0≤a0.fSub))&&(decide (a0.fSub<a1))))]∧τ=[.cells 0 [.int .i64 a0.fOp,.int .i64 a0.fTag,.int .i64 a0.fSub]]) ?_ ?_
   · refine yQ 19 rfl (fun hg19=>?_) (fun hg19=>?_)
     · have t8:=eq_true hg19;refine za tok 5 ?_;simp only[go_sem,qf,qb,qa,qc,qe,qd,reduceIte,reduceCtorEq,zn];refine ze ⟨rfl,_,_,⟨rfl,rfl⟩,.p t8⟩
     have t9:=eq_false hg19;refine za tok 5 ?_;simp only[go_sem,qf,qb,qa,qc,qe,qd,reduceIte,reduceCtorEq,zn];refine ze ⟨rfl,_,_,⟨rfl,rfl⟩,.p t9⟩
   rintro _ _ ⟨rfl,rfl⟩;refine rnN 1 ?_;refine nkN hK ?_;cases h;exact rtA
 rw[xI hc7] at h;apply zf;apply hZ1;refine rgN [4] ?_;cases h;exact rtA
theorem xj.ev (a0:GStep)(a1:Int)(r:Bool)(h:xj a0 a1=r)(σ:Store):ACalls qi 236 [.agg (encGStep a0),.int .i64 a1] σ (fun r' σ'=>r'=.bool r∧σ'=σ):=
 (xj.ok a0 a1 r h).c σ
def yG.l18 (a0:GAdaptProgram)(x6:Int)(rec8:Int→Bool):List GStep→Int→Int→Bool
 |[],x15,x14=>(rec8 (x6+1))
 |y18::q18,x15,x14=>bnd (if ((decide (y18.fTag≤x14))||(decide (500<y18.fTag)))=true then true else bnd (xj y18 (qg a0.fParts:Int)) fun r27 => !r27) fun c27=>(if c27=true then false else ((yG.l18 a0 x6 rec8 q18) (x15+1) y18.fTag))
def yG.l8 (a0:GAdaptProgram):List (List GStep)→Int→Bool
 |[],x6=>true
 |y8::q8,x6=>(yG.l18 a0 x6 (yG.l8 a0 q8) y8 0 0)
def yG (a0:GAdaptProgram):Bool:=
 (if ((decide ((qg a0.fParts:Int)<1))||(decide (100<(qg a0.fParts:Int))))=true then false else (yG.l8 a0 a0.fParts 0))
theorem yG.ok (a0:GAdaptProgram)(r:Bool)(h:yG a0=r):ACalls qi 198 [.agg (encGAdaptProgram a0)] [] (fun r' _=>r'=.bool r):=by
 refine zj (rs:=[.tmp 2]) tok Tryz.func198 rfl Tryz.ntmps198 rfl Tryz.call198 (by simp) ?_;refine zm [(0,.agg (encGAdaptProgram a0))] ⟨rfl,trivial⟩ ?_;unfold yG at h
 refine rg tok [1] fun K hK=>?_
 simp only[go_sem,qf,qb,qa,qc,qe,qd,reduceIte,reduceCtorEq,encGAdaptProgram];apply hK
 refine zd fun Z1 hZ1=>?_
 refine rc [1,17] fun K hK=>?_
 refine za tok 5 ?_;simp only[go_sem,qf,qb,qa,qc,qe,qd,reduceIte,reduceCtorEq,zn];refine zl 5 (fun L τ=>L=[(1,.op 0 0 0),(17,.bool ((decide ((qg a0.fParts:Int)<1))||(decide (100<(qg a0.fParts:Int)))))]∧τ=[.cells 0 (encGAdaptProgram a0)]) ?_ ?_
 · refine yQ 12 rfl (fun hg12=>?_) (fun hg12=>?_)
   · have t2:=eq_true hg12;refine za tok 5 ?_;simp only[go_sem,qf,qb,qa,qc,qe,qd,reduceIte,reduceCtorEq,zn];refine ze ⟨rfl,_,_,⟨rfl,rfl⟩,.p t2⟩
   have t3:=eq_false hg12;refine za tok 5 ?_;simp only[go_sem,qf,qb,qa,qc,qe,qd,reduceIte,reduceCtorEq,zn];refine ze ⟨rfl,_,_,⟨rfl,rfl⟩,.p t3⟩
 rintro _ _ ⟨rfl,rfl⟩;refine nkN hK ?_;refine zs (b:=((decide ((qg a0.fParts:Int)<1))||(decide (100<(qg a0.fParts:Int))))) rfl (fun hc4=>?_) (fun hc4=>?_)
 · rw[if_pos hc4] at h;refine rgN [2] ?_;cases h;exact rtA
 rw[xI hc4] at h;apply zf;apply hZ1
 refine zd fun Z5 hZ5=>?_
 refine rgN [1,19,20,21] ?_;apply zg
 refine yq 19 fun hb8=>?_
 replace hb8:qg a0.fParts≤9223372036854775807:=hb8.1;refine zP (fun m L τ=>∃ (p8 q8:List (List GStep)) (x6:Int),m=qg q8∧L=[(1,.op 0 0 0),(19,.ds true (qh (Zz encGStep) a0.fParts) (qg a0.fParts) false),(20,.int .i64 (qg a0.fParts:Int)),(21,.int .i64 x6)]∧τ=[.cells 0 (encGAdaptProgram a0)]∧a0.fParts=p8++q8∧x6=(qg p8:Int)∧yG.l8 a0 q8 x6=r) _ ⟨[],a0.fParts,0,rfl,rfl,rfl,rfl,rfl,h⟩ .s ?_;rintro m L τ ⟨p8,q8,x6,rfl,rfl,rfl,hE8,hi8,h⟩
 rcases q8 with _|⟨y8,q8⟩
 · have hz8:=yN hE8 hi8;simp only[yG.l8] at h
   refine rg tok [1,19,20,21,22] fun K hK=>?_
   simp only[go_sem,qf,qb,qa,qc,qe,qd,reduceIte,reduceCtorEq,zn,hz8];apply hK
   refine zd fun Z9 hZ9=>?_
   refine zo rfl ?_;apply zI;apply hZ5
   refine rg tok [2] fun K hK=>?_
   simp only[go_sem,qf,qb,qa,qc,qe,qd,reduceIte,reduceCtorEq,hz8];apply hK
   cases h;exact rtA
 obtain⟨hz8,hw8,hx8,hE'8,hi'8⟩:=yo hE8 hi8 hb8;simp only[yG.l8] at h
 refine rg tok [1,19,20,21,22] fun K hK=>?_
 simp only[go_sem,qf,qb,qa,qc,qe,qd,reduceIte,reduceCtorEq,zn,hz8,hw8];apply hK
 refine zd fun Z10 hZ10=>?_
 refine zu rfl ?_;apply zf;apply hZ10
 refine zd fun Z11 hZ11=>?_
 apply zg;have f12:=E176.idxS hx8;have f13:=E176.fldS0 (f:=246) rfl rfl hx8
 refine rg tok [1,4,19,20,21] fun K hK=>?_
 simp only[go_sem,qf,qb,qa,qc,qe,qd,reduceIte,reduceCtorEq,Zz,hz8,hw8,f12,f13];apply hK
 refine rg tok [1,4,5,19,20,21] fun K hK=>?_
 simp only[go_sem,qf,qb,qa,qc,qe,qd,reduceIte,reduceCtorEq,hz8,hw8];apply hK
 refine rg tok [1,5,19,20,21,25,26,27] fun K hK=>?_
 simp only[go_sem,qf,qb,qa,qc,qe,qd,reduceIte,reduceCtorEq,hz8,hw8];apply hK
 apply zg
 refine yq 25 fun hb18=>?_
 replace hb18:qg y8≤9223372036854775807:=hb18.1;refine zP (fun m L τ=>∃ (p18 q18:List GStep) (x15:Int) (x14:Int),m=qg q18∧L=[(1,.op 0 0 0),(5,.int .i64 x14),(19,.ds true (qh (Zz encGStep) a0.fParts) (qg a0.fParts) false),(20,.int .i64 (qg a0.fParts:Int)),(21,.int .i64 x6),(25,.ds true (qh encGStep y8) (qg y8) false),(26,.int .i64 (qg y8:Int)),(27,.int .i64 x15)]∧τ=[.cells 0 (encGAdaptProgram a0)]∧y8=p18++q18∧x15=(qg p18:Int)∧yG.l18 a0 x6 (yG.l8 a0 q8) q18 x15 x14=r) _ ⟨[],y8,0,0,rfl,rfl,rfl,rfl,rfl,h⟩ .s ?_;rintro m L τ ⟨p18,q18,x15,x14,rfl,rfl,rfl,hE18,hi18,h⟩
 rcases q18 with _|⟨y18,q18⟩
 · have hz18:=yN hE18 hi18;simp only[yG.l18] at h
   refine rg tok [1,5,19,20,21,25,26,27,28] fun K hK=>?_
   simp only[go_sem,qf,qb,qa,qc,qe,qd,reduceIte,reduceCtorEq,zn,hz8,hw8,hz18];apply hK
   refine zd fun Z19 hZ19=>?_
   refine zo rfl ?_;apply zI;apply hZ11
   refine rgE tok [1,19,20,21] fun K hK=>?_
   simp only[go_sem,qf,qb,qa,qc,qe,qd,reduceIte,reduceCtorEq,zn,hz8,hw8,hz18];apply hK
   exact⟨_,_,_,qE q8.length,⟨p8++[y8],q8,x6+1,rfl,rfl,rfl,hE'8,hi'8,h⟩,.s⟩
 obtain⟨hz18,hw18,hx18,hE'18,hi'18⟩:=yo hE18 hi18 hb18;simp only[yG.l18] at h
 refine rg tok [1,5,19,20,21,25,26,27,28] fun K hK=>?_
 simp only[go_sem,qf,qb,qa,qc,qe,qd,reduceIte,reduceCtorEq,zn,hz8,hw8,hz18,hw18];apply hK
 refine zd fun Z20 hZ20=>?_
 refine zu rfl ?_;apply zf;apply hZ20
 refine zd fun Z21 hZ21=>?_
 apply zg;have f22:=E246.idxS hx18;have f23:=E246.loadS rfl rfl hx18
 refine rg tok [1,5,7,19,20,21,25,26,27] fun K hK=>?_
 simp only[go_sem,qf,qb,qa,qc,qe,qd,reduceIte,reduceCtorEq,encGStep,hz8,hw8,hz18,hw18,f22,f23];apply hK
 refine zd fun Z24 hZ24=>?_
 refine rc [1,7,19,20,21,25,26,27,47] fun K hK=>?_
 refine za tok 5 ?_;simp only[go_sem,qf,qb,qa,qc,qe,qd,reduceIte,reduceCtorEq,zn,hz8,hw8,hz18,hw18];refine zl 4 (fun L τ=>L=[(1,.op 0 0 0),(7,.op 1 0 0),(19,.ds true (qh (Zz encGStep) a0.fParts) (qg a0.fParts) false),(20,.int .i64 (qg a0.fParts:Int)),(21,.int .i64 x6),(25,.ds true (qh encGStep y8) (qg y8) false),(26,.int .i64 (qg y8:Int)),(27,.int .i64 x15),(39,.bool ((decide (y18.fTag≤x14))||(decide (500<y18.fTag))))]∧τ=[.cells 0 (encGAdaptProgram a0),.cells 0 [.int .i64 y18.fOp,.int .i64 y18.fTag,.int .i64 y18.fSub]]) ?_ ?_
 · refine yQ 35 rfl (fun hg35=>?_) (fun hg35=>?_)
   · have t25:=eq_true hg35;refine za tok 4 ?_;simp only[go_sem,qf,qb,qa,qc,qe,qd,reduceIte,reduceCtorEq,zn,hz8,hw8,hz18,hw18];refine ze ⟨rfl,_,_,⟨rfl,rfl⟩,.p t25⟩
   have t26:=eq_false hg35;refine za tok 4 ?_;simp only[go_sem,qf,qb,qa,qc,qe,qd,reduceIte,reduceCtorEq,zn,hz8,hw8,hz18,hw18];refine ze ⟨rfl,_,_,⟨rfl,rfl⟩,.p t26⟩
 rintro _ _ ⟨rfl,rfl⟩;refine za tok 1 ?_;simp only[go_sem,qf,qb,qa,qc,qe,qd,reduceIte,reduceCtorEq,hz8,hw8,hz18,hw18];obtain⟨c27,hc27,h⟩:=zB h;refine zl 7 (fun L τ=>L=[(1,.op 0 0 0),(7,.op 1 0 0),(19,.ds true (qh (Zz encGStep) a0.fParts) (qg a0.fParts) false),(20,.int .i64 (qg a0.fParts:Int)),(21,.int .i64 x6),(25,.ds true (qh encGStep y8) (qg y8) false),(26,.int .i64 (qg y8:Int)),(27,.int .i64 x15),(47,.bool c27)]∧τ=[.cells 0 (encGAdaptProgram a0),.cells 0 [.int .i64 y18.fOp,.int .i64 y18.fTag,.int .i64 y18.fSub]]) ?_ ?_
 · refine zR (b:=((decide (y18.fTag≤x14))||(decide (500<y18.fTag)))) 40 rfl (fun hg40=>?_) (fun hg40=>?_)
   · rw[if_pos hg40] at hc27;refine za tok 7 ?_;simp only[go_sem,qf,qb,qa,qc,qe,qd,reduceIte,reduceCtorEq,encGStep,hz8,hw8,hz18,hw18];subst hc27;refine ze ⟨rfl,_,_,⟨rfl,rfl⟩,.b hg40⟩
   rw[xI hg40] at hc27;obtain⟨r28,hr28,hc27⟩:=zB hc27;refine za tok 4 ?_;simp only[go_sem,qf,qb,qa,qc,qe,qd,reduceIte,reduceCtorEq,encGStep,hz8,hw8,hz18,hw18];refine clN rfl rfl rfl (xj.ev y18 (qg a0.fParts:Int) r28 hr28 _) ?_;refine za tok 2 ?_;simp only[go_sem,qf,qb,qa,qc,qe,qd,reduceIte,reduceCtorEq,encGStep,hz8,hw8,hz18,hw18];subst hc27;refine ze ⟨rfl,_,_,⟨rfl,rfl⟩,.b hg40⟩
 rintro _ _ ⟨rfl,rfl⟩;refine nkN hK ?_;refine zs (b:=c27) rfl (fun hc29=>?_) (fun hc29=>?_)
 · rw[if_pos hc29] at h
   refine rg tok [2] fun K hK=>?_
   simp only[go_sem,qf,qb,qa,qc,qe,qd,reduceIte,reduceCtorEq,hz8,hw8,hz18,hw18];apply hK
   cases h;exact rtA
 rw[xI hc29] at h;apply zf;apply hZ24
 refine rgE tok [1,5,19,20,21,25,26,27] fun K hK=>?_
 simp only[go_sem,qf,qb,qa,qc,qe,qd,reduceIte,reduceCtorEq,hz8,hw8,hz18,hw18];apply hK
 apply hZ21
 refine rgE tok [1,5,19,20,21,25,26,27] fun K hK=>?_
 simp only[go_sem,qf,qb,qa,qc,qe,qd,reduceIte,reduceCtorEq,zn,hz8,hw8,hz18,hw18];apply hK
 exact⟨_,_,_,qE q18.length,⟨p18++[y18],q18,x15+1,y18.fTag,rfl,rfl,rfl,hE'18,hi'18,h⟩,(.t [0] false)⟩
end
section
set_option maxRecDepth 4000
set_option maxHeartbeats 1000000
open AM
theorem yG.ev (a0:GAdaptProgram)(r:Bool)(h:yG a0=r)(σ:Store):ACalls qi 198 [.agg (encGAdaptProgram a0)] σ (fun r' σ'=>r'=.bool r∧σ'=σ):=
 (yG.ok a0 r h).c σ
def zp.j8 (r2:Int)(m1__13:Int)(m1__24:List UInt8)(m1__45:List GRaw)(l6:List GEntry):Option GTree:=
 some (⟨r2,m1__13,m1__24,l6,m1__45⟩:GTree)
def zp.l30 (z8:GValueValue→Option GTree)(x13:Int)(l11:List GEntry)(rec17:Int→List GEntry→Option GTree)(y17:GValueEntry):List GValueValue→Int→List GTree→Option GTree
 |[],x26,l24=>(Xj (qg l11+1) 32).bind fun _u32=>(rec17 (x13+1) (l11++[(⟨y17.ftag,l24⟩:GEntry)]))
 |y30::q30,x26,l24=>(z8 y30).bind fun r39=>(Xj (qg l24+1) 80).bind fun _u40=>((zp.l30 z8 x13 l11 rec17 y17 q30) (x26+1) (l24++[r39]))
def zp.l17 (z8:GValueValue→Option GTree)(r2:Int)(r10:List GRaw):List GValueEntry→Int→List GEntry→Option GTree
 |[],x13,l11=>(zp.j8 r2 0 [] r10 l11)
 |y17::q17,x13,l11=>(zp.l30 z8 x13 l11 (zp.l17 z8 r2 r10 q17) y17 y17.fl 0 ([]:List GTree))
def zp.body (z8:GValueValue→Option GTree)(a0:GValueValue):Option GTree:=
 bnd (xy a0) fun r2=>(match a0 with|.nil=>(zp.j8 r2 0 [] ([]:List GRaw) ([]:List GEntry))|.num n9=>(zp.j8 r2 n9 [] ([]:List GRaw) ([]:List GEntry))|.str s9=>(zp.j8 r2 0 s9 ([]:List GRaw) ([]:List GEntry))|.node e9 r9=>(yO (⟨e9,r9⟩:GValueNode)).bind fun r10=>(zp.l17 z8 r2 r10 e9 0 ([]:List GEntry)))
theorem zp.step (z8:GValueValue→Option GTree)(Xa:∀ (a0:GValueValue) (r:GTree),z8 a0=some r→ACalls qi 249 [.agg (encGValueValue a0)] [] (fun r' _=>r'=.agg (cellsGTree r)))(a0:GValueValue)(r:GTree)(h:zp.body z8 a0=some r):ACalls qi 249 [.agg (encGValueValue a0)] [] (fun r' _=>r'=.agg (cellsGTree r)):=by
 have ev_value_Value_Tree:=fun a0 r h σ=>(Xa a0 r h).c σ
 refine zj (rs:=[.cell 2 37]) tok Tryz.func249 rfl Tryz.ntmps249 rfl Tryz.call249 (by simp) ?_;refine zm [(0,.agg (encGValueValue a0))] ⟨rfl,trivial⟩ ?_;unfold zp.body at h;have f1:=wk a0;unfold AV.one at f1
 refine rg tok [1,2] fun K hK=>?_
 simp only[go_sem,qf,qb,qa,qc,qe,qd,reduceIte,reduceCtorEq,encGValueValue,f1];apply hK
 refine rc [1,2,3] fun K hK=>?_
 obtain⟨r2,hr2,h⟩:=zB h;refine za tok 1 ?_;simp only[go_sem,qf,qb,qa,qc,qe,qd,reduceIte,reduceCtorEq,encGValueValue];refine clN rfl rfl rfl (xy.ev a0 r2 hr2 _) ?_;refine za tok 3 ?_;simp only[go_sem,qf,qb,qa,qc,qe,qd,reduceIte,reduceCtorEq,cellsGTree,zb,encGValueValue];refine nkN hK ?_;refine wI 2 3 2 rfl (by simp) rfl (L:=[(1,.op 0 0 0),(2,.op 1 0 0),(3,.op 2 0 0)]) (τ:=[.cells 0 [ifcV a0],.cells 0 [.int .i64 0,.int .i64 0,.str [],.ds true [] 0 true,.ds true [] 0 true],.cells 0 [.int .i64 r2,.int .i64 0,.str [],.os true 2 3 0 0 (qg ([]:List GEntry)) false,.ds true [] 0 true],.cells 0 (qh encGEntry ([]:List GEntry))]) .s ?_;refine yR (fun L τ=>∃ (m1__13:Int) (m1__24:List UInt8) (m1__45:List GRaw) (l6:List GEntry) (v7:Nat),L=[(2,.op 0 0 0),(3,.op 1 0 0)]∧τ=[.cells 0 [.int .i64 0,.int .i64 0,.str [],.ds true (qh encGEntry ([]:List GEntry)) (qg ([]:List GEntry)) false,.ds true (qh encGRaw ([]:List GRaw)) (qg ([]:List GRaw)) false],.cells 0 [.int .i64 r2,.int .i64 m1__13,.str m1__24,.os true 2 2 v7 0 (qg l6) false,.ds true (qh encGRaw m1__45) (qg m1__45) false],.cells v7 (qh encGEntry l6)]∧zp.j8 r2 m1__13 m1__24 m1__45 l6=some r) ?_ ?_
 · refine rgN [2,3,16] ?_;apply zg
   rcases a0 with _|n9|s9|⟨e9,r9⟩
   · dsimp only at h
     try simp only[Zp,ZD,encGValueValue]
     refine rg tok [2,3,16,18,19] fun K hK=>?_
     simp only[go_sem,qf,qb,qa,qc,qe,qd,reduceIte,reduceCtorEq,yn,yr,TypeDesc.isIface];apply hK
     refine zo rfl ?_
     refine rg tok [2,3,16,23,24] fun K hK=>?_
     simp only[go_sem,qf,qb,qa,qc,qe,qd,reduceIte,reduceCtorEq,yn,yr,TypeDesc.isIface];apply hK
     refine zo rfl ?_
     refine rg tok [2,3,28,29] fun K hK=>?_
     simp only[go_sem,qf,qb,qa,qc,qe,qd,reduceIte,reduceCtorEq,yn,yr,TypeDesc.isIface];apply hK
     refine zo rfl ?_;apply zf;exact⟨_,_,⟨0,[],([]:List GRaw),([]:List GEntry),0,rfl,rfl,h⟩,(.t [1,2,3] true)⟩
   · dsimp only at h
     try simp only[Zo,ZC,encGValueValue]
     refine rg tok [2,3,16,18,19] fun K hK=>?_
     simp only[go_sem,qf,qb,qa,qc,qe,qd,reduceIte,reduceCtorEq,yn,yr,TypeDesc.isIface];apply hK
     refine zu rfl ?_;refine rgN [2,3,4] ?_
     refine rgE tok [2,3] fun K hK=>?_
     simp only[go_sem,qf,qb,qa,qc,qe,qd,reduceIte,reduceCtorEq,cellsGTree,zb];apply hK
     exact⟨_,_,⟨n9,[],([]:List GRaw),([]:List GEntry),0,rfl,rfl,h⟩,(.t [1,2,3] true)⟩
   · dsimp only at h
     try simp only[Zn,ZB,encGValueValue]
     refine rg tok [2,3,16,18,19] fun K hK=>?_
     simp only[go_sem,qf,qb,qa,qc,qe,qd,reduceIte,reduceCtorEq,yn,yr,TypeDesc.isIface];apply hK
     refine zo rfl ?_
     refine rg tok [2,3,16,23,24] fun K hK=>?_
     simp only[go_sem,qf,qb,qa,qc,qe,qd,reduceIte,reduceCtorEq,yn,yr,TypeDesc.isIface];apply hK
     refine zu rfl ?_;refine rgN [2,3,5] ?_
     refine rgE tok [2,3] fun K hK=>?_
     simp only[go_sem,qf,qb,qa,qc,qe,qd,reduceIte,reduceCtorEq,cellsGTree,zb];apply hK
     exact⟨_,_,⟨0,s9,([]:List GRaw),([]:List GEntry),0,rfl,rfl,h⟩,(.t [1,2,3] true)⟩
   dsimp only at h
   try simp only[wB,Zh,encGValueValue]
   refine rg tok [2,3,16,18,19] fun K hK=>?_
   simp only[go_sem,qf,qb,qa,qc,qe,qd,reduceIte,reduceCtorEq,yn,yr,TypeDesc.isIface];apply hK
   refine zo rfl ?_
   refine rg tok [2,3,16,23,24] fun K hK=>?_
   simp only[go_sem,qf,qb,qa,qc,qe,qd,reduceIte,reduceCtorEq,yn,yr,TypeDesc.isIface];apply hK
   refine zo rfl ?_
   refine rg tok [2,3,28,29] fun K hK=>?_
   simp only[go_sem,qf,qb,qa,qc,qe,qd,reduceIte,reduceCtorEq,yn,yr,TypeDesc.isIface];apply hK
   refine zu rfl ?_;refine rgN [2,3,6] ?_
   refine rc [2,3,6] fun K hK=>?_
   obtain⟨r10,hr10,h⟩:=bind_some h;refine rnN 1 ?_;refine clN rfl rfl rfl (yO.ev (⟨e9,r9⟩:GValueNode) r10 hr10 _) ?_;refine za tok 2 ?_;simp only[go_sem,qf,qb,qa,qc,qe,qd,reduceIte,reduceCtorEq,cellsGTree,zb];refine nkN hK ?_
   refine rg tok [2,3,36,37,38] fun K hK=>?_
   simp only[go_sem,qf,qb,qa,qc,qe,qd,reduceIte,reduceCtorEq,encGValueNode,Ze];apply hK
   apply zg
   refine yq 36 fun hb17=>?_
   replace hb17:qg e9≤9223372036854775807:=hb17.1;refine zP (fun m L τ=>∃ (p17 q17:List GValueEntry) (x13:Int) (l11:List GEntry) (v12:Nat),m=qg q17∧L=[(2,.op 0 0 0),(3,.op 1 0 0),(36,.ds true (qh encGValueEntry e9) (qg e9) false),(37,.int .i64 (qg e9:Int)),(38,.int .i64 x13)]∧τ=[.cells 0 [.int .i64 0,.int .i64 0,.str [],.ds true [] 0 true,.ds true [] 0 true],.cells 0 [.int .i64 r2,.int .i64 0,.str [],.os true 2 2 v12 0 (qg l11) false,.ds true (qh encGRaw r10) (qg r10) false],.cells v12 (qh encGEntry l11)]∧e9=p17++q17∧x13=(qg p17:Int)∧zp.l17 z8 r2 r10 q17 x13 l11=some r) _ ⟨[],e9,0,([]:List GEntry),0,rfl,rfl,rfl,rfl,rfl,h⟩ (.t [1,2,3] false) ?_;rintro m L τ ⟨p17,q17,x13,l11,v12,rfl,rfl,rfl,hE17,hi17,h⟩
   rcases q17 with _|⟨y17,q17⟩
   · have hz17:=yN hE17 hi17;simp only[zp.l17] at h
     refine rg tok [2,3,36,37,38,39] fun K hK=>?_
     simp only[go_sem,qf,qb,qa,qc,qe,qd,reduceIte,reduceCtorEq,zn,hz17];apply hK
     refine zd fun Z18 hZ18=>?_
     refine zo rfl ?_;apply zI;exact⟨_,_,⟨0,[],r10,l11,v12,rfl,rfl,h⟩,(.t [0,1,2] true)⟩
   obtain⟨hz17,hw17,hx17,hE'17,hi'17⟩:=yo hE17 hi17 hb17;simp only[zp.l17] at h
   refine rg tok [2,3,36,37,38,39] fun K hK=>?_
   simp only[go_sem,qf,qb,qa,qc,qe,qd,reduceIte,reduceCtorEq,zn,hz17,hw17];apply hK
   refine zd fun Z19 hZ19=>?_
   refine zu rfl ?_;apply zf;apply hZ19
   refine zd fun Z20 hZ20=>?_
   apply zg;have f21:=E324.idxS hx17;have f22:=E324.loadS rfl rfl hx17
   refine rg tok [2,3,8,36,37,38] fun K hK=>?_
   simp only[go_sem,qf,qb,qa,qc,qe,qd,reduceIte,reduceCtorEq,cellsGValueEntry,zO,hz17,hw17,f21,f22];apply hK
   refine rg tok [2,3,8,9,36,37,38] fun K hK=>?_
   simp only[go_sem,qf,qb,qa,qc,qe,qd,reduceIte,reduceCtorEq,cellsGEntry,zN,hz17,hw17];apply hK
   refine wI 4 1 5 rfl (by simp) rfl (L:=[(2,.op 0 0 0),(3,.op 1 0 0),(8,.op 3 0 0),(9,.op 4 0 0),(36,.ds true (qh encGValueEntry e9) (qg e9) false),(37,.int .i64 (qg e9:Int)),(38,.int .i64 x13)]) (τ:=[.cells 0 [.int .i64 0,.int .i64 0,.str [],.ds true [] 0 true,.ds true [] 0 true],.cells 0 [.int .i64 r2,.int .i64 0,.str [],.os true 2 2 v12 0 (qg l11) false,.ds true (qh encGRaw r10) (qg r10) false],.cells v12 (qh encGEntry l11),.cells 0 (cellsGValueEntry y17),.cells 0 [.int .i64 y17.ftag,.os true 5 5 0 0 (qg ([]:List GTree)) false],.cells 0 (qh encGTree ([]:List GTree))]) .s ?_
   refine zd fun Z23 hZ23=>?_
   refine rg tok [2,3,9,36,37,38,46,47,48] fun K hK=>?_
   simp only[go_sem,qf,qb,qa,qc,qe,qd,reduceIte,reduceCtorEq,hz17,hw17];apply hK
   apply zg
   refine yq 46 fun hb30=>?_
   replace hb30:qg y17.fl≤9223372036854775807:=hb30.1;refine zP (fun m L τ=>∃ (p30 q30:List GValueValue) (x26:Int) (l24:List GTree) (v25:Nat),m=qg q30∧L=[(2,.op 0 0 0),(3,.op 1 0 0),(9,.op 3 0 0),(36,.ds true (qh encGValueEntry e9) (qg e9) false),(37,.int .i64 (qg e9:Int)),(38,.int .i64 x13),(46,.ds true (qh encGValueValue y17.fl) (qg y17.fl) false),(47,.int .i64 (qg y17.fl:Int)),(48,.int .i64 x26)]∧τ=[.cells 0 [.int .i64 0,.int .i64 0,.str [],.ds true [] 0 true,.ds true [] 0 true],.cells 0 [.int .i64 r2,.int .i64 0,.str [],.os true 2 2 v12 0 (qg l11) false,.ds true (qh encGRaw r10) (qg r10) false],.cells v12 (qh encGEntry l11),.cells 0 [.int .i64 y17.ftag,.os true 5 4 v25 0 (qg l24) false],.cells v25 (qh encGTree l24)]∧y17.fl=p30++q30∧x26=(qg p30:Int)∧zp.l30 z8 x13 l11 (zp.l17 z8 r2 r10 q17) y17 q30 x26 l24=some r) _ ⟨[],y17.fl,0,([]:List GTree),0,rfl,rfl,rfl,rfl,rfl,h⟩ (.t [0,1,2,4,5] false) ?_;rintro m L τ ⟨p30,q30,x26,l24,v25,rfl,rfl,rfl,hE30,hi30,h⟩
   rcases q30 with _|⟨y30,q30⟩
   · have hz30:=yN hE30 hi30;simp only[zp.l30] at h
     refine rg tok [2,3,9,36,37,38,46,47,48,49] fun K hK=>?_
     simp only[go_sem,qf,qb,qa,qc,qe,qd,reduceIte,reduceCtorEq,zn,hz17,hw17,hz30];apply hK
     refine zd fun Z31 hZ31=>?_
     refine zo rfl ?_;apply zI;apply hZ23;obtain⟨_u32,hu32,h⟩:=bind_some h;have gu32:=yI hu32;have f33:=(zE E34.len l11)
     refine rgE tok [2,3,36,37,38] fun K hK=>?_
     simp only[go_sem,qf,qb,qa,qc,qe,qd,reduceIte,reduceCtorEq,zL,zX,qY,qS,qX,true_and,q3,yv,yb,yx,cellsGEntry,cellsGTree,zN,zb,hz17,hw17,hz30,gu32,f33,yu,qV,qT,AV.one,qG,qm,gt_iff_lt,zF,qA,qB,qL,qF,qJ,qw,qx,qz,ql,qD,qH];apply hK
     apply hZ20
     refine rgE tok [2,3,36,37,38] fun K hK=>?_
     simp only[go_sem,qf,qb,qa,qc,qe,qd,reduceIte,reduceCtorEq,zn,hz17,hw17,hz30];apply hK
     exact⟨_,_,_,qE q17.length,⟨p17++[y17],q17,x13+1,l11++[(⟨y17.ftag,l24⟩:GEntry)],v12+1,rfl,rfl,rfl,hE'17,hi'17,h⟩,(.t [0,1,2] false)⟩
   obtain⟨hz30,hw30,hx30,hE'30,hi'30⟩:=yo hE30 hi30 hb30;simp only[zp.l30] at h
   refine rg tok [2,3,9,36,37,38,46,47,48,49] fun K hK=>?_
   simp only[go_sem,qf,qb,qa,qc,qe,qd,reduceIte,reduceCtorEq,zn,hz17,hw17,hz30,hw30];apply hK
   refine zd fun Z34 hZ34=>?_
   refine zu rfl ?_;apply zf;apply hZ34
   refine zd fun Z35 hZ35=>?_
   apply zg;have f36:=E282.idxS hx30;have f37:=E282.loadS rfl rfl hx30;have f38:=wk y30;unfold AV.one at f38
   refine rg tok [2,3,9,11,36,37,38,46,47,48] fun K hK=>?_
   simp only[go_sem,qf,qb,qa,qc,qe,qd,reduceIte,reduceCtorEq,encGValueValue,hz17,hw17,hz30,hw30,f36,f37,f38];apply hK
   obtain⟨r39,hr39,h⟩:=bind_some h;obtain⟨_u40,hu40,h⟩:=bind_some h;have gu40:=yI hu40;have f41:=(zE E38.len l24)
   refine rdE [2,3,9,36,37,38,46,47,48] fun K hK=>?_
   refine DW.start (T:=tab) [.any,.own 2 [],.at [],.eff,.eff,.eff,.any,.eff] [(2,[])] ?_;refine DW.runN tok 3 ?_;simp only[go_sem,qf,qb,qa,qc,qe,qd,reduceIte,reduceCtorEq,cellsGEntry,cellsGTree,zN,zb,encGValueValue,hz17,hw17,hz30,hw30,gu40,f41,yu,qV,qT,AV.one,qG,qm,gt_iff_lt,zF,qA,qB,qL,qF,qJ,qw,qx,qz,ql,qD,qH];refine DW.call rfl rfl rfl (ev_value_Value_Tree y30 r39 hr39 _) ?_;refine DW.runN tok 4 ?_;simp only[go_sem,qf,qb,qa,qc,qe,qd,reduceIte,reduceCtorEq,zL,zX,qY,qS,qX,true_and,q3,yv,yb,yx,cellsGEntry,cellsGTree,zN,zb,encGValueValue,hz17,hw17,hz30,hw30,gu40,f41,yu,qV,qT,AV.one,qG,qm,gt_iff_lt,zF,qA,qB,qL,qF,qJ,qw,qx,qz,ql,qD,qH];refine DW.fin tok (by decide +kernel) rfl ?_;simp only[zk,zw,zD,xJ,upd,qa,reduceIte,z1,yA];apply hK
   apply hZ35
   refine rgE tok [2,3,9,36,37,38,46,47,48] fun K hK=>?_
   simp only[go_sem,qf,qb,qa,qc,qe,qd,reduceIte,reduceCtorEq,zn,hz17,hw17,hz30,hw30];apply hK
   exact⟨_,_,_,qE q30.length,⟨p30++[y30],q30,x26+1,l24++[r39],v25+1,rfl,rfl,rfl,hE'30,hi'30,h⟩,(.t [0,1,2,3,4] false)⟩
 rintro _ _ ⟨m1__13,m1__24,m1__45,l6,v7,rfl,rfl,h⟩;unfold zp.j8 at h
 refine rg tok [2] fun K hK=>?_
 simp only[go_sem,qf,qb,qa,qc,qe,qd,reduceIte,reduceCtorEq,cellsGTree,zb];apply hK
 cases h;exact rtA
def zp : Nat→GValueValue→Option GTree
 |0,_=>none
 |k+1,a0=>zp.body (zp k) a0
theorem zp.all (k:Nat):(∀ (a0:GValueValue) (r:GTree),zp k a0=some r→ACalls qi 249 [.agg (encGValueValue a0)] [] (fun r' _=>r'=.agg (cellsGTree r))):=by
 induction k with
 |zero=>exact (fun a0 r h=>by simp only[zp] at h; cases h)
 |succ k ih=>exact (fun a0 r h=>zp.step _ ih a0 r (by simpa only [zp] using h))
theorem zp.ev (k:Nat)(a0:GValueValue)(r:GTree)(h:zp k a0=some r)(σ:Store):ACalls qi 249 [.agg (encGValueValue a0)] σ (fun r' σ'=>r'=.agg (cellsGTree r)∧σ'=σ):=
 ((zp.all k) a0 r h).c σ
def xr.j5  : GValueValue:=
 GValueValue.nil
def xr (a0:GValueValue):GValueValue:=
 bnd (yX a0) fun r3=>(if r3.2=true then (GValueValue.num r3.1) else (match a0 with|.nil=>xr.j5|.num n6=>xr.j5|.str s6=>xr.j5|.node e6 r6=>(GValueValue.node e6 r6)))
theorem xr.ok (a0:GValueValue)(r:GValueValue)(h:xr a0=r):ACalls qi 250 [.agg (encGValueValue a0)] [] (fun r' _=>r'=anyV r):=by
 refine zj (rs:=[.tmp 2]) tok Tryz.func250 rfl Tryz.ntmps250 rfl Tryz.call250 (by simp) ?_;refine zm [(0,.agg (encGValueValue a0))] ⟨rfl,trivial⟩ ?_;unfold xr at h;have f1:=wk a0;unfold AV.one at f1
 refine rg tok [1] fun K hK=>?_
 simp only[go_sem,qf,qb,qa,qc,qe,qd,reduceIte,reduceCtorEq,encGValueValue,f1];apply hK
 refine zd fun Z2 hZ2=>?_
 refine rc [1,3,4] fun K hK=>?_
 obtain⟨r3,hr3,h⟩:=zB h;refine za tok 1 ?_;simp only[go_sem,qf,qb,qa,qc,qe,qd,reduceIte,reduceCtorEq,encGValueValue];refine clN rfl rfl rfl (yX.ev a0 r3 hr3 _) ?_;refine za tok 5 ?_;simp only[go_sem,qf,qb,qa,qc,qe,qd,reduceIte,reduceCtorEq,encGValueValue];refine nkN hK ?_;refine rgN [1,3,12] ?_;refine zs (b:=r3.2) rfl (fun hc4=>?_) (fun hc4=>?_)
 · rw[if_pos hc4] at h;refine rgN [2] ?_;cases h;exact rtA
 rw[xI hc4] at h;apply zf;apply hZ2;refine yR (fun L τ=>L=[]∧τ=[]∧xr.j5=r) ?_ ?_
 · rcases a0 with _|n6|s6|⟨e6,r6⟩
   · dsimp only at h
     try simp only[Zp,ZD,encGValueValue]
     refine rc [5,6] fun K hK=>?_
     refine za tok 1 ?_;simp only[go_sem,qf,qb,qa,qc,qe,qd,reduceIte,reduceCtorEq,encGValueValue];refine clN rfl rfl rfl (asNode_nil    _) ?_;refine za tok 5 ?_;simp only[go_sem,qf,qb,qa,qc,qe,qd,reduceIte,reduceCtorEq,encGValueValue];refine nkN hK ?_;refine rgN [5,20] ?_;refine zo rfl ?_;apply zf;exact⟨_,_,⟨rfl,rfl,h⟩,(.t [] false)⟩
   · dsimp only at h
     try simp only[Zo,ZC,encGValueValue]
     refine rc [5,6] fun K hK=>?_
     refine za tok 1 ?_;simp only[go_sem,qf,qb,qa,qc,qe,qd,reduceIte,reduceCtorEq,encGValueValue];refine clN rfl rfl rfl (asNode_num n6   _) ?_;refine za tok 5 ?_;simp only[go_sem,qf,qb,qa,qc,qe,qd,reduceIte,reduceCtorEq,encGValueValue];refine nkN hK ?_;refine rgN [5,20] ?_;refine zo rfl ?_;apply zf;exact⟨_,_,⟨rfl,rfl,h⟩,(.t [] false)⟩
   · dsimp only at h
     try simp only[Zn,ZB,encGValueValue]
     refine rc [5,6] fun K hK=>?_
     refine za tok 1 ?_;simp only[go_sem,qf,qb,qa,qc,qe,qd,reduceIte,reduceCtorEq,encGValueValue];refine clN rfl rfl rfl (asNode_str s6   _) ?_;refine za tok 5 ?_;simp only[go_sem,qf,qb,qa,qc,qe,qd,reduceIte,reduceCtorEq,encGValueValue];refine nkN hK ?_;refine rgN [5,20] ?_;refine zo rfl ?_;apply zf;exact⟨_,_,⟨rfl,rfl,h⟩,(.t [] false)⟩
   dsimp only at h
   try simp only[wB,Zh,encGValueValue]
   refine rc [5,6] fun K hK=>?_
   refine za tok 1 ?_;simp only[go_sem,qf,qb,qa,qc,qe,qd,reduceIte,reduceCtorEq,encGValueValue];refine clN rfl rfl rfl (asNode_node e6 r6   _) ?_;refine za tok 5 ?_;simp only[go_sem,qf,qb,qa,qc,qe,qd,reduceIte,reduceCtorEq,encGValueValue];refine nkN hK ?_;refine rgN [5,20] ?_;refine zu rfl ?_;refine rgN [2] ?_;cases h;exact rtA
 rintro _ _ ⟨rfl,rfl,h⟩;unfold xr.j5 at h;refine rgN [2] ?_;cases h;exact rtA
theorem xr.ev (a0:GValueValue)(r:GValueValue)(h:xr a0=r)(σ:Store):ACalls qi 250 [.agg (encGValueValue a0)] σ (fun r' σ'=>r'=anyV r∧σ'=σ):=
 (xr.ok a0 r h).c σ
def xU (a0:Int):Int:=
 (if (-2147483648)<(if 2147483647<a0 then 2147483647 else a0) then (if 2147483647<a0 then 2147483647 else a0) else (-2147483648))
theorem xU.ok (a0:Int)(r:Int)(h:xU a0=r):ACalls qi 208 [.int .i64 a0] [] (fun r' _=>r'=.int .i64 r):=by
 refine zj (rs:=[.tmp 2]) tok Tryz.func208 rfl Tryz.ntmps208 rfl Tryz.call208 (by simp) ?_;refine zm [(0,.int .i64 a0)] ⟨rfl,trivial⟩ ?_;unfold xU at h;refine rgN [0] ?_
 refine rg tok [2] fun K hK=>?_
 simp only[go_sem,qf,qb,qa,qc,qe,qd,reduceIte,reduceCtorEq,XZ,foldO,vav,vaw];apply hK
 cases h;exact rtA
theorem xU.ev (a0:Int)(r:Int)(h:xU a0=r)(σ:Store):ACalls qi 208 [.int .i64 a0] σ (fun r' σ'=>r'=.int .i64 r∧σ'=σ):=
 (xU.ok a0 r h).c σ
def zA.j19 (x8:Int)(rec13:Int→GInterpRun→List GEntry→Option (GTree×GInterpRun))(m0_16:GInterpRun)(l17:List GEntry):Option (GTree×GInterpRun):=
 (rec13 (x8+1) m0_16 l17)
def zA.l13 (zV:GInterpRun→GStep→(List GValueValue)→Option (List GTree×GInterpRun))(a2:GValueNode):List GStep→Int→GInterpRun→List GEntry→Option (GTree×GInterpRun)
 |[],x8,m0_5,l6=>some ((⟨3,0,[],l6,([]:List GRaw)⟩:GTree),m0_5)
 |y13::q13,x8,m0_5,l6=>(yz a2 y13.fTag).bind fun r22=>(if (qg r22:Int)=0 then (zA.j19 x8 (zA.l13 zV a2 q13) (⟨m0_5.fp,IntKind.i64.wrap (m0_5.flooks+1)⟩:GInterpRun) l6) else (zV (⟨m0_5.fp,IntKind.i64.wrap (m0_5.flooks+1)⟩:GInterpRun) y13 r22).bind fun r27=>(if 0<(qg r27.1:Int) then (Xj (qg l6+1) 32).bind fun _u30=>(zA.j19 x8 (zA.l13 zV a2 q13) r27.2 (l6++[(⟨y13.fTag,r27.1⟩:GEntry)])) else (zA.j19 x8 (zA.l13 zV a2 q13) r27.2 l6)))
def zA.body (zx:GInterpRun→Int→GValueNode→Option (GTree×GInterpRun))(zV:GInterpRun→GStep→(List GValueValue)→Option (List GTree×GInterpRun))(a0:GInterpRun)(a1:Int)(a2:GValueNode):Option (GTree×GInterpRun):=
 (YD a0.fp.fParts a1).bind fun y2=>(zA.l13 zV a2 y2 0 a0 ([]:List GEntry))
theorem zA.step (zx:GInterpRun→Int→GValueNode→Option (GTree×GInterpRun))(zV:GInterpRun→GStep→(List GValueValue)→Option (List GTree×GInterpRun))(ZV:∀ (a0:GInterpRun) (a1:Int) (a2:GValueNode) (r:GTree×GInterpRun),zx a0 a1 a2=some r→ACalls qi 199 [.op 0 0 0,.int .i64 a1,.dp (encGValueNode a2) 0] [.cells 0 (encGInterpRun a0)] (fun r' σ'=>r'=.agg (cellsGTree r.1)∧σ'=[.cells 0 (encGInterpRun r.2)]))(ZU:∀ (a0:GInterpRun) (a1:GStep) (a2:List GValueValue) (r:List GTree×GInterpRun),zV a0 a1 a2=some r→ACalls qi 237 [.op 0 0 0,.agg (encGStep a1),.ds true (qh encGValueValue a2) (qg a2) false] [.cells 0 (encGInterpRun a0)] (fun r' σ'=>r'=.ds true (qh encGTree r.1) (qg r.1) false∧σ'=[.cells 0 (encGInterpRun r.2)]))(a0:GInterpRun)(a1:Int)(a2:GValueNode)(r:GTree×GInterpRun)(h:zA.body zx zV a0 a1 a2=some r):ACalls qi 199 [.op 0 0 0,.int .i64 a1,.dp (encGValueNode a2) 0] [.cells 0 (encGInterpRun a0)] (fun r' σ'=>r'=.agg (cellsGTree r.1)∧σ'=[.cells 0 (encGInterpRun r.2)]):=by
 refine xE [0] (rs:=[.cell 6 37]) tok Tryz.func199 rfl Tryz.ntmps199 rfl Tryz.call199 (by simp) rfl ?_;refine zm [(0,.op 0 0 0),(1,.int .i64 a1),(2,.dp (encGValueNode a2) 0)] ⟨rfl,rfl,rfl,trivial⟩ ?_;unfold zA.body at h;refine rgN [0,1,2,6] ?_
 refine rg tok [0,1,2,6,7] fun K hK=>?_
 simp only[go_sem,qf,qb,qa,qc,qe,qd,reduceIte,reduceCtorEq,cellsGTree,zb];apply hK
 refine wI 2 3 2 rfl (by simp) rfl (L:=[(0,.op 0 0 0),(1,.int .i64 a1),(2,.dp (encGValueNode a2) 0),(6,.op 1 0 0),(7,.op 2 0 0)]) (τ:=[.cells 0 (encGInterpRun a0),.cells 0 [.int .i64 0,.int .i64 0,.str [],.ds true [] 0 true,.ds true [] 0 true],.cells 0 [.int .i64 3,.int .i64 0,.str [],.os true 2 3 0 0 (qg ([]:List GEntry)) false,.ds true [] 0 true],.cells 0 (qh encGEntry ([]:List GEntry))]) .s ?_
 refine zd fun Z1 hZ1=>?_
 obtain⟨y2,hy2,h⟩:=bind_some h;have f3:=E176.idxS hy2;have f4:=E176.fldS0 (f:=246) rfl rfl hy2
 refine rg tok [0,2,6,7,20,21,22] fun K hK=>?_
 simp only[go_sem,qf,qb,qa,qc,qe,qd,reduceIte,reduceCtorEq,Zz,f3,f4];apply hK
 apply zg
 refine yq 20 fun hb13=>?_
 replace hb13:qg y2≤9223372036854775807:=hb13.1;refine zP (fun m L τ=>∃ (p13 q13:List GStep) (x8:Int) (m0_5:GInterpRun) (l6:List GEntry) (v7:Nat),m=qg q13∧L=[(0,.op 0 0 0),(2,.dp (encGValueNode a2) 0),(6,.op 1 0 0),(7,.op 2 0 0),(20,.ds true (qh encGStep y2) (qg y2) false),(21,.int .i64 (qg y2:Int)),(22,.int .i64 x8)]∧τ=[.cells 0 (encGInterpRun m0_5),.cells 0 [.int .i64 0,.int .i64 0,.str [],.ds true [] 0 true,.ds true [] 0 true],.cells 0 [.int .i64 3,.int .i64 0,.str [],.os true 2 3 v7 0 (qg l6) false,.ds true [] 0 true],.cells v7 (qh encGEntry l6)]∧y2=p13++q13∧x8=(qg p13:Int)∧zA.l13 zV a2 q13 x8 m0_5 l6=some r) _ ⟨[],y2,0,a0,([]:List GEntry),0,rfl,rfl,rfl,rfl,rfl,h⟩ .s ?_;rintro m L τ ⟨p13,q13,x8,m0_5,l6,v7,rfl,rfl,rfl,hE13,hi13,h⟩
 rcases q13 with _|⟨y13,q13⟩
 · have hz13:=yN hE13 hi13;simp only[zA.l13] at h
   refine rg tok [0,2,6,7,20,21,22,23] fun K hK=>?_
   simp only[go_sem,qf,qb,qa,qc,qe,qd,reduceIte,reduceCtorEq,zn,hz13];apply hK
   refine zd fun Z14 hZ14=>?_
   refine zo rfl ?_;apply zI;apply hZ1
   refine rg tok [6] fun K hK=>?_
   simp only[go_sem,qf,qb,qa,qc,qe,qd,reduceIte,reduceCtorEq,cellsGTree,zb,hz13];apply hK
   apply zJ;cases h;simp only[wb,ya,yf,yS,exists_eq_left',go_sem,qf,qb,qa,qc,qe,qd,reduceIte,reduceCtorEq,cellsGEntry,cellsGTree,encGAdaptProgram,zN,encGInterpRun,zb];refine⟨by decide,by simp,?_,?_⟩
   · first|rfl|(simp only[go_sem,qf,qb,qa,qc,qe,qd,reduceIte,reduceCtorEq,push_cast,if_true,qn,ql,qp,qs,qo,qq,qv,qm,qt,qr,qk,zh,cellsGEntry,cellsGTree,encGAdaptProgram,zN,encGInterpRun,zb]<;>rfl)
   first|rfl|(simp only[go_sem,qf,qb,qa,qc,qe,qd,reduceIte,reduceCtorEq,push_cast,if_true,qn,ql,qp,qs,qo,qq,qv,qm,qt,qr,qk,zh,cellsGEntry,cellsGTree,encGAdaptProgram,zN,encGInterpRun,zb]<;>rfl)
 obtain⟨hz13,hw13,hx13,hE'13,hi'13⟩:=yo hE13 hi13 hb13;simp only[zA.l13] at h
 refine rg tok [0,2,6,7,20,21,22,23] fun K hK=>?_
 simp only[go_sem,qf,qb,qa,qc,qe,qd,reduceIte,reduceCtorEq,zn,hz13,hw13];apply hK
 refine zd fun Z15 hZ15=>?_
 refine zu rfl ?_;apply zf;apply hZ15;refine yR (fun L τ=>∃ (m0_16:GInterpRun) (l17:List GEntry) (v18:Nat),L=[(0,.op 0 0 0),(2,.dp (encGValueNode a2) 0),(6,.op 1 0 0),(7,.op 2 0 0),(20,.ds true (qh encGStep y2) (qg y2) false),(21,.int .i64 (qg y2:Int)),(22,.int .i64 x8)]∧τ=[.cells 0 (encGInterpRun m0_16),.cells 0 [.int .i64 0,.int .i64 0,.str [],.ds true [] 0 true,.ds true [] 0 true],.cells 0 [.int .i64 3,.int .i64 0,.str [],.os true 2 3 v18 0 (qg l17) false,.ds true [] 0 true],.cells v18 (qh encGEntry l17)]∧zA.j19 x8 (zA.l13 zV a2 q13) m0_16 l17=some r) ?_ ?_
 · apply zg;have f20:=E246.idxS hx13;have f21:=E246.loadS rfl rfl hx13
   refine rg tok [0,2,6,7,9,20,21,22] fun K hK=>?_
   simp only[go_sem,qf,qb,qa,qc,qe,qd,reduceIte,reduceCtorEq,encGStep,hz13,hw13,f20,f21];apply hK
   refine rg tok [0,2,6,7,9,20,21,22] fun K hK=>?_
   simp only[go_sem,qf,qb,qa,qc,qe,qd,reduceIte,reduceCtorEq,zn,encGAdaptProgram,encGInterpRun,hz13,hw13];apply hK
   refine rc [0,2,6,7,9,10,20,21,22] fun K hK=>?_
   obtain⟨r22,hr22,h⟩:=bind_some h;refine za tok 3 ?_;simp only[go_sem,qf,qb,qa,qc,qe,qd,reduceIte,reduceCtorEq,hz13,hw13];refine clN rfl rfl rfl (yz.ev a2 y13.fTag r22 hr22 _) ?_;refine za tok 1 ?_;simp only[go_sem,qf,qb,qa,qc,qe,qd,reduceIte,reduceCtorEq,hz13,hw13];refine nkN hK ?_
   refine zd fun Z23 hZ23=>?_
   refine rg tok [0,2,6,7,9,10,20,21,22,39] fun K hK=>?_
   simp only[go_sem,qf,qb,qa,qc,qe,qd,reduceIte,reduceCtorEq,zn,hz13,hw13];apply hK
   refine zM rfl (fun hc24=>?_) (fun hc24=>?_)
   · rw[if_pos hc24] at h;have t25:=eq_true hc24;apply zI;exact⟨_,_,⟨(⟨m0_5.fp,IntKind.i64.wrap (m0_5.flooks+1)⟩:GInterpRun),l6,v7,rfl,rfl,h⟩,(.t [0,1,2,3] false)⟩
   rw[if_neg hc24] at h;have t26:=eq_false hc24;apply zf;apply hZ23
   refine rc [0,2,6,7,9,11,20,21,22] fun K hK=>?_
   obtain⟨r27,hr27,h⟩:=bind_some h;refine za tok 3 ?_;simp only[go_sem,qf,qb,qa,qc,qe,qd,reduceIte,reduceCtorEq,encGStep,hz13,hw13,t26];refine clN rfl rfl rfl (@id (ACalls qi 237 [.op 0 0 0,.agg (encGStep y13),.ds true (qh encGValueValue r22) (qg r22) false] [.cells 0 [.ds true (qh (Zz encGStep) m0_5.fp.fParts) (qg m0_5.fp.fParts) false,.int .i64 (IntKind.i64.wrap (m0_5.flooks+1))],.cells 0 [.int .i64 0,.int .i64 0,.str [],.ds true [] 0 true,.ds true [] 0 true],.cells 0 [.int .i64 3,.int .i64 0,.str [],.os true 2 3 v7 0 (qg l6) false,.ds true [] 0 true],.cells v7 (qh encGEntry l6),.cells 0 [.int .i64 y13.fOp,.int .i64 y13.fTag,.int .i64 y13.fSub]] (fun r' σ'=>r'=.ds true (qh encGTree r27.1) (qg r27.1) false∧σ'=[.cells 0 (encGInterpRun r27.2),.cells 0 [.int .i64 0,.int .i64 0,.str [],.ds true [] 0 true,.ds true [] 0 true],.cells 0 [.int .i64 3,.int .i64 0,.str [],.os true 2 3 v7 0 (qg l6) false,.ds true [] 0 true],.cells v7 (qh encGEntry l6),.cells 0 [.int .i64 y13.fOp,.int .i64 y13.fTag,.int .i64 y13.fSub]])) ((ZU (⟨m0_5.fp,IntKind.i64.wrap (m0_5.flooks+1)⟩:GInterpRun) y13 r22 r27 hr27).i [0])) ?_;refine za tok 1 ?_;simp only[go_sem,qf,qb,qa,qc,qe,qd,reduceIte,reduceCtorEq,encGStep,hz13,hw13,t26];refine nkN hK ?_
   refine rg tok [0,2,6,7,9,11,20,21,22,46] fun K hK=>?_
   simp only[go_sem,qf,qb,qa,qc,qe,qd,reduceIte,reduceCtorEq,zn,hz13,hw13,t26];apply hK
   refine zM rfl (fun hc28=>?_) (fun hc28=>?_)
   · rw[if_pos hc28] at h;have t29:=eq_true hc28;obtain⟨_u30,hu30,h⟩:=bind_some h;have gu30:=yI hu30;have f31:=(zE E34.len l6)
     refine rgE tok [0,2,6,7,20,21,22] fun K hK=>?_
     simp only[go_sem,qf,qb,qa,qc,qe,qd,reduceIte,reduceCtorEq,zL,zX,qY,qS,qX,true_and,q3,yv,yb,yx,cellsGEntry,cellsGTree,zN,zb,hz13,hw13,t26,t29,gu30,f31,yu,qV,qT,AV.one,qG,qm,gt_iff_lt,zF,qA,qB,qL,qF,qJ,qw,qx,qz,ql,qD,qH];apply hK
     exact⟨_,_,⟨r27.2,l6++[(⟨y13.fTag,r27.1⟩:GEntry)],v7+1,rfl,rfl,h⟩,(.t [0,1,2,3] false)⟩
   rw[if_neg hc28] at h;have t32:=eq_false hc28;apply zf;exact⟨_,_,⟨r27.2,l6,v7,rfl,rfl,h⟩,(.t [0,1,2,3] false)⟩
 rintro _ _ ⟨m0_16,l17,v18,rfl,rfl,h⟩;unfold zA.j19 at h
 refine rgE tok [0,2,6,7,20,21,22] fun K hK=>?_
 simp only[go_sem,qf,qb,qa,qc,qe,qd,reduceIte,reduceCtorEq,zn,hz13,hw13];apply hK
 exact⟨_,_,_,qE q13.length,⟨p13++[y13],q13,x8+1,m0_16,l17,v18,rfl,rfl,rfl,hE'13,hi'13,h⟩,.s⟩
def zt.j22 (x7:Int)(l5:List GTree)(rec12:Int→GInterpRun→List GTree→Option (List GTree×GInterpRun))(m0_20:GInterpRun)(m3_21:GTree):Option (List GTree×GInterpRun):=
 (Xj (qg l5+1) 80).bind fun _u23=>(rec12 (x7+1) m0_20 (l5++[m3_21]))
def zt.j36 (zx:GInterpRun→Int→GValueNode→Option (GTree×GInterpRun))(a1:GStep)(x7:Int)(m0_4:GInterpRun)(l5:List GTree)(rec12:Int→GInterpRun→List GTree→Option (List GTree×GInterpRun))(r19:GTree)(r25:GValueValue)(x35:Bool):Option (List GTree×GInterpRun):=
 (if x35=true then (match r25 with|.nil=>some (([]:List GTree),m0_4)|.num n38=>some (([]:List GTree),m0_4)|.str s38=>some (([]:List GTree),m0_4)|.node e38 r38=>(zx m0_4 a1.fSub (⟨e38,r38⟩:GValueNode)).bind fun r43=>(if ((decide (a1.fOp=4))&&(decide ((qg r43.1.fEntries:Int)=0)))=true then some (([]:List GTree),r43.2) else (zt.j22 x7 l5 rec12 r43.2 r43.1))) else (zt.j22 x7 l5 rec12 m0_4 r19))
def zt.l12 (zx:GInterpRun→Int→GValueNode→Option (GTree×GInterpRun))(a1:GStep):List GValueValue→Int→GInterpRun→List GTree→Option (List GTree×GInterpRun)
 |[],x7,m0_4,l5=>some (l5,m0_4)
 |y12::q12,x7,m0_4,l5=>(zp xl y12).bind fun r19=>bnd (xr y12) fun r25=>(if a1.fOp=2 then (match r25 with|.nil=>some (([]:List GTree),m0_4)|.num n28=>bnd (xU n28) fun r31=>(zt.j22 x7 l5 (zt.l12 zx a1 q12) m0_4 (⟨r19.fKind,r31,r19.fS,r19.fEntries,r19.fRest⟩:GTree))|.str s28=>some (([]:List GTree),m0_4)|.node e28 r28=>some (([]:List GTree),m0_4)) else (if a1.fOp=3 then (zt.j36 zx a1 x7 m0_4 l5 (zt.l12 zx a1 q12) r19 r25 (decide (a1.fOp=3))) else (zt.j36 zx a1 x7 m0_4 l5 (zt.l12 zx a1 q12) r19 r25 (decide (a1.fOp=4)))))
def zt.j2 (zx:GInterpRun→Int→GValueNode→Option (GTree×GInterpRun))(a0:GInterpRun)(a1:GStep)(x1:List GValueValue):Option (List GTree×GInterpRun):=
 (zt.l12 zx a1 x1 0 a0 ([]:List GTree))
def zt.body (zx:GInterpRun→Int→GValueNode→Option (GTree×GInterpRun))(zV:GInterpRun→GStep→(List GValueValue)→Option (List GTree×GInterpRun))(a0:GInterpRun)(a1:GStep)(a2:List GValueValue):Option (List GTree×GInterpRun):=
 (if a1.fOp=4 then (grd ((0:Int)≤IntKind.i64.wrap ((qg a2:Int)-1)∧IntKind.i64.wrap ((qg a2:Int)-1)≤(qg a2:Int)∧(qg a2:Int)≤(qg a2:Int))).bind fun _u52=>(zt.j2 zx a0 a1 (X9 a2 (IntKind.i64.wrap ((qg a2:Int)-1)) (qg a2:Int))) else (zt.j2 zx a0 a1 a2))
theorem zt.step (zx:GInterpRun→Int→GValueNode→Option (GTree×GInterpRun))(zV:GInterpRun→GStep→(List GValueValue)→Option (List GTree×GInterpRun))(ZV:∀ (a0:GInterpRun) (a1:Int) (a2:GValueNode) (r:GTree×GInterpRun),zx a0 a1 a2=some r→ACalls qi 199 [.op 0 0 0,.int .i64 a1,.dp (encGValueNode a2) 0] [.cells 0 (encGInterpRun a0)] (fun r' σ'=>r'=.agg (cellsGTree r.1)∧σ'=[.cells 0 (encGInterpRun r.2)]))(ZU:∀ (a0:GInterpRun) (a1:GStep) (a2:List GValueValue) (r:List GTree×GInterpRun),zV a0 a1 a2=some r→ACalls qi 237 [.op 0 0 0,.agg (encGStep a1),.ds true (qh encGValueValue a2) (qg a2) false] [.cells 0 (encGInterpRun a0)] (fun r' σ'=>r'=.ds true (qh encGTree r.1) (qg r.1) false∧σ'=[.cells 0 (encGInterpRun r.2)]))(a0:GInterpRun)(a1:GStep)(a2:List GValueValue)(r:List GTree×GInterpRun)(h:zt.body zx zV a0 a1 a2=some r):ACalls qi 237 [.op 0 0 0,.agg (encGStep a1),.ds true (qh encGValueValue a2) (qg a2) false] [.cells 0 (encGInterpRun a0)] (fun r' σ'=>r'=.ds true (qh encGTree r.1) (qg r.1) false∧σ'=[.cells 0 (encGInterpRun r.2)]):=by
 refine xE [0] (rs:=[.tmp 6]) tok Tryz.func237 rfl Tryz.ntmps237 rfl Tryz.call237 (by simp) rfl ?_;refine zm [(0,.op 0 0 0),(1,.agg (encGStep a1)),(2,.ds true (qh encGValueValue a2) (qg a2) false)] ⟨rfl,rfl,rfl,trivial⟩ ?_;unfold zt.body at h
 refine rg tok [0,2,4] fun K hK=>?_
 simp only[go_sem,qf,qb,qa,qc,qe,qd,reduceIte,reduceCtorEq,encGStep];apply hK
 refine rgN [0,2,4,7] ?_;refine Yq 7 5 rfl ?_;refine yB (L:=[(0,.op 0 0 0),(2,.ds true (qh encGValueValue a2) (qg a2) false),(4,.op 1 0 0),(7,.os true 5 2 0 0 (qg ([]:List GTree)) false)]) (τ:=[.cells 0 (encGInterpRun a0),.cells 0 [.int .i64 a1.fOp,.int .i64 a1.fTag,.int .i64 a1.fSub],.cells 0 (qh encGTree ([]:List GTree))]) .s ?_;refine yR (fun L τ=>∃ (x1:List GValueValue),L=[(0,.op 0 0 0),(2,.ds true (qh encGValueValue x1) (qg x1) false),(4,.op 1 0 0),(7,.os true 5 2 0 0 (qg ([]:List GTree)) false)]∧τ=[.cells 0 (encGInterpRun a0),.cells 0 [.int .i64 a1.fOp,.int .i64 a1.fTag,.int .i64 a1.fSub],.cells 0 (qh encGTree ([]:List GTree))]∧zt.j2 zx a0 a1 x1=some r) ?_ ?_
 · refine rg tok [0,2,4,7,18] fun K hK=>?_
   simp only[go_sem,qf,qb,qa,qc,qe,qd,reduceIte,reduceCtorEq,zn];apply hK
   refine zM rfl (fun hc50=>?_) (fun hc50=>?_)
   · rw[if_pos hc50] at h;have t51:=eq_true hc50;obtain⟨_u52,hu52,h⟩:=bind_some h;have gu52:=wO hu52;have f53:=E282.sl_lo gu52
     refine rgE tok [0,2,4,7] fun K hK=>?_
     simp only[go_sem,qf,qb,qa,qc,qe,qd,reduceIte,reduceCtorEq,zn,t51,f53];apply hK
     exact⟨_,_,⟨X9 a2 (IntKind.i64.wrap ((qg a2:Int)-1)) (qg a2:Int),rfl,rfl,h⟩,.s⟩
   rw[if_neg hc50] at h;have t54:=eq_false hc50;apply zf;exact⟨_,_,⟨a2,rfl,rfl,h⟩,.s⟩
 rintro _ _ ⟨x1,rfl,rfl,h⟩;unfold zt.j2 at h
 refine zd fun Z3 hZ3=>?_
 refine rgN [0,4,7,24,25,26] ?_;apply zg
 refine yq 24 fun hb12=>?_
 replace hb12:qg x1≤9223372036854775807:=hb12.1;refine zP (fun m L τ=>∃ (p12 q12:List GValueValue) (x7:Int) (m0_4:GInterpRun) (l5:List GTree) (v6:Nat),m=qg q12∧L=[(0,.op 0 0 0),(4,.op 1 0 0),(7,.os true 5 2 v6 0 (qg l5) false),(24,.ds true (qh encGValueValue x1) (qg x1) false),(25,.int .i64 (qg x1:Int)),(26,.int .i64 x7)]∧τ=[.cells 0 (encGInterpRun m0_4),.cells 0 [.int .i64 a1.fOp,.int .i64 a1.fTag,.int .i64 a1.fSub],.cells v6 (qh encGTree l5)]∧x1=p12++q12∧x7=(qg p12:Int)∧zt.l12 zx a1 q12 x7 m0_4 l5=some r) _ ⟨[],x1,0,a0,([]:List GTree),0,rfl,rfl,rfl,rfl,rfl,h⟩ .s ?_;rintro m L τ ⟨p12,q12,x7,m0_4,l5,v6,rfl,rfl,rfl,hE12,hi12,h⟩
 rcases q12 with _|⟨y12,q12⟩
 · have hz12:=yN hE12 hi12;simp only[zt.l12] at h
   refine rg tok [0,4,7,24,25,26,27] fun K hK=>?_
   simp only[go_sem,qf,qb,qa,qc,qe,qd,reduceIte,reduceCtorEq,zn,hz12];apply hK
   refine zd fun Z13 hZ13=>?_
   refine zo rfl ?_;apply zI;apply hZ3
   refine rg tok [6] fun K hK=>?_
   simp only[go_sem,qf,qb,qa,qc,qe,qd,reduceIte,reduceCtorEq,hz12];apply hK
   apply zJ;cases h;simp only[wb,ya,yf,yS,exists_eq_left',go_sem,qf,qb,qa,qc,qe,qd,reduceIte,reduceCtorEq,cellsGTree,encGAdaptProgram,encGInterpRun,zb];refine⟨by decide,by simp,?_,?_⟩
   · first|rfl|(simp only[go_sem,qf,qb,qa,qc,qe,qd,reduceIte,reduceCtorEq,push_cast,if_true,qn,ql,qp,qs,qo,qq,qv,qm,qt,qr,qk,zh,cellsGTree,encGAdaptProgram,encGInterpRun,zb]<;>rfl)
   first|rfl|(simp only[go_sem,qf,qb,qa,qc,qe,qd,reduceIte,reduceCtorEq,push_cast,if_true,qn,ql,qp,qs,qo,qq,qv,qm,qt,qr,qk,zh,cellsGTree,encGAdaptProgram,encGInterpRun,zb]<;>rfl)
 obtain⟨hz12,hw12,hx12,hE'12,hi'12⟩:=yo hE12 hi12 hb12;simp only[zt.l12] at h
 refine rg tok [0,4,7,24,25,26,27] fun K hK=>?_
 simp only[go_sem,qf,qb,qa,qc,qe,qd,reduceIte,reduceCtorEq,zn,hz12,hw12];apply hK
 refine zd fun Z14 hZ14=>?_
 refine zu rfl ?_;apply zf;apply hZ14
 refine zd fun Z15 hZ15=>?_
 apply zg;have f16:=E282.idxS hx12;have f17:=E282.loadS rfl rfl hx12;have f18:=wk y12;unfold AV.one at f18
 refine rg tok [0,4,7,9,24,25,26] fun K hK=>?_
 simp only[go_sem,qf,qb,qa,qc,qe,qd,reduceIte,reduceCtorEq,encGValueValue,hz12,hw12,f16,f17,f18];apply hK
 refine rc [0,4,7,9,10,24,25,26] fun K hK=>?_
 obtain⟨r19,hr19,h⟩:=bind_some h;refine za tok 1 ?_;simp only[go_sem,qf,qb,qa,qc,qe,qd,reduceIte,reduceCtorEq,encGValueValue,hz12,hw12];refine clN rfl rfl rfl (zp.ev xl y12 r19 hr19 _) ?_;refine za tok 2 ?_;simp only[go_sem,qf,qb,qa,qc,qe,qd,reduceIte,reduceCtorEq,cellsGTree,zb,encGValueValue,hz12,hw12];refine nkN hK ?_;refine yR (fun L τ=>∃ (m0_20:GInterpRun) (m3_21:GTree),L=[(0,.op 0 0 0),(4,.op 1 0 0),(7,.os true 5 2 v6 0 (qg l5) false),(10,.op 3 0 0),(24,.ds true (qh encGValueValue x1) (qg x1) false),(25,.int .i64 (qg x1:Int)),(26,.int .i64 x7)]∧τ=[.cells 0 (encGInterpRun m0_20),.cells 0 [.int .i64 a1.fOp,.int .i64 a1.fTag,.int .i64 a1.fSub],.cells v6 (qh encGTree l5),.cells 0 (cellsGTree m3_21)]∧zt.j22 x7 l5 (zt.l12 zx a1 q12) m0_20 m3_21=some r) ?_ ?_
 · refine rc [0,4,7,10,11,24,25,26] fun K hK=>?_
   obtain⟨r25,hr25,h⟩:=zB h;refine za tok 1 ?_;simp only[go_sem,qf,qb,qa,qc,qe,qd,reduceIte,reduceCtorEq,encGValueValue,hz12,hw12];refine clN rfl rfl rfl (xr.ev y12 r25 hr25 _) ?_;refine za tok 1 ?_;simp only[go_sem,qf,qb,qa,qc,qe,qd,reduceIte,reduceCtorEq,encGValueValue,hz12,hw12];refine nkN hK ?_
   refine rg tok [0,4,7,10,11,24,25,26,35] fun K hK=>?_
   simp only[go_sem,qf,qb,qa,qc,qe,qd,reduceIte,reduceCtorEq,hz12,hw12];apply hK
   apply zg
   refine rg tok [0,4,7,10,11,24,25,26,35,36] fun K hK=>?_
   simp only[go_sem,qf,qb,qa,qc,qe,qd,reduceIte,reduceCtorEq,zn,hz12,hw12];apply hK
   refine zM rfl (fun hc26=>?_) (fun hc26=>?_)
   · rw[if_pos hc26] at h;have t27:=eq_true hc26
     rcases r25 with _|n28|s28|⟨e28,r28⟩
     · dsimp only at h
       try simp only[Zp,ZD,encGValueValue]
       refine rg tok [0,4,7,10,12,13,24,25,26] fun K hK=>?_
       simp only[go_sem,qf,qb,qa,qc,qe,qd,reduceIte,reduceCtorEq,hz12,hw12,t27,yn,yr,TypeDesc.isIface];apply hK
       refine zd fun Z29 hZ29=>?_
       refine rg tok [0,4,7,10,12,24,25,26,44] fun K hK=>?_
       simp only[go_sem,qf,qb,qa,qc,qe,qd,reduceIte,reduceCtorEq,hz12,hw12,t27];apply hK
       refine zu rfl ?_
       refine rg tok [6] fun K hK=>?_
       simp only[go_sem,qf,qb,qa,qc,qe,qd,reduceIte,reduceCtorEq,hz12,hw12,t27];apply hK
       apply zJ;cases h;simp only[wb,ya,yf,yS,exists_eq_left',go_sem,qf,qb,qa,qc,qe,qd,reduceIte,reduceCtorEq,cellsGTree,encGAdaptProgram,encGInterpRun,zb];refine⟨by decide,by simp,?_,?_⟩
       · first|rfl|(simp only[go_sem,qf,qb,qa,qc,qe,qd,reduceIte,reduceCtorEq,push_cast,if_true,qn,ql,qp,qs,qo,qq,qv,qm,qt,qr,qk,zh,cellsGTree,encGAdaptProgram,encGInterpRun,zb]<;>rfl)
       first|rfl|(simp only[go_sem,qf,qb,qa,qc,qe,qd,reduceIte,reduceCtorEq,push_cast,if_true,qn,ql,qp,qs,qo,qq,qv,qm,qt,qr,qk,zh,cellsGTree,encGAdaptProgram,encGInterpRun,zb]<;>rfl)
     · dsimp only at h
       try simp only[Zo,ZC,encGValueValue]
       refine rg tok [0,4,7,10,12,13,24,25,26] fun K hK=>?_
       simp only[go_sem,qf,qb,qa,qc,qe,qd,reduceIte,reduceCtorEq,hz12,hw12,t27,yn,yr,TypeDesc.isIface];apply hK
       refine zd fun Z30 hZ30=>?_
       refine rg tok [0,4,7,10,12,24,25,26,44] fun K hK=>?_
       simp only[go_sem,qf,qb,qa,qc,qe,qd,reduceIte,reduceCtorEq,hz12,hw12,t27];apply hK
       refine zo rfl ?_;apply zf;apply hZ30
       refine rcE [0,4,7,10,24,25,26] fun K hK=>?_
       obtain⟨r31,hr31,h⟩:=zB h;refine za tok 1 ?_;simp only[go_sem,qf,qb,qa,qc,qe,qd,reduceIte,reduceCtorEq,hz12,hw12,t27];refine clN rfl rfl rfl (xU.ev n28 r31 hr31 _) ?_;refine za tok 2 ?_;simp only[go_sem,qf,qb,qa,qc,qe,qd,reduceIte,reduceCtorEq,cellsGTree,zb,hz12,hw12,t27];refine nkN hK ?_;exact⟨_,_,⟨m0_4,(⟨r19.fKind,r31,r19.fS,r19.fEntries,r19.fRest⟩:GTree),rfl,rfl,h⟩,(.t [0,1,2,4] false)⟩
     · dsimp only at h
       try simp only[Zn,ZB,encGValueValue]
       refine rg tok [0,4,7,10,12,13,24,25,26] fun K hK=>?_
       simp only[go_sem,qf,qb,qa,qc,qe,qd,reduceIte,reduceCtorEq,hz12,hw12,t27,yn,yr,TypeDesc.isIface];apply hK
       refine zd fun Z32 hZ32=>?_
       refine rg tok [0,4,7,10,12,24,25,26,44] fun K hK=>?_
       simp only[go_sem,qf,qb,qa,qc,qe,qd,reduceIte,reduceCtorEq,hz12,hw12,t27];apply hK
       refine zu rfl ?_
       refine rg tok [6] fun K hK=>?_
       simp only[go_sem,qf,qb,qa,qc,qe,qd,reduceIte,reduceCtorEq,hz12,hw12,t27];apply hK
       apply zJ;cases h;simp only[wb,ya,yf,yS,exists_eq_left',go_sem,qf,qb,qa,qc,qe,qd,reduceIte,reduceCtorEq,cellsGTree,encGAdaptProgram,encGInterpRun,zb];refine⟨by decide,by simp,?_,?_⟩
       · first|rfl|(simp only[go_sem,qf,qb,qa,qc,qe,qd,reduceIte,reduceCtorEq,push_cast,if_true,qn,ql,qp,qs,qo,qq,qv,qm,qt,qr,qk,zh,cellsGTree,encGAdaptProgram,encGInterpRun,zb]<;>rfl)
       first|rfl|(simp only[go_sem,qf,qb,qa,qc,qe,qd,reduceIte,reduceCtorEq,push_cast,if_true,qn,ql,qp,qs,qo,qq,qv,qm,qt,qr,qk,zh,cellsGTree,encGAdaptProgram,encGInterpRun,zb]<;>rfl)
     dsimp only at h
     try simp only[wB,Zh,encGValueValue]
     refine rg tok [0,4,7,10,12,13,24,25,26] fun K hK=>?_
     simp only[go_sem,qf,qb,qa,qc,qe,qd,reduceIte,reduceCtorEq,hz12,hw12,t27,yn,yr,TypeDesc.isIface];apply hK
     refine zd fun Z33 hZ33=>?_
     refine rg tok [0,4,7,10,12,24,25,26,44] fun K hK=>?_
     simp only[go_sem,qf,qb,qa,qc,qe,qd,reduceIte,reduceCtorEq,hz12,hw12,t27];apply hK
     refine zu rfl ?_
     refine rg tok [6] fun K hK=>?_
     simp only[go_sem,qf,qb,qa,qc,qe,qd,reduceIte,reduceCtorEq,hz12,hw12,t27];apply hK
     apply zJ;cases h;simp only[wb,ya,yf,yS,exists_eq_left',go_sem,qf,qb,qa,qc,qe,qd,reduceIte,reduceCtorEq,cellsGTree,encGAdaptProgram,encGInterpRun,zb];refine⟨by decide,by simp,?_,?_⟩
     · first|rfl|(simp only[go_sem,qf,qb,qa,qc,qe,qd,reduceIte,reduceCtorEq,push_cast,if_true,qn,ql,qp,qs,qo,qq,qv,qm,qt,qr,qk,zh,cellsGTree,encGAdaptProgram,encGInterpRun,zb]<;>rfl)
     first|rfl|(simp only[go_sem,qf,qb,qa,qc,qe,qd,reduceIte,reduceCtorEq,push_cast,if_true,qn,ql,qp,qs,qo,qq,qv,qm,qt,qr,qk,zh,cellsGTree,encGAdaptProgram,encGInterpRun,zb]<;>rfl)
   rw[if_neg hc26] at h;have t34:=eq_false hc26;refine yR (fun L τ=>∃ (x35:Bool),L=[(0,.op 0 0 0),(4,.op 1 0 0),(7,.os true 5 2 v6 0 (qg l5) false),(10,.op 3 0 0),(11,anyV r25),(24,.ds true (qh encGValueValue x1) (qg x1) false),(25,.int .i64 (qg x1:Int)),(26,.int .i64 x7),(48,.bool x35)]∧τ=[.cells 0 (encGInterpRun m0_4),.cells 0 [.int .i64 a1.fOp,.int .i64 a1.fTag,.int .i64 a1.fSub],.cells v6 (qh encGTree l5),.cells 0 (cellsGTree r19)]∧zt.j36 zx a1 x7 m0_4 l5 (zt.l12 zx a1 q12) r19 r25 x35=some r) ?_ ?_
   · refine rg tok [0,4,7,10,11,24,25,26,35,48] fun K hK=>?_
     simp only[go_sem,qf,qb,qa,qc,qe,qd,reduceIte,reduceCtorEq,zn,hz12,hw12,t34];apply hK
     refine zM rfl (fun hc47=>?_) (fun hc47=>?_)
     · rw[if_pos hc47] at h;have t48:=eq_true hc47;apply zf;exact⟨_,_,⟨decide (a1.fOp=3),rfl,rfl,h⟩,(.t [0,1,2,4] false)⟩
     rw[if_neg hc47] at h;have t49:=eq_false hc47
     refine rgE tok [0,4,7,10,11,24,25,26,48] fun K hK=>?_
     simp only[go_sem,qf,qb,qa,qc,qe,qd,reduceIte,reduceCtorEq,zn,hz12,hw12,t34,t49];apply hK
     exact⟨_,_,⟨decide (a1.fOp=4),rfl,rfl,h⟩,(.t [0,1,2,4] false)⟩
   rintro _ _ ⟨x35,rfl,rfl,h⟩;unfold zt.j36 at h;refine zs (b:=x35) rfl (fun hc37=>?_) (fun hc37=>?_)
   · rw[if_pos hc37] at h
     rcases r25 with _|n38|s38|⟨e38,r38⟩
     · dsimp only at h
       try simp only[Zp,ZD,encGValueValue]
       refine rg tok [0,4,7,10,14,15,24,25,26] fun K hK=>?_
       simp only[go_sem,qf,qb,qa,qc,qe,qd,reduceIte,reduceCtorEq,hz12,hw12,t34,yn,yr,TypeDesc.isIface];apply hK
       refine zd fun Z39 hZ39=>?_
       refine rg tok [0,4,7,10,14,24,25,26,57] fun K hK=>?_
       simp only[go_sem,qf,qb,qa,qc,qe,qd,reduceIte,reduceCtorEq,hz12,hw12,t34];apply hK
       refine zu rfl ?_
       refine rg tok [6] fun K hK=>?_
       simp only[go_sem,qf,qb,qa,qc,qe,qd,reduceIte,reduceCtorEq,hz12,hw12,t34];apply hK
       apply zJ;cases h;simp only[wb,ya,yf,yS,exists_eq_left',go_sem,qf,qb,qa,qc,qe,qd,reduceIte,reduceCtorEq,cellsGTree,encGAdaptProgram,encGInterpRun,zb];refine⟨by decide,by simp,?_,?_⟩
       · first|rfl|(simp only[go_sem,qf,qb,qa,qc,qe,qd,reduceIte,reduceCtorEq,push_cast,if_true,qn,ql,qp,qs,qo,qq,qv,qm,qt,qr,qk,zh,cellsGTree,encGAdaptProgram,encGInterpRun,zb]<;>rfl)
       first|rfl|(simp only[go_sem,qf,qb,qa,qc,qe,qd,reduceIte,reduceCtorEq,push_cast,if_true,qn,ql,qp,qs,qo,qq,qv,qm,qt,qr,qk,zh,cellsGTree,encGAdaptProgram,encGInterpRun,zb]<;>rfl)
     · dsimp only at h
       try simp only[Zo,ZC,encGValueValue]
       refine rg tok [0,4,7,10,14,15,24,25,26] fun K hK=>?_
       simp only[go_sem,qf,qb,qa,qc,qe,qd,reduceIte,reduceCtorEq,hz12,hw12,t34,yn,yr,TypeDesc.isIface];apply hK
       refine zd fun Z40 hZ40=>?_
       refine rg tok [0,4,7,10,14,24,25,26,57] fun K hK=>?_
       simp only[go_sem,qf,qb,qa,qc,qe,qd,reduceIte,reduceCtorEq,hz12,hw12,t34];apply hK
       refine zu rfl ?_
       refine rg tok [6] fun K hK=>?_
       simp only[go_sem,qf,qb,qa,qc,qe,qd,reduceIte,reduceCtorEq,hz12,hw12,t34];apply hK
       apply zJ;cases h;simp only[wb,ya,yf,yS,exists_eq_left',go_sem,qf,qb,qa,qc,qe,qd,reduceIte,reduceCtorEq,cellsGTree,encGAdaptProgram,encGInterpRun,zb];refine⟨by decide,by simp,?_,?_⟩
       · first|rfl|(simp only[go_sem,qf,qb,qa,qc,qe,qd,reduceIte,reduceCtorEq,push_cast,if_true,qn,ql,qp,qs,qo,qq,qv,qm,qt,qr,qk,zh,cellsGTree,encGAdaptProgram,encGInterpRun,zb]<;>rfl)
       first|rfl|(simp only[go_sem,qf,qb,qa,qc,qe,qd,reduceIte,reduceCtorEq,push_cast,if_true,qn,ql,qp,qs,qo,qq,qv,qm,qt,qr,qk,zh,cellsGTree,encGAdaptProgram,encGInterpRun,zb]<;>rfl)
     · dsimp only at h
       try simp only[Zn,ZB,encGValueValue]
       refine rg tok [0,4,7,10,14,15,24,25,26] fun K hK=>?_
       simp only[go_sem,qf,qb,qa,qc,qe,qd,reduceIte,reduceCtorEq,hz12,hw12,t34,yn,yr,TypeDesc.isIface];apply hK
       refine zd fun Z41 hZ41=>?_
       refine rg tok [0,4,7,10,14,24,25,26,57] fun K hK=>?_
       simp only[go_sem,qf,qb,qa,qc,qe,qd,reduceIte,reduceCtorEq,hz12,hw12,t34];apply hK
       refine zu rfl ?_
       refine rg tok [6] fun K hK=>?_
       simp only[go_sem,qf,qb,qa,qc,qe,qd,reduceIte,reduceCtorEq,hz12,hw12,t34];apply hK
       apply zJ;cases h;simp only[wb,ya,yf,yS,exists_eq_left',go_sem,qf,qb,qa,qc,qe,qd,reduceIte,reduceCtorEq,cellsGTree,encGAdaptProgram,encGInterpRun,zb];refine⟨by decide,by simp,?_,?_⟩
       · first|rfl|(simp only[go_sem,qf,qb,qa,qc,qe,qd,reduceIte,reduceCtorEq,push_cast,if_true,qn,ql,qp,qs,qo,qq,qv,qm,qt,qr,qk,zh,cellsGTree,encGAdaptProgram,encGInterpRun,zb]<;>rfl)
       first|rfl|(simp only[go_sem,qf,qb,qa,qc,qe,qd,reduceIte,reduceCtorEq,push_cast,if_true,qn,ql,qp,qs,qo,qq,qv,qm,qt,qr,qk,zh,cellsGTree,encGAdaptProgram,encGInterpRun,zb]<;>rfl)
     dsimp only at h
     try simp only[wB,Zh,encGValueValue]
     refine rg tok [0,4,7,10,14,15,24,25,26] fun K hK=>?_
     simp only[go_sem,qf,qb,qa,qc,qe,qd,reduceIte,reduceCtorEq,hz12,hw12,t34,yn,yr,TypeDesc.isIface];apply hK
     refine zd fun Z42 hZ42=>?_
     refine rg tok [0,4,7,10,14,24,25,26,57] fun K hK=>?_
     simp only[go_sem,qf,qb,qa,qc,qe,qd,reduceIte,reduceCtorEq,hz12,hw12,t34];apply hK
     refine zo rfl ?_;apply zf;apply hZ42
     refine rc [0,4,7,10,24,25,26] fun K hK=>?_
     obtain⟨r43,hr43,h⟩:=bind_some h;refine za tok 4 ?_;simp only[go_sem,qf,qb,qa,qc,qe,qd,reduceIte,reduceCtorEq,hz12,hw12,t34];refine clN rfl rfl rfl (@id (ACalls qi 199 [.op 0 0 0,.int .i64 a1.fSub,.dp [.ds true (qh encGValueEntry e38) (qg e38) false,.ds true (qh encGRaw r38) (qg r38) false] 0] [.cells 0 (encGInterpRun m0_4),.cells 0 [.int .i64 a1.fOp,.int .i64 a1.fTag,.int .i64 a1.fSub],.cells v6 (qh encGTree l5),.cells 0 (cellsGTree r19)] (fun r' σ'=>r'=.agg (cellsGTree r43.1)∧σ'=[.cells 0 (encGInterpRun r43.2),.cells 0 [.int .i64 a1.fOp,.int .i64 a1.fTag,.int .i64 a1.fSub],.cells v6 (qh encGTree l5),.cells 0 (cellsGTree r19)])) ((ZV m0_4 a1.fSub (⟨e38,r38⟩:GValueNode) r43 hr43).i [0])) ?_;refine za tok 1 ?_;simp only[go_sem,qf,qb,qa,qc,qe,qd,reduceIte,reduceCtorEq,cellsGTree,zb,hz12,hw12,t34];refine nkN hK ?_
     refine rc [0,4,7,10,24,25,26,71] fun K hK=>?_
     refine za tok 4 ?_;simp only[go_sem,qf,qb,qa,qc,qe,qd,reduceIte,reduceCtorEq,zn,hz12,hw12,t34];refine zl 5 (fun L τ=>L=[(0,.op 0 0 0),(4,.op 1 0 0),(7,.os true 5 2 v6 0 (qg l5) false),(10,.op 3 0 0),(24,.ds true (qh encGValueValue x1) (qg x1) false),(25,.int .i64 (qg x1:Int)),(26,.int .i64 x7),(71,.bool ((decide (a1.fOp=4))&&(decide ((qg r43.1.fEntries:Int)=0))))]∧τ=[.cells 0 (encGInterpRun r43.2),.cells 0 [.int .i64 a1.fOp,.int .i64 a1.fTag,.int .i64 a1.fSub],.cells v6 (qh encGTree l5),.cells 0 (cellsGTree r43.1)]) ?_ ?_
     · refine yQ 66 rfl (fun hg66=>?_) (fun hg66=>?_)
       · have t44:=eq_true hg66;refine za tok 5 ?_;simp only[go_sem,qf,qb,qa,qc,qe,qd,reduceIte,reduceCtorEq,zn,hz12,hw12,t34];refine ze ⟨rfl,_,_,⟨rfl,rfl⟩,.p t44⟩
       have t45:=eq_false hg66;refine za tok 5 ?_;simp only[go_sem,qf,qb,qa,qc,qe,qd,reduceIte,reduceCtorEq,zn,hz12,hw12,t34];refine ze ⟨rfl,_,_,⟨rfl,rfl⟩,.p t45⟩
     rintro _ _ ⟨rfl,rfl⟩;refine nkN hK ?_;refine zs (b:=((decide (a1.fOp=4))&&(decide ((qg r43.1.fEntries:Int)=0)))) rfl (fun hc46=>?_) (fun hc46=>?_)
     · rw[if_pos hc46] at h
       refine rg tok [6] fun K hK=>?_
       simp only[go_sem,qf,qb,qa,qc,qe,qd,reduceIte,reduceCtorEq,hz12,hw12,t34];apply hK
       apply zJ;cases h;simp only[wb,ya,yf,yS,exists_eq_left',go_sem,qf,qb,qa,qc,qe,qd,reduceIte,reduceCtorEq,cellsGTree,encGAdaptProgram,encGInterpRun,zb];refine⟨by decide,by simp,?_,?_⟩
       · first|rfl|(simp only[go_sem,qf,qb,qa,qc,qe,qd,reduceIte,reduceCtorEq,push_cast,if_true,qn,ql,qp,qs,qo,qq,qv,qm,qt,qr,qk,zh,cellsGTree,encGAdaptProgram,encGInterpRun,zb]<;>rfl)
       first|rfl|(simp only[go_sem,qf,qb,qa,qc,qe,qd,reduceIte,reduceCtorEq,push_cast,if_true,qn,ql,qp,qs,qo,qq,qv,qm,qt,qr,qk,zh,cellsGTree,encGAdaptProgram,encGInterpRun,zb]<;>rfl)
     rw[xI hc46] at h;apply zf;exact⟨_,_,⟨r43.2,r43.1,rfl,rfl,h⟩,.s⟩
   rw[xI hc37] at h;apply zf;exact⟨_,_,⟨m0_4,r19,rfl,rfl,h⟩,.s⟩
 rintro _ _ ⟨m0_20,m3_21,rfl,rfl,h⟩;unfold zt.j22 at h;obtain⟨_u23,hu23,h⟩:=bind_some h;have gu23:=yI hu23;have f24:=(zE E38.len l5)
 refine rgE tok [0,4,7,24,25,26] fun K hK=>?_
 simp only[go_sem,qf,qb,qa,qc,qe,qd,reduceIte,reduceCtorEq,zL,zX,qY,qS,qX,true_and,q3,yv,yb,yx,cellsGTree,zb,hz12,hw12,gu23,f24,yu,qV,qT,AV.one,qG,qm,gt_iff_lt,zF,qA,qB,qL,qF,qJ,qw,qx,qz,ql,qD,qH];apply hK
 apply hZ15
 refine rgE tok [0,4,7,24,25,26] fun K hK=>?_
 simp only[go_sem,qf,qb,qa,qc,qe,qd,reduceIte,reduceCtorEq,zn,hz12,hw12];apply hK
 exact⟨_,_,_,qE q12.length,⟨p12++[y12],q12,x7+1,m0_20,l5++[m3_21],v6+1,rfl,rfl,rfl,hE'12,hi'12,h⟩,(.t [0,1,2] false)⟩
end
section
set_option maxRecDepth 4000
set_option maxHeartbeats 1000000
open AM
mutual
def zA : Nat→GInterpRun→Int→GValueNode→Option (GTree×GInterpRun)
 |0,_,_,_=>none
 |k+1,a0,a1,a2=>zA.body (zA k) (zt k) a0 a1 a2
def zt : Nat→GInterpRun→GStep→(List GValueValue)→Option (List GTree×GInterpRun)
 |0,_,_,_=>none
 |k+1,a0,a1,a2=>zt.body (zA k) (zt k) a0 a1 a2
end
theorem zA.all (k:Nat):(∀ (a0:GInterpRun) (a1:Int) (a2:GValueNode) (r:GTree×GInterpRun),zA k a0 a1 a2=some r→ACalls qi 199 [.op 0 0 0,.int .i64 a1,.dp (encGValueNode a2) 0] [.cells 0 (encGInterpRun a0)] (fun r' σ'=>r'=.agg (cellsGTree r.1)∧σ'=[.cells 0 (encGInterpRun r.2)]))∧(∀ (a0:GInterpRun) (a1:GStep) (a2:List GValueValue) (r:List GTree×GInterpRun),zt k a0 a1 a2=some r→ACalls qi 237 [.op 0 0 0,.agg (encGStep a1),.ds true (qh encGValueValue a2) (qg a2) false] [.cells 0 (encGInterpRun a0)] (fun r' σ'=>r'=.ds true (qh encGTree r.1) (qg r.1) false∧σ'=[.cells 0 (encGInterpRun r.2)])):=by
 induction k with
 |zero=>exact⟨(fun a0 a1 a2 r h=>by simp only[zA] at h; cases h),(fun a0 a1 a2 r h=>by simp only[zt] at h; cases h)⟩
 |succ k ih=>exact⟨(fun a0 a1 a2 r h=>zA.step _ _ ih.1 ih.2 a0 a1 a2 r (by simpa only [zA] using h)),(fun a0 a1 a2 r h=>zt.step _ _ ih.1 ih.2 a0 a1 a2 r (by simpa only [zt] using h))⟩
theorem zA.ok (k:Nat)(a0:GInterpRun)(a1:Int)(a2:GValueNode)(r:GTree×GInterpRun)(h:zA k a0 a1 a2=some r):ACalls qi 199 [.op 0 0 0,.int .i64 a1,.dp (encGValueNode a2) 0] [.cells 0 (encGInterpRun a0)] (fun r' σ'=>r'=.agg (cellsGTree r.1)∧σ'=[.cells 0 (encGInterpRun r.2)]):=(zA.all k).1 a0 a1 a2 r h
def wg (a0:GAdaptProgram)(a1:GTree):Option (GTree×Int×Int):=
 bnd (yG a0) fun r2=>(if ((!r2)||(!(decide (a1.fKind=3))))=true then some ((⟨0,0,[],([]:List GEntry),([]:List GRaw)⟩:GTree),0,1) else (Zm a1).bind fun r4=>(if (!r4.2)=true then some ((⟨0,0,[],([]:List GEntry),([]:List GRaw)⟩:GTree),0,1) else (yj r4.1).bind fun r8=>(zA xl (⟨a0,0⟩:GInterpRun) 0 r8).bind fun r9=>some (r9.1,r9.2.flooks,0)))
theorem wg.ok (a0:GAdaptProgram)(a1:GTree)(r:GTree×Int×Int)(h:wg a0 a1=some r):ACalls qi 152 [.agg (encGAdaptProgram a0),.agg (cellsGTree a1)] [] (fun r' _=>r'=.tup [.agg (cellsGTree r.1),.int .i64 r.2.1,.int .i64 r.2.2]):=by
 refine zj (rs:=[.cell 4 37,.tmp 5,.tmp 6]) tok Tryz.func152 rfl Tryz.ntmps152 rfl Tryz.call152 (by simp) ?_;refine zm [(0,.agg (encGAdaptProgram a0)),(1,.agg (cellsGTree a1))] ⟨rfl,rfl,trivial⟩ ?_;unfold wg at h
 refine rg tok [2,3,4] fun K hK=>?_
 simp only[go_sem,qf,qb,qa,qc,qe,qd,reduceIte,reduceCtorEq,cellsGTree,encGAdaptProgram,zb];apply hK
 refine zd fun Z1 hZ1=>?_
 refine rc [2,3,4,18] fun K hK=>?_
 obtain⟨r2,hr2,h⟩:=zB h;refine za tok 1 ?_;simp only[go_sem,qf,qb,qa,qc,qe,qd,reduceIte,reduceCtorEq,encGAdaptProgram];refine clN rfl rfl rfl (yG.ev a0 r2 hr2 _) ?_;refine za tok 2 ?_;simp only[go_sem,qf,qb,qa,qc,qe,qd,reduceIte,reduceCtorEq,encGAdaptProgram];refine zl 4 (fun L τ=>L=[(2,.op 0 0 0),(3,.op 1 0 0),(4,.op 2 0 0),(18,.bool ((!r2)||(!(decide (a1.fKind=3)))))]∧τ=[.cells 0 (encGAdaptProgram a0),.cells 0 (cellsGTree a1),.cells 0 [.int .i64 0,.int .i64 0,.str [],.ds true [] 0 true,.ds true [] 0 true]]) ?_ ?_
 · refine zR (b:=(!r2)) 14 rfl (fun hg14=>?_) (fun hg14=>?_)
   · refine za tok 4 ?_;simp only[go_sem,qf,qb,qa,qc,qe,qd,reduceIte,reduceCtorEq,zn,encGAdaptProgram];refine ze ⟨rfl,_,_,⟨rfl,rfl⟩,.b hg14⟩
   refine za tok 4 ?_;simp only[go_sem,qf,qb,qa,qc,qe,qd,reduceIte,reduceCtorEq,zn,encGAdaptProgram];refine ze ⟨rfl,_,_,⟨rfl,rfl⟩,.b hg14⟩
 rintro _ _ ⟨rfl,rfl⟩;refine nkN hK ?_;refine zs (b:=((!r2)||(!(decide (a1.fKind=3))))) rfl (fun hc3=>?_) (fun hc3=>?_)
 · rw[if_pos hc3] at h
   refine rg tok [4,5,6] fun K hK=>?_
   simp only[go_sem,qf,qb,qa,qc,qe,qd,reduceIte,reduceCtorEq,cellsGTree,zb];apply hK
   cases h;exact rtA
 rw[xI hc3] at h;apply zf;apply hZ1
 refine rc [2,4,7,8] fun K hK=>?_
 obtain⟨r4,hr4,h⟩:=bind_some h;refine za tok 1 ?_;simp only[go_sem,qf,qb,qa,qc,qe,qd,reduceIte,reduceCtorEq,cellsGTree,zb];refine clN rfl rfl rfl (Zm.ev a1 r4 hr4 _) ?_;have f5:=wk r4.1;unfold AV.one at f5;refine za tok 6 ?_;simp only[go_sem,qf,qb,qa,qc,qe,qd,reduceIte,reduceCtorEq,cellsGTree,zb,encGValueValue,f5];refine nkN hK ?_
 refine zd fun Z6 hZ6=>?_
 refine rgN [2,4,7,26] ?_;refine zs (b:=(!r4.2)) rfl (fun hc7=>?_) (fun hc7=>?_)
 · rw[if_pos hc7] at h
   refine rg tok [4,5,6] fun K hK=>?_
   simp only[go_sem,qf,qb,qa,qc,qe,qd,reduceIte,reduceCtorEq,cellsGTree,zb];apply hK
   cases h;exact rtA
 rw[xI hc7] at h;apply zf;apply hZ6
 refine rg tok [4,7,9] fun K hK=>?_
 simp only[go_sem,qf,qb,qa,qc,qe,qd,reduceIte,reduceCtorEq,encGAdaptProgram,encGInterpRun];apply hK
 refine rc [4,9,10] fun K hK=>?_
 obtain⟨r8,hr8,h⟩:=bind_some h;refine za tok 2 ?_;simp only[go_sem,qf,qb,qa,qc,qe,qd,reduceIte,reduceCtorEq,encGValueValue];refine clN rfl rfl rfl (yj.ev r4.1 r8 hr8 _) ?_;obtain⟨r9,hr9,h⟩:=bind_some h;refine clN rfl rfl rfl (@id (ACalls qi 199 [.op 4 0 0,.int .i64 0,.dp (encGValueNode r8) 0] [.cells 0 (encGAdaptProgram a0),.cells 0 (cellsGTree a1),.cells 0 [.int .i64 0,.int .i64 0,.str [],.ds true [] 0 true,.ds true [] 0 true],.cells 0 [ifcV r4.1],.cells 0 [.ds true (qh (Zz encGStep) a0.fParts) (qg a0.fParts) false,.int .i64 0]] (fun r' σ'=>r'=.agg (cellsGTree r9.1)∧σ'=[.cells 0 (encGAdaptProgram a0),.cells 0 (cellsGTree a1),.cells 0 [.int .i64 0,.int .i64 0,.str [],.ds true [] 0 true,.ds true [] 0 true],.cells 0 [ifcV r4.1],.cells 0 (encGInterpRun r9.2)])) ((zA.ok xl (⟨a0,0⟩:GInterpRun) 0 r8 r9 hr9).i [4])) ?_;refine za tok 2 ?_;simp only[go_sem,qf,qb,qa,qc,qe,qd,reduceIte,reduceCtorEq,cellsGTree,zb,encGValueValue];refine nkN hK ?_
 refine rd [4,5,6] fun K hK=>?_
 refine DW.start (T:=tab) [.at [],.any,.any,.any,.own 1 [2],.eff,.any,.any] [(1,[2])] ?_;refine DW.runN tok 8 ?_;simp only[go_sem,qf,qb,qa,qc,qe,qd,reduceIte,reduceCtorEq,cellsGTree,zb];refine DW.fin tok (by decide +kernel) rfl ?_;simp only[zk,zw,zD,xJ,upd,qa,reduceIte,z1,yA];apply hK
 cases h;exact rtA
theorem wg.ev (a0:GAdaptProgram)(a1:GTree)(r:GTree×Int×Int)(h:wg a0 a1=some r)(σ:Store):ACalls qi 152 [.agg (encGAdaptProgram a0),.agg (cellsGTree a1)] σ (fun r' σ'=>r'=.tup [.agg (cellsGTree r.1),.int .i64 r.2.1,.int .i64 r.2.2]∧σ'=σ):=
 (wg.ok a0 a1 r h).c σ
def xP (a0:GAdaptProgram)(a1:GTree):Option (GTree×Int):=
 (wg a0 a1).bind fun r1=>some (r1.1,r1.2.2)
theorem xP.ok (a0:GAdaptProgram)(a1:GTree)(r:GTree×Int)(h:xP a0 a1=some r):ACalls qi 100 [.agg (encGAdaptProgram a0),.agg (cellsGTree a1)] [] (fun r' _=>r'=.tup [.agg (cellsGTree r.1),.int .i64 r.2]):=by
 refine zj (rs:=[.cell 4 37,.tmp 5]) tok Tryz.func100 rfl Tryz.ntmps100 rfl Tryz.call100 (by simp) ?_;refine zm [(0,.agg (encGAdaptProgram a0)),(1,.agg (cellsGTree a1))] ⟨rfl,rfl,trivial⟩ ?_;unfold xP at h
 refine rg tok [2,3,4] fun K hK=>?_
 simp only[go_sem,qf,qb,qa,qc,qe,qd,reduceIte,reduceCtorEq,cellsGTree,encGAdaptProgram,zb];apply hK
 refine rc [4,6,8] fun K hK=>?_
 obtain⟨r1,hr1,h⟩:=bind_some h;refine za tok 2 ?_;simp only[go_sem,qf,qb,qa,qc,qe,qd,reduceIte,reduceCtorEq,cellsGTree,encGAdaptProgram,zb];refine clN rfl rfl rfl (wg.ev a0 a1 r1 hr1 _) ?_;refine za tok 8 ?_;simp only[go_sem,qf,qb,qa,qc,qe,qd,reduceIte,reduceCtorEq,cellsGTree,encGAdaptProgram,zb];refine nkN hK ?_
 refine rg tok [4,5] fun K hK=>?_
 simp only[go_sem,qf,qb,qa,qc,qe,qd,reduceIte,reduceCtorEq,cellsGTree,zb];apply hK
 cases h;exact rtA
theorem xP.ev (a0:GAdaptProgram)(a1:GTree)(r:GTree×Int)(h:xP a0 a1=some r)(σ:Store):ACalls qi 100 [.agg (encGAdaptProgram a0),.agg (cellsGTree a1)] σ (fun r' σ'=>r'=.tup [.agg (cellsGTree r.1),.int .i64 r.2]∧σ'=σ):=
 (xP.ok a0 a1 r h).c σ
def xH (a0:GClientClient):Option (List UInt8×Int):=
 (YD a0.fschemas a0.fagreed).bind fun y1=>(yh a0).bind fun r4=>bnd (ym r4 a0.fmethod) fun r5=>bnd (ym y1 a0.fmethod) fun r6=>(if (!r6.2)=true then some (([]:List UInt8),21) else (yh a0).bind fun r9=>(yk r9 y1 r5.1.fIn r6.1.fIn).bind fun r10=>(xP r10.1 a0.ft).bind fun r11=>(if r11.2=0 then (xu r11.1).bind fun r16=>some (r16.1,r16.2) else some (([]:List UInt8),r11.2)))
theorem xH.ok (a0:GClientClient)(r:List UInt8×Int)(h:xH a0=some r):ACalls qi 97 [.op 0 0 0] [.cells 0 (encGClientClient a0)] (fun r' σ'=>r'=.tup [.ds true (qh encB r.1) (qg r.1) false,.int .i64 r.2]∧σ'=[.cells 0 (encGClientClient a0)]):=by
 refine xE [0] (rs:=[.tmp 2,.tmp 3]) tok Tryz.func97 rfl Tryz.ntmps97 rfl Tryz.call97 (by simp) rfl ?_;refine zm [(0,.op 0 0 0)] ⟨rfl,trivial⟩ ?_;unfold xH at h;refine rgN [0] ?_;obtain⟨y1,hy1,h⟩:=bind_some h;have f2:=E33.idxS hy1;have f3:=E33.loadS rfl rfl hy1
 refine rd [0,4] fun K hK=>?_
 refine DW.start (T:=tab) [.any,.any,.any,.own 1 [],.any,.any,.any,.own 1 [],.any,.own 1 [],.eff,.eff] [(1,[])] ?_;refine DW.runN tok 8 ?_;simp only[go_sem,qf,qb,qa,qc,qe,qd,reduceIte,reduceCtorEq,encGSchema,f2,f3];refine DW.runN tok 4 ?_;simp only[go_sem,qf,qb,qa,qc,qe,qd,reduceIte,reduceCtorEq,encGSchema,f2,f3];refine DW.fin tok (by decide +kernel) rfl ?_;simp only[zk,zw,zD,xJ,upd,qa,reduceIte,z1,yA];apply hK
 obtain⟨r4,hr4,h⟩:=bind_some h;obtain⟨r5,hr5,h⟩:=zB h
 refine rd [0,4,5] fun K hK=>?_
 refine DW.start (T:=tab) [.any,.eff,.any,.any,.any,.own 1 [],.eff,.any,.any,.any,.flt,.eff,.any] [(1,[])] ?_;refine DW.runN tok 1 ?_;simp only[go_sem,qf,qb,qa,qc,qe,qd,reduceIte,reduceCtorEq,encGMethod];refine DW.callS rfl rfl rfl (@id (ACalls qi 60 [.op 0 0 0] [.cells 0 (encGClientClient a0),.cells 0 (encGSchema y1)] (fun r' σ'=>r'=.agg (encGSchema r4)∧σ'=[.cells 0 (encGClientClient a0),.cells 0 (encGSchema y1)])) ((yh.ok a0 r4 hr4).i [0])) (Zt (by simp only[go_sem,qf,qb,qa,qc,qe,qd,reduceIte,reduceCtorEq])) ?_;refine DW.runN tok 4 ?_;simp only[go_sem,qf,qb,qa,qc,qe,qd,reduceIte,reduceCtorEq,encGMethod];refine DW.call rfl rfl rfl (ym.ev r4 a0.fmethod r5 hr5 _) ?_;refine DW.runN tok 6 ?_;simp only[go_sem,qf,qb,qa,qc,qe,qd,reduceIte,reduceCtorEq,encGMethod];refine DW.fin tok (by decide +kernel) rfl ?_;simp only[zk,zw,zD,xJ,upd,qa,reduceIte,z1,yA];apply hK
 obtain⟨r6,hr6,h⟩:=zB h
 refine rd [0,4,5,7,8] fun K hK=>?_
 refine DW.start (T:=tab) [.at [],.any,.any,.any,.at [],.eff,.any,.any,.any,.flt,.eff,.any] [] ?_;refine DW.runN tok 5 ?_;simp only[go_sem,qf,qb,qa,qc,qe,qd,reduceIte,reduceCtorEq,encGMethod,encGSchema];refine DW.call rfl rfl rfl (ym.ev y1 a0.fmethod r6 hr6 _) ?_;refine DW.runN tok 6 ?_;simp only[go_sem,qf,qb,qa,qc,qe,qd,reduceIte,reduceCtorEq,encGMethod,encGSchema];refine DW.fin tok (by decide +kernel) rfl ?_;simp only[zk,zw,zD,xJ,upd,qa,reduceIte,z1,yA];apply hK
 refine zd fun Z7 hZ7=>?_
 refine rgN [0,4,5,7,43] ?_;refine zs (b:=(!r6.2)) rfl (fun hc8=>?_) (fun hc8=>?_)
 · rw[if_pos hc8] at h;refine rgN [2,3] ?_;apply zJ;cases h;simp only[wb,ya,yf,yS,exists_eq_left',go_sem,qf,qb,qa,qc,qe,qd,reduceIte,reduceCtorEq,cellsGTree,encGClientClient,encGPacket,zb];refine⟨by decide,by simp,?_,?_⟩
   · first|rfl|(simp only[go_sem,qf,qb,qa,qc,qe,qd,reduceIte,reduceCtorEq,push_cast,if_true,qn,ql,qp,qs,qo,qq,qv,qm,qt,qr,qk,zh,cellsGTree,encGClientClient,encGPacket,zb]<;>rfl)
   first|rfl|(simp only[go_sem,qf,qb,qa,qc,qe,qd,reduceIte,reduceCtorEq,push_cast,if_true,qn,ql,qp,qs,qo,qq,qv,qm,qt,qr,qk,zh,cellsGTree,encGClientClient,encGPacket,zb]<;>rfl)
 rw[xI hc8] at h;apply zf;apply hZ7;obtain⟨r9,hr9,h⟩:=bind_some h;obtain⟨r10,hr10,h⟩:=bind_some h
 refine rd [0,9] fun K hK=>?_
 refine DW.start (T:=tab) [.any,.eff,.own 1 [],.any,.own 1 [],.any,.own 1 [],.eff,.any,.any,.any,.flt,.eff,.any] [(1,[])] ?_;refine DW.runN tok 1 ?_;simp only[go_sem,qf,qb,qa,qc,qe,qd,reduceIte,reduceCtorEq,encGAdaptProgram,encGSchema];refine DW.callS rfl rfl rfl (@id (ACalls qi 60 [.op 0 0 0] [.cells 0 (encGClientClient a0),.cells 0 (encGSchema y1),.cells 0 [.str r5.1.fName,.str r5.1.fIn,.str r5.1.fOut],.cells 0 [.str r6.1.fName,.str r6.1.fIn,.str r6.1.fOut]] (fun r' σ'=>r'=.agg (encGSchema r9)∧σ'=[.cells 0 (encGClientClient a0),.cells 0 (encGSchema y1),.cells 0 [.str r5.1.fName,.str r5.1.fIn,.str r5.1.fOut],.cells 0 [.str r6.1.fName,.str r6.1.fIn,.str r6.1.fOut]])) ((yh.ok a0 r9 hr9).i [0])) (Zt (by simp only[go_sem,qf,qb,qa,qc,qe,qd,reduceIte,reduceCtorEq])) ?_;refine DW.runN tok 5 ?_;simp only[go_sem,qf,qb,qa,qc,qe,qd,reduceIte,reduceCtorEq,encGAdaptProgram,encGSchema];refine DW.call rfl rfl rfl (yk.ev r9 y1 r5.1.fIn r6.1.fIn r10 hr10 _) ?_;refine DW.runN tok 6 ?_;simp only[go_sem,qf,qb,qa,qc,qe,qd,reduceIte,reduceCtorEq,encGAdaptProgram,encGSchema];refine DW.fin tok (by decide +kernel) rfl ?_;simp only[zk,zw,zD,xJ,upd,qa,reduceIte,z1,yA];apply hK
 obtain⟨r11,hr11,h⟩:=bind_some h
 refine rd [11,12] fun K hK=>?_
 refine DW.start (T:=tab) [.at [],.any,.any,.any,.at [],.eff,.any,.any,.any,.flt,.eff,.any] [] ?_;refine DW.runN tok 5 ?_;simp only[go_sem,qf,qb,qa,qc,qe,qd,reduceIte,reduceCtorEq,cellsGTree,encGAdaptProgram,zb];refine DW.call rfl rfl rfl (xP.ev r10.1 a0.ft r11 hr11 _) ?_;refine DW.runN tok 6 ?_;simp only[go_sem,qf,qb,qa,qc,qe,qd,reduceIte,reduceCtorEq,cellsGTree,encGAdaptProgram,zb];refine DW.fin tok (by decide +kernel) rfl ?_;simp only[zk,zw,zD,xJ,upd,qa,reduceIte,z1,yA];apply hK
 refine zd fun Z12 hZ12=>?_
 refine rg tok [11,12,65] fun K hK=>?_
 simp only[go_sem,qf,qb,qa,qc,qe,qd,reduceIte,reduceCtorEq,zn];apply hK
 refine zM rfl (fun hc13=>?_) (fun hc13=>?_)
 · rw[if_neg hc13] at h;have t14:=eq_false hc13
   refine rg tok [2,3] fun K hK=>?_
   simp only[go_sem,qf,qb,qa,qc,qe,qd,reduceIte,reduceCtorEq,t14];apply hK
   apply zJ;cases h;simp only[wb,ya,yf,yS,exists_eq_left',go_sem,qf,qb,qa,qc,qe,qd,reduceIte,reduceCtorEq,cellsGTree,encGClientClient,encGPacket,zb];refine⟨by decide,by simp,?_,?_⟩
   · first|rfl|(simp only[go_sem,qf,qb,qa,qc,qe,qd,reduceIte,reduceCtorEq,push_cast,if_true,qn,ql,qp,qs,qo,qq,qv,qm,qt,qr,qk,zh,cellsGTree,encGClientClient,encGPacket,zb]<;>rfl)
   first|rfl|(simp only[go_sem,qf,qb,qa,qc,qe,qd,reduceIte,reduceCtorEq,push_cast,if_true,qn,ql,qp,qs,qo,qq,qv,qm,qt,qr,qk,zh,cellsGTree,encGClientClient,encGPacket,zb]<;>rfl)
 rw[if_pos hc13] at h;have t15:=eq_true hc13;apply zf;apply hZ12
 refine rc [2,3] fun K hK=>?_
 obtain⟨r16,hr16,h⟩:=bind_some h;refine za tok 1 ?_;simp only[go_sem,qf,qb,qa,qc,qe,qd,reduceIte,reduceCtorEq,cellsGTree,zb,t15];refine clN rfl rfl rfl (xu.ev r11.1 r16 hr16 _) ?_;refine za tok 4 ?_;simp only[go_sem,qf,qb,qa,qc,qe,qd,reduceIte,reduceCtorEq,cellsGTree,zb,t15];refine nkN hK ?_;apply zJ;cases h;simp only[wb,ya,yf,yS,exists_eq_left',go_sem,qf,qb,qa,qc,qe,qd,reduceIte,reduceCtorEq,cellsGTree,encGClientClient,encGPacket,zb];refine⟨by decide,by simp,?_,?_⟩
 · first|rfl|(simp only[go_sem,qf,qb,qa,qc,qe,qd,reduceIte,reduceCtorEq,push_cast,if_true,qn,ql,qp,qs,qo,qq,qv,qm,qt,qr,qk,zh,cellsGTree,encGClientClient,encGPacket,zb]<;>rfl)
 first|rfl|(simp only[go_sem,qf,qb,qa,qc,qe,qd,reduceIte,reduceCtorEq,push_cast,if_true,qn,ql,qp,qs,qo,qq,qv,qm,qt,qr,qk,zh,cellsGTree,encGClientClient,encGPacket,zb]<;>rfl)
def zz.j7 (m0_6:GClientClient):Option (GPacket×Bool×GClientClient):=
 some ((⟨0,0,0,0,0,[],0,[]⟩:GPacket),false,m0_6)
def zz.l10 (a0:GClientClient)(a1:Int):List Int→Int→Option (GPacket×Bool×GClientClient)
 |[],x8=>(zz.j7 a0)
 |y10::q10,x8=>(if y10=a1 then (xH (⟨a0.fself,a0.fserver,a0.fnumbers,a0.fschemas,a0.fid,a0.fwaits,a0.fmethod,a0.ft,x8,a0.fsent,a0.fresult⟩:GClientClient)).bind fun r20=>(if r20.2=0 then some ((⟨3,a0.fself,a0.fserver,a0.fid,a1,a0.fmethod,0,r20.1⟩:GPacket),true,(⟨a0.fself,a0.fserver,a0.fnumbers,a0.fschemas,a0.fid,2,a0.fmethod,a0.ft,x8,(⟨3,a0.fself,a0.fserver,a0.fid,a1,a0.fmethod,0,r20.1⟩:GPacket),a0.fresult⟩:GClientClient)) else bnd (z7 (⟨a0.fself,a0.fserver,a0.fnumbers,a0.fschemas,a0.fid,a0.fwaits,a0.fmethod,a0.ft,x8,a0.fsent,a0.fresult⟩:GClientClient) (⟨0,0,[],([]:List GEntry),([]:List GRaw)⟩:GTree) r20.2) fun r24=>(zz.j7 r24)) else ((zz.l10 a0 a1 q10) (x8+1)))
def zz (a0:GClientClient)(a1:Int):Option (GPacket×Bool×GClientClient):=
 (if a1=0 then bnd (z7 a0 (⟨0,0,[],([]:List GEntry),([]:List GRaw)⟩:GTree) 18) fun r4=>some ((⟨0,0,0,0,0,[],0,[]⟩:GPacket),false,r4) else (zz.l10 a0 a1 a0.fnumbers 0))
theorem zz.ok (a0:GClientClient)(a1:Int)(r:GPacket×Bool×GClientClient)(h:zz a0 a1=some r):ACalls qi 63 [.op 0 0 0,.int .i64 a1] [.cells 0 (encGClientClient a0)] (fun r' σ'=>r'=.tup [.agg (encGPacket r.1),.bool r.2.1]∧σ'=[.cells 0 (encGClientClient r.2.2)]):=by
 refine xE [0] (rs:=[.cell 4 43,.tmp 5]) tok Tryz.func63 rfl Tryz.ntmps63 rfl Tryz.call63 (by simp) rfl ?_;refine zm [(0,.op 0 0 0),(1,.int .i64 a1)] ⟨rfl,rfl,trivial⟩ ?_;unfold zz at h;refine rgN [0,1,4] ?_
 refine zd fun Z1 hZ1=>?_
 refine rg tok [0,1,4,11] fun K hK=>?_
 simp only[go_sem,qf,qb,qa,qc,qe,qd,reduceIte,reduceCtorEq,zn];apply hK
 refine zM rfl (fun hc2=>?_) (fun hc2=>?_)
 · rw[if_pos hc2] at h;have t3:=eq_true hc2
   refine rc [4] fun K hK=>?_
   obtain⟨r4,hr4,h⟩:=zB h;refine za tok 2 ?_;simp only[go_sem,qf,qb,qa,qc,qe,qd,reduceIte,reduceCtorEq,t3];refine clN rfl rfl rfl (ACalls.loose (@id (ACalls qi 64 [.op 0 0 0,.agg [.int .i64 0,.int .i64 0,.str [],.ds true (qh encGEntry ([]:List GEntry)) (qg ([]:List GEntry)) false,.ds true (qh encGRaw ([]:List GRaw)) (qg ([]:List GRaw)) false],.int .i64 18] [.cells 0 (encGClientClient a0),.cells 0 [.int .i64 0,.int .i64 0,.int .i64 0,.int .i64 0,.int .i64 0,.str [],.int .i64 0,.str []]] (fun r' σ'=>r'=.tup []∧σ'=[.cells 0 (encGClientClient r4),.cells 0 [.int .i64 0,.int .i64 0,.int .i64 0,.int .i64 0,.int .i64 0,.str [],.int .i64 0,.str []]])) ((z7.ok a0 (⟨0,0,[],([]:List GEntry),([]:List GRaw)⟩:GTree) 18 r4 hr4).i [0]))) ?_;refine nkN hK ?_
   refine rg tok [4,5] fun K hK=>?_
   simp only[go_sem,qf,qb,qa,qc,qe,qd,reduceIte,reduceCtorEq,encGPacket,t3];apply hK
   apply zJ;cases h;simp only[wb,ya,yf,yS,exists_eq_left',go_sem,qf,qb,qa,qc,qe,qd,reduceIte,reduceCtorEq,cellsGTree,encGClientClient,encGPacket,zb];refine⟨by decide,by simp,?_,?_⟩
   · first|rfl|(simp only[go_sem,qf,qb,qa,qc,qe,qd,reduceIte,reduceCtorEq,push_cast,if_true,qn,ql,qp,qs,qo,qq,qv,qm,qt,qr,qk,zh,cellsGTree,encGClientClient,encGPacket,zb]<;>rfl)
   first|rfl|(simp only[go_sem,qf,qb,qa,qc,qe,qd,reduceIte,reduceCtorEq,push_cast,if_true,qn,ql,qp,qs,qo,qq,qv,qm,qt,qr,qk,zh,cellsGTree,encGClientClient,encGPacket,zb]<;>rfl)
 rw[if_neg hc2] at h;have t5:=eq_false hc2;apply zf;apply hZ1;refine yR (fun L τ=>∃ (m0_6:GClientClient),L=[(4,.op 1 0 0)]∧τ=[.cells 0 (encGClientClient m0_6),.cells 0 [.int .i64 0,.int .i64 0,.int .i64 0,.int .i64 0,.int .i64 0,.str [],.int .i64 0,.str []]]∧zz.j7 m0_6=some r) ?_ ?_
 · refine rg tok [0,1,4,19,20,21] fun K hK=>?_
   simp only[go_sem,qf,qb,qa,qc,qe,qd,reduceIte,reduceCtorEq,t5];apply hK
   apply zg
   refine yq 19 fun hb10=>?_
   replace hb10:qg a0.fnumbers≤9223372036854775807:=hb10.1;refine zP (fun m L τ=>∃ (p10 q10:List Int) (x8:Int),m=qg q10∧L=[(0,.op 0 0 0),(1,.int .i64 a1),(4,.op 1 0 0),(19,.ds true (qh encI a0.fnumbers) (qg a0.fnumbers) false),(20,.int .i64 (qg a0.fnumbers:Int)),(21,.int .i64 x8)]∧τ=[.cells 0 (encGClientClient a0),.cells 0 [.int .i64 0,.int .i64 0,.int .i64 0,.int .i64 0,.int .i64 0,.str [],.int .i64 0,.str []]]∧a0.fnumbers=p10++q10∧x8=(qg p10:Int)∧zz.l10 a0 a1 q10 x8=some r) _ ⟨[],a0.fnumbers,0,rfl,rfl,rfl,rfl,rfl,h⟩ .s ?_;rintro m L τ ⟨p10,q10,x8,rfl,rfl,rfl,hE10,hi10,h⟩
   rcases q10 with _|⟨y10,q10⟩
   · have hz10:=yN hE10 hi10;simp only[zz.l10] at h
     refine rg tok [0,1,4,19,20,21,22] fun K hK=>?_
     simp only[go_sem,qf,qb,qa,qc,qe,qd,reduceIte,reduceCtorEq,zn,t5,hz10];apply hK
     refine zd fun Z11 hZ11=>?_
     refine zo rfl ?_;apply zI;exact⟨_,_,⟨a0,rfl,rfl,h⟩,.s⟩
   obtain⟨hz10,hw10,hx10,hE'10,hi'10⟩:=yo hE10 hi10 hb10;simp only[zz.l10] at h
   refine rg tok [0,1,4,19,20,21,22] fun K hK=>?_
   simp only[go_sem,qf,qb,qa,qc,qe,qd,reduceIte,reduceCtorEq,zn,t5,hz10,hw10];apply hK
   refine zd fun Z12 hZ12=>?_
   refine zu rfl ?_;apply zf;apply hZ12
   refine zd fun Z13 hZ13=>?_
   apply zg;have f14:=E26.idxS hx10;have f15:=E26.fldS0 (f:=3) rfl rfl hx10
   refine rg tok [0,1,4,6,7,19,20,21] fun K hK=>?_
   simp only[go_sem,qf,qb,qa,qc,qe,qd,reduceIte,reduceCtorEq,encI,t5,hz10,hw10,f14,f15];apply hK
   refine zd fun Z16 hZ16=>?_
   refine rg tok [0,1,4,6,19,20,21,28] fun K hK=>?_
   simp only[go_sem,qf,qb,qa,qc,qe,qd,reduceIte,reduceCtorEq,zn,t5,hz10,hw10];apply hK
   refine zM rfl (fun hc17=>?_) (fun hc17=>?_)
   · rw[if_neg hc17] at h;have t18:=eq_false hc17;apply zI;apply hZ13
     refine rgE tok [0,1,4,19,20,21] fun K hK=>?_
     simp only[go_sem,qf,qb,qa,qc,qe,qd,reduceIte,reduceCtorEq,zn,t5,hz10,hw10,t18];apply hK
     exact⟨_,_,_,qE q10.length,⟨p10++[y10],q10,x8+1,rfl,rfl,rfl,hE'10,hi'10,h⟩,.s⟩
   rw[if_pos hc17] at h;have t19:=eq_true hc17;apply zf;apply hZ16
   refine rg tok [0,1,4] fun K hK=>?_
   simp only[go_sem,qf,qb,qa,qc,qe,qd,reduceIte,reduceCtorEq,cellsGTree,encGClientClient,encGPacket,zb,t5,hz10,hw10,t19];apply hK
   refine rc [0,1,4,8,9] fun K hK=>?_
   obtain⟨r20,hr20,h⟩:=bind_some h;refine za tok 1 ?_;simp only[go_sem,qf,qb,qa,qc,qe,qd,reduceIte,reduceCtorEq,t5,hz10,hw10,t19];refine clN rfl rfl rfl (@id (ACalls qi 97 [.op 0 0 0] [.cells 0 [.int .i64 a0.fself,.int .i64 a0.fserver,.ds true (qh encI a0.fnumbers) (qg a0.fnumbers) false,.ds true (qh encGSchema a0.fschemas) (qg a0.fschemas) false,.int .i64 a0.fid,.int .i64 a0.fwaits,.str a0.fmethod,.int .i64 a0.ft.fKind,.int .i64 a0.ft.fN,.str a0.ft.fS,.ds true (qh encGEntry a0.ft.fEntries) (qg a0.ft.fEntries) false,.ds true (qh encGRaw a0.ft.fRest) (qg a0.ft.fRest) false,.int .i64 x8,.int .i64 a0.fsent.fKind,.int .i64 a0.fsent.fFrom,.int .i64 a0.fsent.fTo,.int .i64 a0.fsent.fID,.int .i64 a0.fsent.fVersion,.str a0.fsent.fMethod,.int .i64 a0.fsent.fErr,.str a0.fsent.fBody,optV encGClientResult a0.fresult],.cells 0 [.int .i64 0,.int .i64 0,.int .i64 0,.int .i64 0,.int .i64 0,.str [],.int .i64 0,.str []]] (fun r' σ'=>r'=.tup [.ds true (qh encB r20.1) (qg r20.1) false,.int .i64 r20.2]∧σ'=[.cells 0 [.int .i64 a0.fself,.int .i64 a0.fserver,.ds true (qh encI a0.fnumbers) (qg a0.fnumbers) false,.ds true (qh encGSchema a0.fschemas) (qg a0.fschemas) false,.int .i64 a0.fid,.int .i64 a0.fwaits,.str a0.fmethod,.int .i64 a0.ft.fKind,.int .i64 a0.ft.fN,.str a0.ft.fS,.ds true (qh encGEntry a0.ft.fEntries) (qg a0.ft.fEntries) false,.ds true (qh encGRaw a0.ft.fRest) (qg a0.ft.fRest) false,.int .i64 x8,.int .i64 a0.fsent.fKind,.int .i64 a0.fsent.fFrom,.int .i64 a0.fsent.fTo,.int .i64 a0.fsent.fID,.int .i64 a0.fsent.fVersion,.str a0.fsent.fMethod,.int .i64 a0.fsent.fErr,.str a0.fsent.fBody,optV encGClientResult a0.fresult],.cells 0 [.int .i64 0,.int .i64 0,.int .i64 0,.int .i64 0,.int .i64 0,.str [],.int .i64 0,.str []]])) ((xH.ok (⟨a0.fself,a0.fserver,a0.fnumbers,a0.fschemas,a0.fid,a0.fwaits,a0.fmethod,a0.ft,x8,a0.fsent,a0.fresult⟩:GClientClient) r20 hr20).i [0])) ?_;refine za tok 5 ?_;simp only[go_sem,qf,qb,qa,qc,qe,qd,reduceIte,reduceCtorEq,t5,hz10,hw10,t19];refine nkN hK ?_
   refine zd fun Z21 hZ21=>?_
   refine rg tok [0,1,4,8,9,39] fun K hK=>?_
   simp only[go_sem,qf,qb,qa,qc,qe,qd,reduceIte,reduceCtorEq,zn,t5,hz10,hw10,t19];apply hK
   refine zM rfl (fun hc22=>?_) (fun hc22=>?_)
   · rw[if_neg hc22] at h;have t23:=eq_false hc22
     refine rc [4] fun K hK=>?_
     obtain⟨r24,hr24,h⟩:=zB h;refine za tok 3 ?_;simp only[go_sem,qf,qb,qa,qc,qe,qd,reduceIte,reduceCtorEq,t5,hz10,hw10,t19,t23];refine clN rfl rfl rfl (ACalls.loose (@id (ACalls qi 64 [.op 0 0 0,.agg [.int .i64 0,.int .i64 0,.str [],.ds true (qh encGEntry ([]:List GEntry)) (qg ([]:List GEntry)) false,.ds true (qh encGRaw ([]:List GRaw)) (qg ([]:List GRaw)) false],.int .i64 r20.2] [.cells 0 [.int .i64 a0.fself,.int .i64 a0.fserver,.ds true (qh encI a0.fnumbers) (qg a0.fnumbers) false,.ds true (qh encGSchema a0.fschemas) (qg a0.fschemas) false,.int .i64 a0.fid,.int .i64 a0.fwaits,.str a0.fmethod,.int .i64 a0.ft.fKind,.int .i64 a0.ft.fN,.str a0.ft.fS,.ds true (qh encGEntry a0.ft.fEntries) (qg a0.ft.fEntries) false,.ds true (qh encGRaw a0.ft.fRest) (qg a0.ft.fRest) false,.int .i64 x8,.int .i64 a0.fsent.fKind,.int .i64 a0.fsent.fFrom,.int .i64 a0.fsent.fTo,.int .i64 a0.fsent.fID,.int .i64 a0.fsent.fVersion,.str a0.fsent.fMethod,.int .i64 a0.fsent.fErr,.str a0.fsent.fBody,optV encGClientResult a0.fresult],.cells 0 [.int .i64 0,.int .i64 0,.int .i64 0,.int .i64 0,.int .i64 0,.str [],.int .i64 0,.str []]] (fun r' σ'=>r'=.tup []∧σ'=[.cells 0 (encGClientClient r24),.cells 0 [.int .i64 0,.int .i64 0,.int .i64 0,.int .i64 0,.int .i64 0,.str [],.int .i64 0,.str []]])) ((z7.ok (⟨a0.fself,a0.fserver,a0.fnumbers,a0.fschemas,a0.fid,a0.fwaits,a0.fmethod,a0.ft,x8,a0.fsent,a0.fresult⟩:GClientClient) (⟨0,0,[],([]:List GEntry),([]:List GRaw)⟩:GTree) r20.2 r24 hr24).i [0]))) ?_;refine nkN hK ?_;apply zI;exact⟨_,_,⟨r24,rfl,rfl,h⟩,.s⟩
   rw[if_pos hc22] at h;have t25:=eq_true hc22;apply zf;apply hZ21
   refine rg tok [0,1,4,8] fun K hK=>?_
   simp only[go_sem,qf,qb,qa,qc,qe,qd,reduceIte,reduceCtorEq,cellsGTree,encGClientClient,encGPacket,zb,t5,hz10,hw10,t19,t25];apply hK
   have f26:=conv_b2s (T:=tab) (src:=48) (dst:=9) rfl rfl rfl rfl rfl rfl r20.1
   refine rd [0,4] fun K hK=>?_
   refine DW.start (T:=tab) [.any,.any,.any,.any,.at [],.any,.any,.any,.at [],.any,.any,.any,.at [],.any,.any,.any,.any,.at [],.any,.at [],.any,.any,.any,.eff] [] ?_;refine DW.runN tok 8 ?_;simp only[go_sem,qf,qb,qa,qc,qe,qd,reduceIte,reduceCtorEq,cellsGTree,encGClientClient,encGPacket,zb,t5,hz10,hw10,t19,t25,f26];refine DW.runN tok 8 ?_;simp only[go_sem,qf,qb,qa,qc,qe,qd,reduceIte,reduceCtorEq,cellsGTree,encGClientClient,encGPacket,zb,t5,hz10,hw10,t19,t25,f26];refine DW.runN tok 8 ?_;simp only[go_sem,qf,qb,qa,qc,qe,qd,reduceIte,reduceCtorEq,cellsGTree,encGClientClient,encGPacket,zb,t5,hz10,hw10,t19,t25,f26];refine DW.fin tok (by decide +kernel) rfl ?_;simp only[zk,zw,zD,xJ,upd,qa,reduceIte,z1,yA];apply hK
   refine rg tok [4,5] fun K hK=>?_
   simp only[go_sem,qf,qb,qa,qc,qe,qd,reduceIte,reduceCtorEq,encGPacket,t5,hz10,hw10,t19,t25];apply hK
   apply zJ;cases h;simp only[wb,ya,yf,yS,exists_eq_left',go_sem,qf,qb,qa,qc,qe,qd,reduceIte,reduceCtorEq,cellsGTree,encGClientClient,encGPacket,zb];refine⟨by decide,by simp,?_,?_⟩
   · first|rfl|(simp only[go_sem,qf,qb,qa,qc,qe,qd,reduceIte,reduceCtorEq,push_cast,if_true,qn,ql,qp,qs,qo,qq,qv,qm,qt,qr,qk,zh,cellsGTree,encGClientClient,encGPacket,zb]<;>rfl)
   first|rfl|(simp only[go_sem,qf,qb,qa,qc,qe,qd,reduceIte,reduceCtorEq,push_cast,if_true,qn,ql,qp,qs,qo,qq,qv,qm,qt,qr,qk,zh,cellsGTree,encGClientClient,encGPacket,zb]<;>rfl)
 rintro _ _ ⟨m0_6,rfl,rfl,h⟩;unfold zz.j7 at h
 refine rg tok [4,5] fun K hK=>?_
 simp only[go_sem,qf,qb,qa,qc,qe,qd,reduceIte,reduceCtorEq,encGPacket,t5];apply hK
 apply zJ;cases h;simp only[wb,ya,yf,yS,exists_eq_left',go_sem,qf,qb,qa,qc,qe,qd,reduceIte,reduceCtorEq,cellsGTree,encGClientClient,encGPacket,zb];refine⟨by decide,by simp,?_,?_⟩
 · first|rfl|(simp only[go_sem,qf,qb,qa,qc,qe,qd,reduceIte,reduceCtorEq,push_cast,if_true,qn,ql,qp,qs,qo,qq,qv,qm,qt,qr,qk,zh,cellsGTree,encGClientClient,encGPacket,zb]<;>rfl)
 first|rfl|(simp only[go_sem,qf,qb,qa,qc,qe,qd,reduceIte,reduceCtorEq,push_cast,if_true,qn,ql,qp,qs,qo,qq,qv,qm,qt,qr,qk,zh,cellsGTree,encGClientClient,encGPacket,zb]<;>rfl)
def xV (a0:GSchema)(a1:List UInt8)(a2:List UInt8):Option (GTree×Int):=
 (zS a0).bind fun r2=>(if r2=0 then bnd (zH a0 a1) fun r6=>(if (!r6.2)=true then some ((⟨0,0,[],([]:List GEntry),([]:List GRaw)⟩:GTree),14) else (zK xl a0 r6.1 a2 1).bind fun r9=>some (r9.1,r9.2)) else some ((⟨0,0,[],([]:List GEntry),([]:List GRaw)⟩:GTree),1))
theorem xV.ok (a0:GSchema)(a1:List UInt8)(a2:List UInt8)(r:GTree×Int)(h:xV a0 a1 a2=some r):ACalls qi 98 [.agg (encGSchema a0),.str a1,.ds true (qh encB a2) (qg a2) false] [] (fun r' _=>r'=.tup [.agg (cellsGTree r.1),.int .i64 r.2]):=by
 refine zj (rs:=[.cell 6 37,.tmp 7]) tok Tryz.func98 rfl Tryz.ntmps98 rfl Tryz.call98 (by simp) ?_;refine zm [(0,.agg (encGSchema a0)),(1,.str a1),(2,.ds true (qh encB a2) (qg a2) false)] ⟨rfl,rfl,rfl,trivial⟩ ?_;unfold xV at h
 refine rg tok [1,2,3,6] fun K hK=>?_
 simp only[go_sem,qf,qb,qa,qc,qe,qd,reduceIte,reduceCtorEq,encGSchema];apply hK
 refine zd fun Z1 hZ1=>?_
 refine rc [1,2,3,6,12] fun K hK=>?_
 obtain⟨r2,hr2,h⟩:=bind_some h;refine za tok 1 ?_;simp only[go_sem,qf,qb,qa,qc,qe,qd,reduceIte,reduceCtorEq,encGSchema];refine clN rfl rfl rfl (zS.ev a0 r2 hr2 _) ?_;refine za tok 1 ?_;simp only[go_sem,qf,qb,qa,qc,qe,qd,reduceIte,reduceCtorEq,zn,encGSchema];refine nkN hK ?_;refine zM rfl (fun hc3=>?_) (fun hc3=>?_)
 · rw[if_neg hc3] at h;have t4:=eq_false hc3
   refine rg tok [6,7] fun K hK=>?_
   simp only[go_sem,qf,qb,qa,qc,qe,qd,reduceIte,reduceCtorEq,cellsGTree,zb,t4];apply hK
   cases h;exact rtA
 rw[if_pos hc3] at h;have t5:=eq_true hc3;apply zf;apply hZ1
 refine rc [2,3,6,8,9] fun K hK=>?_
 obtain⟨r6,hr6,h⟩:=zB h;refine za tok 2 ?_;simp only[go_sem,qf,qb,qa,qc,qe,qd,reduceIte,reduceCtorEq,encGSchema,t5];refine clN rfl rfl rfl (zH.ev a0 a1 r6 hr6 _) ?_;refine za tok 6 ?_;simp only[go_sem,qf,qb,qa,qc,qe,qd,reduceIte,reduceCtorEq,encGMessage,encGSchema,t5];refine nkN hK ?_
 refine zd fun Z7 hZ7=>?_
 refine rg tok [2,3,6,8,21] fun K hK=>?_
 simp only[go_sem,qf,qb,qa,qc,qe,qd,reduceIte,reduceCtorEq,t5];apply hK
 refine zs (b:=(!r6.2)) rfl (fun hc8=>?_) (fun hc8=>?_)
 · rw[if_pos hc8] at h
   refine rg tok [6,7] fun K hK=>?_
   simp only[go_sem,qf,qb,qa,qc,qe,qd,reduceIte,reduceCtorEq,cellsGTree,zb,t5];apply hK
   cases h;exact rtA
 rw[xI hc8] at h;apply zf;apply hZ7
 refine rc [6,7] fun K hK=>?_
 obtain⟨r9,hr9,h⟩:=bind_some h;refine za tok 3 ?_;simp only[go_sem,qf,qb,qa,qc,qe,qd,reduceIte,reduceCtorEq,encGMessage,encGSchema,t5];refine clN rfl rfl rfl (zK.ev xl a0 r6.1 a2 1 r9 hr9 _) ?_;refine za tok 4 ?_;simp only[go_sem,qf,qb,qa,qc,qe,qd,reduceIte,reduceCtorEq,cellsGTree,encGMessage,encGSchema,zb,t5];refine nkN hK ?_;cases h;exact rtA
theorem xV.ev (a0:GSchema)(a1:List UInt8)(a2:List UInt8)(r:GTree×Int)(h:xV a0 a1 a2=some r)(σ:Store):ACalls qi 98 [.agg (encGSchema a0),.str a1,.ds true (qh encB a2) (qg a2) false] σ (fun r' σ'=>r'=.tup [.agg (cellsGTree r.1),.int .i64 r.2]∧σ'=σ):=
 (xV.ok a0 a1 a2 r h).c σ
def we (a0:GClientClient)(a1:List UInt8):Option (GTree×Int):=
 (YD a0.fschemas a0.fagreed).bind fun y1=>(yh a0).bind fun r4=>bnd (ym r4 a0.fmethod) fun r5=>bnd (ym y1 a0.fmethod) fun r6=>(grd (qg a1≤9223372036854775807)).bind fun _u7=>(xV y1 r6.1.fOut a1).bind fun r9=>(if r9.2=0 then (yh a0).bind fun r14=>(yk y1 r14 r6.1.fOut r5.1.fOut).bind fun r15=>(xP r15.1 r9.1).bind fun r16=>some (r16.1,r16.2) else some ((⟨0,0,[],([]:List GEntry),([]:List GRaw)⟩:GTree),r9.2))
end
section
set_option maxRecDepth 4000
set_option maxHeartbeats 1000000
open AM
theorem we.ok (a0:GClientClient)(a1:List UInt8)(r:GTree×Int)(h:we a0 a1=some r):ACalls qi 65 [.op 0 0 0,.str a1] [.cells 0 (encGClientClient a0)] (fun r' σ'=>r'=.tup [.agg (cellsGTree r.1),.int .i64 r.2]∧σ'=[.cells 0 (encGClientClient a0)]):=by
 refine xE [0] (rs:=[.cell 4 37,.tmp 5]) tok Tryz.func65 rfl Tryz.ntmps65 rfl Tryz.call65 (by simp) rfl ?_;refine zm [(0,.op 0 0 0),(1,.str a1)] ⟨rfl,rfl,trivial⟩ ?_;unfold we at h;refine rgN [0,1,4] ?_;obtain⟨y1,hy1,h⟩:=bind_some h;have f2:=E33.idxS hy1;have f3:=E33.loadS rfl rfl hy1
 refine rd [0,1,4,6] fun K hK=>?_
 refine DW.start (T:=tab) [.any,.any,.any,.own 1 [],.any,.any,.any,.own 1 [],.any,.own 1 [],.eff,.eff] [(1,[])] ?_;refine DW.runN tok 8 ?_;simp only[go_sem,qf,qb,qa,qc,qe,qd,reduceIte,reduceCtorEq,encGSchema,f2,f3];refine DW.runN tok 4 ?_;simp only[go_sem,qf,qb,qa,qc,qe,qd,reduceIte,reduceCtorEq,encGSchema,f2,f3];refine DW.fin tok (by decide +kernel) rfl ?_;simp only[zk,zw,zD,xJ,upd,qa,reduceIte,z1,yA];apply hK
 obtain⟨r4,hr4,h⟩:=bind_some h;obtain⟨r5,hr5,h⟩:=zB h
 refine rd [0,1,4,6,7] fun K hK=>?_
 refine DW.start (T:=tab) [.any,.eff,.any,.any,.any,.own 1 [],.eff,.any,.any,.any,.flt,.eff,.any] [(1,[])] ?_;refine DW.runN tok 1 ?_;simp only[go_sem,qf,qb,qa,qc,qe,qd,reduceIte,reduceCtorEq,encGMethod];refine DW.callS rfl rfl rfl (@id (ACalls qi 60 [.op 0 0 0] [.cells 0 (encGClientClient a0),.cells 0 [.int .i64 0,.int .i64 0,.str [],.ds true [] 0 true,.ds true [] 0 true],.cells 0 (encGSchema y1)] (fun r' σ'=>r'=.agg (encGSchema r4)∧σ'=[.cells 0 (encGClientClient a0),.cells 0 [.int .i64 0,.int .i64 0,.str [],.ds true [] 0 true,.ds true [] 0 true],.cells 0 (encGSchema y1)])) ((yh.ok a0 r4 hr4).i [0])) (Zt (by simp only[go_sem,qf,qb,qa,qc,qe,qd,reduceIte,reduceCtorEq])) ?_;refine DW.runN tok 4 ?_;simp only[go_sem,qf,qb,qa,qc,qe,qd,reduceIte,reduceCtorEq,encGMethod];refine DW.call rfl rfl rfl (ym.ev r4 a0.fmethod r5 hr5 _) ?_;refine DW.runN tok 6 ?_;simp only[go_sem,qf,qb,qa,qc,qe,qd,reduceIte,reduceCtorEq,encGMethod];refine DW.fin tok (by decide +kernel) rfl ?_;simp only[zk,zw,zD,xJ,upd,qa,reduceIte,z1,yA];apply hK
 obtain⟨r6,hr6,h⟩:=zB h
 refine rd [0,1,4,6,7,9] fun K hK=>?_
 refine DW.start (T:=tab) [.at [],.any,.any,.any,.at [],.eff,.any,.any,.any,.flt,.eff,.any] [] ?_;refine DW.runN tok 5 ?_;simp only[go_sem,qf,qb,qa,qc,qe,qd,reduceIte,reduceCtorEq,encGMethod,encGSchema];refine DW.call rfl rfl rfl (ym.ev y1 a0.fmethod r6 hr6 _) ?_;refine DW.runN tok 6 ?_;simp only[go_sem,qf,qb,qa,qc,qe,qd,reduceIte,reduceCtorEq,encGMethod,encGSchema];refine DW.fin tok (by decide +kernel) rfl ?_;simp only[zk,zw,zD,xJ,upd,qa,reduceIte,z1,yA];apply hK
 refine rc [0,4,6,7,9,11,12] fun K hK=>?_
 obtain⟨_u7,hu7,h⟩:=bind_some h;have gu7:=wO hu7;have gu7t:=eq_true gu7;have f8:=conv_s2b (T:=tab) (src:=9) (dst:=48) rfl rfl rfl rfl rfl rfl (wO hu7);obtain⟨r9,hr9,h⟩:=bind_some h;refine za tok 5 ?_;simp only[go_sem,qf,qb,qa,qc,qe,qd,reduceIte,reduceCtorEq,encGSchema,gu7t,f8];refine YQ (L:=[(0,.op 0 0 0),(4,.op 1 0 0),(6,.op 2 0 0),(7,.op 3 0 0),(9,.op 4 0 0),(45,.agg (encGSchema y1)),(47,.str r6.1.fOut),(49,.ds true (qh encB a1) (qg a1) false)]) (τ:=[.cells 0 (encGClientClient a0),.cells 0 [.int .i64 0,.int .i64 0,.str [],.ds true [] 0 true,.ds true [] 0 true],.cells 0 (encGSchema y1),.cells 0 [.str r5.1.fName,.str r5.1.fIn,.str r5.1.fOut],.cells 0 [.str r6.1.fName,.str r6.1.fIn,.str r6.1.fOut]]) (.t [0,1,2,3,4] false) ?_;refine clN rfl rfl rfl (xV.ev y1 r6.1.fOut a1 r9 hr9 _) ?_;refine za tok 6 ?_;simp only[go_sem,qf,qb,qa,qc,qe,qd,reduceIte,reduceCtorEq,cellsGTree,encGSchema,zb];refine nkN hK ?_
 refine zd fun Z10 hZ10=>?_
 refine rg tok [0,4,6,7,9,11,12,54] fun K hK=>?_
 simp only[go_sem,qf,qb,qa,qc,qe,qd,reduceIte,reduceCtorEq,zn];apply hK
 refine zM rfl (fun hc11=>?_) (fun hc11=>?_)
 · rw[if_neg hc11] at h;have t12:=eq_false hc11
   refine rg tok [4,5] fun K hK=>?_
   simp only[go_sem,qf,qb,qa,qc,qe,qd,reduceIte,reduceCtorEq,cellsGTree,zb,t12];apply hK
   apply zJ;cases h;simp only[wb,ya,yf,yS,exists_eq_left',go_sem,qf,qb,qa,qc,qe,qd,reduceIte,reduceCtorEq,cellsGTree,encGClientClient,encGPacket,zb];refine⟨by decide,by simp,?_,?_⟩
   · first|rfl|(simp only[go_sem,qf,qb,qa,qc,qe,qd,reduceIte,reduceCtorEq,push_cast,if_true,qn,ql,qp,qs,qo,qq,qv,qm,qt,qr,qk,zh,cellsGTree,encGClientClient,encGPacket,zb]<;>rfl)
   first|rfl|(simp only[go_sem,qf,qb,qa,qc,qe,qd,reduceIte,reduceCtorEq,push_cast,if_true,qn,ql,qp,qs,qo,qq,qv,qm,qt,qr,qk,zh,cellsGTree,encGClientClient,encGPacket,zb]<;>rfl)
 rw[if_pos hc11] at h;have t13:=eq_true hc11;apply zf;apply hZ10;obtain⟨r14,hr14,h⟩:=bind_some h;obtain⟨r15,hr15,h⟩:=bind_some h
 refine rd [4,11,13] fun K hK=>?_
 refine DW.start (T:=tab) [.own 1 [],.any,.eff,.any,.own 1 [],.any,.own 1 [],.eff,.any,.any,.any,.flt,.eff,.any] [(1,[])] ?_;refine DW.runN tok 2 ?_;simp only[go_sem,qf,qb,qa,qc,qe,qd,reduceIte,reduceCtorEq,encGAdaptProgram,encGSchema,t13];refine DW.callS rfl rfl rfl (@id (ACalls qi 60 [.op 0 0 0] [.cells 0 (encGClientClient a0),.cells 0 [.int .i64 0,.int .i64 0,.str [],.ds true [] 0 true,.ds true [] 0 true],.cells 0 (encGSchema y1),.cells 0 [.str r5.1.fName,.str r5.1.fIn,.str r5.1.fOut],.cells 0 [.str r6.1.fName,.str r6.1.fIn,.str r6.1.fOut],.cells 0 (cellsGTree r9.1)] (fun r' σ'=>r'=.agg (encGSchema r14)∧σ'=[.cells 0 (encGClientClient a0),.cells 0 [.int .i64 0,.int .i64 0,.str [],.ds true [] 0 true,.ds true [] 0 true],.cells 0 (encGSchema y1),.cells 0 [.str r5.1.fName,.str r5.1.fIn,.str r5.1.fOut],.cells 0 [.str r6.1.fName,.str r6.1.fIn,.str r6.1.fOut],.cells 0 (cellsGTree r9.1)])) ((yh.ok a0 r14 hr14).i [0])) (Zt (by simp only[go_sem,qf,qb,qa,qc,qe,qd,reduceIte,reduceCtorEq])) ?_;refine DW.runN tok 4 ?_;simp only[go_sem,qf,qb,qa,qc,qe,qd,reduceIte,reduceCtorEq,encGAdaptProgram,encGSchema,t13];refine DW.call rfl rfl rfl (yk.ev y1 r14 r6.1.fOut r5.1.fOut r15 hr15 _) ?_;refine DW.runN tok 6 ?_;simp only[go_sem,qf,qb,qa,qc,qe,qd,reduceIte,reduceCtorEq,encGAdaptProgram,encGSchema,t13];refine DW.fin tok (by decide +kernel) rfl ?_;simp only[zk,zw,zD,xJ,upd,qa,reduceIte,z1,yA];apply hK
 refine rc [4,5] fun K hK=>?_
 obtain⟨r16,hr16,h⟩:=bind_some h;refine za tok 2 ?_;simp only[go_sem,qf,qb,qa,qc,qe,qd,reduceIte,reduceCtorEq,cellsGTree,encGAdaptProgram,zb,t13];refine clN rfl rfl rfl (xP.ev r15.1 r9.1 r16 hr16 _) ?_;refine za tok 4 ?_;simp only[go_sem,qf,qb,qa,qc,qe,qd,reduceIte,reduceCtorEq,cellsGTree,encGAdaptProgram,zb,t13];refine nkN hK ?_;apply zJ;cases h;simp only[wb,ya,yf,yS,exists_eq_left',go_sem,qf,qb,qa,qc,qe,qd,reduceIte,reduceCtorEq,cellsGTree,encGClientClient,encGPacket,zb];refine⟨by decide,by simp,?_,?_⟩
 · first|rfl|(simp only[go_sem,qf,qb,qa,qc,qe,qd,reduceIte,reduceCtorEq,push_cast,if_true,qn,ql,qp,qs,qo,qq,qv,qm,qt,qr,qk,zh,cellsGTree,encGClientClient,encGPacket,zb]<;>rfl)
 first|rfl|(simp only[go_sem,qf,qb,qa,qc,qe,qd,reduceIte,reduceCtorEq,push_cast,if_true,qn,ql,qp,qs,qo,qq,qv,qm,qt,qr,qk,zh,cellsGTree,encGClientClient,encGPacket,zb]<;>rfl)
def zi.j6 (m0_5:GClientClient):Option (GPacket×Bool×GClientClient):=
 some ((⟨0,0,0,0,0,[],0,[]⟩:GPacket),false,m0_5)
def zi.j12 (a0:GClientClient)(a1:GPacket)(x11:Bool):Option (GPacket×Bool×GClientClient):=
 (if x11=true then (if a1.fErr=0 then (we a0 a1.fBody).bind fun r19=>bnd (z7 a0 r19.1 r19.2) fun r20=>(zi.j6 r20) else bnd (z7 a0 (⟨0,0,[],([]:List GEntry),([]:List GRaw)⟩:GTree) a1.fErr) fun r17=>(zi.j6 r17)) else (zi.j6 a0))
def zi.j3 (a0:GClientClient)(a1:GPacket)(x2:Bool):Option (GPacket×Bool×GClientClient):=
 (if x2=true then some ((⟨0,0,0,0,0,[],0,[]⟩:GPacket),false,a0) else (if ((decide (a0.fwaits=1))&&(decide (a1.fKind=2)))=true then (zz a0 a1.fVersion).bind fun r10=>some (r10.1,r10.2.1,r10.2.2) else (if a0.fwaits=2 then (if a1.fKind=4 then (YD a0.fnumbers a0.fagreed).bind fun y23=>(zi.j12 a0 a1 (decide (a1.fVersion=y23))) else (zi.j12 a0 a1 false)) else (zi.j12 a0 a1 false))))
def zi (a0:GClientClient)(a1:GPacket):Option (GPacket×Bool×GClientClient):=
 (if a0.fwaits=0 then (zi.j3 a0 a1 true) else (if a1.fID=a0.fid then (if a1.fTo=a0.fself then (zi.j3 a0 a1 (!(decide (a1.fFrom=a0.fserver)))) else (zi.j3 a0 a1 true)) else (zi.j3 a0 a1 true)))
theorem zi.ok (a0:GClientClient)(a1:GPacket)(r:GPacket×Bool×GClientClient)(h:zi a0 a1=some r):ACalls qi 19 [.op 0 0 0,.agg (encGPacket a1)] [.cells 0 (encGClientClient a0)] (fun r' σ'=>r'=.tup [.agg (encGPacket r.1),.bool r.2.1]∧σ'=[.cells 0 (encGClientClient r.2.2)]):=by
 refine xE [0] (rs:=[.cell 4 43,.tmp 5]) tok Tryz.func19 rfl Tryz.ntmps19 rfl Tryz.call19 (by simp) rfl ?_;refine zm [(0,.op 0 0 0),(1,.agg (encGPacket a1))] ⟨rfl,rfl,trivial⟩ ?_;unfold zi at h
 refine rg tok [0,3,4] fun K hK=>?_
 simp only[go_sem,qf,qb,qa,qc,qe,qd,reduceIte,reduceCtorEq,encGPacket];apply hK
 refine zd fun Z1 hZ1=>?_
 refine yR (fun L τ=>∃ (x2:Bool),L=[(0,.op 0 0 0),(3,.op 1 0 0),(4,.op 2 0 0),(37,.bool x2)]∧τ=[.cells 0 (encGClientClient a0),.cells 0 (encGPacket a1),.cells 0 [.int .i64 0,.int .i64 0,.int .i64 0,.int .i64 0,.int .i64 0,.str [],.int .i64 0,.str []]]∧zi.j3 a0 a1 x2=some r) ?_ ?_
 · refine rdE [0,3,4,37] fun K hK=>?_
   refine DW.start (T:=tab) [.any,.any,.any,.at [],.any,.any,.any,.at [],.any,.any,.any,.at [],.any,.any,.any,.any,.at [],.any,.any,.any,.at [],.any,.any,.any,.any,.at [],.any,.any,.any,.at [],.any,.any] [] ?_;refine DW.runN tok 6 ?_;simp only[go_sem,qf,qb,qa,qc,qe,qd,reduceIte,reduceCtorEq,zn]
   refine DW.if 11 rfl (fun hg11=>?_) (fun hg11=>?_)
   · rw[if_pos hg11] at h;have t28:=eq_true hg11;refine DW.runN tok 8 ?_;simp only[go_sem,qf,qb,qa,qc,qe,qd,reduceIte,reduceCtorEq,zn,t28];refine DW.runN tok 8 ?_;simp only[go_sem,qf,qb,qa,qc,qe,qd,reduceIte,reduceCtorEq,zn,t28];refine DW.runN tok 8 ?_;simp only[go_sem,qf,qb,qa,qc,qe,qd,reduceIte,reduceCtorEq,t28];refine DW.runN tok 2 ?_;simp only[go_sem,qf,qb,qa,qc,qe,qd,reduceIte,reduceCtorEq,zn,t28];refine DW.fin tok (by decide +kernel) rfl ?_;simp only[zk,zw,zD,xJ,upd,qa,reduceIte,z1,yA];apply hK
     exact⟨_,_,⟨true,rfl,rfl,h⟩,.s⟩
   rw[if_neg hg11] at h;have t29:=eq_false hg11;refine DW.runN tok 8 ?_;simp only[go_sem,qf,qb,qa,qc,qe,qd,reduceIte,reduceCtorEq,zn,t29];refine DW.runN tok 1 ?_;simp only[go_sem,qf,qb,qa,qc,qe,qd,reduceIte,reduceCtorEq,t29]
   refine DW.if 20 rfl (fun hg20=>?_) (fun hg20=>?_)
   · rw[if_neg hg20] at h;have t30:=eq_false hg20;refine DW.runN tok 8 ?_;simp only[go_sem,qf,qb,qa,qc,qe,qd,reduceIte,reduceCtorEq,zn,t29,t30];refine DW.runN tok 8 ?_;simp only[go_sem,qf,qb,qa,qc,qe,qd,reduceIte,reduceCtorEq,zn,t29,t30];refine DW.runN tok 1 ?_;simp only[go_sem,qf,qb,qa,qc,qe,qd,reduceIte,reduceCtorEq,t29,t30];refine DW.fin tok (by decide +kernel) rfl ?_;simp only[zk,zw,zD,xJ,upd,qa,reduceIte,z1,yA];apply hK
     exact⟨_,_,⟨true,rfl,rfl,h⟩,.s⟩
   rw[if_pos hg20] at h;have t31:=eq_true hg20;refine DW.runN tok 8 ?_;simp only[go_sem,qf,qb,qa,qc,qe,qd,reduceIte,reduceCtorEq,zn,t29,t31];refine DW.runN tok 1 ?_;simp only[go_sem,qf,qb,qa,qc,qe,qd,reduceIte,reduceCtorEq,t29,t31]
   refine DW.if 29 rfl (fun hg29=>?_) (fun hg29=>?_)
   · rw[if_neg hg29] at h;have t32:=eq_false hg29;refine DW.runN tok 8 ?_;simp only[go_sem,qf,qb,qa,qc,qe,qd,reduceIte,reduceCtorEq,zn,t29,t31,t32];refine DW.fin tok (by decide +kernel) rfl ?_;simp only[zk,zw,zD,xJ,upd,qa,reduceIte,z1,yA];apply hK
     exact⟨_,_,⟨true,rfl,rfl,h⟩,.s⟩
   rw[if_pos hg29] at h;have t33:=eq_true hg29;refine DW.runN tok 8 ?_;simp only[go_sem,qf,qb,qa,qc,qe,qd,reduceIte,reduceCtorEq,zn,t29,t31,t33];refine DW.fin tok (by decide +kernel) rfl ?_;simp only[zk,zw,zD,xJ,upd,qa,reduceIte,z1,yA];apply hK
   exact⟨_,_,⟨!(decide (a1.fFrom=a0.fserver)),rfl,rfl,h⟩,.s⟩
 rintro _ _ ⟨x2,rfl,rfl,h⟩;unfold zi.j3 at h;refine zs (b:=x2) rfl (fun hc4=>?_) (fun hc4=>?_)
 · rw[if_pos hc4] at h
   refine rg tok [4,5] fun K hK=>?_
   simp only[go_sem,qf,qb,qa,qc,qe,qd,reduceIte,reduceCtorEq,encGPacket];apply hK
   apply zJ;cases h;simp only[wb,ya,yf,yS,exists_eq_left',go_sem,qf,qb,qa,qc,qe,qd,reduceIte,reduceCtorEq,cellsGTree,encGClientClient,encGPacket,zb];refine⟨by decide,by simp,?_,?_⟩
   · first|rfl|(simp only[go_sem,qf,qb,qa,qc,qe,qd,reduceIte,reduceCtorEq,push_cast,if_true,qn,ql,qp,qs,qo,qq,qv,qm,qt,qr,qk,zh,cellsGTree,encGClientClient,encGPacket,zb]<;>rfl)
   first|rfl|(simp only[go_sem,qf,qb,qa,qc,qe,qd,reduceIte,reduceCtorEq,push_cast,if_true,qn,ql,qp,qs,qo,qq,qv,qm,qt,qr,qk,zh,cellsGTree,encGClientClient,encGPacket,zb]<;>rfl)
 rw[xI hc4] at h;apply zf;apply hZ1;refine yR (fun L τ=>∃ (m0_5:GClientClient),L=[(4,.op 1 0 0)]∧τ=[.cells 0 (encGClientClient m0_5),.cells 0 [.int .i64 0,.int .i64 0,.int .i64 0,.int .i64 0,.int .i64 0,.str [],.int .i64 0,.str []]]∧zi.j6 m0_5=some r) ?_ ?_
 · apply zg
   refine rc [0,3,4,39] fun K hK=>?_
   refine za tok 6 ?_;simp only[go_sem,qf,qb,qa,qc,qe,qd,reduceIte,reduceCtorEq,zn];refine zl 4 (fun L τ=>L=[(0,.op 0 0 0),(3,.op 1 0 0),(4,.op 2 0 0),(49,.bool ((decide (a0.fwaits=1))&&(decide (a1.fKind=2))))]∧τ=[.cells 0 (encGClientClient a0),.cells 0 (encGPacket a1),.cells 0 [.int .i64 0,.int .i64 0,.int .i64 0,.int .i64 0,.int .i64 0,.str [],.int .i64 0,.str []]]) ?_ ?_
   · refine yQ 45 rfl (fun hg45=>?_) (fun hg45=>?_)
     · have t7:=eq_true hg45;refine za tok 4 ?_;simp only[go_sem,qf,qb,qa,qc,qe,qd,reduceIte,reduceCtorEq,zn];refine ze ⟨rfl,_,_,⟨rfl,rfl⟩,.p t7⟩
     have t8:=eq_false hg45;refine za tok 4 ?_;simp only[go_sem,qf,qb,qa,qc,qe,qd,reduceIte,reduceCtorEq,zn];refine ze ⟨rfl,_,_,⟨rfl,rfl⟩,.p t8⟩
   rintro _ _ ⟨rfl,rfl⟩;refine rnN 1 ?_;refine nkN hK ?_;refine zs (b:=((decide (a0.fwaits=1))&&(decide (a1.fKind=2)))) rfl (fun hc9=>?_) (fun hc9=>?_)
   · rw[if_pos hc9] at h
     refine rc [4,5] fun K hK=>?_
     obtain⟨r10,hr10,h⟩:=bind_some h;refine rnN 3 ?_;refine clN rfl rfl rfl (@id (ACalls qi 63 [.op 0 0 0,.int .i64 a1.fVersion] [.cells 0 (encGClientClient a0),.cells 0 (encGPacket a1),.cells 0 [.int .i64 0,.int .i64 0,.int .i64 0,.int .i64 0,.int .i64 0,.str [],.int .i64 0,.str []]] (fun r' σ'=>r'=.tup [.agg (encGPacket r10.1),.bool r10.2.1]∧σ'=[.cells 0 (encGClientClient r10.2.2),.cells 0 (encGPacket a1),.cells 0 [.int .i64 0,.int .i64 0,.int .i64 0,.int .i64 0,.int .i64 0,.str [],.int .i64 0,.str []]])) ((zz.ok a0 a1.fVersion r10 hr10).i [0])) ?_;refine za tok 4 ?_;simp only[go_sem,qf,qb,qa,qc,qe,qd,reduceIte,reduceCtorEq,encGPacket];refine nkN hK ?_;apply zJ;cases h;simp only[wb,ya,yf,yS,exists_eq_left',go_sem,qf,qb,qa,qc,qe,qd,reduceIte,reduceCtorEq,cellsGTree,encGClientClient,encGPacket,zb];refine⟨by decide,by simp,?_,?_⟩
     · first|rfl|(simp only[go_sem,qf,qb,qa,qc,qe,qd,reduceIte,reduceCtorEq,push_cast,if_true,qn,ql,qp,qs,qo,qq,qv,qm,qt,qr,qk,zh,cellsGTree,encGClientClient,encGPacket,zb]<;>rfl)
     first|rfl|(simp only[go_sem,qf,qb,qa,qc,qe,qd,reduceIte,reduceCtorEq,push_cast,if_true,qn,ql,qp,qs,qo,qq,qv,qm,qt,qr,qk,zh,cellsGTree,encGClientClient,encGPacket,zb]<;>rfl)
   rw[xI hc9] at h;refine yR (fun L τ=>∃ (x11:Bool),L=[(0,.op 0 0 0),(3,.op 1 0 0),(4,.op 2 0 0),(56,.bool x11)]∧τ=[.cells 0 (encGClientClient a0),.cells 0 (encGPacket a1),.cells 0 [.int .i64 0,.int .i64 0,.int .i64 0,.int .i64 0,.int .i64 0,.str [],.int .i64 0,.str []]]∧zi.j12 a0 a1 x11=some r) ?_ ?_
   · refine rdE [0,3,4,56] fun K hK=>?_
     refine DW.start (T:=tab) [.any,.any,.any,.at [],.any,.any,.any,.at [],.any,.any,.any,.any,.at [],.any,.any,.any,.at [],.any,.any,.any,.at [],.any,.at [],.any,.any,.any] [] ?_;refine DW.runN tok 6 ?_;simp only[go_sem,qf,qb,qa,qc,qe,qd,reduceIte,reduceCtorEq,zn]
     refine DW.if 62 rfl (fun hg62=>?_) (fun hg62=>?_)
     · rw[if_pos hg62] at h;have t21:=eq_true hg62;refine DW.runN tok 5 ?_;simp only[go_sem,qf,qb,qa,qc,qe,qd,reduceIte,reduceCtorEq,zn,t21]
       refine DW.if 67 rfl (fun hg67=>?_) (fun hg67=>?_)
       · rw[if_pos hg67] at h;have t22:=eq_true hg67;obtain⟨y23,hy23,h⟩:=bind_some h;have f24:=E26.idxS hy23;have f25:=E26.fldS0 (f:=3) rfl rfl hy23;refine DW.runN tok 8 ?_;simp only[go_sem,qf,qb,qa,qc,qe,qd,reduceIte,reduceCtorEq,encI,t21,t22,f24,f25];refine DW.runN tok 7 ?_;simp only[go_sem,qf,qb,qa,qc,qe,qd,reduceIte,reduceCtorEq,zn,encI,t21,t22,f24,f25];refine DW.fin tok (by decide +kernel) rfl ?_;simp only[zk,zw,zD,xJ,upd,qa,reduceIte,z1,yA];apply hK
         exact⟨_,_,⟨decide (a1.fVersion=y23),rfl,rfl,h⟩,.s⟩
       rw[if_neg hg67] at h;have t26:=eq_false hg67;refine DW.runN tok 8 ?_;simp only[go_sem,qf,qb,qa,qc,qe,qd,reduceIte,reduceCtorEq,t21,t26];refine DW.runN tok 7 ?_;simp only[go_sem,qf,qb,qa,qc,qe,qd,reduceIte,reduceCtorEq,zn,t21,t26];refine DW.fin tok (by decide +kernel) rfl ?_;simp only[zk,zw,zD,xJ,upd,qa,reduceIte,z1,yA];apply hK
       exact⟨_,_,⟨false,rfl,rfl,h⟩,.s⟩
     rw[if_neg hg62] at h;have t27:=eq_false hg62;refine DW.runN tok 8 ?_;simp only[go_sem,qf,qb,qa,qc,qe,qd,reduceIte,reduceCtorEq,zn,t27];refine DW.runN tok 8 ?_;simp only[go_sem,qf,qb,qa,qc,qe,qd,reduceIte,reduceCtorEq,t27];refine DW.runN tok 4 ?_;simp only[go_sem,qf,qb,qa,qc,qe,qd,reduceIte,reduceCtorEq,zn,t27];refine DW.fin tok (by decide +kernel) rfl ?_;simp only[zk,zw,zD,xJ,upd,qa,reduceIte,z1,yA];apply hK
     exact⟨_,_,⟨false,rfl,rfl,h⟩,.s⟩
   rintro _ _ ⟨x11,rfl,rfl,h⟩;unfold zi.j12 at h;refine zs (b:=x11) rfl (fun hc13=>?_) (fun hc13=>?_)
   · rw[if_pos hc13] at h
     refine zd fun Z14 hZ14=>?_
     refine rg tok [0,3,4,84] fun K hK=>?_
     simp only[go_sem,qf,qb,qa,qc,qe,qd,reduceIte,reduceCtorEq,zn];apply hK
     refine zM rfl (fun hc15=>?_) (fun hc15=>?_)
     · rw[if_neg hc15] at h;have t16:=eq_false hc15
       refine rc [4] fun K hK=>?_
       obtain⟨r17,hr17,h⟩:=zB h;refine za tok 4 ?_;simp only[go_sem,qf,qb,qa,qc,qe,qd,reduceIte,reduceCtorEq,t16];refine clN rfl rfl rfl (ACalls.loose (@id (ACalls qi 64 [.op 0 0 0,.agg [.int .i64 0,.int .i64 0,.str [],.ds true (qh encGEntry ([]:List GEntry)) (qg ([]:List GEntry)) false,.ds true (qh encGRaw ([]:List GRaw)) (qg ([]:List GRaw)) false],.int .i64 a1.fErr] [.cells 0 (encGClientClient a0),.cells 0 (encGPacket a1),.cells 0 [.int .i64 0,.int .i64 0,.int .i64 0,.int .i64 0,.int .i64 0,.str [],.int .i64 0,.str []]] (fun r' σ'=>r'=.tup []∧σ'=[.cells 0 (encGClientClient r17),.cells 0 (encGPacket a1),.cells 0 [.int .i64 0,.int .i64 0,.int .i64 0,.int .i64 0,.int .i64 0,.str [],.int .i64 0,.str []]])) ((z7.ok a0 (⟨0,0,[],([]:List GEntry),([]:List GRaw)⟩:GTree) a1.fErr r17 hr17).i [0]))) ?_;refine nkN hK ?_;apply zI;exact⟨_,_,⟨r17,rfl,rfl,h⟩,(.t [0,2] false)⟩
     rw[if_pos hc15] at h;have t18:=eq_true hc15;apply zf;apply hZ14
     refine rcE [4] fun K hK=>?_
     obtain⟨r19,hr19,h⟩:=bind_some h;refine za tok 4 ?_;simp only[go_sem,qf,qb,qa,qc,qe,qd,reduceIte,reduceCtorEq,t18];refine clN rfl rfl rfl (@id (ACalls qi 65 [.op 0 0 0,.str a1.fBody] [.cells 0 (encGClientClient a0),.cells 0 (encGPacket a1),.cells 0 [.int .i64 0,.int .i64 0,.int .i64 0,.int .i64 0,.int .i64 0,.str [],.int .i64 0,.str []]] (fun r' σ'=>r'=.tup [.agg (cellsGTree r19.1),.int .i64 r19.2]∧σ'=[.cells 0 (encGClientClient a0),.cells 0 (encGPacket a1),.cells 0 [.int .i64 0,.int .i64 0,.int .i64 0,.int .i64 0,.int .i64 0,.str [],.int .i64 0,.str []]])) ((we.ok a0 a1.fBody r19 hr19).i [0])) ?_;obtain⟨r20,hr20,h⟩:=zB h;refine za tok 2 ?_;simp only[go_sem,qf,qb,qa,qc,qe,qd,reduceIte,reduceCtorEq,t18];refine clN rfl rfl rfl (@id (ACalls qi 64 [.op 0 0 0,.agg (cellsGTree r19.1),.int .i64 r19.2] [.cells 0 (encGClientClient a0),.cells 0 (encGPacket a1),.cells 0 [.int .i64 0,.int .i64 0,.int .i64 0,.int .i64 0,.int .i64 0,.str [],.int .i64 0,.str []]] (fun r' σ'=>r'=.tup []∧σ'=[.cells 0 (encGClientClient r20),.cells 0 (encGPacket a1),.cells 0 [.int .i64 0,.int .i64 0,.int .i64 0,.int .i64 0,.int .i64 0,.str [],.int .i64 0,.str []]])) ((z7.ok a0 r19.1 r19.2 r20 hr20).i [0])) ?_;refine nkN hK ?_;exact⟨_,_,⟨r20,rfl,rfl,h⟩,(.t [0,2] false)⟩
   rw[xI hc13] at h;apply zf;exact⟨_,_,⟨a0,rfl,rfl,h⟩,(.t [0,2] false)⟩
 rintro _ _ ⟨m0_5,rfl,rfl,h⟩;unfold zi.j6 at h
 refine rg tok [4,5] fun K hK=>?_
 simp only[go_sem,qf,qb,qa,qc,qe,qd,reduceIte,reduceCtorEq,encGPacket];apply hK
 apply zJ;cases h;simp only[wb,ya,yf,yS,exists_eq_left',go_sem,qf,qb,qa,qc,qe,qd,reduceIte,reduceCtorEq,cellsGTree,encGClientClient,encGPacket,zb];refine⟨by decide,by simp,?_,?_⟩
 · first|rfl|(simp only[go_sem,qf,qb,qa,qc,qe,qd,reduceIte,reduceCtorEq,push_cast,if_true,qn,ql,qp,qs,qo,qq,qv,qm,qt,qr,qk,zh,cellsGTree,encGClientClient,encGPacket,zb]<;>rfl)
 first|rfl|(simp only[go_sem,qf,qb,qa,qc,qe,qd,reduceIte,reduceCtorEq,push_cast,if_true,qn,ql,qp,qs,qo,qq,qv,qm,qt,qr,qk,zh,cellsGTree,encGClientClient,encGPacket,zb]<;>rfl)
def xx (a0:GClientClient):Int×GTree×Int×Bool×GClientClient:=
 (match a0.fresult with|.none=>(0,(⟨0,0,[],([]:List GEntry),([]:List GRaw)⟩:GTree),0,false,(⟨a0.fself,a0.fserver,a0.fnumbers,a0.fschemas,a0.fid,a0.fwaits,a0.fmethod,a0.ft,a0.fagreed,a0.fsent,(none:Option GClientResult)⟩:GClientClient))|.some y2=>(y2.fid,y2.ft,y2.ferr,true,(⟨a0.fself,a0.fserver,a0.fnumbers,a0.fschemas,a0.fid,a0.fwaits,a0.fmethod,a0.ft,a0.fagreed,a0.fsent,(some y2)⟩:GClientClient)))
theorem xx.ok (a0:GClientClient)(r:Int×GTree×Int×Bool×GClientClient)(h:xx a0=r):ACalls qi 22 [.op 0 0 0] [.cells 0 (encGClientClient a0)] (fun r' σ'=>r'=.tup [.int .i64 r.1,.agg (cellsGTree r.2.1),.int .i64 r.2.2.1,.bool r.2.2.2.1]∧σ'=[.cells 0 (encGClientClient r.2.2.2.2)]):=by
 refine xE [0] (rs:=[.tmp 2,.cell 3 37,.tmp 4,.tmp 5]) tok Tryz.func22 rfl Tryz.ntmps22 rfl Tryz.call22 (by simp) rfl ?_;refine zm [(0,.op 0 0 0)] ⟨rfl,trivial⟩ ?_;unfold xx at h;refine rgN [0,3] ?_
 refine zd fun Z1 hZ1=>?_
 try simp only[encGClientClient]
 generalize hz2:a0.fresult=z2 at h ⊢
 rcases z2 with _|y2
 · dsimp only at h
   try simp only[vas,var]
   refine rg tok [0,3,10] fun K hK=>?_
   simp only[go_sem,qf,qb,qa,qc,qe,qd,reduceIte,reduceCtorEq,zn];apply hK
   refine zu rfl ?_
   refine rg tok [2,3,4,5] fun K hK=>?_
   simp only[go_sem,qf,qb,qa,qc,qe,qd,reduceIte,reduceCtorEq,cellsGTree,zb];apply hK
   apply zJ;obtain rfl:=h;simp only[wb,ya,yf,yS,exists_eq_left',go_sem,qf,qb,qa,qc,qe,qd,reduceIte,reduceCtorEq,cellsGTree,encGClientClient,encGPacket,zb];refine⟨by decide,by simp,?_,?_⟩
   · first|rfl|(simp only[go_sem,qf,qb,qa,qc,qe,qd,reduceIte,reduceCtorEq,push_cast,if_true,qn,ql,qp,qs,qo,qq,qv,qm,qt,qr,qk,zh,cellsGTree,encGClientClient,encGPacket,zb]<;>rfl)
   first|rfl|(simp only[go_sem,qf,qb,qa,qc,qe,qd,reduceIte,reduceCtorEq,push_cast,if_true,qn,ql,qp,qs,qo,qq,qv,qm,qt,qr,qk,zh,cellsGTree,encGClientClient,encGPacket,zb]<;>rfl)
 dsimp only at h
 try simp only[vas,var]
 refine rg tok [0,3,10] fun K hK=>?_
 simp only[go_sem,qf,qb,qa,qc,qe,qd,reduceIte,reduceCtorEq,zn];apply hK
 refine zo rfl ?_;apply zf;apply hZ1
 refine rd [2,3,4,5] fun K hK=>?_
 refine DW.start (T:=tab) [.any,.any,.any,.at [],.any,.any,.at [],.any,.any,.any,.at [],.any,.any,.at [],.any,.any,.any,.own 1 [1],.any,.any,.own 1 [1],.any,.eff,.any,.any] [(1,[1])] ?_;refine DW.runN tok 8 ?_;simp only[go_sem,qf,qb,qa,qc,qe,qd,reduceIte,reduceCtorEq,cellsGTree,encGClientResult,zb,Ze];refine DW.runN tok 8 ?_;simp only[go_sem,qf,qb,qa,qc,qe,qd,reduceIte,reduceCtorEq,cellsGTree,encGClientResult,zb,Ze];refine DW.runN tok 8 ?_;simp only[go_sem,qf,qb,qa,qc,qe,qd,reduceIte,reduceCtorEq,cellsGTree,encGClientResult,zb,Ze];refine DW.runN tok 1 ?_;simp only[go_sem,qf,qb,qa,qc,qe,qd,reduceIte,reduceCtorEq,cellsGTree,encGClientResult,zb,Ze];refine DW.fin tok (by decide +kernel) rfl ?_;simp only[zk,zw,zD,xJ,upd,qa,reduceIte,z1,yA];apply hK
 apply zJ;obtain rfl:=h;simp only[wb,ya,yf,yS,exists_eq_left',go_sem,qf,qb,qa,qc,qe,qd,reduceIte,reduceCtorEq,cellsGTree,encGClientClient,encGPacket,zb];refine⟨by decide,by simp,?_,?_⟩
 · first|rfl|(simp only[go_sem,qf,qb,qa,qc,qe,qd,reduceIte,reduceCtorEq,push_cast,if_true,qn,ql,qp,qs,qo,qq,qv,qm,qt,qr,qk,zh,cellsGTree,encGClientClient,encGPacket,zb]<;>rfl)
 first|rfl|(simp only[go_sem,qf,qb,qa,qc,qe,qd,reduceIte,reduceCtorEq,push_cast,if_true,qn,ql,qp,qs,qo,qq,qv,qm,qt,qr,qk,zh,cellsGTree,encGClientClient,encGPacket,zb]<;>rfl)
def yU (a0:GClientClient):Bool:=
 !(decide (a0.fwaits=0))
theorem yU.ok (a0:GClientClient)(r:Bool)(h:yU a0=r):ACalls qi 26 [.op 0 0 0] [.cells 0 (encGClientClient a0)] (fun r' σ'=>r'=.bool r∧σ'=[.cells 0 (encGClientClient a0)]):=by
 refine xE [0] (rs:=[.tmp 2]) tok Tryz.func26 rfl Tryz.ntmps26 rfl Tryz.call26 (by simp) rfl ?_;refine zm [(0,.op 0 0 0)] ⟨rfl,trivial⟩ ?_;unfold yU at h;refine rgN [0] ?_
 refine rg tok [2] fun K hK=>?_
 simp only[go_sem,qf,qb,qa,qc,qe,qd,reduceIte,reduceCtorEq,zn];apply hK
 apply zJ;obtain rfl:=h;simp only[wb,ya,yf,yS,exists_eq_left',go_sem,qf,qb,qa,qc,qe,qd,reduceIte,reduceCtorEq,cellsGTree,encGClientClient,encGPacket,zb];refine⟨by decide,by simp,?_,?_⟩
 · first|rfl|(simp only[go_sem,qf,qb,qa,qc,qe,qd,reduceIte,reduceCtorEq,push_cast,if_true,qn,ql,qp,qs,qo,qq,qv,qm,qt,qr,qk,zh,cellsGTree,encGClientClient,encGPacket,zb]<;>rfl)
 first|rfl|(simp only[go_sem,qf,qb,qa,qc,qe,qd,reduceIte,reduceCtorEq,push_cast,if_true,qn,ql,qp,qs,qo,qq,qv,qm,qt,qr,qk,zh,cellsGTree,encGClientClient,encGPacket,zb]<;>rfl)
def xv (a0:GClientClient):GPacket×Bool:=
 (if a0.fwaits=0 then ((⟨0,0,0,0,0,[],0,[]⟩:GPacket),false) else (a0.fsent,true))
theorem xv.ok (a0:GClientClient)(r:GPacket×Bool)(h:xv a0=r):ACalls qi 32 [.op 0 0 0] [.cells 0 (encGClientClient a0)] (fun r' σ'=>r'=.tup [.agg (encGPacket r.1),.bool r.2]∧σ'=[.cells 0 (encGClientClient a0)]):=by
 refine xE [0] (rs:=[.cell 2 43,.tmp 3]) tok Tryz.func32 rfl Tryz.ntmps32 rfl Tryz.call32 (by simp) rfl ?_;refine zm [(0,.op 0 0 0)] ⟨rfl,trivial⟩ ?_;unfold xv at h;refine rgN [0,2] ?_
 refine zd fun Z1 hZ1=>?_
 refine rg tok [0,2,8] fun K hK=>?_
 simp only[go_sem,qf,qb,qa,qc,qe,qd,reduceIte,reduceCtorEq,zn];apply hK
 refine zM rfl (fun hc2=>?_) (fun hc2=>?_)
 · rw[if_pos hc2] at h;have t3:=eq_true hc2
   refine rg tok [2,3] fun K hK=>?_
   simp only[go_sem,qf,qb,qa,qc,qe,qd,reduceIte,reduceCtorEq,encGPacket,t3];apply hK
   apply zJ;obtain rfl:=h;simp only[wb,ya,yf,yS,exists_eq_left',go_sem,qf,qb,qa,qc,qe,qd,reduceIte,reduceCtorEq,cellsGTree,encGClientClient,encGPacket,zb];refine⟨by decide,by simp,?_,?_⟩
   · first|rfl|(simp only[go_sem,qf,qb,qa,qc,qe,qd,reduceIte,reduceCtorEq,push_cast,if_true,qn,ql,qp,qs,qo,qq,qv,qm,qt,qr,qk,zh,cellsGTree,encGClientClient,encGPacket,zb]<;>rfl)
   first|rfl|(simp only[go_sem,qf,qb,qa,qc,qe,qd,reduceIte,reduceCtorEq,push_cast,if_true,qn,ql,qp,qs,qo,qq,qv,qm,qt,qr,qk,zh,cellsGTree,encGClientClient,encGPacket,zb]<;>rfl)
 rw[if_neg hc2] at h;have t4:=eq_false hc2;apply zf;apply hZ1
 refine rg tok [2,3] fun K hK=>?_
 simp only[go_sem,qf,qb,qa,qc,qe,qd,reduceIte,reduceCtorEq,encGPacket,t4];apply hK
 apply zJ;obtain rfl:=h;simp only[wb,ya,yf,yS,exists_eq_left',go_sem,qf,qb,qa,qc,qe,qd,reduceIte,reduceCtorEq,cellsGTree,encGClientClient,encGPacket,zb];refine⟨by decide,by simp,?_,?_⟩
 · first|rfl|(simp only[go_sem,qf,qb,qa,qc,qe,qd,reduceIte,reduceCtorEq,push_cast,if_true,qn,ql,qp,qs,qo,qq,qv,qm,qt,qr,qk,zh,cellsGTree,encGClientClient,encGPacket,zb]<;>rfl)
 first|rfl|(simp only[go_sem,qf,qb,qa,qc,qe,qd,reduceIte,reduceCtorEq,push_cast,if_true,qn,ql,qp,qs,qo,qq,qv,qm,qt,qr,qk,zh,cellsGTree,encGClientClient,encGPacket,zb]<;>rfl)
end
section
set_option maxRecDepth 8000
open Go.RowKit AM
theorem AM.acalls_ptr {P:Program}{T:TT}(hT:TOK P T){f:FuncId}{fn:Func}{c:Code}{n:Nat}{rs:List ResultVar}{args:List AV}{R:AV→Store→Prop}(hf:P.funcs[f]?=some fn)(hb:fn.body=some c)
 (hn:fn.ntmps=n) (hr:fn.results.toList=rs) (hent:∀ vs w,(callFunc f vs).run P w=.ok (.enter f vs) w) (hl:args.length≤n)
 (h:awp P n 0 c (wb T rs fun r σ'=>∃ keep:List Nat,keep.Nodup∧(∀ id∈keep,id<σ'.length)∧R (tell σ' keep true 12 r) (tellS σ' keep true 12)) (fr args) []):
 ACalls P f args [] R:=by
 refine ACalls.told ((wJ (σ:=[]) hT hf hb hn hr hent hl h).mono ?_);rintro r σ' ⟨keep,h1,h2,h3⟩;exact⟨keep,true,12,h1,h2,rfl,h3⟩
theorem AM.ACalls.addDead {P:Program}{f:FuncId}{args:List AV}{σ:Store}{R:AV→Store→Prop}(h:ACalls P f args σ R):ACalls P f args σ fun r σ'=>∃ τ,R r τ∧σ'=τ++[.dead]:=by
 refine⟨h.1,fun E vs hS hl=>(h.2 E vs hS hl).mono ?_⟩;rintro e w ⟨v,r,σ',E1,rfl,rfl,h3,h4,h5,h6⟩
 let E2:Env := { w:=E1.w,st:=E1.st,loc:=E1.loc,n:=E1.n+1 }
 have hx:Ext E1 E2 := {
  os:=rfl
  tape:=rfl
  output:=rfl
  size:=qy _
  shape:=fun _ _ h=>h
  st:=fun _ h=>⟨h,rfl⟩
  n:=Nat.le_succ _
  loc:=fun _ _ ver ob h=>⟨ver,ob,h,qy _,fun _=>rfl⟩
  old:=fun _ _ _=>rfl
  own:=fun id v _ h _=>⟨id,v,h⟩
  stn:=fun _ h=>.inl h }
 refine⟨v,r,_,E2,rfl,rfl,h3.ext hx,?_,h5.trans hx,σ',h6,rfl⟩;refine⟨by simp[h4.len,E2],fun id=>?_,h4.inj,h4.blk,h4.stb,h4.glb⟩;have hl:σ'.length=E1.n:=h4.len
 rcases Nat.lt_trichotomy id σ'.length with hi|hi|hi
 · rw[qQ hi]
   exact (h4.obj id).ext hx rfl fun _ _ _=>rfl
 · subst hi;rw[q7 (qy _),uI];have:=h4.obj σ'.length;rw[ua (qy _)] at this;exact this
 have:=h4.obj id;rw[ua (by omega)] at this;rw[ua (by simp; omega)];exact this
def newV {α:Type}(o:Option α)(id:Nat):AV:=match o with|none=>.nilp|some _=>.op id 0 0
def newO {α:Type}(enc:α→List AV)(o:Option α):AObj:=match o with|none=>.dead|some x=>.cells 0 (enc x)
theorem Xo {α:Type}{id:Nat}:newV (none:Option α) id=.nilp:=rfl
theorem Xn {α:Type}{x:α}{id:Nat}:newV (some x) id=.op id 0 0:=rfl
theorem Xq {α:Type}{enc:α→List AV}:newO enc none=.dead:=rfl
theorem Xp {α:Type}{enc:α→List AV}{x:α}:newO enc (some x)=.cells 0 (enc x):=rfl
def xb (a0:Int)(a1:Int)(a2:List Int)(a3:List GSchema):Option (Option GClientClient×Int):=
 (xd a0 a2 a3).bind fun r2=>(if (((!r2)||(decide (a1<0)))||(decide (255<a1)))=true then some ((none:Option GClientClient),1) else (Xj (qg a2) 8).bind fun _u5=>(Xj (qg a3) 88).bind fun _u7=>some ((some (⟨a0,a1,a2,a3,0,0,[],(⟨0,0,[],([]:List GEntry),([]:List GRaw)⟩:GTree),0,(⟨0,0,0,0,0,[],0,[]⟩:GPacket),(none:Option GClientResult)⟩:GClientClient)),0))
theorem xb.ptr (a0:Int)(a1:Int)(a2:List Int)(a3:List GSchema)(r:Option GClientClient×Int)(h:xb a0 a1 a2 a3=some r):ACalls qi 15 [.int .i64 a0,.int .i64 a1,.ds true (qh encI a2) (qg a2) false,.ds true (qh encGSchema a3) (qg a3) false] [] (fun r' σ'=>(∀ c,r.1=some c→r'=.tup [.op 0 0 0,.int .i64 r.2]∧σ'=[.cells 0 (encGClientClient c)])∧(r.1=none→r'=.tup [.nilp,.int .i64 r.2]∧σ'=[])):=by
 refine acalls_ptr (rs:=[.tmp 8,.tmp 9]) tok Tryz.func15 rfl Tryz.ntmps15 rfl Tryz.call15 (by simp) ?_;refine zm [(0,.int .i64 a0),(1,.int .i64 a1),(2,.ds true (qh encI a2) (qg a2) false),(3,.ds true (qh encGSchema a3) (qg a3) false)] ⟨rfl,rfl,rfl,rfl,trivial⟩ ?_;unfold xb at h
 refine rg tok [0,1,2,3] fun K hK=>?_
 simp only[go_sem,qf,qb,qa,qc,qe,qd,reduceIte,reduceCtorEq];apply hK
 clear hK K
 refine zd fun Z1 hZ1=>?_
 refine rc [0,1,2,3,22] fun K hK=>?_
 obtain⟨r2,hr2,h⟩:=bind_some h;refine za tok 3 ?_;simp only[go_sem,qf,qb,qa,qc,qe,qd,reduceIte,reduceCtorEq];refine xX rfl rfl rfl (xd.ev a0 a2 a3 r2 hr2 _) ?_;rintro _ _ ⟨rfl,rfl⟩;refine za tok 2 ?_;simp only[go_sem,qf,qb,qa,qc,qe,qd,reduceIte,reduceCtorEq];refine zl 3 (fun L τ=>L=([(0,.int .i64 a0),(1,.int .i64 a1),(2,.ds true (qh encI a2) (qg a2) false),(3,.ds true (qh encGSchema a3) (qg a3) false),(18,.bool ((!r2)||(decide (a1<0))))]:List (Nat×AV))∧τ=([]:Store)) ?_ ?_
 · refine zR (b:=(!r2)) 15 rfl (fun hg15=>?_) (fun hg15=>?_)
   · refine za tok 3 ?_;simp only[go_sem,qf,qb,qa,qc,qe,qd,reduceIte,reduceCtorEq,zn];refine ze ⟨rfl,_,_,⟨rfl,rfl⟩,.b hg15⟩
   refine za tok 3 ?_;simp only[go_sem,qf,qb,qa,qc,qe,qd,reduceIte,reduceCtorEq,zn];refine ze ⟨rfl,_,_,⟨rfl,rfl⟩,.b hg15⟩
 rintro _ _ ⟨rfl,rfl⟩;refine za tok 1 ?_;simp only[go_sem,qf,qb,qa,qc,qe,qd,reduceIte,reduceCtorEq];refine zl 3 (fun L τ=>L=([(0,.int .i64 a0),(1,.int .i64 a1),(2,.ds true (qh encI a2) (qg a2) false),(3,.ds true (qh encGSchema a3) (qg a3) false),(22,.bool (((!r2)||(decide (a1<0)))||(decide (255<a1))))]:List (Nat×AV))∧τ=([]:Store)) ?_ ?_
 · refine zR (b:=((!r2)||(decide (a1<0)))) 19 rfl (fun hg19=>?_) (fun hg19=>?_)
   · refine za tok 3 ?_;simp only[go_sem,qf,qb,qa,qc,qe,qd,reduceIte,reduceCtorEq,zn];refine ze ⟨rfl,_,_,⟨rfl,rfl⟩,.b hg19⟩
   refine za tok 3 ?_;simp only[go_sem,qf,qb,qa,qc,qe,qd,reduceIte,reduceCtorEq,zn];refine ze ⟨rfl,_,_,⟨rfl,rfl⟩,.b hg19⟩
 rintro _ _ ⟨rfl,rfl⟩;refine ze ?_;simp only[zk,zw,zD,xJ,upd,qa,reduceIte,z1,yA];apply hK
 clear hK K
 refine zs (b:=(((!r2)||(decide (a1<0)))||(decide (255<a1)))) rfl (fun hc3=>?_) (fun hc3=>?_)
 · rw[if_pos hc3] at h
   refine rg tok [8,9] fun K hK=>?_
   simp only[go_sem,qf,qb,qa,qc,qe,qd,reduceIte,reduceCtorEq];apply hK
   clear hK K
   refine zJ ?_;obtain rfl:=Option.some.inj h;simp only[wb,ya,yf,yS,exists_eq_left',go_sem,qf,qb,qa,qc,qe,qd,reduceIte,reduceCtorEq];exact⟨[],List.nodup_nil,(fun _ h=>by cases h),(fun c hc=>by cases hc),by (first|rfl|(simp only[go_sem,qf,qb,qa,qc,qe,qd,reduceIte,reduceCtorEq,push_cast,zh]; done)|(simp only[go_sem,qf,qb,qa,qc,qe,qd,reduceIte,reduceCtorEq,push_cast,zh,encB,encI,encS]; rfl)),by rfl⟩
 rw[xI hc3] at h;refine zf ?_;apply hZ1
 have f4:=fun nl tt σ=>wx E26.len a2 nl tt σ
 obtain⟨_u5,hu5,h⟩:=bind_some h;have gu5:=yI hu5
 have f6:=fun nl tt σ=>wx E33.len a3 nl tt σ
 obtain⟨_u7,hu7,h⟩:=bind_some h;have gu7:=yI hu7
 refine rg tok [8,9] fun K hK=>?_
 simp only[go_sem,qf,qb,qa,qc,qe,qd,reduceIte,reduceCtorEq,yv,yb,yx,true_and,cellsGTree,encGClientClient,encGPacket,encGSchema,zb,encI,f4,gu5,f6,gu7,YZ,qV,qT,AV.one,qG,qm,gt_iff_lt,zF,qA,qB,qL,qF,qJ,qw,qx,qz,ql,qD,qH];apply hK
 clear hK K
 refine yB (L:=[(8,.op 2 0 0),(9,.int .i64 0)]) (τ:=[.cells 0 (qh encI a2),.cells 0 (qh encGSchema a3),.cells 0 [.int .i64 a0,.int .i64 a1,.os true 1 0 0 0 (qg a2) false,.os true 4 1 0 0 (qg a3) false,.int .i64 0,.int .i64 0,.str [],.int .i64 0,.int .i64 0,.str [],.ds true [] 0 true,.ds true [] 0 true,.int .i64 0,.int .i64 0,.int .i64 0,.int .i64 0,.int .i64 0,.int .i64 0,.str [],.int .i64 0,.str [],.nilp]]) .s ?_;refine zJ ?_;obtain rfl:=Option.some.inj h;simp only[wb,ya,yf,yS,exists_eq_left',go_sem,qf,qb,qa,qc,qe,qd,reduceIte,reduceCtorEq]
 exact⟨[2],by decide,by simp,(fun c hc=>by
  cases hc
  exact⟨by (first|rfl|(simp only[go_sem,qf,qb,qa,qc,qe,qd,reduceIte,reduceCtorEq,push_cast,zh]; done)|(simp only[go_sem,qf,qb,qa,qc,qe,qd,reduceIte,reduceCtorEq,push_cast,zh,encB,encI,encS]; rfl)),by (first|rfl|(simp only[go_sem,qf,qb,qa,qc,qe,qd,reduceIte,reduceCtorEq,push_cast,zh]; done)|(simp only[go_sem,qf,qb,qa,qc,qe,qd,reduceIte,reduceCtorEq,push_cast,zh,encB,encI,encS]; rfl))⟩),(fun hc=>by cases hc)⟩
theorem xb.atS (a0:Int)(a1:Int)(a2:List Int)(a3:List GSchema)(c:GClientClient)(e:Int)(h:xb a0 a1 a2 a3=some (some c,e))(σ:Store):ACalls qi 15 [.int .i64 a0,.int .i64 a1,.ds true (qh encI a2) (qg a2) false,.ds true (qh encGSchema a3) (qg a3) false] σ (fun r' σ'=>r'=.tup [.op σ.length 0 0,.int .i64 e]∧σ'=σ++[.cells 0 (encGClientClient c)]):=by
 refine ((xb.ptr a0 a1 a2 a3 (some c,e) h).embed (σ:=σ) [] List.nodup_nil (fun _ h=>by cases h) rfl (xD _ (s:=true) _ (by simp only[push_cast]))).mono ?_;rintro r σ' ⟨r0,τ,⟨h1,_⟩,rfl,rfl⟩;obtain⟨rfl,rfl⟩:=h1 c rfl;exact⟨by simp[AV.ren,renL,Y3],by simp[wZ,renO,xD _ _ (yJ.h (enc:=encGClientClient) true c)]⟩
theorem xb.atN (a0:Int)(a1:Int)(a2:List Int)(a3:List GSchema)(e:Int)(h:xb a0 a1 a2 a3=some (Option.none,e))(σ:Store):ACalls qi 15 [.int .i64 a0,.int .i64 a1,.ds true (qh encI a2) (qg a2) false,.ds true (qh encGSchema a3) (qg a3) false] σ (fun r' σ'=>r'=.tup [.nilp,.int .i64 e]∧σ'=σ):=by
 refine ((xb.ptr a0 a1 a2 a3 (Option.none,e) h).embed (σ:=σ) [] List.nodup_nil (fun _ h=>by cases h) rfl (xD _ (s:=true) _ (by simp only[push_cast]))).mono ?_;rintro r σ' ⟨r0,τ,⟨_,h1⟩,rfl,rfl⟩;obtain⟨rfl,rfl⟩:=h1 rfl;exact⟨by simp[AV.ren,renL],by simp[wZ]⟩
theorem xb.at (a0:Int)(a1:Int)(a2:List Int)(a3:List GSchema)(r:Option GClientClient×Int)(h:xb a0 a1 a2 a3=some r)(σ:Store):ACalls qi 15 [.int .i64 a0,.int .i64 a1,.ds true (qh encI a2) (qg a2) false,.ds true (qh encGSchema a3) (qg a3) false] σ (fun r' σ'=>r'=.tup [newV r.1 σ.length,.int .i64 r.2]∧σ'=σ++[newO encGClientClient r.1]):=by
 obtain⟨o,e⟩:=r
 cases o with
 |none=>
  refine (xb.atN a0 a1 a2 a3 e h σ).addDead.mono ?_;rintro r σ' ⟨τ,⟨rfl,rfl⟩,rfl⟩;exact⟨rfl,rfl⟩
 |some c=>exact xb.atS a0 a1 a2 a3 c e h σ
end
end Go.Proofs.YtaahlckibpiphaaGreatDoor
