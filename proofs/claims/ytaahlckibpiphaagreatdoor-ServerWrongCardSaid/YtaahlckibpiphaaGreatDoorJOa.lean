/- Parts of the proof, cut down to what it needs. -/
import Derived.Test.YtaahlckibpiphaaGreatDoorJFB
import Derived.KernelRfl
import Derived.Test.YtaahlckibpiphaaGreatDoorRows
import Derived.Test.YtaahlckibpiphaaGreatDoorChecked
import Derived.Test.YtaahlckibpiphaaGreatDoorTie
import Derived.ProofKit
import Derived.OpenShut
import Derived.ShutString
import Derived.ChangeOld
import Derived.ChangeSame
import Derived.ChangeVars
import Derived.JoinedOf
import Derived.RowKit
import Derived.LaidLaws
import Derived.LaidHandle
import Derived.Lib.LaidIn
import Derived.Lib.LaidU8T
import Derived.SevenTiedAt
import Derived.Test.YtaahlckibpiphaaGreatDoorJFBa
set_option linter.constructorNameAsVariable false
set_option linter.unusedSimpArgs false
set_option linter.unusedVariables false
namespace Go.Proofs.YtaahlckibpiphaaGreatDoor
open _root_.List renaming length → qa, flatMap → qc, map_nil → qj, map_cons → qn, length_cons → qs, length_nil → qt, drop_zero → qv, map_append → qx, getD_eq_getElem?_getD → qy, length_eq_zero_iff → qC, getElem?_eq_some_iff → qD, length_append → qG, replicate → qH, range_zero → qI, nil_append → qL, getElem?_append_left → qM, cons_append → qN, range_succ → qO, flatMap_cons → qP, getElem?_set_ne → qQ, all_nil → qR, eq_nil_of_length_eq_zero → qS, getElem?_eq_getElem → qU, take_length → qV, all_cons → qX, flatMap_append → qZ, append_nil → q1, length_map → q5, getElem?_set_self → ua, mem_cons_of_mem → ub, flatMap_nil → uc, all_eq_true → ud, append_assoc → ue, getElem?_append_right → uf, take_append_drop → ug, getElem?_eq_none → uh, take_of_length_le → uj, mem_cons → ul, mem_map → uo, getElem?_cons_zero → ur, getElem?_cons_succ → ut, range → uw, set_cons_zero → ux, set_cons_succ → uy, ext_getElem? → uD, mem_append_left → uH, getElem?_toArray → uM, length_take → uN, nodup_cons → uP, map_congr_left → uQ, drop_drop → uS, getElem?_map → uT
open _root_.Option renaming map_some → uq, getD_some → uz, bind_some → uA
open _root_.Nat renaming reduceEqDiff → qb, reduceLT → qd, reduceAdd → qe, reduceLeDiff → qf, reduceMul → qi, zero_add → qk, reduceSub → qm, le_refl → qu, lt_succ_self → qw, reduceMod → qT, mul_le_mul_right → qY, lt_of_lt_of_le → q3, zero_mul → q9, zero_le → uu, sub_zero → uE, add_zero → uF, succ_mul → uI, sub_self → uJ, le_trans → uK, lt_or_ge → uO, add_mul → uR
open _root_.Bool renaming or_true → qo, not_false → qp, not_true → qq, and_false → qr, and_true → qz, and_self → qB, or_false → qE, and_eq_true → qJ, false_eq_true → q2, or_eq_true → um, true_or → uC, false_or → uU
open _root_.Int renaming toNat → qK, toNat_natCast → uG
open _root_.BitVec renaming ofInt → qF, toNat → ui
open _root_.Array renaming length_toList → qW, getD_eq_getD_getElem? → uk, getElem?_eq_getElem → un, getElem?_setIfInBounds_ne → uB, getElem?_modify → uL, replicate → uV
open _root_.UInt8 renaming ofNat → uv
open Result renaming andThen_ok → qh
open Sem renaming run_bind → ql, run_pure → qA
open _root_.Go.Proofs.Tryz renaming prog → qg
section
set_option maxRecDepth 4000
set_option maxHeartbeats 1000000
open AM
def yB.l4 (a1:Int):List Int→Int→Int
 |[],x2=>(-1)
 |y4::q4,x2=>(if a1=y4 then x2 else ((yB.l4 a1 q4) (x2+1)))
def yB (a0:List Int)(a1:Int):Int:=
 (yB.l4 a1 a0 0)
theorem yB.ok (a0:List Int)(a1:Int)(r:Int)(h:yB a0 a1=r):ACalls qg 174 [.ds true (qc encI a0) (qa a0) false,.int .i64 a1] [] (fun r' _=>r'=.int .i64 r):=by
 refine zf (rs:=[.tmp 4]) tok Tryz.func174 rfl Tryz.ntmps174 rfl Tryz.call174 (by simp) ?_;refine zk [(0,.ds true (qc encI a0) (qa a0) false),(1,.int .i64 a1)] ⟨rfl,rfl,trivial⟩ ?_;unfold yB at h;refine rgN [0,1] ?_
 refine za fun Z1 hZ1=>?_
 refine rgN [0,1,7,8] ?_;apply ze
 refine yl 0 fun hb4=>?_
 replace hb4:qa a0≤9223372036854775807:=hb4.1;refine zN (fun m L τ=>∃ (p4 q4:List Int) (x2:Int),m=qa q4∧L=[(0,.ds true (qc encI a0) (qa a0) false),(1,.int .i64 a1),(7,.int .i64 (qa a0:Int)),(8,.int .i64 x2)]∧τ=[]∧a0=p4++q4∧x2=(qa p4:Int)∧yB.l4 a1 q4 x2=r) _ ⟨[],a0,0,rfl,rfl,rfl,rfl,rfl,h⟩ .s ?_;rintro m L τ ⟨p4,q4,x2,rfl,rfl,rfl,hE4,hi4,h⟩
 rcases q4 with _|⟨y4,q4⟩
 · have hz4:=yJ hE4 hi4;simp only[yB.l4] at h
   refine rg tok [0,1,7,8,9] fun K hK=>?_
   simp only[go_sem,qd,qb,reduceCtorEq,hz4];apply hK
   refine za fun Z5 hZ5=>?_
   refine zp rfl ?_;apply zI;apply hZ1;refine rgN [4] ?_;cases h;exact rtA
 obtain⟨hz4,hw4,hx4,hE'4,hi'4⟩:=yk hE4 hi4 hb4;simp only[yB.l4] at h
 refine rg tok [0,1,7,8,9] fun K hK=>?_
 simp only[go_sem,qd,qb,reduceCtorEq,hz4];apply hK
 refine za fun Z6 hZ6=>?_
 refine zq rfl ?_;apply zd;apply hZ6
 refine za fun Z7 hZ7=>?_
 apply ze;refine rgN [0,1,5,7,8] ?_;have f8:=E26.idxS hx4;have f9:=E26.fldS0 (f:=3) rfl rfl hx4
 refine rg tok [0,1,5,7,8,16] fun K hK=>?_
 simp only[go_sem,qd,qb,reduceCtorEq,encI,f8,f9];apply hK
 refine zF rfl (fun hc10=>?_) (fun hc10=>?_)
 · rw[if_pos hc10] at h;have t11:=eq_true hc10
   refine rg tok [4] fun K hK=>?_
   simp only[go_sem,qd,qb,reduceCtorEq,t11];apply hK
   cases h;exact rtA
 rw[if_neg hc10] at h;have t12:=eq_false hc10;apply zd;apply hZ7
 refine rgE tok [0,1,7,8] fun K hK=>?_
 simp only[go_sem,qd,qb,reduceCtorEq,hw4,t12];apply hK
 exact⟨_,_,_,qw q4.length,⟨p4++[y4],q4,x2+1,rfl,rfl,rfl,hE'4,hi'4,h⟩,.s⟩
theorem yB.ev (a0:List Int)(a1:Int)(r:Int)(h:yB a0 a1=r)(σ:Store):ACalls qg 174 [.ds true (qc encI a0) (qa a0) false,.int .i64 a1] σ (fun r' σ'=>r'=.int .i64 r∧σ'=σ):=
 (yB.ok a0 a1 r h).c σ
def xZ (a0:GServerServer)(a1:GPacket):Option (Zb×Int):=
 bnd (yB a0.fnumbers a1.fVersion) fun r1=>(if r1<0 then some ((⟨(⟨[],([]:List GMessage),([]:List GEnumeration),([]:List GMethod)⟩:GSchema),(⟨[],[],[]⟩:GMethod),(⟨[],[],[]⟩:GMethod),(⟨0,0,[],([]:List GEntry),([]:List GRaw)⟩:GTree)⟩:Zb),18) else (YS a0.fschemas (IntKind.i64.wrap ((qa a0.fschemas:Int)-1))).bind fun y6=>(YS a0.fschemas r1).bind fun y9=>bnd (yT y9 a1.fMethod) fun r12=>bnd (yT y6 a1.fMethod) fun r13=>(if ((!r12.2)||(!r13.2))=true then some ((⟨(⟨[],([]:List GMessage),([]:List GEnumeration),([]:List GMethod)⟩:GSchema),(⟨[],[],[]⟩:GMethod),(⟨[],[],[]⟩:GMethod),(⟨0,0,[],([]:List GEntry),([]:List GRaw)⟩:GTree)⟩:Zb),21) else (grd (qa a1.fBody≤9223372036854775807)).bind fun _u16=>(wk y9 r12.1.fIn a1.fBody).bind fun r18=>(if r18.2=0 then (yx y9 y6 r12.1.fIn r13.1.fIn).bind fun r23=>(wN r23.1 r18.1).bind fun r24=>some ((⟨y9,r13.1,r12.1,r24.1⟩:Zb),r24.2) else some ((⟨(⟨[],([]:List GMessage),([]:List GEnumeration),([]:List GMethod)⟩:GSchema),(⟨[],[],[]⟩:GMethod),(⟨[],[],[]⟩:GMethod),(⟨0,0,[],([]:List GEntry),([]:List GRaw)⟩:GTree)⟩:Zb),r18.2))))
theorem xZ.ok (a0:GServerServer)(a1:GPacket)(r:Zb×Int)(h:xZ a0 a1=some r):ACalls qg 133 [.op 0 0 0,.agg (encGPacket a1)] [.cells 0 [.int .i64 a0.fself,.ds true (qc encI a0.fnumbers) (qa a0.fnumbers) false,.ds true (qc encGSchema a0.fschemas) (qa a0.fschemas) false,.str a0.fnewest.fName,.ds true (qc encGMessage a0.fnewest.fMessages) (qa a0.fnewest.fMessages) false,.ds true (qc encGEnumeration a0.fnewest.fEnums) (qa a0.fnewest.fEnums) false,.ds true (qc encGMethod a0.fnewest.fMethods) (qa a0.fnewest.fMethods) false,.ds true (qc encGRow a0.frows) (qa a0.frows) false,.op 1 0 0,.os true 8 5 (a0.veffects) 0 (qa a0.feffects) false],.cells 0 [.int .i64 a0.fcache.fsize,.os true 2 2 (a0.fcache.vorder) 0 (qa a0.fcache.forder) false,.mp 3,.mp 4],.cells (a0.fcache.vorder) (qc encGDedupKey a0.fcache.forder),.map (zR kvGDedupKey kvGPacket a0.fcache.freplies.l) (some (a0.fcache.freplies.bs,a0.fcache.freplies.ck)),.map (zR (AV.int .i64) (AV.int .i64) a0.fcache.flast.l) (some (a0.fcache.flast.bs,a0.fcache.flast.ck)),.cells (a0.veffects) (qc encGServerEffect a0.feffects)] (fun r' σ'=>r'=.tup [.agg (encGServerWork r.1),.int .i64 r.2]∧σ'=[.cells 0 [.int .i64 a0.fself,.ds true (qc encI a0.fnumbers) (qa a0.fnumbers) false,.ds true (qc encGSchema a0.fschemas) (qa a0.fschemas) false,.str a0.fnewest.fName,.ds true (qc encGMessage a0.fnewest.fMessages) (qa a0.fnewest.fMessages) false,.ds true (qc encGEnumeration a0.fnewest.fEnums) (qa a0.fnewest.fEnums) false,.ds true (qc encGMethod a0.fnewest.fMethods) (qa a0.fnewest.fMethods) false,.ds true (qc encGRow a0.frows) (qa a0.frows) false,.op 1 0 0,.os true 8 5 (a0.veffects) 0 (qa a0.feffects) false],.cells 0 [.int .i64 a0.fcache.fsize,.os true 2 2 (a0.fcache.vorder) 0 (qa a0.fcache.forder) false,.mp 3,.mp 4],.cells (a0.fcache.vorder) (qc encGDedupKey a0.fcache.forder),.map (zR kvGDedupKey kvGPacket a0.fcache.freplies.l) (some (a0.fcache.freplies.bs,a0.fcache.freplies.ck)),.map (zR (AV.int .i64) (AV.int .i64) a0.fcache.flast.l) (some (a0.fcache.flast.bs,a0.fcache.flast.ck)),.cells (a0.veffects) (qc encGServerEffect a0.feffects)]):=by
 refine we [0,1,2,3,4,5] (rs:=[.cell 4 216,.tmp 5]) tok Tryz.func133 rfl Tryz.ntmps133 rfl Tryz.call133 (by simp) rfl ?_;refine zk [(0,.op 0 0 0),(1,.agg (encGPacket a1))] ⟨rfl,rfl,trivial⟩ ?_;unfold xZ at h
 refine rg tok [0,3,4] fun K hK=>?_
 simp only[go_sem,qd,qb,qe,reduceCtorEq,encGPacket];apply hK
 obtain⟨r1,hr1,h⟩:=zH h
 refine rd [0,3,4,6] fun K hK=>?_
 refine DW.start (T:=tab) [.any,.any,.any,.at [],.any,.at [],.eff,.any] [] ?_;refine DW.runN tok 6 ?_;simp only[go_sem,qd,qb,qe,reduceCtorEq];refine DW.call rfl rfl rfl (yB.ev a0.fnumbers a1.fVersion r1 hr1 _) ?_;refine DW.runN tok 1 ?_;simp only[go_sem,qd,qb,reduceCtorEq];refine DW.fin tok (by decide +kernel) rfl ?_;simp only[zn,upd,qb,reduceIte,ym,y1];apply hK
 refine za fun Z2 hZ2=>?_
 refine rgN [0,3,4,6,23] ?_;refine zF rfl (fun hc3=>?_) (fun hc3=>?_)
 · rw[if_pos hc3] at h;have t4:=eq_true hc3
   refine rg tok [4,5] fun K hK=>?_
   simp only[go_sem,qd,qf,qb,qe,reduceCtorEq,t4];apply hK
   apply zE;cases h;simp only[wg,zX,z7,yN,exists_eq_left',go_sem,qf,qb,qe,encGServerWork];refine⟨by decide,by simp,?_,?_⟩
   · first|rfl|(simp only[go_sem,qd,qf,qb,qe,qi,qm,reduceIte,reduceCtorEq,push_cast,if_true,qv,qk,qn,qj,qx,qo,qE,qz,qr,qq,qp,zg,cellsGTree,encGDedupKey,encGMethod,encGSchema,encGServerEffect,encGServerWork,zM]<;>rfl)
   first|rfl|(simp only[go_sem,qb,qe,reduceCtorEq,push_cast,if_true,qk,qn,qj,qo,qr,qq,zg]<;>rfl)
 rw[if_neg hc3] at h;have t5:=eq_false hc3;apply zd;apply hZ2;obtain⟨y6,hy6,h⟩:=bind_some h;have f7:=E33.idxS hy6;have f8:=E33.loadS rfl rfl hy6
 refine rd [0,3,4,6,7] fun K hK=>?_
 refine DW.start (T:=tab) [.any,.any,.any,.own 1 [],.any,.any,.any,.own 1 [],.own 1 [],.any,.any,.own 1 [],.eff,.eff] [(1,[])] ?_;refine DW.runN tok 8 ?_;simp only[go_sem,qd,qb,qe,reduceCtorEq,t5];refine DW.runN tok 6 ?_;simp only[go_sem,qd,qf,qb,qe,reduceCtorEq,encGSchema,f7,f8];refine DW.fin tok (by decide +kernel) rfl ?_;simp only[zn,upd,qb,reduceIte,ym,y1];apply hK
 obtain⟨y9,hy9,h⟩:=bind_some h;have f10:=E33.idxS hy9;have f11:=E33.loadS rfl rfl hy9
 refine rg tok [3,4,7,8] fun K hK=>?_
 simp only[go_sem,qd,qf,qb,qe,reduceCtorEq,encGSchema,f10,f11];apply hK
 refine rgN [3,4,7,8] ?_
 refine rc [3,4,7,8,9] fun K hK=>?_
 obtain⟨r12,hr12,h⟩:=zH h;refine rnN 4 ?_;refine clN rfl rfl rfl (yT.ev y9 a1.fMethod r12 hr12 _) ?_;refine zj tok 6 ?_;simp only[go_sem,qd,qf,qb,qe,encGMethod,encGServerWork];refine nkN hK ?_
 refine rc [3,4,7,8,9,10] fun K hK=>?_
 obtain⟨r13,hr13,h⟩:=zH h;refine rnN 3 ?_;refine clN rfl rfl rfl (yT.ev y6 a1.fMethod r13 hr13 _) ?_;refine zj tok 6 ?_;simp only[go_sem,qd,qf,qb,qe,encGMethod,encGServerWork];refine nkN hK ?_
 refine za fun Z14 hZ14=>?_
 refine rc [3,4,7,8,67] fun K hK=>?_
 refine rnN 3 ?_;refine zo 3 (fun L τ=>L=[(3,.op 6 0 0),(4,.op 7 0 0),(7,.op 8 0 0),(8,.op 9 0 0),(67,.bool ((!r12.2)||(!r13.2)))]∧τ=[.cells 0 [.int .i64 a0.fself,.ds true (qc encI a0.fnumbers) (qa a0.fnumbers) false,.ds true (qc encGSchema a0.fschemas) (qa a0.fschemas) false,.str a0.fnewest.fName,.ds true (qc encGMessage a0.fnewest.fMessages) (qa a0.fnewest.fMessages) false,.ds true (qc encGEnumeration a0.fnewest.fEnums) (qa a0.fnewest.fEnums) false,.ds true (qc encGMethod a0.fnewest.fMethods) (qa a0.fnewest.fMethods) false,.ds true (qc encGRow a0.frows) (qa a0.frows) false,.op 1 0 0,.os true 8 5 (a0.veffects) 0 (qa a0.feffects) false],.cells 0 [.int .i64 a0.fcache.fsize,.os true 2 2 (a0.fcache.vorder) 0 (qa a0.fcache.forder) false,.mp 3,.mp 4],.cells (a0.fcache.vorder) (qc encGDedupKey a0.fcache.forder),.map (zR kvGDedupKey kvGPacket a0.fcache.freplies.l) (some (a0.fcache.freplies.bs,a0.fcache.freplies.ck)),.map (zR (AV.int .i64) (AV.int .i64) a0.fcache.flast.l) (some (a0.fcache.flast.bs,a0.fcache.flast.ck)),.cells (a0.veffects) (qc encGServerEffect a0.feffects),.cells 0 (encGPacket a1),.cells 0 [.str [],.ds true [] 0 true,.ds true [] 0 true,.ds true [] 0 true,.str [],.str [],.str [],.str [],.str [],.str [],.int .i64 0,.int .i64 0,.str [],.ds true [] 0 true,.ds true [] 0 true],.cells 0 (encGSchema y6),.cells 0 [.str y9.fName,.ds true (qc encGMessage y9.fMessages) (qa y9.fMessages) false,.ds true (qc encGEnumeration y9.fEnums) (qa y9.fEnums) false,.ds true (qc encGMethod y9.fMethods) (qa y9.fMethods) false,.str r13.1.fName,.str r13.1.fIn,.str r13.1.fOut,.str r12.1.fName,.str r12.1.fIn,.str r12.1.fOut,.int .i64 0,.int .i64 0,.str [],.ds true [] 0 true,.ds true [] 0 true]]) ?_ ?_
 · refine zP (b:=(!r12.2)) 64 rfl (fun hg64=>?_) (fun hg64=>?_)
   · refine rnN 3 ?_;refine zb ⟨rfl,_,_,⟨rfl,rfl⟩,.b hg64⟩
   refine rnN 3 ?_;refine zb ⟨rfl,_,_,⟨rfl,rfl⟩,.b hg64⟩
 rintro _ _ ⟨rfl,rfl⟩;refine nkN hK ?_;refine zw (b:=((!r12.2)||(!r13.2))) rfl (fun hc15=>?_) (fun hc15=>?_)
 · rw[if_pos hc15] at h;refine rgN [4,5] ?_;apply zE;cases h;simp only[wg,zX,z7,yN,exists_eq_left',go_sem,qf,qb,qe,encGServerWork];refine⟨by decide,by simp,?_,?_⟩
   · first|rfl|(simp only[go_sem,qd,qf,qb,qe,qi,qm,reduceIte,reduceCtorEq,push_cast,if_true,qv,qk,qn,qj,qx,qo,qE,qz,qr,qq,qp,zg,cellsGTree,encGDedupKey,encGMethod,encGSchema,encGServerEffect,encGServerWork,zM]<;>rfl)
   first|rfl|(simp only[go_sem,qb,qe,reduceCtorEq,push_cast,if_true,qk,qn,qj,qo,qr,qq,zg]<;>rfl)
 rw[xU hc15] at h;apply zd;apply hZ14
 refine rc [4,7,8,11,12] fun K hK=>?_
 obtain⟨_u16,hu16,h⟩:=bind_some h;have gu16:=wF hu16;have gu16t:=eq_true gu16;have f17:=conv_s2b (T:=tab) (src:=9) (dst:=48) rfl rfl rfl rfl rfl rfl (wF hu16);obtain⟨r18,hr18,h⟩:=bind_some h;refine zj tok 8 ?_;simp only[go_sem,qd,qf,qb,qe,f17];refine Xb (L:=[(4,.op 6 0 0),(7,.op 7 0 0),(8,.op 8 0 0),(71,.agg (encGSchema y9)),(74,.str r12.1.fIn),(77,.ds true (qc encB a1.fBody) (qa a1.fBody) false)]) (τ:=[.cells 0 [.int .i64 a0.fself,.ds true (qc encI a0.fnumbers) (qa a0.fnumbers) false,.ds true (qc encGSchema a0.fschemas) (qa a0.fschemas) false,.str a0.fnewest.fName,.ds true (qc encGMessage a0.fnewest.fMessages) (qa a0.fnewest.fMessages) false,.ds true (qc encGEnumeration a0.fnewest.fEnums) (qa a0.fnewest.fEnums) false,.ds true (qc encGMethod a0.fnewest.fMethods) (qa a0.fnewest.fMethods) false,.ds true (qc encGRow a0.frows) (qa a0.frows) false,.op 1 0 0,.os true 8 5 (a0.veffects) 0 (qa a0.feffects) false],.cells 0 [.int .i64 a0.fcache.fsize,.os true 2 2 (a0.fcache.vorder) 0 (qa a0.fcache.forder) false,.mp 3,.mp 4],.cells (a0.fcache.vorder) (qc encGDedupKey a0.fcache.forder),.map (zR kvGDedupKey kvGPacket a0.fcache.freplies.l) (some (a0.fcache.freplies.bs,a0.fcache.freplies.ck)),.map (zR (AV.int .i64) (AV.int .i64) a0.fcache.flast.l) (some (a0.fcache.flast.bs,a0.fcache.flast.ck)),.cells (a0.veffects) (qc encGServerEffect a0.feffects),.cells 0 [.str [],.ds true [] 0 true,.ds true [] 0 true,.ds true [] 0 true,.str [],.str [],.str [],.str [],.str [],.str [],.int .i64 0,.int .i64 0,.str [],.ds true [] 0 true,.ds true [] 0 true],.cells 0 (encGSchema y6),.cells 0 [.str y9.fName,.ds true (qc encGMessage y9.fMessages) (qa y9.fMessages) false,.ds true (qc encGEnumeration y9.fEnums) (qa y9.fEnums) false,.ds true (qc encGMethod y9.fMethods) (qa y9.fMethods) false,.str r13.1.fName,.str r13.1.fIn,.str r13.1.fOut,.str r12.1.fName,.str r12.1.fIn,.str r12.1.fOut,.int .i64 0,.int .i64 0,.str [],.ds true [] 0 true,.ds true [] 0 true]]) (.t [0,1,2,3,4,5,7,8,9] false) ?_;refine clN rfl rfl rfl (wk.ev y9 r12.1.fIn a1.fBody r18 hr18 _) ?_;refine zj tok 6 ?_;simp only[go_sem,qd,qf,qb,qe,cellsGTree,encGSchema];refine nkN hK ?_
 refine za fun Z19 hZ19=>?_
 refine rgN [4,7,8,11,12,82] ?_;refine zF rfl (fun hc20=>?_) (fun hc20=>?_)
 · rw[if_neg hc20] at h;have t21:=eq_false hc20
   refine rg tok [4,5] fun K hK=>?_
   simp only[go_sem,qd,qf,qb,qe,t21];apply hK
   apply zE;cases h;simp only[wg,zX,z7,yN,exists_eq_left',go_sem,qf,qb,qe,encGServerWork];refine⟨by decide,by simp,?_,?_⟩
   · first|rfl|(simp only[go_sem,qd,qf,qb,qe,qi,qm,reduceIte,reduceCtorEq,push_cast,if_true,qv,qk,qn,qj,qx,qo,qE,qz,qr,qq,qp,zg,cellsGTree,encGDedupKey,encGMethod,encGSchema,encGServerEffect,encGServerWork,zM]<;>rfl)
   first|rfl|(simp only[go_sem,qb,qe,reduceCtorEq,push_cast,if_true,qk,qn,qj,qo,qr,qq,zg]<;>rfl)
 rw[if_pos hc20] at h;have t22:=eq_true hc20;apply zd;apply hZ19
 refine rc [4,8,11,13] fun K hK=>?_
 obtain⟨r23,hr23,h⟩:=bind_some h;refine zj tok 9 ?_;simp only[go_sem,qd,qf,qb,qe,t22];refine clN rfl rfl rfl (yx.ev y9 y6 r12.1.fIn r13.1.fIn r23 hr23 _) ?_;refine zj tok 6 ?_;simp only[go_sem,qd,qf,qb,qe,encGAdaptProgram];refine nkN hK ?_
 refine rc [4,8,12] fun K hK=>?_
 obtain⟨r24,hr24,h⟩:=bind_some h;refine rnN 2 ?_;refine clN rfl rfl rfl (wN.ev r23.1 r18.1 r24 hr24 _) ?_;refine zj tok 6 ?_;simp only[go_sem,qd,qf,qb,qe,cellsGTree,encGServerWork];refine nkN hK ?_;refine rgN [4,5] ?_;apply zE;cases h;simp only[wg,zX,z7,yN,exists_eq_left',go_sem,qf,qb,qe,encGServerWork];refine⟨by decide,by simp,?_,?_⟩
 · first|rfl|(simp only[go_sem,push_cast,qn,qj,qo,qr,qq,zg]<;>rfl)
 first|rfl|(simp only[go_sem,qb,qe,reduceCtorEq,push_cast,if_true,qk,qn,qj,qo,qr,qq,zg]<;>rfl)
def yS.j5 (a1:GTree):Option Bool:=
 some (decide (a1.fKind=1))
def yS.j18 (a0:GType)(a1:GTree)(x17:Bool):Option Bool:=
 (if x17=true then bnd (if a1.fKind=1 then bnd (xW a0 a1.fN) fun r21=>r21 else false) fun c21=>some c21 else (if a0.fKind=4 then (if a1.fKind=2 then (xb a1.fS).bind fun r29=>some r29 else some false).bind fun c29=>some c29 else (if a0.fKind=5 then some (decide (a1.fKind=2)) else some (decide (a1.fKind=3)))))
def yS (a0:GType)(a1:GTree):Option Bool:=
 (if a0.fKind=1 then (yS.j5 a1) else (if a0.fKind=2 then (yS.j5 a1) else (if a0.fKind=3 then (yS.j18 a0 a1 (decide (a0.fKind=3))) else (yS.j18 a0 a1 (decide (a0.fKind=6))))))
theorem yS.ok (a0:GType)(a1:GTree)(r:Bool)(h:yS a0 a1=some r):ACalls qg 207 [.agg (encGType a0),.agg (cellsGTree a1)] [] (fun r' _=>r'=.bool r):=by
 refine zf (rs:=[.tmp 4]) tok Tryz.func207 rfl Tryz.ntmps207 rfl Tryz.call207 (by simp) ?_;refine zk [(0,.agg (encGType a0)),(1,.agg (cellsGTree a1))] ⟨rfl,rfl,trivial⟩ ?_;unfold yS at h
 refine rg tok [2,3] fun K hK=>?_
 simp only[go_sem,qd,qb,qe,reduceCtorEq,cellsGTree,encGType];apply hK
 refine za fun Z1 hZ1=>?_
 refine rgN [2,3,6] ?_;apply ze
 refine za fun Z2 hZ2=>?_
 apply ze
 refine za fun Z3 hZ3=>?_
 apply ze
 refine za fun Z4 hZ4=>?_
 apply ze;refine yR (fun L τ=>L=[(3,.op 0 0 0)]∧τ=[.cells 0 (cellsGTree a1)]∧yS.j5 a1=some r) ?_ ?_
 · apply ze;apply ze
   refine za fun Z7 hZ7=>?_
   refine za fun Z8 hZ8=>?_
   refine rgN [2,3,6,7] ?_;refine zF rfl (fun hc9=>?_) (fun hc9=>?_)
   · rw[if_pos hc9] at h;have t10:=eq_true hc9;apply zI;exact⟨_,_,⟨rfl,rfl,h⟩,(.t [1] false)⟩
   rw[if_neg hc9] at h;have t11:=eq_false hc9;apply zd;apply hZ8
   refine za fun Z12 hZ12=>?_
   refine rg tok [2,3,6,9] fun K hK=>?_
   simp only[go_sem,qd,qb,t11];apply hK
   refine zF rfl (fun hc13=>?_) (fun hc13=>?_)
   · rw[if_pos hc13] at h;have t14:=eq_true hc13;apply zI;exact⟨_,_,⟨rfl,rfl,h⟩,(.t [1] false)⟩
   rw[if_neg hc13] at h;have t15:=eq_false hc13;apply zd;apply hZ12
   refine za fun Z16 hZ16=>?_
   refine yR (fun L τ=>∃ (x17:Bool),L=[(2,.op 0 0 0),(3,.op 1 0 0),(6,.int .i64 a0.fKind),(11,.bool x17)]∧τ=[.cells 0 [.int .i64 a0.fKind,.str a0.fName],.cells 0 (cellsGTree a1)]∧yS.j18 a0 a1 x17=some r) ?_ ?_
   · refine rg tok [2,3,6,11] fun K hK=>?_
     simp only[go_sem,qd,qb,t15];apply hK
     refine zF rfl (fun hc38=>?_) (fun hc38=>?_)
     · rw[if_pos hc38] at h;have t39:=eq_true hc38;apply zd;exact⟨_,_,⟨decide (a0.fKind=3),rfl,rfl,h⟩,.s⟩
     rw[if_neg hc38] at h;have t40:=eq_false hc38
     refine rgE tok [2,3,6,11] fun K hK=>?_
     simp only[go_sem,qd,qb,t40];apply hK
     exact⟨_,_,⟨decide (a0.fKind=6),rfl,rfl,h⟩,.s⟩
   rintro _ _ ⟨x17,rfl,rfl,h⟩;unfold yS.j18 at h;refine zw (b:=x17) rfl (fun hc19=>?_) (fun hc19=>?_)
   · rw[if_pos hc19] at h;apply zI;apply hZ4
     refine za fun Z20 hZ20=>?_
     refine rc [4] fun K hK=>?_
     refine rnN 4 ?_;obtain⟨c21,hc21,h⟩:=zH h;refine zo 5 (fun L τ=>L=[(29,.bool c21)]∧τ=[.cells 0 [.int .i64 a0.fKind,.str a0.fName],.cells 0 (cellsGTree a1)]) ?_ ?_
     · refine xj 24 rfl (fun hg24=>?_) (fun hg24=>?_)
       · have t22:=eq_true hg24;rw[if_pos hg24] at hc21;obtain⟨r23,hr23,hc21⟩:=zH hc21;refine rnN 3 ?_;refine clN rfl rfl rfl (xW.ev a0 a1.fN r23 hr23 _) ?_;refine rnN 1 ?_;subst hc21;refine zb ⟨rfl,_,_,⟨rfl,rfl⟩,.p t22⟩
       have t24:=eq_false hg24;rw[if_neg hg24] at hc21;refine rnN 5 ?_;subst hc21;refine zb ⟨rfl,_,_,⟨rfl,rfl⟩,.p t24⟩
     rintro _ _ ⟨rfl,rfl⟩;refine rnN 1 ?_;refine nkN hK ?_;cases h;exact rtA
   rw[xU hc19] at h;apply zd;apply hZ16
   refine za fun Z25 hZ25=>?_
   refine rgN [3,6,14] ?_;refine zF rfl (fun hc26=>?_) (fun hc26=>?_)
   · rw[if_pos hc26] at h;have t27:=eq_true hc26;apply zI;apply hZ3
     refine za fun Z28 hZ28=>?_
     refine rc [4] fun K hK=>?_
     refine zj tok 4 ?_;simp only[go_sem,qd,qb,qe,t27];obtain⟨c29,hc29,h⟩:=bind_some h;refine zo 4 (fun L τ=>L=[(37,.bool c29)]∧τ=[.cells 0 [.int .i64 a0.fKind,.str a0.fName],.cells 0 (cellsGTree a1)]) ?_ ?_
     · refine xj 33 rfl (fun hg33=>?_) (fun hg33=>?_)
       · have t30:=eq_true hg33;rw[if_pos hg33] at hc29;obtain⟨r31,hr31,hc29⟩:=bind_some hc29;refine rnN 2 ?_;refine clN rfl rfl rfl (xb.ev a1.fS r31 hr31 _) ?_;refine rnN 1 ?_;cases hc29;refine zb ⟨rfl,_,_,⟨rfl,rfl⟩,.p t30⟩
       have t32:=eq_false hg33;rw[if_neg hg33] at hc29;refine rnN 4 ?_;cases hc29;refine zb ⟨rfl,_,_,⟨rfl,rfl⟩,.p t32⟩
     rintro _ _ ⟨rfl,rfl⟩;refine rnN 1 ?_;refine nkN hK ?_;cases h;exact rtA
   rw[if_neg hc26] at h;have t33:=eq_false hc26;apply zd;apply hZ25
   refine rg tok [3,16] fun K hK=>?_
   simp only[go_sem,qd,qb,t33];apply hK
   refine zF rfl (fun hc34=>?_) (fun hc34=>?_)
   · rw[if_pos hc34] at h;have t35:=eq_true hc34;apply zI;apply hZ2
     refine za fun Z36 hZ36=>?_
     refine rg tok [4] fun K hK=>?_
     simp only[go_sem,qd,qb,qe,t35];apply hK
     cases h;exact rtA
   rw[if_neg hc34] at h;have t37:=eq_false hc34;apply zd;apply hZ7;apply zI;apply hZ1
   refine rg tok [4] fun K hK=>?_
   simp only[go_sem,qd,qb,qe,t37];apply hK
   cases h;exact rtA
 rintro _ _ ⟨rfl,rfl,h⟩;unfold yS.j5 at h
 refine za fun Z6 hZ6=>?_
 refine rgN [4] ?_;cases h;exact rtA
theorem yS.ev (a0:GType)(a1:GTree)(r:Bool)(h:yS a0 a1=some r)(σ:Store):ACalls qg 207 [.agg (encGType a0),.agg (cellsGTree a1)] σ (fun r' σ'=>r'=.bool r∧σ'=σ):=
 (yS.ok a0 a1 r h).c σ
def zB.j29 (x11:Int)(l9:List GTree)(rec15:Int→List GTree→Option (List GTree×Bool))(m3_28:GTree):Option (List GTree×Bool):=
 (Xm (qa l9+1) 80).bind fun _u30=>(rec15 (x11+1) (l9++[m3_28]))
def zB.l15 (zy:GSchema→GMessage→GTree→Option GTree)(a0:GSchema)(a1:GField):List GTree→Int→List GTree→Option (List GTree×Bool)
 |[],x11,l9=>(if a1.fLabel=1 then (YS l9 0).bind fun y17=>bnd (wL y17) fun r20=>some (!r20) else some true).bind fun c17=>some (l9,c17)
 |y15::q15,x11,l9=>(if a1.fType.fKind=1 then bnd (xN y15.fN) fun r34=>(zB.j29 x11 l9 (zB.l15 zy a0 a1 q15) (⟨y15.fKind,r34,y15.fS,y15.fEntries,y15.fRest⟩:GTree)) else (if a1.fType.fKind=7 then bnd (zK a0 a1.fType.fName) fun r38=>(zy a0 r38.1 y15).bind fun r39=>(zB.j29 x11 l9 (zB.l15 zy a0 a1 q15) r39) else (zB.j29 x11 l9 (zB.l15 zy a0 a1 q15) y15)))
def zB.j7 (zy:GSchema→GMessage→GTree→Option GTree)(a0:GSchema)(a1:GField)(x6:List GTree):Option (List GTree×Bool):=
 (zB.l15 zy a0 a1 x6 0 ([]:List GTree))
def zB.l4 (zy:GSchema→GMessage→GTree→Option GTree)(a0:GSchema)(a1:GField)(a2:List GTree):List GTree→Int→Option (List GTree×Bool)
 |[],x2=>(if a1.fLabel=3 then (zB.j7 zy a0 a1 a2) else (grd ((0:Int)≤IntKind.i64.wrap ((qa a2:Int)-1)∧IntKind.i64.wrap ((qa a2:Int)-1)≤(qa a2:Int)∧(qa a2:Int)≤(qa a2:Int))).bind fun _u43=>(zB.j7 zy a0 a1 (X9 a2 (IntKind.i64.wrap ((qa a2:Int)-1)) (qa a2:Int))))
 |y4::q4,x2=>(yS a1.fType y4).bind fun r50=>(if (!r50)=true then some (([]:List GTree),false) else ((zB.l4 zy a0 a1 a2 q4) (x2+1)))
def zB.body (yh:GSchema→GField→(List GTree)→Option (List GTree×Bool))(zy:GSchema→GMessage→GTree→Option GTree)(a0:GSchema)(a1:GField)(a2:List GTree):Option (List GTree×Bool):=
 (zB.l4 zy a0 a1 a2 a2 0)
theorem zB.step (yh:GSchema→GField→(List GTree)→Option (List GTree×Bool))(zy:GSchema→GMessage→GTree→Option GTree)(ZL:∀ (a0:GSchema) (a1:GField) (a2:List GTree) (r:List GTree×Bool),yh a0 a1 a2=some r→ACalls qg 164 [.agg (encGSchema a0),.agg (encGField a1),.ds true (qc encGTree a2) (qa a2) false] [] (fun r' _=>r'=.tup [.ds true (qc encGTree r.1) (qa r.1) false,.bool r.2]))(Zr:∀ (a0:GSchema) (a1:GMessage) (a2:GTree) (r:GTree),zy a0 a1 a2=some r→ACalls qg 119 [.agg (encGSchema a0),.agg (encGMessage a1),.agg (cellsGTree a2)] [] (fun r' _=>r'=.agg (cellsGTree r)))(a0:GSchema)(a1:GField)(a2:List GTree)(r:List GTree×Bool)(h:zB.body yh zy a0 a1 a2=some r):ACalls qg 164 [.agg (encGSchema a0),.agg (encGField a1),.ds true (qc encGTree a2) (qa a2) false] [] (fun r' _=>r'=.tup [.ds true (qc encGTree r.1) (qa r.1) false,.bool r.2]):=by
 have ev_project_field:=fun a0 a1 a2 r h σ=>(ZL a0 a1 a2 r h).c σ
 have ev_project_message:=fun a0 a1 a2 r h σ=>(Zr a0 a1 a2 r h).c σ
 refine zf (rs:=[.tmp 6,.tmp 7]) tok Tryz.func164 rfl Tryz.ntmps164 rfl Tryz.call164 (by simp) ?_;refine zk [(0,.agg (encGSchema a0)),(1,.agg (encGField a1)),(2,.ds true (qc encGTree a2) (qa a2) false)] ⟨rfl,rfl,rfl,trivial⟩ ?_;unfold zB.body at h
 refine rg tok [2,3,4] fun K hK=>?_
 simp only[go_sem,qd,qb,qe,reduceCtorEq,encGField,encGSchema];apply hK
 refine za fun Z1 hZ1=>?_
 refine rgN [2,3,4,15,16,17] ?_;apply ze
 refine yl 2 fun hb4=>?_
 replace hb4:qa a2≤9223372036854775807:=hb4.1;refine zN (fun m L τ=>∃ (p4 q4:List GTree) (x2:Int),m=qa q4∧L=[(2,.ds true (qc encGTree a2) (qa a2) false),(3,.op 0 0 0),(4,.op 1 0 0),(15,.ds true (qc encGTree a2) (qa a2) false),(16,.int .i64 (qa a2:Int)),(17,.int .i64 x2)]∧τ=[.cells 0 (encGSchema a0),.cells 0 (encGField a1)]∧a2=p4++q4∧x2=(qa p4:Int)∧zB.l4 zy a0 a1 a2 q4 x2=some r) _ ⟨[],a2,0,rfl,rfl,rfl,rfl,rfl,h⟩ .s ?_;rintro m L τ ⟨p4,q4,x2,rfl,rfl,rfl,hE4,hi4,h⟩
 rcases q4 with _|⟨y4,q4⟩
 · have hz4:=yJ hE4 hi4;simp only[zB.l4] at h
   refine rg tok [2,3,4,15,16,17,18] fun K hK=>?_
   simp only[go_sem,qd,qb,hz4];apply hK
   refine za fun Z5 hZ5=>?_
   refine zp rfl ?_;apply zI;apply hZ1;refine yR (fun L τ=>∃ (x6:List GTree),L=[(2,.ds true (qc encGTree x6) (qa x6) false),(3,.op 0 0 0),(4,.op 1 0 0)]∧τ=[.cells 0 (encGSchema a0),.cells 0 (encGField a1)]∧zB.j7 zy a0 a1 x6=some r) ?_ ?_
   · refine rgN [2,3,4,29] ?_;refine zF rfl (fun hc41=>?_) (fun hc41=>?_)
     · rw[if_neg hc41] at h;have t42:=eq_false hc41;obtain⟨_u43,hu43,h⟩:=bind_some h;have gu43:=wF hu43;have f44:=E38.sl_lo gu43
       refine rgE tok [2,3,4] fun K hK=>?_
       simp only[go_sem,qd,qb,t42,f44];apply hK
       exact⟨_,_,⟨X9 a2 (IntKind.i64.wrap ((qa a2:Int)-1)) (qa a2:Int),rfl,rfl,h⟩,.s⟩
     rw[if_pos hc41] at h;have t45:=eq_true hc41;apply zd;exact⟨_,_,⟨a2,rfl,rfl,h⟩,.s⟩
   rintro _ _ ⟨x6,rfl,rfl,h⟩;unfold zB.j7 at h;refine rgN [2,3,4,10] ?_;refine YG 10 5 rfl ?_;refine yz (L:=[(2,.ds true (qc encGTree x6) (qa x6) false),(3,.op 0 0 0),(4,.op 1 0 0),(10,.os true 5 2 0 0 (qa ([]:List GTree)) false)]) (τ:=[.cells 0 (encGSchema a0),.cells 0 (encGField a1),.cells 0 (qc encGTree ([]:List GTree))]) .s ?_
   refine za fun Z8 hZ8=>?_
   refine rgN [3,4,10,35,36,37] ?_;apply ze
   refine yl 35 fun hb15=>?_
   replace hb15:qa x6≤9223372036854775807:=hb15.1;refine zN (fun m L τ=>∃ (p15 q15:List GTree) (x11:Int) (l9:List GTree) (v10:Nat),m=qa q15∧L=[(3,.op 0 0 0),(4,.op 1 0 0),(10,.os true 5 2 v10 0 (qa l9) false),(35,.ds true (qc encGTree x6) (qa x6) false),(36,.int .i64 (qa x6:Int)),(37,.int .i64 x11)]∧τ=[.cells 0 (encGSchema a0),.cells 0 (encGField a1),.cells v10 (qc encGTree l9)]∧x6=p15++q15∧x11=(qa p15:Int)∧zB.l15 zy a0 a1 q15 x11 l9=some r) _ ⟨[],x6,0,([]:List GTree),0,rfl,rfl,rfl,rfl,rfl,h⟩ .s ?_;rintro m L τ ⟨p15,q15,x11,l9,v10,rfl,rfl,rfl,hE15,hi15,h⟩
   rcases q15 with _|⟨y15,q15⟩
   · have hz15:=yJ hE15 hi15;simp only[zB.l15] at h
     refine rg tok [3,4,10,35,36,37,38] fun K hK=>?_
     simp only[go_sem,qd,qb,hz15];apply hK
     refine za fun Z16 hZ16=>?_
     refine zp rfl ?_;apply zI;apply hZ8
     refine rc [6,7] fun K hK=>?_
     refine rnN 5 ?_;obtain⟨c17,hc17,h⟩:=bind_some h;refine zo 6 (fun L τ=>L=[(69,.os true 5 2 v10 0 (qa l9) false),(79,.bool c17)]∧τ=[.cells 0 (encGSchema a0),.cells 0 (encGField a1),.cells v10 (qc encGTree l9)]) ?_ ?_
     · refine xj 73 rfl (fun hg73=>?_) (fun hg73=>?_)
       · have t18:=eq_false hg73;rw[if_neg hg73] at hc17;refine rnN 6 ?_;cases hc17;refine zb ⟨rfl,_,_,⟨rfl,rfl⟩,.p t18⟩
       have t19:=eq_true hg73;rw[if_pos hg73] at hc17;obtain⟨y20,hy20,hc17⟩:=bind_some hc17;have f21:=E38.idxO hy20;have f22:=E38.rdO hy20;obtain⟨r23,hr23,hc17⟩:=zH hc17;refine zj tok 3 ?_;simp only[go_sem,qd,qb,cellsGTree,zM,f21,f22];refine clN rfl rfl rfl (wL.ev y20 r23 hr23 _) ?_;refine rnN 2 ?_;cases hc17;refine zb ⟨rfl,_,_,⟨rfl,rfl⟩,.p t19⟩
     rintro _ _ ⟨rfl,rfl⟩;refine rnN 2 ?_;refine nkN hK ?_;cases h;exact rtA
   obtain⟨hz15,hw15,hx15,hE'15,hi'15⟩:=yk hE15 hi15 hb15;simp only[zB.l15] at h
   refine rg tok [3,4,10,35,36,37,38] fun K hK=>?_
   simp only[go_sem,qd,qb,hz15];apply hK
   refine za fun Z24 hZ24=>?_
   refine zq rfl ?_;apply zd;apply hZ24
   refine za fun Z25 hZ25=>?_
   apply ze;have f26:=E38.idxS hx15;have f27:=E38.loadS rfl rfl hx15
   refine rg tok [3,4,10,12,35,36,37] fun K hK=>?_
   simp only[go_sem,qd,qf,qb,qe,cellsGTree,zM,f26,f27];apply hK
   refine yR (fun L τ=>∃ (m3_28:GTree),L=[(3,.op 0 0 0),(4,.op 1 0 0),(10,.os true 5 2 v10 0 (qa l9) false),(12,.op 3 0 0),(35,.ds true (qc encGTree x6) (qa x6) false),(36,.int .i64 (qa x6:Int)),(37,.int .i64 x11)]∧τ=[.cells 0 (encGSchema a0),.cells 0 (encGField a1),.cells v10 (qc encGTree l9),.cells 0 (cellsGTree m3_28)]∧zB.j29 x11 l9 (zB.l15 zy a0 a1 q15) m3_28=some r) ?_ ?_
   · refine rgN [3,4,10,12,35,36,37,43] ?_;apply ze;refine rgN [3,4,10,12,35,36,37,43,44] ?_;refine zF rfl (fun hc32=>?_) (fun hc32=>?_)
     · rw[if_pos hc32] at h;have t33:=eq_true hc32
       refine rcE [3,4,10,12,35,36,37] fun K hK=>?_
       obtain⟨r34,hr34,h⟩:=zH h;refine zj tok 2 ?_;simp only[go_sem,qd,qb,qe,t33];refine clN rfl rfl rfl (xN.ev y15.fN r34 hr34 _) ?_;refine rnN 2 ?_;refine nkN hK ?_;exact⟨_,_,⟨(⟨y15.fKind,r34,y15.fS,y15.fEntries,y15.fRest⟩:GTree),rfl,rfl,h⟩,.s⟩
     rw[if_neg hc32] at h;have t35:=eq_false hc32
     refine rg tok [3,4,10,12,35,36,37,50] fun K hK=>?_
     simp only[go_sem,qd,qb,t35];apply hK
     refine zF rfl (fun hc36=>?_) (fun hc36=>?_)
     · rw[if_pos hc36] at h;have t37:=eq_true hc36
       refine rc [3,4,10,12,13,35,36,37] fun K hK=>?_
       obtain⟨r38,hr38,h⟩:=zH h;refine zj tok 4 ?_;simp only[go_sem,qd,qf,qb,qe,t37];refine clN rfl rfl rfl (zK.ev a0 a1.fType.fName r38 hr38 _) ?_;refine zj tok 6 ?_;simp only[go_sem,qd,qf,qb,qe,encGMessage];refine nkN hK ?_
       refine rcE [3,4,10,12,35,36,37] fun K hK=>?_
       obtain⟨r39,hr39,h⟩:=bind_some h;refine rnN 3 ?_;refine clN rfl rfl rfl (ev_project_message a0 r38.1 y15 r39 hr39 _) ?_;refine zj tok 1 ?_;simp only[go_sem,qf,qb,qe,cellsGTree];refine nkN hK ?_;exact⟨_,_,⟨r39,rfl,rfl,h⟩,(.t [0,1,2,3] false)⟩
     rw[if_neg hc36] at h;have t40:=eq_false hc36;apply zd;exact⟨_,_,⟨y15,rfl,rfl,h⟩,.s⟩
   rintro _ _ ⟨m3_28,rfl,rfl,h⟩;unfold zB.j29 at h;obtain⟨_u30,hu30,h⟩:=bind_some h;have gu30:=yy hu30;have f31:=(zz E38.len l9)
   refine rgE tok [3,4,10,35,36,37] fun K hK=>?_
   simp only[go_sem,qd,qf,qb,qe,qi,zv,zQ,qO,qI,true_and,qT,ye,zO,yd,gu30,f31,yv,qR,qX,AV.one,qB,qL,qs,qt,qk,qN];apply hK
   apply hZ25
   refine rgE tok [3,4,10,35,36,37] fun K hK=>?_
   simp only[go_sem,qd,qb,hw15];apply hK
   exact⟨_,_,_,qw q15.length,⟨p15++[y15],q15,x11+1,l9++[m3_28],v10+1,rfl,rfl,rfl,hE'15,hi'15,h⟩,(.t [0,1,2] false)⟩
 obtain⟨hz4,hw4,hx4,hE'4,hi'4⟩:=yk hE4 hi4 hb4;simp only[zB.l4] at h
 refine rg tok [2,3,4,15,16,17,18] fun K hK=>?_
 simp only[go_sem,qd,qb,hz4];apply hK
 refine za fun Z46 hZ46=>?_
 refine zq rfl ?_;apply zd;apply hZ46
 refine za fun Z47 hZ47=>?_
 apply ze;have f48:=E38.idxS hx4;have f49:=E38.loadS rfl rfl hx4
 refine rg tok [2,3,4,9,15,16,17] fun K hK=>?_
 simp only[go_sem,qd,qf,qb,qe,cellsGTree,zM,f48,f49];apply hK
 refine rc [2,3,4,15,16,17,25] fun K hK=>?_
 obtain⟨r50,hr50,h⟩:=bind_some h;refine rnN 3 ?_;refine clN rfl rfl rfl (yS.ev a1.fType y4 r50 hr50 _) ?_;refine rnN 1 ?_;refine nkN hK ?_;refine zw (b:=(!r50)) rfl (fun hc51=>?_) (fun hc51=>?_)
 · rw[if_pos hc51] at h;refine rgN [6,7] ?_;cases h;exact rtA
 rw[xU hc51] at h;apply zd;apply hZ47
 refine rgE tok [2,3,4,15,16,17] fun K hK=>?_
 simp only[go_sem,qd,qb,hw4];apply hK
 exact⟨_,_,_,qw q4.length,⟨p4++[y4],q4,x2+1,rfl,rfl,rfl,hE'4,hi'4,h⟩,(.t [0,1] false)⟩
def zG.j13 (x4:Int)(rec8:Int→List GEntry→Option GTree)(l11:List GEntry):Option GTree:=
 (rec8 (x4+1) l11)
def zG.l8 (yh:GSchema→GField→(List GTree)→Option (List GTree×Bool))(a0:GSchema)(a1:GMessage):List GEntry→Int→List GEntry→Option GTree
 |[],x4,l2=>some (⟨3,0,[],l2,([]:List GRaw)⟩:GTree)
 |y8::q8,x4,l2=>bnd (yG a1 y8.fTag) fun r16=>(if (!r16.2)=true then (zG.j13 x4 (zG.l8 yh a0 a1 q8) l2) else (yh a0 r16.1 y8.fTrees).bind fun r19=>(if r19.2=true then (Xm (qa l2+1) 32).bind fun _u21=>(zG.j13 x4 (zG.l8 yh a0 a1 q8) (l2++[(⟨y8.fTag,r19.1⟩:GEntry)])) else (zG.j13 x4 (zG.l8 yh a0 a1 q8) l2)))
def zG.body (yh:GSchema→GField→(List GTree)→Option (List GTree×Bool))(zy:GSchema→GMessage→GTree→Option GTree)(a0:GSchema)(a1:GMessage)(a2:GTree):Option GTree:=
 (zG.l8 yh a0 a1 a2.fEntries 0 ([]:List GEntry))
theorem zG.step (yh:GSchema→GField→(List GTree)→Option (List GTree×Bool))(zy:GSchema→GMessage→GTree→Option GTree)(ZL:∀ (a0:GSchema) (a1:GField) (a2:List GTree) (r:List GTree×Bool),yh a0 a1 a2=some r→ACalls qg 164 [.agg (encGSchema a0),.agg (encGField a1),.ds true (qc encGTree a2) (qa a2) false] [] (fun r' _=>r'=.tup [.ds true (qc encGTree r.1) (qa r.1) false,.bool r.2]))(Zr:∀ (a0:GSchema) (a1:GMessage) (a2:GTree) (r:GTree),zy a0 a1 a2=some r→ACalls qg 119 [.agg (encGSchema a0),.agg (encGMessage a1),.agg (cellsGTree a2)] [] (fun r' _=>r'=.agg (cellsGTree r)))(a0:GSchema)(a1:GMessage)(a2:GTree)(r:GTree)(h:zG.body yh zy a0 a1 a2=some r):ACalls qg 119 [.agg (encGSchema a0),.agg (encGMessage a1),.agg (cellsGTree a2)] [] (fun r' _=>r'=.agg (cellsGTree r)):=by
 have ev_project_field:=fun a0 a1 a2 r h σ=>(ZL a0 a1 a2 r h).c σ
 have ev_project_message:=fun a0 a1 a2 r h σ=>(Zr a0 a1 a2 r h).c σ
 refine zf (rs:=[.cell 6 37]) tok Tryz.func119 rfl Tryz.ntmps119 rfl Tryz.call119 (by simp) ?_;refine zk [(0,.agg (encGSchema a0)),(1,.agg (encGMessage a1)),(2,.agg (cellsGTree a2))] ⟨rfl,rfl,rfl,trivial⟩ ?_;unfold zG.body at h
 refine rg tok [3,4,5,6] fun K hK=>?_
 simp only[go_sem,qd,qb,qe,reduceCtorEq,cellsGTree,encGMessage,encGSchema];apply hK
 refine rgN [3,4,5,6,7] ?_;refine wd 4 3 2 rfl (by simp) rfl (L:=[(3,.op 0 0 0),(4,.op 1 0 0),(5,.op 2 0 0),(6,.op 3 0 0),(7,.op 4 0 0)]) (τ:=[.cells 0 (encGSchema a0),.cells 0 (encGMessage a1),.cells 0 (cellsGTree a2),.cells 0 [.int .i64 0,.int .i64 0,.str [],.ds true [] 0 true,.ds true [] 0 true],.cells 0 [.int .i64 3,.int .i64 0,.str [],.os true 2 5 0 0 (qa ([]:List GEntry)) false,.ds true [] 0 true],.cells 0 (qc encGEntry ([]:List GEntry))]) .s ?_
 refine za fun Z1 hZ1=>?_
 refine rgN [3,4,6,7,16,17,18] ?_;apply ze
 refine yl 16 fun hb8=>?_
 replace hb8:qa a2.fEntries≤9223372036854775807:=hb8.1;refine zN (fun m L τ=>∃ (p8 q8:List GEntry) (x4:Int) (l2:List GEntry) (v3:Nat),m=qa q8∧L=[(3,.op 0 0 0),(4,.op 1 0 0),(6,.op 2 0 0),(7,.op 3 0 0),(16,.ds true (qc encGEntry a2.fEntries) (qa a2.fEntries) false),(17,.int .i64 (qa a2.fEntries:Int)),(18,.int .i64 x4)]∧τ=[.cells 0 (encGSchema a0),.cells 0 (encGMessage a1),.cells 0 [.int .i64 0,.int .i64 0,.str [],.ds true [] 0 true,.ds true [] 0 true],.cells 0 [.int .i64 3,.int .i64 0,.str [],.os true 2 4 v3 0 (qa l2) false,.ds true [] 0 true],.cells v3 (qc encGEntry l2)]∧a2.fEntries=p8++q8∧x4=(qa p8:Int)∧zG.l8 yh a0 a1 q8 x4 l2=some r) _ ⟨[],a2.fEntries,0,([]:List GEntry),0,rfl,rfl,rfl,rfl,rfl,h⟩ (.t [0,1,3,4,5] false) ?_;rintro m L τ ⟨p8,q8,x4,l2,v3,rfl,rfl,rfl,hE8,hi8,h⟩
 rcases q8 with _|⟨y8,q8⟩
 · have hz8:=yJ hE8 hi8;simp only[zG.l8] at h
   refine rg tok [3,4,6,7,16,17,18,19] fun K hK=>?_
   simp only[go_sem,qd,qb,hz8];apply hK
   refine za fun Z9 hZ9=>?_
   refine zp rfl ?_;apply zI;apply hZ1;refine rgN [6] ?_;cases h;exact rtA
 obtain⟨hz8,hw8,hx8,hE'8,hi'8⟩:=yk hE8 hi8 hb8;simp only[zG.l8] at h
 refine rg tok [3,4,6,7,16,17,18,19] fun K hK=>?_
 simp only[go_sem,qd,qb,hz8];apply hK
 refine za fun Z10 hZ10=>?_
 refine zq rfl ?_;apply zd;apply hZ10;refine yR (fun L τ=>∃ (l11:List GEntry) (v12:Nat),L=[(3,.op 0 0 0),(4,.op 1 0 0),(6,.op 2 0 0),(7,.op 3 0 0),(16,.ds true (qc encGEntry a2.fEntries) (qa a2.fEntries) false),(17,.int .i64 (qa a2.fEntries:Int)),(18,.int .i64 x4)]∧τ=[.cells 0 (encGSchema a0),.cells 0 (encGMessage a1),.cells 0 [.int .i64 0,.int .i64 0,.str [],.ds true [] 0 true,.ds true [] 0 true],.cells 0 [.int .i64 3,.int .i64 0,.str [],.os true 2 4 v12 0 (qa l11) false,.ds true [] 0 true],.cells v12 (qc encGEntry l11)]∧zG.j13 x4 (zG.l8 yh a0 a1 q8) l11=some r) ?_ ?_
 · apply ze;have f14:=E34.idxS hx8;have f15:=E34.loadS rfl rfl hx8
   refine rg tok [3,4,6,7,9,16,17,18] fun K hK=>?_
   simp only[go_sem,qd,qf,qb,qe,cellsGEntry,yq,f14,f15];apply hK
   refine rc [3,4,6,7,9,10,11,16,17,18] fun K hK=>?_
   obtain⟨r16,hr16,h⟩:=zH h;refine rnN 3 ?_;refine clN rfl rfl rfl (yG.ev a1 y8.fTag r16 hr16 _) ?_;refine zj tok 6 ?_;simp only[go_sem,qd,qf,qb,qe,encGField];refine nkN hK ?_
   refine za fun Z17 hZ17=>?_
   refine rgN [3,4,6,7,9,10,16,17,18,30] ?_;refine zw (b:=(!r16.2)) rfl (fun hc18=>?_) (fun hc18=>?_)
   · rw[if_pos hc18] at h;apply zI;exact⟨_,_,⟨l2,v3,rfl,rfl,h⟩,(.t [0,1,2,3,4] false)⟩
   rw[xU hc18] at h;apply zd;apply hZ17
   refine rc [3,4,6,7,9,12,13,16,17,18] fun K hK=>?_
   obtain⟨r19,hr19,h⟩:=bind_some h;refine rnN 4 ?_;refine clN rfl rfl rfl (ev_project_field a0 r16.1 y8.fTrees r19 hr19 _) ?_;refine rnN 5 ?_;refine nkN hK ?_;refine rgN [3,4,6,7,9,12,16,17,18,39] ?_;refine zw (b:=r19.2) rfl (fun hc20=>?_) (fun hc20=>?_)
   · rw[if_pos hc20] at h;obtain⟨_u21,hu21,h⟩:=bind_some h;have gu21:=yy hu21;have f22:=(zz E34.len l2)
     refine rgE tok [3,4,6,7,16,17,18] fun K hK=>?_
     simp only[go_sem,qd,qf,qb,qe,qi,zv,zQ,qO,qI,true_and,qT,ye,zO,yd,gu21,f22,yv,qR,qX,AV.one,qB,qL,qs,qt,qk,qN];apply hK
     exact⟨_,_,⟨l2++[(⟨y8.fTag,r19.1⟩:GEntry)],v3+1,rfl,rfl,h⟩,(.t [0,1,2,3,4] false)⟩
   rw[xU hc20] at h;apply zd;exact⟨_,_,⟨l2,v3,rfl,rfl,h⟩,(.t [0,1,2,3,4] false)⟩
 rintro _ _ ⟨l11,v12,rfl,rfl,h⟩;unfold zG.j13 at h
 refine rgE tok [3,4,6,7,16,17,18] fun K hK=>?_
 simp only[go_sem,qd,qb,hw8];apply hK
 exact⟨_,_,_,qw q8.length,⟨p8++[y8],q8,x4+1,l11,v12,rfl,rfl,rfl,hE'8,hi'8,h⟩,.s⟩
end
section
set_option maxRecDepth 4000
set_option maxHeartbeats 1000000
open AM
mutual
def zB : Nat→GSchema→GField→(List GTree)→Option (List GTree×Bool)
 |0,_,_,_=>none
 |k+1,a0,a1,a2=>zB.body (zB k) (zG k) a0 a1 a2
def zG : Nat→GSchema→GMessage→GTree→Option GTree
 |0,_,_,_=>none
 |k+1,a0,a1,a2=>zG.body (zB k) (zG k) a0 a1 a2
end
theorem zB.all (k:Nat):(∀ (a0:GSchema) (a1:GField) (a2:List GTree) (r:List GTree×Bool),zB k a0 a1 a2=some r→ACalls qg 164 [.agg (encGSchema a0),.agg (encGField a1),.ds true (qc encGTree a2) (qa a2) false] [] (fun r' _=>r'=.tup [.ds true (qc encGTree r.1) (qa r.1) false,.bool r.2]))∧(∀ (a0:GSchema) (a1:GMessage) (a2:GTree) (r:GTree),zG k a0 a1 a2=some r→ACalls qg 119 [.agg (encGSchema a0),.agg (encGMessage a1),.agg (cellsGTree a2)] [] (fun r' _=>r'=.agg (cellsGTree r))):=by
 induction k with
 |zero=>exact⟨(fun a0 a1 a2 r h=>by simp only[zB] at h; cases h),(fun a0 a1 a2 r h=>by simp only[zG] at h; cases h)⟩
 |succ k ih=>exact⟨(fun a0 a1 a2 r h=>zB.step _ _ ih.1 ih.2 a0 a1 a2 r (by simpa only [zB] using h)),(fun a0 a1 a2 r h=>zG.step _ _ ih.1 ih.2 a0 a1 a2 r (by simpa only [zG] using h))⟩
theorem zG.ev (k:Nat)(a0:GSchema)(a1:GMessage)(a2:GTree)(r:GTree)(h:zG k a0 a1 a2=some r)(σ:Store):ACalls qg 119 [.agg (encGSchema a0),.agg (encGMessage a1),.agg (cellsGTree a2)] σ (fun r' σ'=>r'=.agg (cellsGTree r)∧σ'=σ):=
 ((zB.all k).2 a0 a1 a2 r h).c σ
def xw (a0:GSchema)(a1:List UInt8)(a2:GTree):Option (GTree×Bool):=
 bnd (zK a0 a1) fun r1=>(if (!r1.2)=true then some true else (zS a0).bind fun r3=>some (!(decide (r3=0)))).bind fun c3=>(if (c3||(!(decide (a2.fKind=3))))=true then some true else (wn a2).bind fun r5=>some (!r5)).bind fun c5=>(if c5=true then some ((⟨0,0,[],([]:List GEntry),([]:List GRaw)⟩:GTree),false) else (zG xo a0 r1.1 a2).bind fun r8=>some (r8,true))
theorem xw.ok (a0:GSchema)(a1:List UInt8)(a2:GTree)(r:GTree×Bool)(h:xw a0 a1 a2=some r):ACalls qg 79 [.agg (encGSchema a0),.str a1,.agg (cellsGTree a2)] [] (fun r' _=>r'=.tup [.agg (cellsGTree r.1),.bool r.2]):=by
 refine zf (rs:=[.cell 6 37,.tmp 7]) tok Tryz.func79 rfl Tryz.ntmps79 rfl Tryz.call79 (by simp) ?_;refine zk [(0,.agg (encGSchema a0)),(1,.str a1),(2,.agg (cellsGTree a2))] ⟨rfl,rfl,rfl,trivial⟩ ?_;unfold xw at h
 refine rg tok [1,3,5,6] fun K hK=>?_
 simp only[go_sem,qd,qb,qe,reduceCtorEq,cellsGTree,encGSchema];apply hK
 refine rc [3,5,6,8,9] fun K hK=>?_
 obtain⟨r1,hr1,h⟩:=zH h;refine rnN 2 ?_;refine clN rfl rfl rfl (zK.ev a0 a1 r1 hr1 _) ?_;refine zj tok 6 ?_;simp only[go_sem,qd,qf,qb,qe,encGMessage];refine nkN hK ?_
 refine za fun Z2 hZ2=>?_
 refine rc [3,5,6,8,32] fun K hK=>?_
 refine rnN 3 ?_;obtain⟨c3,hc3,h⟩:=bind_some h;refine zo 4 (fun L τ=>L=[(3,.op 0 0 0),(5,.op 1 0 0),(6,.op 2 0 0),(8,.op 3 0 0),(22,.bool c3)]∧τ=[.cells 0 (encGSchema a0),.cells 0 (cellsGTree a2),.cells 0 [.int .i64 0,.int .i64 0,.str [],.ds true [] 0 true,.ds true [] 0 true],.cells 0 (encGMessage r1.1)]) ?_ ?_
 · refine zP (b:=(!r1.2)) 18 rfl (fun hg18=>?_) (fun hg18=>?_)
   · rw[if_pos hg18] at hc3;refine rnN 4 ?_;cases hc3;refine zb ⟨rfl,_,_,⟨rfl,rfl⟩,.b hg18⟩
   rw[xU hg18] at hc3;obtain⟨r4,hr4,hc3⟩:=bind_some hc3;refine rnN 1 ?_;refine clN rfl rfl rfl (zS.ev a0 r4 hr4 _) ?_;refine rnN 2 ?_;cases hc3;refine zb ⟨rfl,_,_,⟨rfl,rfl⟩,.b hg18⟩
 rintro _ _ ⟨rfl,rfl⟩;refine rnN 1 ?_;refine zo 4 (fun L τ=>L=[(3,.op 0 0 0),(5,.op 1 0 0),(6,.op 2 0 0),(8,.op 3 0 0),(27,.bool (c3||(!(decide (a2.fKind=3)))))]∧τ=[.cells 0 (encGSchema a0),.cells 0 (cellsGTree a2),.cells 0 [.int .i64 0,.int .i64 0,.str [],.ds true [] 0 true,.ds true [] 0 true],.cells 0 (encGMessage r1.1)]) ?_ ?_
 · refine zP (b:=c3) 23 rfl (fun hg23=>?_) (fun hg23=>?_)
   · refine rnN 4 ?_;refine zb ⟨rfl,_,_,⟨rfl,rfl⟩,.b hg23⟩
   refine rnN 4 ?_;refine zb ⟨rfl,_,_,⟨rfl,rfl⟩,.b hg23⟩
 rintro _ _ ⟨rfl,rfl⟩;refine rnN 1 ?_;obtain⟨c5,hc5,h⟩:=bind_some h;refine zo 4 (fun L τ=>L=[(3,.op 0 0 0),(5,.op 1 0 0),(6,.op 2 0 0),(8,.op 3 0 0),(32,.bool c5)]∧τ=[.cells 0 (encGSchema a0),.cells 0 (cellsGTree a2),.cells 0 [.int .i64 0,.int .i64 0,.str [],.ds true [] 0 true,.ds true [] 0 true],.cells 0 (encGMessage r1.1)]) ?_ ?_
 · refine zP (b:=(c3||(!(decide (a2.fKind=3))))) 28 rfl (fun hg28=>?_) (fun hg28=>?_)
   · rw[if_pos hg28] at hc5;refine rnN 4 ?_;cases hc5;refine zb ⟨rfl,_,_,⟨rfl,rfl⟩,.b hg28⟩
   rw[xU hg28] at hc5;obtain⟨r6,hr6,hc5⟩:=bind_some hc5;refine rnN 1 ?_;refine clN rfl rfl rfl (wn.ev a2 r6 hr6 _) ?_;refine rnN 2 ?_;cases hc5;refine zb ⟨rfl,_,_,⟨rfl,rfl⟩,.b hg28⟩
 rintro _ _ ⟨rfl,rfl⟩;refine nkN hK ?_;refine zw (b:=c5) rfl (fun hc7=>?_) (fun hc7=>?_)
 · rw[if_pos hc7] at h;refine rgN [6,7] ?_;cases h;exact rtA
 rw[xU hc7] at h;apply zd;apply hZ2
 refine rc [6,7] fun K hK=>?_
 obtain⟨r8,hr8,h⟩:=bind_some h;refine zj tok 3 ?_;simp only[go_sem,qd,qf,qb,qe,cellsGTree];refine clN rfl rfl rfl (zG.ev xo a0 r1.1 a2 r8 hr8 _) ?_;refine zj tok 2 ?_;simp only[go_sem,qd,qf,qb,qe,cellsGTree];refine nkN hK ?_;cases h;exact rtA
theorem xw.ev (a0:GSchema)(a1:List UInt8)(a2:GTree)(r:GTree×Bool)(h:xw a0 a1 a2=some r)(σ:Store):ACalls qg 79 [.agg (encGSchema a0),.str a1,.agg (cellsGTree a2)] σ (fun r' σ'=>r'=.tup [.agg (cellsGTree r.1),.bool r.2]∧σ'=σ):=
 (xw.ok a0 a1 a2 r h).c σ
def yC.l8 (a1:List GRaw):List GRaw→Int→Option Bool
 |[],x6=>some true
 |y8::q8,x6=>(YS a1 x6).bind fun y14=>(if (!(decide (y8.fTag=y14.fTag)&&(decide (y8.fWire=y14.fWire)&&(decide (y8.fN=y14.fN)&&decide (y8.fB=y14.fB)))))=true then some false else ((yC.l8 a1 q8) (x6+1)))
def yC (a0:List GRaw)(a1:List GRaw):Option Bool:=
 (if (qa a0:Int)=(qa a1:Int) then (yC.l8 a1 a0 0) else some false)
theorem yC.ok (a0:List GRaw)(a1:List GRaw)(r:Bool)(h:yC a0 a1=some r):ACalls qg 120 [.ds true (qc encGRaw a0) (qa a0) false,.ds true (qc encGRaw a1) (qa a1) false] [] (fun r' _=>r'=.bool r):=by
 refine zf (rs:=[.tmp 4]) tok Tryz.func120 rfl Tryz.ntmps120 rfl Tryz.call120 (by simp) ?_;refine zk [(0,.ds true (qc encGRaw a0) (qa a0) false),(1,.ds true (qc encGRaw a1) (qa a1) false)] ⟨rfl,rfl,trivial⟩ ?_;unfold yC at h;refine rgN [0,1] ?_
 refine za fun Z1 hZ1=>?_
 refine rgN [0,1,10] ?_;refine zF rfl (fun hc2=>?_) (fun hc2=>?_)
 · rw[if_neg hc2] at h;have t3:=eq_false hc2
   refine rg tok [4] fun K hK=>?_
   simp only[go_sem,qd,qb,reduceCtorEq,t3];apply hK
   cases h;exact rtA
 rw[if_pos hc2] at h;have t4:=eq_true hc2;apply zd;apply hZ1
 refine za fun Z5 hZ5=>?_
 refine rg tok [0,1,12,13] fun K hK=>?_
 simp only[go_sem,qd,qb,reduceCtorEq,t4];apply hK
 apply ze
 refine yl 0 fun hb8=>?_
 replace hb8:qa a0≤9223372036854775807:=hb8.1;refine zN (fun m L τ=>∃ (p8 q8:List GRaw) (x6:Int),m=qa q8∧L=[(0,.ds true (qc encGRaw a0) (qa a0) false),(1,.ds true (qc encGRaw a1) (qa a1) false),(12,.int .i64 (qa a0:Int)),(13,.int .i64 x6)]∧τ=[]∧a0=p8++q8∧x6=(qa p8:Int)∧yC.l8 a1 q8 x6=some r) _ ⟨[],a0,0,rfl,rfl,rfl,rfl,rfl,h⟩ .s ?_;rintro m L τ ⟨p8,q8,x6,rfl,rfl,rfl,hE8,hi8,h⟩
 rcases q8 with _|⟨y8,q8⟩
 · have hz8:=yJ hE8 hi8;simp only[yC.l8] at h
   refine rg tok [0,1,12,13,14] fun K hK=>?_
   simp only[go_sem,qd,qb,reduceCtorEq,hz8];apply hK
   refine za fun Z9 hZ9=>?_
   refine zp rfl ?_;apply zI;apply hZ5;refine rgN [4] ?_;cases h;exact rtA
 obtain⟨hz8,hw8,hx8,hE'8,hi'8⟩:=yk hE8 hi8 hb8;simp only[yC.l8] at h
 refine rg tok [0,1,12,13,14] fun K hK=>?_
 simp only[go_sem,qd,qb,reduceCtorEq,hz8];apply hK
 refine za fun Z10 hZ10=>?_
 refine zq rfl ?_;apply zd;apply hZ10
 refine za fun Z11 hZ11=>?_
 apply ze;refine rgN [0,1,5,12,13] ?_;have f12:=E35.idxS hx8;have f13:=E35.loadS rfl rfl hx8;obtain⟨y14,hy14,h⟩:=bind_some h;have f15:=E35.idxS hy14;have f16:=E35.loadS rfl rfl hy14
 refine rd [0,1,12,13,24] fun K hK=>?_
 refine DW.start (T:=tab) [.any,.any,.any,.at [],.any,.any,.any,.at [],.any] [] ?_;refine DW.runN tok 8 ?_;simp only[go_sem,qd,qb,reduceCtorEq,encGRaw,f12,f13,f15,f16];refine DW.runN tok 1 ?_;simp only[go_sem,qd,qb,reduceCtorEq,evEqA,ceqL,ceq];refine DW.fin tok (by decide +kernel) rfl ?_;simp only[zn,upd,qb,reduceIte,ym,y1];apply hK
 refine zw (b:=(!(decide (y8.fTag=y14.fTag)&&(decide (y8.fWire=y14.fWire)&&(decide (y8.fN=y14.fN)&&decide (y8.fB=y14.fB)))))) rfl (fun hc17=>?_) (fun hc17=>?_)
 · rw[if_pos hc17] at h;refine rgN [4] ?_;cases h;exact rtA
 rw[xU hc17] at h;apply zd;apply hZ11
 refine rgE tok [0,1,12,13] fun K hK=>?_
 simp only[go_sem,qd,qb,reduceCtorEq,hw8];apply hK
 exact⟨_,_,_,qw q8.length,⟨p8++[y8],q8,x6+1,rfl,rfl,rfl,hE'8,hi'8,h⟩,.s⟩
theorem yC.ev (a0:List GRaw)(a1:List GRaw)(r:Bool)(h:yC a0 a1=some r)(σ:Store):ACalls qg 120 [.ds true (qc encGRaw a0) (qa a0) false,.ds true (qc encGRaw a1) (qa a1) false] σ (fun r' σ'=>r'=.bool r∧σ'=σ):=
 (yC.ok a0 a1 r h).c σ
def xl.body (yc:GTree→GTree→Option Bool)(zT:GEntry→GEntry→Option Bool)(zi:(List GEntry)→(List GEntry)→Option Bool)(zm:(List GTree)→(List GTree)→Option Bool)(a0:GTree)(a1:GTree):Option Bool:=
 (if (((decide (a0.fKind=a1.fKind))&&(decide (a0.fN=a1.fN)))&&(decide (a0.fS=a1.fS)))=true then (yC a0.fRest a1.fRest).bind fun r3=>some r3 else some false).bind fun c3=>(if c3=true then (zi a0.fEntries a1.fEntries).bind fun r5=>some r5 else some false).bind fun c5=>some c5
theorem xl.step (yc:GTree→GTree→Option Bool)(zT:GEntry→GEntry→Option Bool)(zi:(List GEntry)→(List GEntry)→Option Bool)(zm:(List GTree)→(List GTree)→Option Bool)(wE:∀ (a0:GTree) (a1:GTree) (r:Bool),yc a0 a1=some r→ACalls qg 80 [.agg (cellsGTree a0),.agg (cellsGTree a1)] [] (fun r' _=>r'=.bool r))(wa:∀ (a0:GEntry) (a1:GEntry) (r:Bool),zT a0 a1=some r→ACalls qg 122 [.agg (cellsGEntry a0),.agg (cellsGEntry a1)] [] (fun r' _=>r'=.bool r))(zV:∀ (a0:List GEntry) (a1:List GEntry) (r:Bool),zi a0 a1=some r→ACalls qg 121 [.ds true (qc encGEntry a0) (qa a0) false,.ds true (qc encGEntry a1) (qa a1) false,.fn (.func 122) [] []] [] (fun r' _=>r'=.bool r))(ya:∀ (a0:List GTree) (a1:List GTree) (r:Bool),zm a0 a1=some r→ACalls qg 123 [.ds true (qc encGTree a0) (qa a0) false,.ds true (qc encGTree a1) (qa a1) false,.fn (.func 80) [] []] [] (fun r' _=>r'=.bool r))(a0:GTree)(a1:GTree)(r:Bool)(h:xl.body yc zT zi zm a0 a1=some r):ACalls qg 80 [.agg (cellsGTree a0),.agg (cellsGTree a1)] [] (fun r' _=>r'=.bool r):=by
 have ev_value_Same:=fun a0 a1 r h σ=>(wE a0 a1 r h).c σ
 have ev_value_Same_1:=fun a0 a1 r h σ=>(wa a0 a1 r h).c σ
 have ev_slices_EqualFunc_Entry_value_Same_1:=fun a0 a1 r h σ=>(zV a0 a1 r h).c σ
 have ev_slices_EqualFunc_Tree_value_Same:=fun a0 a1 r h σ=>(ya a0 a1 r h).c σ
 refine zf (rs:=[.tmp 4]) tok Tryz.func80 rfl Tryz.ntmps80 rfl Tryz.call80 (by simp) ?_;refine zk [(0,.agg (cellsGTree a0)),(1,.agg (cellsGTree a1))] ⟨rfl,rfl,trivial⟩ ?_;unfold xl.body at h
 refine rg tok [2,3] fun K hK=>?_
 simp only[go_sem,qd,qb,qe,reduceCtorEq,cellsGTree];apply hK
 refine rc [4] fun K hK=>?_
 refine rnN 6 ?_;refine zo 6 (fun L τ=>L=[(2,.op 0 0 0),(3,.op 1 0 0),(16,.bool ((decide (a0.fKind=a1.fKind))&&(decide (a0.fN=a1.fN))))]∧τ=[.cells 0 (cellsGTree a0),.cells 0 (cellsGTree a1)]) ?_ ?_
 · refine xj 10 rfl (fun hg10=>?_) (fun hg10=>?_)
   · have t1:=eq_true hg10;refine rnN 6 ?_;refine zb ⟨rfl,_,_,⟨rfl,rfl⟩,.p t1⟩
   have t2:=eq_false hg10;refine rnN 6 ?_;refine zb ⟨rfl,_,_,⟨rfl,rfl⟩,.p t2⟩
 rintro _ _ ⟨rfl,rfl⟩;refine rnN 1 ?_;refine zo 6 (fun L τ=>L=[(2,.op 0 0 0),(3,.op 1 0 0),(23,.bool (((decide (a0.fKind=a1.fKind))&&(decide (a0.fN=a1.fN)))&&(decide (a0.fS=a1.fS))))]∧τ=[.cells 0 (cellsGTree a0),.cells 0 (cellsGTree a1)]) ?_ ?_
 · refine zP (b:=((decide (a0.fKind=a1.fKind))&&(decide (a0.fN=a1.fN)))) 17 rfl (fun hg17=>?_) (fun hg17=>?_)
   · refine rnN 6 ?_;refine zb ⟨rfl,_,_,⟨rfl,rfl⟩,.b hg17⟩
   refine rnN 6 ?_;refine zb ⟨rfl,_,_,⟨rfl,rfl⟩,.b hg17⟩
 rintro _ _ ⟨rfl,rfl⟩;refine rnN 1 ?_;obtain⟨c3,hc3,h⟩:=bind_some h;refine zo 6 (fun L τ=>L=[(2,.op 0 0 0),(3,.op 1 0 0),(30,.bool c3)]∧τ=[.cells 0 (cellsGTree a0),.cells 0 (cellsGTree a1)]) ?_ ?_
 · refine zP (b:=(((decide (a0.fKind=a1.fKind))&&(decide (a0.fN=a1.fN)))&&(decide (a0.fS=a1.fS)))) 24 rfl (fun hg24=>?_) (fun hg24=>?_)
   · rw[if_pos hg24] at hc3;obtain⟨r4,hr4,hc3⟩:=bind_some hc3;refine rnN 4 ?_;refine clN rfl rfl rfl (yC.ev a0.fRest a1.fRest r4 hr4 _) ?_;refine rnN 1 ?_;cases hc3;refine zb ⟨rfl,_,_,⟨rfl,rfl⟩,.b hg24⟩
   rw[xU hg24] at hc3;refine rnN 6 ?_;cases hc3;refine zb ⟨rfl,_,_,⟨rfl,rfl⟩,.b hg24⟩
 rintro _ _ ⟨rfl,rfl⟩;refine rnN 1 ?_;obtain⟨c5,hc5,h⟩:=bind_some h;refine zo 6 (fun L τ=>L=[(37,.bool c5)]∧τ=[.cells 0 (cellsGTree a0),.cells 0 (cellsGTree a1)]) ?_ ?_
 · refine zP (b:=c3) 31 rfl (fun hg31=>?_) (fun hg31=>?_)
   · rw[if_pos hg31] at hc5;obtain⟨r6,hr6,hc5⟩:=bind_some hc5;refine rnN 4 ?_;refine clN rfl rfl rfl (ev_slices_EqualFunc_Entry_value_Same_1 a0.fEntries a1.fEntries r6 hr6 _) ?_;refine rnN 1 ?_;cases hc5;refine zb ⟨rfl,_,_,⟨rfl,rfl⟩,.b hg31⟩
   rw[xU hg31] at hc5;refine rnN 6 ?_;cases hc5;refine zb ⟨rfl,_,_,⟨rfl,rfl⟩,.b hg31⟩
 rintro _ _ ⟨rfl,rfl⟩;refine rnN 1 ?_;refine nkN hK ?_;cases h;exact rtA
def xC.body (yc:GTree→GTree→Option Bool)(zT:GEntry→GEntry→Option Bool)(zi:(List GEntry)→(List GEntry)→Option Bool)(zm:(List GTree)→(List GTree)→Option Bool)(a0:GEntry)(a1:GEntry):Option Bool:=
 (if a0.fTag=a1.fTag then (zm a0.fTrees a1.fTrees).bind fun r1=>some r1 else some false).bind fun c1=>some c1
theorem xC.step (yc:GTree→GTree→Option Bool)(zT:GEntry→GEntry→Option Bool)(zi:(List GEntry)→(List GEntry)→Option Bool)(zm:(List GTree)→(List GTree)→Option Bool)(wE:∀ (a0:GTree) (a1:GTree) (r:Bool),yc a0 a1=some r→ACalls qg 80 [.agg (cellsGTree a0),.agg (cellsGTree a1)] [] (fun r' _=>r'=.bool r))(wa:∀ (a0:GEntry) (a1:GEntry) (r:Bool),zT a0 a1=some r→ACalls qg 122 [.agg (cellsGEntry a0),.agg (cellsGEntry a1)] [] (fun r' _=>r'=.bool r))(zV:∀ (a0:List GEntry) (a1:List GEntry) (r:Bool),zi a0 a1=some r→ACalls qg 121 [.ds true (qc encGEntry a0) (qa a0) false,.ds true (qc encGEntry a1) (qa a1) false,.fn (.func 122) [] []] [] (fun r' _=>r'=.bool r))(ya:∀ (a0:List GTree) (a1:List GTree) (r:Bool),zm a0 a1=some r→ACalls qg 123 [.ds true (qc encGTree a0) (qa a0) false,.ds true (qc encGTree a1) (qa a1) false,.fn (.func 80) [] []] [] (fun r' _=>r'=.bool r))(a0:GEntry)(a1:GEntry)(r:Bool)(h:xC.body yc zT zi zm a0 a1=some r):ACalls qg 122 [.agg (cellsGEntry a0),.agg (cellsGEntry a1)] [] (fun r' _=>r'=.bool r):=by
 have ev_value_Same:=fun a0 a1 r h σ=>(wE a0 a1 r h).c σ
 have ev_value_Same_1:=fun a0 a1 r h σ=>(wa a0 a1 r h).c σ
 have ev_slices_EqualFunc_Entry_value_Same_1:=fun a0 a1 r h σ=>(zV a0 a1 r h).c σ
 have ev_slices_EqualFunc_Tree_value_Same:=fun a0 a1 r h σ=>(ya a0 a1 r h).c σ
 refine zf (rs:=[.tmp 4]) tok Tryz.func122 rfl Tryz.ntmps122 rfl Tryz.call122 (by simp) ?_;refine zk [(0,.agg (cellsGEntry a0)),(1,.agg (cellsGEntry a1))] ⟨rfl,rfl,trivial⟩ ?_;unfold xC.body at h
 refine rg tok [2,3] fun K hK=>?_
 simp only[go_sem,qd,qb,qe,reduceCtorEq,cellsGEntry];apply hK
 refine rc [4] fun K hK=>?_
 refine rnN 6 ?_;obtain⟨c1,hc1,h⟩:=bind_some h;refine zo 6 (fun L τ=>L=[(16,.bool c1)]∧τ=[.cells 0 (cellsGEntry a0),.cells 0 (cellsGEntry a1)]) ?_ ?_
 · refine xj 10 rfl (fun hg10=>?_) (fun hg10=>?_)
   · have t2:=eq_true hg10;rw[if_pos hg10] at hc1;obtain⟨r3,hr3,hc1⟩:=bind_some hc1;refine rnN 4 ?_;refine clN rfl rfl rfl (ev_slices_EqualFunc_Tree_value_Same a0.fTrees a1.fTrees r3 hr3 _) ?_;refine rnN 1 ?_;cases hc1;refine zb ⟨rfl,_,_,⟨rfl,rfl⟩,.p t2⟩
   have t4:=eq_false hg10;rw[if_neg hg10] at hc1;refine rnN 6 ?_;cases hc1;refine zb ⟨rfl,_,_,⟨rfl,rfl⟩,.p t4⟩
 rintro _ _ ⟨rfl,rfl⟩;refine rnN 1 ?_;refine nkN hK ?_;cases h;exact rtA
def zh.l8 (zT:GEntry→GEntry→Option Bool)(a1:List GEntry):List GEntry→Int→Option Bool
 |[],x6=>some true
 |y8::q8,x6=>(YS a1 x6).bind fun y14=>(zT y8 y14).bind fun r17=>(if (!r17)=true then some false else ((zh.l8 zT a1 q8) (x6+1)))
def zh.body (yc:GTree→GTree→Option Bool)(zT:GEntry→GEntry→Option Bool)(zi:(List GEntry)→(List GEntry)→Option Bool)(zm:(List GTree)→(List GTree)→Option Bool)(a0:List GEntry)(a1:List GEntry):Option Bool:=
 (if (qa a0:Int)=(qa a1:Int) then (zh.l8 zT a1 a0 0) else some false)
theorem zh.step (yc:GTree→GTree→Option Bool)(zT:GEntry→GEntry→Option Bool)(zi:(List GEntry)→(List GEntry)→Option Bool)(zm:(List GTree)→(List GTree)→Option Bool)(wE:∀ (a0:GTree) (a1:GTree) (r:Bool),yc a0 a1=some r→ACalls qg 80 [.agg (cellsGTree a0),.agg (cellsGTree a1)] [] (fun r' _=>r'=.bool r))(wa:∀ (a0:GEntry) (a1:GEntry) (r:Bool),zT a0 a1=some r→ACalls qg 122 [.agg (cellsGEntry a0),.agg (cellsGEntry a1)] [] (fun r' _=>r'=.bool r))(zV:∀ (a0:List GEntry) (a1:List GEntry) (r:Bool),zi a0 a1=some r→ACalls qg 121 [.ds true (qc encGEntry a0) (qa a0) false,.ds true (qc encGEntry a1) (qa a1) false,.fn (.func 122) [] []] [] (fun r' _=>r'=.bool r))(ya:∀ (a0:List GTree) (a1:List GTree) (r:Bool),zm a0 a1=some r→ACalls qg 123 [.ds true (qc encGTree a0) (qa a0) false,.ds true (qc encGTree a1) (qa a1) false,.fn (.func 80) [] []] [] (fun r' _=>r'=.bool r))(a0:List GEntry)(a1:List GEntry)(r:Bool)(h:zh.body yc zT zi zm a0 a1=some r):ACalls qg 121 [.ds true (qc encGEntry a0) (qa a0) false,.ds true (qc encGEntry a1) (qa a1) false,.fn (.func 122) [] []] [] (fun r' _=>r'=.bool r):=by
 have ev_value_Same:=fun a0 a1 r h σ=>(wE a0 a1 r h).c σ
 have ev_value_Same_1:=fun a0 a1 r h σ=>(wa a0 a1 r h).c σ
 have ev_slices_EqualFunc_Entry_value_Same_1:=fun a0 a1 r h σ=>(zV a0 a1 r h).c σ
 have ev_slices_EqualFunc_Tree_value_Same:=fun a0 a1 r h σ=>(ya a0 a1 r h).c σ
 refine zf (rs:=[.tmp 6]) tok Tryz.func121 rfl Tryz.ntmps121 rfl Tryz.call121 (by simp) ?_;refine zk [(0,.ds true (qc encGEntry a0) (qa a0) false),(1,.ds true (qc encGEntry a1) (qa a1) false),(2,.fn (.func 122) [] [])] ⟨rfl,rfl,rfl,trivial⟩ ?_;unfold zh.body at h;refine rgN [0,1,2] ?_
 refine za fun Z1 hZ1=>?_
 refine rgN [0,1,2,14] ?_;refine zF rfl (fun hc2=>?_) (fun hc2=>?_)
 · rw[if_neg hc2] at h;have t3:=eq_false hc2
   refine rg tok [6] fun K hK=>?_
   simp only[go_sem,qd,qb,reduceCtorEq,t3];apply hK
   cases h;exact rtA
 rw[if_pos hc2] at h;have t4:=eq_true hc2;apply zd;apply hZ1
 refine za fun Z5 hZ5=>?_
 refine rg tok [1,2,15,16,17] fun K hK=>?_
 simp only[go_sem,qd,qb,reduceCtorEq,t4];apply hK
 apply ze
 refine yl 15 fun hb8=>?_
 replace hb8:qa a0≤9223372036854775807:=hb8.1;refine zN (fun m L τ=>∃ (p8 q8:List GEntry) (x6:Int),m=qa q8∧L=[(1,.ds true (qc encGEntry a1) (qa a1) false),(2,.fn (.func 122) [] []),(15,.ds true (qc encGEntry a0) (qa a0) false),(16,.int .i64 (qa a0:Int)),(17,.int .i64 x6)]∧τ=[]∧a0=p8++q8∧x6=(qa p8:Int)∧zh.l8 zT a1 q8 x6=some r) _ ⟨[],a0,0,rfl,rfl,rfl,rfl,rfl,h⟩ .s ?_;rintro m L τ ⟨p8,q8,x6,rfl,rfl,rfl,hE8,hi8,h⟩
 rcases q8 with _|⟨y8,q8⟩
 · have hz8:=yJ hE8 hi8;simp only[zh.l8] at h
   refine rg tok [1,2,15,16,17,18] fun K hK=>?_
   simp only[go_sem,qd,qb,hz8];apply hK
   refine za fun Z9 hZ9=>?_
   refine zp rfl ?_;apply zI;apply hZ5;refine rgN [6] ?_;cases h;exact rtA
 obtain⟨hz8,hw8,hx8,hE'8,hi'8⟩:=yk hE8 hi8 hb8;simp only[zh.l8] at h
 refine rg tok [1,2,15,16,17,18] fun K hK=>?_
 simp only[go_sem,qd,qb,hz8];apply hK
 refine za fun Z10 hZ10=>?_
 refine zq rfl ?_;apply zd;apply hZ10
 refine za fun Z11 hZ11=>?_
 apply ze;have f12:=E34.idxS hx8;have f13:=E34.loadS rfl rfl hx8
 refine rg tok [1,2,7,8,15,16,17] fun K hK=>?_
 simp only[go_sem,qd,qf,qb,qe,cellsGEntry,yq,f12,f13];apply hK
 obtain⟨y14,hy14,h⟩:=bind_some h;have f15:=E34.idxS hy14;have f16:=E34.loadS rfl rfl hy14
 refine rg tok [1,2,8,9,15,16,17] fun K hK=>?_
 simp only[go_sem,qd,qf,qb,qe,cellsGEntry,yq,f15,f16];apply hK
 refine rc [1,2,15,16,17,30] fun K hK=>?_
 obtain⟨r17,hr17,h⟩:=bind_some h;refine rnN 3 ?_;refine clN rfl rfl rfl (ev_value_Same_1 y8 y14 r17 hr17 _) ?_;refine rnN 1 ?_;refine nkN hK ?_;refine zw (b:=(!r17)) rfl (fun hc18=>?_) (fun hc18=>?_)
 · rw[if_pos hc18] at h;refine rgN [6] ?_;cases h;exact rtA
 rw[xU hc18] at h;apply zd;apply hZ11
 refine rgE tok [1,2,15,16,17] fun K hK=>?_
 simp only[go_sem,qd,qb,hw8];apply hK
 exact⟨_,_,_,qw q8.length,⟨p8++[y8],q8,x6+1,rfl,rfl,rfl,hE'8,hi'8,h⟩,(.t [] false)⟩
def zl.l8 (yc:GTree→GTree→Option Bool)(a1:List GTree):List GTree→Int→Option Bool
 |[],x6=>some true
 |y8::q8,x6=>(YS a1 x6).bind fun y14=>(yc y8 y14).bind fun r17=>(if (!r17)=true then some false else ((zl.l8 yc a1 q8) (x6+1)))
def zl.body (yc:GTree→GTree→Option Bool)(zT:GEntry→GEntry→Option Bool)(zi:(List GEntry)→(List GEntry)→Option Bool)(zm:(List GTree)→(List GTree)→Option Bool)(a0:List GTree)(a1:List GTree):Option Bool:=
 (if (qa a0:Int)=(qa a1:Int) then (zl.l8 yc a1 a0 0) else some false)
theorem zl.step (yc:GTree→GTree→Option Bool)(zT:GEntry→GEntry→Option Bool)(zi:(List GEntry)→(List GEntry)→Option Bool)(zm:(List GTree)→(List GTree)→Option Bool)(wE:∀ (a0:GTree) (a1:GTree) (r:Bool),yc a0 a1=some r→ACalls qg 80 [.agg (cellsGTree a0),.agg (cellsGTree a1)] [] (fun r' _=>r'=.bool r))(wa:∀ (a0:GEntry) (a1:GEntry) (r:Bool),zT a0 a1=some r→ACalls qg 122 [.agg (cellsGEntry a0),.agg (cellsGEntry a1)] [] (fun r' _=>r'=.bool r))(zV:∀ (a0:List GEntry) (a1:List GEntry) (r:Bool),zi a0 a1=some r→ACalls qg 121 [.ds true (qc encGEntry a0) (qa a0) false,.ds true (qc encGEntry a1) (qa a1) false,.fn (.func 122) [] []] [] (fun r' _=>r'=.bool r))(ya:∀ (a0:List GTree) (a1:List GTree) (r:Bool),zm a0 a1=some r→ACalls qg 123 [.ds true (qc encGTree a0) (qa a0) false,.ds true (qc encGTree a1) (qa a1) false,.fn (.func 80) [] []] [] (fun r' _=>r'=.bool r))(a0:List GTree)(a1:List GTree)(r:Bool)(h:zl.body yc zT zi zm a0 a1=some r):ACalls qg 123 [.ds true (qc encGTree a0) (qa a0) false,.ds true (qc encGTree a1) (qa a1) false,.fn (.func 80) [] []] [] (fun r' _=>r'=.bool r):=by
 have ev_value_Same:=fun a0 a1 r h σ=>(wE a0 a1 r h).c σ
 have ev_value_Same_1:=fun a0 a1 r h σ=>(wa a0 a1 r h).c σ
 have ev_slices_EqualFunc_Entry_value_Same_1:=fun a0 a1 r h σ=>(zV a0 a1 r h).c σ
 have ev_slices_EqualFunc_Tree_value_Same:=fun a0 a1 r h σ=>(ya a0 a1 r h).c σ
 refine zf (rs:=[.tmp 6]) tok Tryz.func123 rfl Tryz.ntmps123 rfl Tryz.call123 (by simp) ?_;refine zk [(0,.ds true (qc encGTree a0) (qa a0) false),(1,.ds true (qc encGTree a1) (qa a1) false),(2,.fn (.func 80) [] [])] ⟨rfl,rfl,rfl,trivial⟩ ?_;unfold zl.body at h;refine rgN [0,1,2] ?_
 refine za fun Z1 hZ1=>?_
 refine rgN [0,1,2,14] ?_;refine zF rfl (fun hc2=>?_) (fun hc2=>?_)
 · rw[if_neg hc2] at h;have t3:=eq_false hc2
   refine rg tok [6] fun K hK=>?_
   simp only[go_sem,qd,qb,reduceCtorEq,t3];apply hK
   cases h;exact rtA
 rw[if_pos hc2] at h;have t4:=eq_true hc2;apply zd;apply hZ1
 refine za fun Z5 hZ5=>?_
 refine rg tok [1,2,15,16,17] fun K hK=>?_
 simp only[go_sem,qd,qb,reduceCtorEq,t4];apply hK
 apply ze
 refine yl 15 fun hb8=>?_
 replace hb8:qa a0≤9223372036854775807:=hb8.1;refine zN (fun m L τ=>∃ (p8 q8:List GTree) (x6:Int),m=qa q8∧L=[(1,.ds true (qc encGTree a1) (qa a1) false),(2,.fn (.func 80) [] []),(15,.ds true (qc encGTree a0) (qa a0) false),(16,.int .i64 (qa a0:Int)),(17,.int .i64 x6)]∧τ=[]∧a0=p8++q8∧x6=(qa p8:Int)∧zl.l8 yc a1 q8 x6=some r) _ ⟨[],a0,0,rfl,rfl,rfl,rfl,rfl,h⟩ .s ?_;rintro m L τ ⟨p8,q8,x6,rfl,rfl,rfl,hE8,hi8,h⟩
 rcases q8 with _|⟨y8,q8⟩
 · have hz8:=yJ hE8 hi8;simp only[zl.l8] at h
   refine rg tok [1,2,15,16,17,18] fun K hK=>?_
   simp only[go_sem,qd,qb,hz8];apply hK
   refine za fun Z9 hZ9=>?_
   refine zp rfl ?_;apply zI;apply hZ5;refine rgN [6] ?_;cases h;exact rtA
 obtain⟨hz8,hw8,hx8,hE'8,hi'8⟩:=yk hE8 hi8 hb8;simp only[zl.l8] at h
 refine rg tok [1,2,15,16,17,18] fun K hK=>?_
 simp only[go_sem,qd,qb,hz8];apply hK
 refine za fun Z10 hZ10=>?_
 refine zq rfl ?_;apply zd;apply hZ10
 refine za fun Z11 hZ11=>?_
 apply ze;have f12:=E38.idxS hx8;have f13:=E38.loadS rfl rfl hx8
 refine rg tok [1,2,7,8,15,16,17] fun K hK=>?_
 simp only[go_sem,qd,qf,qb,qe,cellsGTree,zM,f12,f13];apply hK
 obtain⟨y14,hy14,h⟩:=bind_some h;have f15:=E38.idxS hy14;have f16:=E38.loadS rfl rfl hy14
 refine rg tok [1,2,8,9,15,16,17] fun K hK=>?_
 simp only[go_sem,qd,qf,qb,qe,cellsGTree,zM,f15,f16];apply hK
 refine rc [1,2,15,16,17,30] fun K hK=>?_
 obtain⟨r17,hr17,h⟩:=bind_some h;refine rnN 3 ?_;refine clN rfl rfl rfl (ev_value_Same y8 y14 r17 hr17 _) ?_;refine rnN 1 ?_;refine nkN hK ?_;refine zw (b:=(!r17)) rfl (fun hc18=>?_) (fun hc18=>?_)
 · rw[if_pos hc18] at h;refine rgN [6] ?_;cases h;exact rtA
 rw[xU hc18] at h;apply zd;apply hZ11
 refine rgE tok [1,2,15,16,17] fun K hK=>?_
 simp only[go_sem,qd,qb,hw8];apply hK
 exact⟨_,_,_,qw q8.length,⟨p8++[y8],q8,x6+1,rfl,rfl,rfl,hE'8,hi'8,h⟩,(.t [] false)⟩
mutual
def xl : Nat→GTree→GTree→Option Bool
 |0,_,_=>none
 |k+1,a0,a1=>xl.body (xl k) (xC k) (zh k) (zl k) a0 a1
def xC : Nat→GEntry→GEntry→Option Bool
 |0,_,_=>none
 |k+1,a0,a1=>xC.body (xl k) (xC k) (zh k) (zl k) a0 a1
def zh : Nat→(List GEntry)→(List GEntry)→Option Bool
 |0,_,_=>none
 |k+1,a0,a1=>zh.body (xl k) (xC k) (zh k) (zl k) a0 a1
def zl : Nat→(List GTree)→(List GTree)→Option Bool
 |0,_,_=>none
 |k+1,a0,a1=>zl.body (xl k) (xC k) (zh k) (zl k) a0 a1
end
theorem xl.all (k:Nat):(∀ (a0:GTree) (a1:GTree) (r:Bool),xl k a0 a1=some r→ACalls qg 80 [.agg (cellsGTree a0),.agg (cellsGTree a1)] [] (fun r' _=>r'=.bool r))∧(∀ (a0:GEntry) (a1:GEntry) (r:Bool),xC k a0 a1=some r→ACalls qg 122 [.agg (cellsGEntry a0),.agg (cellsGEntry a1)] [] (fun r' _=>r'=.bool r))∧(∀ (a0:List GEntry) (a1:List GEntry) (r:Bool),zh k a0 a1=some r→ACalls qg 121 [.ds true (qc encGEntry a0) (qa a0) false,.ds true (qc encGEntry a1) (qa a1) false,.fn (.func 122) [] []] [] (fun r' _=>r'=.bool r))∧(∀ (a0:List GTree) (a1:List GTree) (r:Bool),zl k a0 a1=some r→ACalls qg 123 [.ds true (qc encGTree a0) (qa a0) false,.ds true (qc encGTree a1) (qa a1) false,.fn (.func 80) [] []] [] (fun r' _=>r'=.bool r)):=by
 induction k with
 |zero=>exact⟨(fun a0 a1 r h=>by simp only[xl] at h; cases h),(fun a0 a1 r h=>by simp only[xC] at h; cases h),(fun a0 a1 r h=>by simp only[zh] at h; cases h),(fun a0 a1 r h=>by simp only[zl] at h; cases h)⟩
 |succ k ih=>exact⟨(fun a0 a1 r h=>xl.step _ _ _ _ ih.1 ih.2.1 ih.2.2.1 ih.2.2.2 a0 a1 r (by simpa only [xl] using h)),(fun a0 a1 r h=>xC.step _ _ _ _ ih.1 ih.2.1 ih.2.2.1 ih.2.2.2 a0 a1 r (by simpa only [xC] using h)),(fun a0 a1 r h=>zh.step _ _ _ _ ih.1 ih.2.1 ih.2.2.1 ih.2.2.2 a0 a1 r (by simpa only [zh] using h)),(fun a0 a1 r h=>zl.step _ _ _ _ ih.1 ih.2.1 ih.2.2.1 ih.2.2.2 a0 a1 r (by simpa only [zl] using h))⟩
theorem xl.ev (k:Nat)(a0:GTree)(a1:GTree)(r:Bool)(h:xl k a0 a1=some r)(σ:Store):ACalls qg 80 [.agg (cellsGTree a0),.agg (cellsGTree a1)] σ (fun r' σ'=>r'=.bool r∧σ'=σ):=
 ((xl.all k).1 a0 a1 r h).c σ
def yo.j10 (x5:Int)(rec7:Int→Option GTree):Option GTree:=
 (rec7 (x5+1))
def yo.l7 (a0:GSchema)(a3:List UInt8)(a4:GTree)(r1:GMethod×Bool):List GRow→Int→Option GTree
 |[],x5=>some (⟨3,0,[],([]:List GEntry),([]:List GRaw)⟩:GTree)
 |y7::q7,x5=>(if y7.fMethod=a3 then (xw a0 r1.1.fIn y7.fIn).bind fun r17=>(xw a0 r1.1.fOut y7.fOut).bind fun r18=>(if (r17.2&&r18.2)=true then (xl xo r17.1 a4).bind fun r19=>some r19 else some false).bind fun c19=>(if c19=true then some r18.1 else (yo.j10 x5 (yo.l7 a0 a3 a4 r1 q7))) else (yo.j10 x5 (yo.l7 a0 a3 a4 r1 q7)))
def yo (a0:GSchema)(a1:GSchema)(a2:List GRow)(a3:List UInt8)(a4:GTree):Option GTree:=
 bnd (yT a0 a3) fun r1=>(if (!r1.2)=true then some (⟨0,0,[],([]:List GEntry),([]:List GRaw)⟩:GTree) else (yo.l7 a0 a3 a4 r1 a2 0))
theorem yo.ok (a0:GSchema)(a1:GSchema)(a2:List GRow)(a3:List UInt8)(a4:GTree)(r:GTree)(h:yo a0 a1 a2 a3 a4=some r):ACalls qg 42 [.agg (encGSchema a0),.agg (encGSchema a1),.ds true (qc encGRow a2) (qa a2) false,.str a3,.agg (cellsGTree a4)] [] (fun r' _=>r'=.agg (cellsGTree r)):=by
 refine zf (rs:=[.cell 10 37]) tok Tryz.func42 rfl Tryz.ntmps42 rfl Tryz.call42 (by simp) ?_;refine zk [(0,.agg (encGSchema a0)),(1,.agg (encGSchema a1)),(2,.ds true (qc encGRow a2) (qa a2) false),(3,.str a3),(4,.agg (cellsGTree a4))] ⟨rfl,rfl,rfl,rfl,rfl,trivial⟩ ?_;unfold yo at h
 refine rg tok [2,3,5,9,10] fun K hK=>?_
 simp only[go_sem,qd,qb,qe,reduceCtorEq,cellsGTree,encGSchema];apply hK
 refine rc [2,3,5,9,10,11,12] fun K hK=>?_
 obtain⟨r1,hr1,h⟩:=zH h;refine rnN 2 ?_;refine clN rfl rfl rfl (yT.ev a0 a3 r1 hr1 _) ?_;refine zj tok 6 ?_;simp only[go_sem,qd,qf,qb,qe,encGMethod];refine nkN hK ?_
 refine za fun Z2 hZ2=>?_
 refine rgN [2,3,5,9,10,11,26] ?_;refine zw (b:=(!r1.2)) rfl (fun hc3=>?_) (fun hc3=>?_)
 · rw[if_pos hc3] at h;refine rgN [10] ?_;cases h;exact rtA
 rw[xU hc3] at h;apply zd;apply hZ2
 refine za fun Z4 hZ4=>?_
 refine rgN [3,5,9,10,11,28,29,30] ?_;apply ze
 refine yl 28 fun hb7=>?_
 replace hb7:qa a2≤9223372036854775807:=hb7.1;refine zN (fun m L τ=>∃ (p7 q7:List GRow) (x5:Int),m=qa q7∧L=[(3,.str a3),(5,.op 0 0 0),(9,.op 1 0 0),(10,.op 2 0 0),(11,.op 3 0 0),(28,.ds true (qc encGRow a2) (qa a2) false),(29,.int .i64 (qa a2:Int)),(30,.int .i64 x5)]∧τ=[.cells 0 (encGSchema a0),.cells 0 (cellsGTree a4),.cells 0 [.int .i64 0,.int .i64 0,.str [],.ds true [] 0 true,.ds true [] 0 true],.cells 0 [.str r1.1.fName,.str r1.1.fIn,.str r1.1.fOut]]∧a2=p7++q7∧x5=(qa p7:Int)∧yo.l7 a0 a3 a4 r1 q7 x5=some r) _ ⟨[],a2,0,rfl,rfl,rfl,rfl,rfl,h⟩ (.t [0,2,3,4] false) ?_;rintro m L τ ⟨p7,q7,x5,rfl,rfl,rfl,hE7,hi7,h⟩
 rcases q7 with _|⟨y7,q7⟩
 · have hz7:=yJ hE7 hi7;simp only[yo.l7] at h
   refine rg tok [3,5,9,10,11,28,29,30,31] fun K hK=>?_
   simp only[go_sem,qd,qb,hz7];apply hK
   refine za fun Z8 hZ8=>?_
   refine zp rfl ?_;apply zI;apply hZ4;refine rgN [10] ?_;cases h;exact rtA
 obtain⟨hz7,hw7,hx7,hE'7,hi'7⟩:=yk hE7 hi7 hb7;simp only[yo.l7] at h
 refine rg tok [3,5,9,10,11,28,29,30,31] fun K hK=>?_
 simp only[go_sem,qd,qb,hz7];apply hK
 refine za fun Z9 hZ9=>?_
 refine zq rfl ?_;apply zd;apply hZ9;refine yR (fun L τ=>L=[(3,.str a3),(5,.op 0 0 0),(9,.op 1 0 0),(10,.op 2 0 0),(11,.op 3 0 0),(28,.ds true (qc encGRow a2) (qa a2) false),(29,.int .i64 (qa a2:Int)),(30,.int .i64 x5)]∧τ=[.cells 0 (encGSchema a0),.cells 0 (cellsGTree a4),.cells 0 [.int .i64 0,.int .i64 0,.str [],.ds true [] 0 true,.ds true [] 0 true],.cells 0 [.str r1.1.fName,.str r1.1.fIn,.str r1.1.fOut]]∧yo.j10 x5 (yo.l7 a0 a3 a4 r1 q7)=some r) ?_ ?_
 · apply ze;have f11:=E82.idxS hx7;have f12:=E82.loadS rfl rfl hx7
   refine rg tok [3,5,9,10,11,14,28,29,30] fun K hK=>?_
   simp only[go_sem,qd,qf,qb,qe,encGRow,f11,f12];apply hK
   refine za fun Z13 hZ13=>?_
   refine rgN [3,5,9,10,11,14,28,29,30,37] ?_;refine zF rfl (fun hc14=>?_) (fun hc14=>?_)
   · rw[if_neg hc14] at h;have t15:=eq_false hc14;apply zI;exact⟨_,_,⟨rfl,rfl,h⟩,(.t [0,1,2,3] false)⟩
   rw[if_pos hc14] at h;have t16:=eq_true hc14;apply zd;apply hZ13
   refine rc [3,5,9,10,11,14,15,16,28,29,30] fun K hK=>?_
   obtain⟨r17,hr17,h⟩:=bind_some h;refine zj tok 5 ?_;simp only[go_sem,qd,qf,qb,qe,cellsGTree,t16];refine clN rfl rfl rfl (xw.ev a0 r1.1.fIn y7.fIn r17 hr17 _) ?_;refine zj tok 6 ?_;simp only[go_sem,qd,qf,qb,qe,cellsGTree];refine nkN hK ?_
   refine rc [3,5,9,10,11,15,16,17,18,28,29,30] fun K hK=>?_
   obtain⟨r18,hr18,h⟩:=bind_some h;refine zj tok 5 ?_;simp only[go_sem,qd,qf,qb,qe,cellsGTree];refine clN rfl rfl rfl (xw.ev a0 r1.1.fOut y7.fOut r18 hr18 _) ?_;refine zj tok 6 ?_;simp only[go_sem,qd,qf,qb,qe,cellsGTree];refine nkN hK ?_
   refine rc [3,5,9,10,11,17,28,29,30,64] fun K hK=>?_
   refine rnN 2 ?_;refine zo 2 (fun L τ=>L=[(3,.str a3),(5,.op 0 0 0),(9,.op 1 0 0),(10,.op 2 0 0),(11,.op 3 0 0),(15,.op 5 0 0),(17,.op 6 0 0),(28,.ds true (qc encGRow a2) (qa a2) false),(29,.int .i64 (qa a2:Int)),(30,.int .i64 x5),(59,.bool (r17.2&&r18.2))]∧τ=[.cells 0 (encGSchema a0),.cells 0 (cellsGTree a4),.cells 0 [.int .i64 0,.int .i64 0,.str [],.ds true [] 0 true,.ds true [] 0 true],.cells 0 [.str r1.1.fName,.str r1.1.fIn,.str r1.1.fOut],.cells 0 (encGRow y7),.cells 0 (cellsGTree r17.1),.cells 0 (cellsGTree r18.1)]) ?_ ?_
   · refine zP (b:=r17.2) 57 rfl (fun hg57=>?_) (fun hg57=>?_)
     · refine rnN 2 ?_;refine zb ⟨rfl,_,_,⟨rfl,rfl⟩,.b hg57⟩
     refine rnN 2 ?_;refine zb ⟨rfl,_,_,⟨rfl,rfl⟩,.b hg57⟩
   rintro _ _ ⟨rfl,rfl⟩;refine rnN 1 ?_;obtain⟨c19,hc19,h⟩:=bind_some h;refine zo 4 (fun L τ=>L=[(3,.str a3),(5,.op 0 0 0),(9,.op 1 0 0),(10,.op 2 0 0),(11,.op 3 0 0),(17,.op 6 0 0),(28,.ds true (qc encGRow a2) (qa a2) false),(29,.int .i64 (qa a2:Int)),(30,.int .i64 x5),(64,.bool c19)]∧τ=[.cells 0 (encGSchema a0),.cells 0 (cellsGTree a4),.cells 0 [.int .i64 0,.int .i64 0,.str [],.ds true [] 0 true,.ds true [] 0 true],.cells 0 [.str r1.1.fName,.str r1.1.fIn,.str r1.1.fOut],.cells 0 (encGRow y7),.cells 0 (cellsGTree r17.1),.cells 0 (cellsGTree r18.1)]) ?_ ?_
   · refine zP (b:=(r17.2&&r18.2)) 60 rfl (fun hg60=>?_) (fun hg60=>?_)
     · rw[if_pos hg60] at hc19;obtain⟨r20,hr20,hc19⟩:=bind_some hc19;refine rnN 2 ?_;refine clN rfl rfl rfl (xl.ev xo r17.1 a4 r20 hr20 _) ?_;refine rnN 1 ?_;cases hc19;refine zb ⟨rfl,_,_,⟨rfl,rfl⟩,.b hg60⟩
     rw[xU hg60] at hc19;refine rnN 4 ?_;cases hc19;refine zb ⟨rfl,_,_,⟨rfl,rfl⟩,.b hg60⟩
   rintro _ _ ⟨rfl,rfl⟩;refine nkN hK ?_;refine zw (b:=c19) rfl (fun hc21=>?_) (fun hc21=>?_)
   · rw[if_pos hc21] at h;refine rgN [10] ?_;cases h;exact rtA
   rw[xU hc21] at h;apply zd;exact⟨_,_,⟨rfl,rfl,h⟩,(.t [0,1,2,3] false)⟩
 rintro _ _ ⟨rfl,rfl,h⟩;unfold yo.j10 at h
 refine rgE tok [3,5,9,10,11,28,29,30] fun K hK=>?_
 simp only[go_sem,qd,qb,hw7];apply hK
 exact⟨_,_,_,qw q7.length,⟨p7++[y7],q7,x5+1,rfl,rfl,rfl,hE'7,hi'7,h⟩,.s⟩
end
section
set_option maxRecDepth 4000
set_option maxHeartbeats 1000000
open AM
theorem yo.ev (a0:GSchema)(a1:GSchema)(a2:List GRow)(a3:List UInt8)(a4:GTree)(r:GTree)(h:yo a0 a1 a2 a3 a4=some r)(σ:Store):ACalls qg 42 [.agg (encGSchema a0),.agg (encGSchema a1),.ds true (qc encGRow a2) (qa a2) false,.str a3,.agg (cellsGTree a4)] σ (fun r' σ'=>r'=.agg (cellsGTree r)∧σ'=σ):=
 (yo.ok a0 a1 a2 a3 a4 r h).c σ
def xx.j19 (a0:GDedupCache)(a1:Int)(a2:Int)(w9:MapB GDedupKey GPacket)(w12:MapB Int Int)(x18:Bool):Option (Int×GDedupCache):=
 (if x18=true then none else some (0,(⟨a0.fsize,a0.forder++[(⟨a1,a2⟩:GDedupKey)],a0.vorder+1,w9,w12⟩:GDedupCache)))
def xx (a0:GDedupCache)(a1:Int)(a2:Int)(a3:GPacket):Option (Int×GDedupCache):=
 bnd (xS a0 a1 a2) fun r2=>(if r2.2=1 then (Xm (qa a0.forder+1) 16).bind fun _u6=>(MapB.sto (MapB.ent (⟨0,0,0,0,0,[],0,[]⟩:GPacket) a0.freplies (⟨a1,a2⟩:GDedupKey)) (MapB.stamp a0.freplies (⟨a1,a2⟩:GDedupKey)) a3).bind fun w9=>(MapB.sto (MapB.ent 0 a0.flast a1) (MapB.stamp a0.flast a1) a2).bind fun w12=>(YS (a0.forder++[(⟨a1,a2⟩:GDedupKey)]) 0).bind fun y15=>(if a0.fsize<(qa (a0.forder++[(⟨a1,a2⟩:GDedupKey)]):Int) then (xx.j19 a0 a1 a2 w9 w12 (!(decide (y15.ffrom=a1)&&decide (y15.fid=a2)))) else (xx.j19 a0 a1 a2 w9 w12 false)) else some (20,a0))
theorem xx.ok (a0:GDedupCache)(a1:Int)(a2:Int)(a3:GPacket)(r:Int×GDedupCache)(h:xx a0 a1 a2 a3=some r):ACalls qg 134 [.op 0 0 0,.int .i64 a1,.int .i64 a2,.agg (encGPacket a3)] [.cells 0 [.int .i64 a0.fsize,.os true 2 1 (a0.vorder) 0 (qa a0.forder) false,.mp 2,.mp 3],.cells (a0.vorder) (qc encGDedupKey a0.forder),.map (zR kvGDedupKey kvGPacket a0.freplies.l) (some (a0.freplies.bs,a0.freplies.ck)),.map (zR (AV.int .i64) (AV.int .i64) a0.flast.l) (some (a0.flast.bs,a0.flast.ck))] (fun r' σ'=>r'=.int .i64 r.1∧σ'=[.cells 0 [.int .i64 r.2.fsize,.os true 2 1 (r.2.vorder) 0 (qa r.2.forder) false,.mp 2,.mp 3],.cells (r.2.vorder) (qc encGDedupKey r.2.forder),.map (zR kvGDedupKey kvGPacket r.2.freplies.l) (some (r.2.freplies.bs,r.2.freplies.ck)),.map (zR (AV.int .i64) (AV.int .i64) r.2.flast.l) (some (r.2.flast.bs,r.2.flast.ck))]):=by
 refine we [0,1,2,3] (rs:=[.tmp 8]) tok Tryz.func134 rfl Tryz.ntmps134 rfl Tryz.call134 (by simp) rfl ?_;refine zk [(0,.op 0 0 0),(1,.int .i64 a1),(2,.int .i64 a2),(3,.agg (encGPacket a3))] ⟨rfl,rfl,rfl,rfl,trivial⟩ ?_;unfold xx at h
 refine rg tok [0,1,2,7] fun K hK=>?_
 simp only[go_sem,qd,qb,qe,reduceCtorEq,encGPacket];apply hK
 refine za fun Z1 hZ1=>?_
 refine rc [0,1,2,7,10] fun K hK=>?_
 obtain⟨r2,hr2,h⟩:=zH h;refine rnN 3 ?_;refine clN rfl rfl rfl (@id (ACalls qg 132 [.op 0 0 0,.int .i64 a1,.int .i64 a2] [.cells 0 [.int .i64 a0.fsize,.os true 2 1 (a0.vorder) 0 (qa a0.forder) false,.mp 2,.mp 3],.cells (a0.vorder) (qc encGDedupKey a0.forder),.map (zR kvGDedupKey kvGPacket a0.freplies.l) (some (a0.freplies.bs,a0.freplies.ck)),.map (zR (AV.int .i64) (AV.int .i64) a0.flast.l) (some (a0.flast.bs,a0.flast.ck)),.cells 0 (encGPacket a3)] (fun r' σ'=>r'=.tup [.agg (encGPacket r2.1),.int .i64 r2.2]∧σ'=[.cells 0 [.int .i64 a0.fsize,.os true 2 1 (a0.vorder) 0 (qa a0.forder) false,.mp 2,.mp 3],.cells (a0.vorder) (qc encGDedupKey a0.forder),.map (zR kvGDedupKey kvGPacket a0.freplies.l) (some (a0.freplies.bs,a0.freplies.ck)),.map (zR (AV.int .i64) (AV.int .i64) a0.flast.l) (some (a0.flast.bs,a0.flast.ck)),.cells 0 (encGPacket a3)])) ((xS.ok a0 a1 a2 r2 hr2).ix [0,1,2,3])) ?_;refine zj tok 6 ?_;simp only[go_sem,qd,qf,qb,qe,reduceCtorEq,encGPacket];refine nkN hK ?_;refine rgN [0,1,2,7,21] ?_;refine zF rfl (fun hc3=>?_) (fun hc3=>?_)
 · rw[if_neg hc3] at h;have t4:=eq_false hc3
   refine rg tok [8] fun K hK=>?_
   simp only[go_sem,qd,qb,reduceCtorEq,t4];apply hK
   apply zE;cases h;simp only[wg,zX,z7,yN,exists_eq_left',go_sem,qe];refine⟨by decide,by simp,?_,?_⟩
   · first|rfl|(simp only[go_sem,qd,qf,qb,qe,qi,qm,reduceIte,reduceCtorEq,push_cast,if_true,qv,qk,qn,qj,qx,qo,qE,qz,qr,qq,qp,zg,encGDedupKey]<;>rfl)
   first|rfl|(simp only[go_sem,qb,qe,reduceCtorEq,push_cast,if_true,qk,qn,qj,zg]<;>rfl)
 rw[if_pos hc3] at h;have t5:=eq_true hc3;apply zd;apply hZ1
 refine rg tok [0,1,2,7,11] fun K hK=>?_
 simp only[go_sem,qd,qf,qb,qe,reduceCtorEq,t5];apply hK
 obtain⟨_u6,hu6,h⟩:=bind_some h;have gu6:=yy hu6;have f7:=(zz E207.len a0.forder)
 refine rd [0,1,2,7,11] fun K hK=>?_
 refine DW.start (T:=tab) [.any,.any,.any,.any,.own 1 [],.at [],.eff,.eff,.any,.any,.eff] [(1,[])] ?_;refine DW.runN tok 8 ?_;simp only[go_sem,qd,qf,qb,qe,qi,reduceCtorEq,zv,zQ,qO,qI,true_and,qT,ye,zO,yd,gu6,f7,yv,qR,qX,AV.one,qB,qL,qs,qt,qk,qN];refine DW.runN tok 3 ?_;simp only[go_sem,qd,qf,qb,qe,reduceCtorEq,qs,qt,qk];refine DW.fin tok (by decide +kernel) rfl ?_;simp only[zn,upd,qb,reduceIte,ym,y1];apply hK
 refine yz (L:=[(0,.op 0 0 0),(1,.int .i64 a1),(2,.int .i64 a2),(7,.op 4 0 0),(11,.op 6 0 0)]) (τ:=[.cells 0 [.int .i64 a0.fsize,.os true 2 1 (a0.vorder+1) 0 (qa (a0.forder++[(⟨a1,a2⟩:GDedupKey)])) false,.mp 2,.mp 3],.cells (a0.vorder+1) (qc encGDedupKey (a0.forder++[(⟨a1,a2⟩:GDedupKey)])),.map (zR kvGDedupKey kvGPacket a0.freplies.l) (some (a0.freplies.bs,a0.freplies.ck)),.map (zR (AV.int .i64) (AV.int .i64) a0.flast.l) (some (a0.flast.bs,a0.flast.ck)),.cells 0 (encGPacket a3),.cells 0 (encGPacket r2.1),.cells 0 [.int .i64 a1,.int .i64 a2],.cells 0 [.int .i64 a1,.int .i64 a2]]) .s ?_
 have f8:=fun (o0:AObj) (o1:AObj) (x:Store)=>entry_B (T:=tab) (t:=205) (ek:=kvGDedupKey) (ev:=kvGPacket) (z:=(⟨0,0,0,0,0,[],0,[]⟩:GPacket)) KA268 rfl rfl rfl rfl a0.freplies (⟨a1,a2⟩:GDedupKey) (o0::o1::.map (zR kvGDedupKey kvGPacket a0.freplies.l) (some (a0.freplies.bs,a0.freplies.ck))::x) 2 rfl rfl
 simp only[XQ,kvGDedupKey,encGDedupKey,kvGPacket,encGPacket] at f8;obtain⟨w9,hw9,h⟩:=bind_some h
 have f10:=fun (o0:AObj) (o1:AObj) (x:Store)=>store_B (ek:=kvGDedupKey) (ev:=kvGPacket) hw9 (o0::o1::.map (zR kvGDedupKey kvGPacket (MapB.ent (⟨0,0,0,0,0,[],0,[]⟩:GPacket) a0.freplies (⟨a1,a2⟩:GDedupKey)).l) (some ((MapB.ent (⟨0,0,0,0,0,[],0,[]⟩:GPacket) a0.freplies (⟨a1,a2⟩:GDedupKey)).bs,(MapB.ent (⟨0,0,0,0,0,[],0,[]⟩:GPacket) a0.freplies (⟨a1,a2⟩:GDedupKey)).ck))::x) 2 rfl rfl .i64
 simp only[XQ,kvGPacket,encGPacket] at f10
 have f11:=fun (o0:AObj) (o1:AObj) (o2:AObj) (x:Store)=>entry_B (T:=tab) (t:=206) (ek:=(AV.int .i64)) (ev:=(AV.int .i64)) (z:=0) (vaB.int rfl rfl rfl rfl) rfl rfl rfl rfl a0.flast a1 (o0::o1::o2::.map (zR (AV.int .i64) (AV.int .i64) a0.flast.l) (some (a0.flast.bs,a0.flast.ck))::x) 3 rfl rfl
 simp only[XQ] at f11;obtain⟨w12,hw12,h⟩:=bind_some h
 have f13:=fun (o0:AObj) (o1:AObj) (o2:AObj) (x:Store)=>store_B (ek:=(AV.int .i64)) (ev:=(AV.int .i64)) hw12 (o0::o1::o2::.map (zR (AV.int .i64) (AV.int .i64) (MapB.ent 0 a0.flast a1).l) (some ((MapB.ent 0 a0.flast a1).bs,(MapB.ent 0 a0.flast a1).ck))::x) 3 rfl rfl .i64
 simp only[XQ] at f13
 refine rd [0,11] fun K hK=>?_
 refine DW.start (T:=tab) [.any,.any,.any,.at [],.at [],.any,.any,.any,.at [],.any,.own 1 [2],.any,.eff,.any,.eff,.eff,.any,.eff] [(1,[2])] ?_;refine DW.runN tok 8 ?_;simp only[go_sem,qd,qf,qb,qe,reduceCtorEq];refine DW.runN tok 8 ?_;simp only[go_sem,qd,qf,qb,qe,reduceCtorEq,f8,f10,f11];refine DW.runN tok 2 ?_;simp only[go_sem,qd,qf,qb,qe,reduceCtorEq,f13];refine DW.fin tok (by decide +kernel) rfl ?_;simp only[zn,upd,qb,reduceIte,ym,y1];apply hK
 refine za fun Z14 hZ14=>?_
 obtain⟨y15,hy15,h⟩:=bind_some h;have f16:=E207.idxO hy15;have f17:=E207.rdO hy15
 refine rg tok [0,11,12] fun K hK=>?_
 simp only[go_sem,qd,qf,qb,qe,reduceCtorEq,encGDedupKey,f16,f17];apply hK
 refine yR (fun L τ=>∃ (x18:Bool),L=[(0,.op 0 0 0),(12,.op 4 0 0),(71,.bool x18)]∧τ=[.cells 0 [.int .i64 a0.fsize,.os true 2 1 (a0.vorder+1) 0 (qa (a0.forder++[(⟨a1,a2⟩:GDedupKey)])) false,.mp 2,.mp 3],.cells (a0.vorder+1) (qc encGDedupKey (a0.forder++[(⟨a1,a2⟩:GDedupKey)])),.map (zR kvGDedupKey kvGPacket w9.l) (some (w9.bs,w9.ck)),.map (zR (AV.int .i64) (AV.int .i64) w12.l) (some (w12.bs,w12.ck)),.cells 0 [.int .i64 y15.ffrom,.int .i64 y15.fid]]∧xx.j19 a0 a1 a2 w9 w12 x18=some r) ?_ ?_
 · refine rdE [0,12,71] fun K hK=>?_
   refine DW.start (T:=tab) [.any,.any,.any,.at [],.at [],.any,.any,.any,.at [],.any,.any,.at [],.at [],.any,.any] [] ?_;refine DW.runN tok 8 ?_;simp only[go_sem,qd,qb,qe,reduceCtorEq];refine DW.runN tok 3 ?_;simp only[go_sem,qd,qb,qe,reduceCtorEq]
   refine DW.if 67 rfl (fun hg67=>?_) (fun hg67=>?_)
   · rw[if_pos hg67] at h;have t22:=eq_true hg67;refine DW.runN tok 4 ?_;simp only[go_sem,qd,qf,qb,qe,reduceCtorEq,t22,evEqA,ceqL,ceq];refine DW.fin tok (by decide +kernel) rfl ?_;simp only[zn,upd,qb,reduceIte,ym,y1];apply hK
     exact⟨_,_,⟨!(decide (y15.ffrom=a1)&&decide (y15.fid=a2)),rfl,rfl,h⟩,(.t [0,1,2,3,8] false)⟩
   rw[if_neg hg67] at h;have t23:=eq_false hg67;refine DW.runN tok 4 ?_;simp only[go_sem,qd,qb,reduceCtorEq,t23];refine DW.fin tok (by decide +kernel) rfl ?_;simp only[zn,upd,qb,reduceIte,ym,y1];apply hK
   exact⟨_,_,⟨false,rfl,rfl,h⟩,(.t [0,1,2,3,8] false)⟩
 rintro _ _ ⟨x18,rfl,rfl,h⟩;unfold xx.j19 at h;refine zw (b:=x18) rfl (fun hc20=>?_) (fun hc20=>?_)
 · rw[if_pos hc20] at h
   have f21:=fun (o0:AObj) (o1:AObj) (x:Store)=>delete_B (T:=tab) (t:=205) (ek:=kvGDedupKey) (ev:=kvGPacket) KA268 rfl rfl w9 y15 (o0::o1::.map (zR kvGDedupKey kvGPacket w9.l) (some (w9.bs,w9.ck))::x) 2 rfl rfl rfl
   simp only[XQ,kvGDedupKey,encGDedupKey] at f21
   refine rd [0] fun K hK=>?_
   refine DW.start (T:=tab) [.any,.any,.any,.at [],.at [],.eff] [] ?_;refine DW.runN tok 6 ?_;simp only[go_sem,qd,qf,qb,qe,reduceCtorEq,f21];refine DW.fin tok (by decide +kernel) rfl ?_;simp only[zn,upd,qb,reduceIte,ym,y1];apply hK
   cases h
 rw[xU hc20] at h;apply zd;apply hZ14;refine rgN [8] ?_;apply zE;cases h;simp only[wg,zX,z7,yN,exists_eq_left',go_sem,qe];refine⟨by decide,by simp,?_,?_⟩
 · first|rfl|(simp only[go_sem,qd,qf,qb,qe,qi,qm,reduceIte,reduceCtorEq,push_cast,if_true,qv,qk,qn,qj,qx,qo,qE,qz,qr,qq,qp,zg,encGDedupKey]<;>rfl)
 first|rfl|(simp only[go_sem,qb,qe,reduceCtorEq,push_cast,if_true,qk,qn,qj,zg]<;>rfl)
def yE.j24 (a0:GServerServer)(a1:GPacket)(r10:Zb×Int)(x22:Int)(x23:List UInt8):Option (GPacket×GServerServer):=
 (xx a0.fcache a1.fFrom a1.fID (⟨4,a0.fself,a1.fFrom,a1.fID,a1.fVersion,a1.fMethod,x22,x23⟩:GPacket)).bind fun r26=>some ((⟨4,a0.fself,a1.fFrom,a1.fID,a1.fVersion,a1.fMethod,x22,x23⟩:GPacket),(⟨a0.fself,a0.fnumbers,a0.fschemas,a0.fnewest,a0.frows,r26.2,a0.feffects++[(⟨a1.fFrom,a1.fID,a1.fMethod,r10.1.fin⟩:GServerEffect)],a0.veffects+1⟩:GServerServer))
def yE (a0:GServerServer)(a1:GPacket):Option (GPacket×GServerServer):=
 bnd (xS a0.fcache a1.fFrom a1.fID) fun r1=>(if r1.2=2 then some (r1.1,a0) else (if r1.2=3 then some ((⟨4,a0.fself,a1.fFrom,a1.fID,a1.fVersion,a1.fMethod,20,[]⟩:GPacket),a0) else (xZ a0 a1).bind fun r10=>(if r10.2=0 then (YS a0.fschemas (IntKind.i64.wrap ((qa a0.fschemas:Int)-1))).bind fun y15=>(Xm (qa a0.feffects+1) 112).bind fun _u18=>(yo y15 a0.fnewest a0.frows a1.fMethod r10.1.fin).bind fun r20=>(yx y15 r10.1.fschema r10.1.fown.fOut r10.1.ftheirs.fOut).bind fun r21=>(wN r21.1 r20).bind fun r27=>(if r27.2=0 then (wj r27.1).bind fun r30=>(yE.j24 a0 a1 r10 r30.2 r30.1) else (yE.j24 a0 a1 r10 r27.2 ([]:List UInt8))) else some ((⟨4,a0.fself,a1.fFrom,a1.fID,a1.fVersion,a1.fMethod,r10.2,[]⟩:GPacket),a0))))
theorem yE.ok (a0:GServerServer)(a1:GPacket)(r:GPacket×GServerServer)(h:yE a0 a1=some r):ACalls qg 87 [.op 0 0 0,.agg (encGPacket a1)] [.cells 0 [.int .i64 a0.fself,.ds true (qc encI a0.fnumbers) (qa a0.fnumbers) false,.ds true (qc encGSchema a0.fschemas) (qa a0.fschemas) false,.str a0.fnewest.fName,.ds true (qc encGMessage a0.fnewest.fMessages) (qa a0.fnewest.fMessages) false,.ds true (qc encGEnumeration a0.fnewest.fEnums) (qa a0.fnewest.fEnums) false,.ds true (qc encGMethod a0.fnewest.fMethods) (qa a0.fnewest.fMethods) false,.ds true (qc encGRow a0.frows) (qa a0.frows) false,.op 1 0 0,.os true 8 5 (a0.veffects) 0 (qa a0.feffects) false],.cells 0 [.int .i64 a0.fcache.fsize,.os true 2 2 (a0.fcache.vorder) 0 (qa a0.fcache.forder) false,.mp 3,.mp 4],.cells (a0.fcache.vorder) (qc encGDedupKey a0.fcache.forder),.map (zR kvGDedupKey kvGPacket a0.fcache.freplies.l) (some (a0.fcache.freplies.bs,a0.fcache.freplies.ck)),.map (zR (AV.int .i64) (AV.int .i64) a0.fcache.flast.l) (some (a0.fcache.flast.bs,a0.fcache.flast.ck)),.cells (a0.veffects) (qc encGServerEffect a0.feffects)] (fun r' σ'=>r'=.agg (encGPacket r.1)∧σ'=[.cells 0 [.int .i64 r.2.fself,.ds true (qc encI r.2.fnumbers) (qa r.2.fnumbers) false,.ds true (qc encGSchema r.2.fschemas) (qa r.2.fschemas) false,.str r.2.fnewest.fName,.ds true (qc encGMessage r.2.fnewest.fMessages) (qa r.2.fnewest.fMessages) false,.ds true (qc encGEnumeration r.2.fnewest.fEnums) (qa r.2.fnewest.fEnums) false,.ds true (qc encGMethod r.2.fnewest.fMethods) (qa r.2.fnewest.fMethods) false,.ds true (qc encGRow r.2.frows) (qa r.2.frows) false,.op 1 0 0,.os true 8 5 (r.2.veffects) 0 (qa r.2.feffects) false],.cells 0 [.int .i64 r.2.fcache.fsize,.os true 2 2 (r.2.fcache.vorder) 0 (qa r.2.fcache.forder) false,.mp 3,.mp 4],.cells (r.2.fcache.vorder) (qc encGDedupKey r.2.fcache.forder),.map (zR kvGDedupKey kvGPacket r.2.fcache.freplies.l) (some (r.2.fcache.freplies.bs,r.2.fcache.freplies.ck)),.map (zR (AV.int .i64) (AV.int .i64) r.2.fcache.flast.l) (some (r.2.fcache.flast.bs,r.2.fcache.flast.ck)),.cells (r.2.veffects) (qc encGServerEffect r.2.feffects)]):=by
 refine we [0,1,2,3,4,5] (rs:=[.cell 4 43]) tok Tryz.func87 rfl Tryz.ntmps87 rfl Tryz.call87 (by simp) rfl ?_;refine zk [(0,.op 0 0 0),(1,.agg (encGPacket a1))] ⟨rfl,rfl,trivial⟩ ?_;unfold yE at h
 refine rg tok [0,3,4] fun K hK=>?_
 simp only[go_sem,qd,qb,qe,reduceCtorEq,encGPacket];apply hK
 obtain⟨r1,hr1,h⟩:=zH h
 refine rd [0,3,4,5,6] fun K hK=>?_
 refine DW.start (T:=tab) [.any,.any,.any,.at [],.any,.at [],.any,.at [],.eff,.any,.any,.any,.flt,.eff,.any] [] ?_;refine DW.runN tok 8 ?_;simp only[go_sem,qd,qb,qe,reduceCtorEq,encGPacket];refine DW.callS rfl rfl rfl (@id (ACalls qg 132 [.op 1 0 0,.int .i64 a1.fFrom,.int .i64 a1.fID] [.cells 0 [.int .i64 a0.fself,.ds true (qc encI a0.fnumbers) (qa a0.fnumbers) false,.ds true (qc encGSchema a0.fschemas) (qa a0.fschemas) false,.str a0.fnewest.fName,.ds true (qc encGMessage a0.fnewest.fMessages) (qa a0.fnewest.fMessages) false,.ds true (qc encGEnumeration a0.fnewest.fEnums) (qa a0.fnewest.fEnums) false,.ds true (qc encGMethod a0.fnewest.fMethods) (qa a0.fnewest.fMethods) false,.ds true (qc encGRow a0.frows) (qa a0.frows) false,.op 1 0 0,.os true 8 5 (a0.veffects) 0 (qa a0.feffects) false],.cells 0 [.int .i64 a0.fcache.fsize,.os true 2 2 (a0.fcache.vorder) 0 (qa a0.fcache.forder) false,.mp 3,.mp 4],.cells (a0.fcache.vorder) (qc encGDedupKey a0.fcache.forder),.map (zR kvGDedupKey kvGPacket a0.fcache.freplies.l) (some (a0.fcache.freplies.bs,a0.fcache.freplies.ck)),.map (zR (AV.int .i64) (AV.int .i64) a0.fcache.flast.l) (some (a0.fcache.flast.bs,a0.fcache.flast.ck)),.cells (a0.veffects) (qc encGServerEffect a0.feffects),.cells 0 (encGPacket a1),.cells 0 [.int .i64 0,.int .i64 0,.int .i64 0,.int .i64 0,.int .i64 0,.str [],.int .i64 0,.str []]] (fun r' σ'=>r'=.tup [.agg (encGPacket r1.1),.int .i64 r1.2]∧σ'=[.cells 0 [.int .i64 a0.fself,.ds true (qc encI a0.fnumbers) (qa a0.fnumbers) false,.ds true (qc encGSchema a0.fschemas) (qa a0.fschemas) false,.str a0.fnewest.fName,.ds true (qc encGMessage a0.fnewest.fMessages) (qa a0.fnewest.fMessages) false,.ds true (qc encGEnumeration a0.fnewest.fEnums) (qa a0.fnewest.fEnums) false,.ds true (qc encGMethod a0.fnewest.fMethods) (qa a0.fnewest.fMethods) false,.ds true (qc encGRow a0.frows) (qa a0.frows) false,.op 1 0 0,.os true 8 5 (a0.veffects) 0 (qa a0.feffects) false],.cells 0 [.int .i64 a0.fcache.fsize,.os true 2 2 (a0.fcache.vorder) 0 (qa a0.fcache.forder) false,.mp 3,.mp 4],.cells (a0.fcache.vorder) (qc encGDedupKey a0.fcache.forder),.map (zR kvGDedupKey kvGPacket a0.fcache.freplies.l) (some (a0.fcache.freplies.bs,a0.fcache.freplies.ck)),.map (zR (AV.int .i64) (AV.int .i64) a0.fcache.flast.l) (some (a0.fcache.flast.bs,a0.fcache.flast.ck)),.cells (a0.veffects) (qc encGServerEffect a0.feffects),.cells 0 (encGPacket a1),.cells 0 [.int .i64 0,.int .i64 0,.int .i64 0,.int .i64 0,.int .i64 0,.str [],.int .i64 0,.str []]])) ((xS.ok a0.fcache a1.fFrom a1.fID r1 hr1).ix [1,2,3,4])) (YH (by simp only[go_sem])) ?_;refine DW.runN tok 6 ?_;simp only[go_sem,qd,qf,qb,qe,reduceCtorEq,encGPacket];refine DW.fin tok (by decide +kernel) rfl ?_;simp only[zn,upd,qb,reduceIte,ym,y1];apply hK
 refine za fun Z2 hZ2=>?_
 refine rgN [0,3,4,5,6,28] ?_;refine zF rfl (fun hc3=>?_) (fun hc3=>?_)
 · rw[if_pos hc3] at h;have t4:=eq_true hc3
   refine rg tok [4] fun K hK=>?_
   simp only[go_sem,qd,qf,qb,qe,reduceCtorEq,t4];apply hK
   apply zE;cases h;simp only[wg,zX,z7,yN,exists_eq_left',go_sem,qf,qe,encGPacket];refine⟨by decide,by simp,?_,?_⟩
   · first|rfl|(simp only[go_sem,qd,qf,qb,qe,qi,qm,reduceIte,reduceCtorEq,push_cast,if_true,qv,qk,qn,qj,qx,qo,qE,qz,qr,qq,qp,zg,cellsGTree,encGDedupKey,encGPacket,encGSchema,encGServerEffect,zM]<;>rfl)
   first|rfl|(simp only[go_sem,qb,qe,reduceCtorEq,push_cast,if_true,qk,qn,qj,qo,qr,qq,zg]<;>rfl)
 rw[if_neg hc3] at h;have t5:=eq_false hc3;apply zd;apply hZ2
 refine rd [0,3,4,6,7] fun K hK=>?_
 refine DW.start (T:=tab) [.any,.any,.any,.own 1 [],.any,.own 1 [],.any,.own 1 [],.any,.own 1 [],.any,.own 1 [],.any,.eff,.eff] [(1,[])] ?_;refine DW.runN tok 8 ?_;simp only[go_sem,qd,qb,qe,reduceCtorEq,encGPacket,t5];refine DW.runN tok 7 ?_;simp only[go_sem,qd,qf,qb,qe,reduceCtorEq];refine DW.fin tok (by decide +kernel) rfl ?_;simp only[zn,upd,qb,reduceIte,ym,y1];apply hK
 refine za fun Z6 hZ6=>?_
 refine rgN [0,3,4,7,44] ?_;refine zF rfl (fun hc7=>?_) (fun hc7=>?_)
 · rw[if_pos hc7] at h;have t8:=eq_true hc7
   refine rg tok [4,7] fun K hK=>?_
   simp only[go_sem,qd,qf,qb,qe,reduceCtorEq,t8];apply hK
   refine rgN [4] ?_;apply zE;cases h;simp only[wg,zX,z7,yN,exists_eq_left',go_sem,qf,qe,encGPacket];refine⟨by decide,by simp,?_,?_⟩
   · first|rfl|(simp only[go_sem,qd,qf,qb,qe,qi,qm,reduceIte,reduceCtorEq,push_cast,if_true,qv,qk,qn,qj,qx,qo,qE,qz,qr,qq,qp,zg,cellsGTree,encGDedupKey,encGPacket,encGSchema,encGServerEffect,zM]<;>rfl)
   first|rfl|(simp only[go_sem,qb,qe,reduceCtorEq,push_cast,if_true,qk,qn,qj,qo,qr,qq,zg]<;>rfl)
 rw[if_neg hc7] at h;have t9:=eq_false hc7;apply zd;apply hZ6
 refine rc [0,3,4,7,8,9] fun K hK=>?_
 obtain⟨r10,hr10,h⟩:=bind_some h;refine zj tok 2 ?_;simp only[go_sem,qd,qf,qb,qe,reduceCtorEq,encGPacket,t9];refine clN rfl rfl rfl (@id (ACalls qg 133 [.op 0 0 0,.agg (encGPacket a1)] [.cells 0 [.int .i64 a0.fself,.ds true (qc encI a0.fnumbers) (qa a0.fnumbers) false,.ds true (qc encGSchema a0.fschemas) (qa a0.fschemas) false,.str a0.fnewest.fName,.ds true (qc encGMessage a0.fnewest.fMessages) (qa a0.fnewest.fMessages) false,.ds true (qc encGEnumeration a0.fnewest.fEnums) (qa a0.fnewest.fEnums) false,.ds true (qc encGMethod a0.fnewest.fMethods) (qa a0.fnewest.fMethods) false,.ds true (qc encGRow a0.frows) (qa a0.frows) false,.op 1 0 0,.os true 8 5 (a0.veffects) 0 (qa a0.feffects) false],.cells 0 [.int .i64 a0.fcache.fsize,.os true 2 2 (a0.fcache.vorder) 0 (qa a0.fcache.forder) false,.mp 3,.mp 4],.cells (a0.fcache.vorder) (qc encGDedupKey a0.fcache.forder),.map (zR kvGDedupKey kvGPacket a0.fcache.freplies.l) (some (a0.fcache.freplies.bs,a0.fcache.freplies.ck)),.map (zR (AV.int .i64) (AV.int .i64) a0.fcache.flast.l) (some (a0.fcache.flast.bs,a0.fcache.flast.ck)),.cells (a0.veffects) (qc encGServerEffect a0.feffects),.cells 0 (encGPacket a1),.cells 0 [.int .i64 0,.int .i64 0,.int .i64 0,.int .i64 0,.int .i64 0,.str [],.int .i64 0,.str []],.cells 0 (encGPacket r1.1),.cells 0 [.int .i64 4,.int .i64 a0.fself,.int .i64 a1.fFrom,.int .i64 a1.fID,.int .i64 a1.fVersion,.str a1.fMethod,.int .i64 0,.str []]] (fun r' σ'=>r'=.tup [.agg (encGServerWork r10.1),.int .i64 r10.2]∧σ'=[.cells 0 [.int .i64 a0.fself,.ds true (qc encI a0.fnumbers) (qa a0.fnumbers) false,.ds true (qc encGSchema a0.fschemas) (qa a0.fschemas) false,.str a0.fnewest.fName,.ds true (qc encGMessage a0.fnewest.fMessages) (qa a0.fnewest.fMessages) false,.ds true (qc encGEnumeration a0.fnewest.fEnums) (qa a0.fnewest.fEnums) false,.ds true (qc encGMethod a0.fnewest.fMethods) (qa a0.fnewest.fMethods) false,.ds true (qc encGRow a0.frows) (qa a0.frows) false,.op 1 0 0,.os true 8 5 (a0.veffects) 0 (qa a0.feffects) false],.cells 0 [.int .i64 a0.fcache.fsize,.os true 2 2 (a0.fcache.vorder) 0 (qa a0.fcache.forder) false,.mp 3,.mp 4],.cells (a0.fcache.vorder) (qc encGDedupKey a0.fcache.forder),.map (zR kvGDedupKey kvGPacket a0.fcache.freplies.l) (some (a0.fcache.freplies.bs,a0.fcache.freplies.ck)),.map (zR (AV.int .i64) (AV.int .i64) a0.fcache.flast.l) (some (a0.fcache.flast.bs,a0.fcache.flast.ck)),.cells (a0.veffects) (qc encGServerEffect a0.feffects),.cells 0 (encGPacket a1),.cells 0 [.int .i64 0,.int .i64 0,.int .i64 0,.int .i64 0,.int .i64 0,.str [],.int .i64 0,.str []],.cells 0 (encGPacket r1.1),.cells 0 [.int .i64 4,.int .i64 a0.fself,.int .i64 a1.fFrom,.int .i64 a1.fID,.int .i64 a1.fVersion,.str a1.fMethod,.int .i64 0,.str []]])) ((xZ.ok a0 a1 r10 hr10).ix [0,1,2,3,4,5])) ?_;refine zj tok 6 ?_;simp only[go_sem,qd,qf,qb,qe,reduceCtorEq,encGServerWork];refine nkN hK ?_
 refine za fun Z11 hZ11=>?_
 refine rgN [0,3,4,7,8,9,54] ?_;refine zF rfl (fun hc12=>?_) (fun hc12=>?_)
 · rw[if_neg hc12] at h;have t13:=eq_false hc12
   refine rg tok [4,7] fun K hK=>?_
   simp only[go_sem,qd,qf,qb,qe,reduceCtorEq,t13];apply hK
   refine rgN [4] ?_;apply zE;cases h;simp only[wg,zX,z7,yN,exists_eq_left',go_sem,qf,qe,encGPacket];refine⟨by decide,by simp,?_,?_⟩
   · first|rfl|(simp only[go_sem,qd,qf,qb,qe,qi,qm,reduceIte,reduceCtorEq,push_cast,if_true,qv,qk,qn,qj,qx,qo,qE,qz,qr,qq,qp,zg,cellsGTree,encGDedupKey,encGPacket,encGSchema,encGServerEffect,zM]<;>rfl)
   first|rfl|(simp only[go_sem,qb,qe,reduceCtorEq,push_cast,if_true,qk,qn,qj,qo,qr,qq,zg]<;>rfl)
 rw[if_pos hc12] at h;have t14:=eq_true hc12;apply zd;apply hZ11;obtain⟨y15,hy15,h⟩:=bind_some h;have f16:=E33.idxS hy15;have f17:=E33.loadS rfl rfl hy15
 refine rd [0,3,4,7,8,10] fun K hK=>?_
 refine DW.start (T:=tab) [.any,.any,.any,.own 1 [],.any,.any,.any,.own 1 [],.own 1 [],.any,.any,.own 1 [],.eff,.eff] [(1,[])] ?_;refine DW.runN tok 8 ?_;simp only[go_sem,qd,qb,qe,reduceCtorEq,t14];refine DW.runN tok 6 ?_;simp only[go_sem,qd,qf,qb,qe,reduceCtorEq,encGSchema,f16,f17];refine DW.fin tok (by decide +kernel) rfl ?_;simp only[zn,upd,qb,reduceIte,ym,y1];apply hK
 obtain⟨_u18,hu18,h⟩:=bind_some h;have gu18:=yy hu18;have f19:=(zz E92.len a0.feffects)
 refine rd [0,3,4,7,8,10] fun K hK=>?_
 refine DW.start (T:=tab) [.any,.any,.any,.any,.own 1 [],.any,.at [],.any,.at [],.any,.at [],.any,.at [],.any,.eff,.eff,.any,.any,.eff] [(1,[])] ?_;refine DW.runN tok 8 ?_;simp only[go_sem,qd,qb,qe,reduceCtorEq,qs,qt,qk];refine DW.runN tok 8 ?_;simp only[go_sem,qd,qf,qb,qe,qi,reduceCtorEq,zv,zQ,qO,qI,true_and,qT,ye,zO,yd,gu18,f19,yv,qR,qX,AV.one,qB,qL,qs,qt,qk,qN];refine DW.runN tok 3 ?_;simp only[go_sem,qd,qf,qb,qe,reduceCtorEq,qs,qt,qk];refine DW.fin tok (by decide +kernel) rfl ?_;simp only[zn,upd,qb,reduceIte,ym,y1];apply hK
 refine yz (L:=[(0,.op 0 0 0),(3,.op 6 0 0),(4,.op 7 0 0),(7,.op 9 0 0),(8,.op 10 0 0),(10,.op 11 0 0)]) (τ:=[.cells 0 [.int .i64 a0.fself,.ds true (qc encI a0.fnumbers) (qa a0.fnumbers) false,.ds true (qc encGSchema a0.fschemas) (qa a0.fschemas) false,.str a0.fnewest.fName,.ds true (qc encGMessage a0.fnewest.fMessages) (qa a0.fnewest.fMessages) false,.ds true (qc encGEnumeration a0.fnewest.fEnums) (qa a0.fnewest.fEnums) false,.ds true (qc encGMethod a0.fnewest.fMethods) (qa a0.fnewest.fMethods) false,.ds true (qc encGRow a0.frows) (qa a0.frows) false,.op 1 0 0,.os true 8 5 (a0.veffects+1) 0 (qa (a0.feffects++[(⟨a1.fFrom,a1.fID,a1.fMethod,r10.1.fin⟩:GServerEffect)])) false],.cells 0 [.int .i64 a0.fcache.fsize,.os true 2 2 (a0.fcache.vorder) 0 (qa a0.fcache.forder) false,.mp 3,.mp 4],.cells (a0.fcache.vorder) (qc encGDedupKey a0.fcache.forder),.map (zR kvGDedupKey kvGPacket a0.fcache.freplies.l) (some (a0.fcache.freplies.bs,a0.fcache.freplies.ck)),.map (zR (AV.int .i64) (AV.int .i64) a0.fcache.flast.l) (some (a0.fcache.flast.bs,a0.fcache.flast.ck)),.cells (a0.veffects+1) (qc encGServerEffect (a0.feffects++[(⟨a1.fFrom,a1.fID,a1.fMethod,r10.1.fin⟩:GServerEffect)])),.cells 0 (encGPacket a1),.cells 0 [.int .i64 0,.int .i64 0,.int .i64 0,.int .i64 0,.int .i64 0,.str [],.int .i64 0,.str []],.cells 0 (encGPacket r1.1),.cells 0 [.int .i64 4,.int .i64 a0.fself,.int .i64 a1.fFrom,.int .i64 a1.fID,.int .i64 a1.fVersion,.str a1.fMethod,.int .i64 0,.str []],.cells 0 (encGServerWork r10.1),.cells 0 (encGSchema y15),.cells 0 [.int .i64 a1.fFrom,.int .i64 a1.fID,.str a1.fMethod,.int .i64 r10.1.fin.fKind,.int .i64 r10.1.fin.fN,.str r10.1.fin.fS,.ds true (qc encGEntry r10.1.fin.fEntries) (qa r10.1.fin.fEntries) false,.ds true (qc encGRaw r10.1.fin.fRest) (qa r10.1.fin.fRest) false]]) .s ?_;obtain⟨r20,hr20,h⟩:=bind_some h
 refine rd [0,3,4,7,8,10,11] fun K hK=>?_
 refine DW.start (T:=tab) [.at [],.any,.any,.any,.at [],.any,.any,.any,.at [],.any,.at [],.any,.at [],.eff,.flt,.eff] [] ?_;refine DW.runN tok 8 ?_;simp only[go_sem,qd,qf,qb,qe,reduceCtorEq];refine DW.runN tok 5 ?_;simp only[go_sem,qd,qf,qb,qe,reduceCtorEq];refine DW.call rfl rfl rfl (yo.ev y15 a0.fnewest a0.frows a1.fMethod r10.1.fin r20 hr20 _) ?_;refine DW.runN tok 2 ?_;simp only[go_sem,qd,qf,qb,qe,reduceCtorEq,cellsGTree];refine DW.fin tok (by decide +kernel) rfl ?_;simp only[zn,upd,qb,reduceIte,ym,y1];apply hK
 refine rc [0,3,4,7,11,12] fun K hK=>?_
 obtain⟨r21,hr21,h⟩:=bind_some h;refine rnN 9 ?_;refine clN rfl rfl rfl (yx.ev y15 r10.1.fschema r10.1.fown.fOut r10.1.ftheirs.fOut r21 hr21 _) ?_;refine zj tok 6 ?_;simp only[go_sem,qd,qf,qb,qe,reduceCtorEq,encGAdaptProgram];refine nkN hK ?_;refine rgN [0,3,4,7,11,12,14] ?_;refine yR (fun L τ=>∃ (x22:Int) (x23:List UInt8),L=[(0,.op 0 0 0),(3,.op 6 0 0),(4,.op 7 0 0),(7,.op 8 0 0),(9,.int .i64 x22),(14,.ds true (qc encB x23) (qa x23) false)]∧τ=[.cells 0 [.int .i64 a0.fself,.ds true (qc encI a0.fnumbers) (qa a0.fnumbers) false,.ds true (qc encGSchema a0.fschemas) (qa a0.fschemas) false,.str a0.fnewest.fName,.ds true (qc encGMessage a0.fnewest.fMessages) (qa a0.fnewest.fMessages) false,.ds true (qc encGEnumeration a0.fnewest.fEnums) (qa a0.fnewest.fEnums) false,.ds true (qc encGMethod a0.fnewest.fMethods) (qa a0.fnewest.fMethods) false,.ds true (qc encGRow a0.frows) (qa a0.frows) false,.op 1 0 0,.os true 8 5 (a0.veffects+1) 0 (qa (a0.feffects++[(⟨a1.fFrom,a1.fID,a1.fMethod,r10.1.fin⟩:GServerEffect)])) false],.cells 0 [.int .i64 a0.fcache.fsize,.os true 2 2 (a0.fcache.vorder) 0 (qa a0.fcache.forder) false,.mp 3,.mp 4],.cells (a0.fcache.vorder) (qc encGDedupKey a0.fcache.forder),.map (zR kvGDedupKey kvGPacket a0.fcache.freplies.l) (some (a0.fcache.freplies.bs,a0.fcache.freplies.ck)),.map (zR (AV.int .i64) (AV.int .i64) a0.fcache.flast.l) (some (a0.fcache.flast.bs,a0.fcache.flast.ck)),.cells (a0.veffects+1) (qc encGServerEffect (a0.feffects++[(⟨a1.fFrom,a1.fID,a1.fMethod,r10.1.fin⟩:GServerEffect)])),.cells 0 (encGPacket a1),.cells 0 [.int .i64 0,.int .i64 0,.int .i64 0,.int .i64 0,.int .i64 0,.str [],.int .i64 0,.str []],.cells 0 [.int .i64 4,.int .i64 a0.fself,.int .i64 a1.fFrom,.int .i64 a1.fID,.int .i64 a1.fVersion,.str a1.fMethod,.int .i64 0,.str []]]∧yE.j24 a0 a1 r10 x22 x23=some r) ?_ ?_
 · refine rc [0,3,4,7,9,11,14] fun K hK=>?_
   obtain⟨r27,hr27,h⟩:=bind_some h;refine rnN 2 ?_;refine clN rfl rfl rfl (wN.ev r21.1 r20 r27 hr27 _) ?_;refine zj tok 5 ?_;simp only[go_sem,qd,qf,qb,qe,reduceCtorEq,cellsGTree];refine nkN hK ?_;refine rgN [0,3,4,7,9,11,14,122] ?_;refine zF rfl (fun hc28=>?_) (fun hc28=>?_)
   · rw[if_pos hc28] at h;have t29:=eq_true hc28
     refine rcE [0,3,4,7,9,14] fun K hK=>?_
     obtain⟨r30,hr30,h⟩:=bind_some h;refine zj tok 1 ?_;simp only[go_sem,qd,qf,qb,qe,reduceCtorEq,t29];refine clN rfl rfl rfl (wj.ev r27.1 r30 hr30 _) ?_;refine rnN 5 ?_;refine nkN hK ?_;exact⟨_,_,⟨r30.2,r30.1,rfl,rfl,h⟩,(.t [0,1,2,3,4,5,6,7,9] false)⟩
   rw[if_neg hc28] at h;have t31:=eq_false hc28;apply zd;exact⟨_,_,⟨r27.2,([]:List UInt8),rfl,rfl,h⟩,(.t [0,1,2,3,4,5,6,7,9] true)⟩
 rintro _ _ ⟨x22,x23,rfl,rfl,h⟩;unfold yE.j24 at h;have f25:=conv_b2s (T:=tab) (src:=48) (dst:=9) rfl rfl rfl rfl rfl rfl x23
 refine rd [0,3,4,7] fun K hK=>?_
 refine DW.start (T:=tab) [.any,.any,.own 1 [8],.any,.eff,.any,.eff] [(1,[8])] ?_;refine DW.runN tok 7 ?_;simp only[go_sem,qd,qf,qb,qe,reduceCtorEq,encGPacket,f25];refine DW.fin tok (by decide +kernel) rfl ?_;simp only[zn,upd,qb,reduceIte,ym,y1];apply hK
 obtain⟨r26,hr26,h⟩:=bind_some h
 refine rd [4,7] fun K hK=>?_
 refine DW.start (T:=tab) [.any,.any,.any,.at [],.any,.at [],.any,.at [],.at [],.eff] [] ?_;refine DW.runN tok 8 ?_;simp only[go_sem,qd,qb,qe,reduceCtorEq,encGPacket];refine DW.runN tok 1 ?_;simp only[go_sem,qd,qf,qb,qe,reduceCtorEq];refine DW.callS rfl rfl rfl (@id (ACalls qg 134 [.op 1 0 0,.int .i64 a1.fFrom,.int .i64 a1.fID,.agg [.int .i64 4,.int .i64 a0.fself,.int .i64 a1.fFrom,.int .i64 a1.fID,.int .i64 a1.fVersion,.str a1.fMethod,.int .i64 x22,.str x23]] [.cells 0 [.int .i64 a0.fself,.ds true (qc encI a0.fnumbers) (qa a0.fnumbers) false,.ds true (qc encGSchema a0.fschemas) (qa a0.fschemas) false,.str a0.fnewest.fName,.ds true (qc encGMessage a0.fnewest.fMessages) (qa a0.fnewest.fMessages) false,.ds true (qc encGEnumeration a0.fnewest.fEnums) (qa a0.fnewest.fEnums) false,.ds true (qc encGMethod a0.fnewest.fMethods) (qa a0.fnewest.fMethods) false,.ds true (qc encGRow a0.frows) (qa a0.frows) false,.op 1 0 0,.os true 8 5 (a0.veffects+1) 0 (qa (a0.feffects++[(⟨a1.fFrom,a1.fID,a1.fMethod,r10.1.fin⟩:GServerEffect)])) false],.cells 0 [.int .i64 a0.fcache.fsize,.os true 2 2 (a0.fcache.vorder) 0 (qa a0.fcache.forder) false,.mp 3,.mp 4],.cells (a0.fcache.vorder) (qc encGDedupKey a0.fcache.forder),.map (zR kvGDedupKey kvGPacket a0.fcache.freplies.l) (some (a0.fcache.freplies.bs,a0.fcache.freplies.ck)),.map (zR (AV.int .i64) (AV.int .i64) a0.fcache.flast.l) (some (a0.fcache.flast.bs,a0.fcache.flast.ck)),.cells (a0.veffects+1) (qc encGServerEffect (a0.feffects++[(⟨a1.fFrom,a1.fID,a1.fMethod,r10.1.fin⟩:GServerEffect)])),.cells 0 (encGPacket a1),.cells 0 [.int .i64 0,.int .i64 0,.int .i64 0,.int .i64 0,.int .i64 0,.str [],.int .i64 0,.str []],.cells 0 [.int .i64 4,.int .i64 a0.fself,.int .i64 a1.fFrom,.int .i64 a1.fID,.int .i64 a1.fVersion,.str a1.fMethod,.int .i64 x22,.str x23]] (fun r' σ'=>r'=.int .i64 r26.1∧σ'=[.cells 0 [.int .i64 a0.fself,.ds true (qc encI a0.fnumbers) (qa a0.fnumbers) false,.ds true (qc encGSchema a0.fschemas) (qa a0.fschemas) false,.str a0.fnewest.fName,.ds true (qc encGMessage a0.fnewest.fMessages) (qa a0.fnewest.fMessages) false,.ds true (qc encGEnumeration a0.fnewest.fEnums) (qa a0.fnewest.fEnums) false,.ds true (qc encGMethod a0.fnewest.fMethods) (qa a0.fnewest.fMethods) false,.ds true (qc encGRow a0.frows) (qa a0.frows) false,.op 1 0 0,.os true 8 5 (a0.veffects+1) 0 (qa (a0.feffects++[(⟨a1.fFrom,a1.fID,a1.fMethod,r10.1.fin⟩:GServerEffect)])) false],.cells 0 [.int .i64 r26.2.fsize,.os true 2 2 (r26.2.vorder) 0 (qa r26.2.forder) false,.mp 3,.mp 4],.cells (r26.2.vorder) (qc encGDedupKey r26.2.forder),.map (zR kvGDedupKey kvGPacket r26.2.freplies.l) (some (r26.2.freplies.bs,r26.2.freplies.ck)),.map (zR (AV.int .i64) (AV.int .i64) r26.2.flast.l) (some (r26.2.flast.bs,r26.2.flast.ck)),.cells (a0.veffects+1) (qc encGServerEffect (a0.feffects++[(⟨a1.fFrom,a1.fID,a1.fMethod,r10.1.fin⟩:GServerEffect)])),.cells 0 (encGPacket a1),.cells 0 [.int .i64 0,.int .i64 0,.int .i64 0,.int .i64 0,.int .i64 0,.str [],.int .i64 0,.str []],.cells 0 [.int .i64 4,.int .i64 a0.fself,.int .i64 a1.fFrom,.int .i64 a1.fID,.int .i64 a1.fVersion,.str a1.fMethod,.int .i64 x22,.str x23]])) ((xx.ok a0.fcache a1.fFrom a1.fID (⟨4,a0.fself,a1.fFrom,a1.fID,a1.fVersion,a1.fMethod,x22,x23⟩:GPacket) r26 hr26).ix [1,2,3,4])) (YH (by simp only[go_sem])) ?_;refine DW.fin tok (by decide +kernel) rfl ?_;simp only[zn,Z0,upd,qb,reduceIte,ym,y1];apply hK
 refine rgN [4] ?_;apply zE;cases h;simp only[wg,zX,z7,yN,exists_eq_left',go_sem,qf,qe,encGPacket];refine⟨by decide,by simp,?_,?_⟩
 · first|rfl|(simp only[go_sem,qd,qf,qb,qe,qi,qm,reduceIte,reduceCtorEq,push_cast,if_true,qv,qk,qn,qj,qx,qo,qE,qz,qr,qq,qp,zg,cellsGTree,encGDedupKey,encGPacket,encGSchema,encGServerEffect,zM]<;>rfl)
 first|rfl|(simp only[go_sem,qb,qe,reduceCtorEq,push_cast,if_true,qk,qn,qj,qo,qr,qq,zg]<;>rfl)
def yK (a0:GServerServer)(a1:GPacket):Option (GPacket×Bool×GServerServer):=
 (if a1.fTo=a0.fself then (if a1.fKind=1 then none else (if a1.fKind=3 then (yE a0 a1).bind fun r11=>some (r11.1,true,r11.2) else some ((⟨0,0,0,0,0,[],0,[]⟩:GPacket),false,a0))) else some ((⟨0,0,0,0,0,[],0,[]⟩:GPacket),false,a0))
theorem yK.ok (a0:GServerServer)(a1:GPacket)(r:GPacket×Bool×GServerServer)(h:yK a0 a1=some r):ACalls qg 47 [.op 0 0 0,.agg (encGPacket a1)] [.cells 0 [.int .i64 a0.fself,.ds true (qc encI a0.fnumbers) (qa a0.fnumbers) false,.ds true (qc encGSchema a0.fschemas) (qa a0.fschemas) false,.str a0.fnewest.fName,.ds true (qc encGMessage a0.fnewest.fMessages) (qa a0.fnewest.fMessages) false,.ds true (qc encGEnumeration a0.fnewest.fEnums) (qa a0.fnewest.fEnums) false,.ds true (qc encGMethod a0.fnewest.fMethods) (qa a0.fnewest.fMethods) false,.ds true (qc encGRow a0.frows) (qa a0.frows) false,.op 1 0 0,.os true 8 5 (a0.veffects) 0 (qa a0.feffects) false],.cells 0 [.int .i64 a0.fcache.fsize,.os true 2 2 (a0.fcache.vorder) 0 (qa a0.fcache.forder) false,.mp 3,.mp 4],.cells (a0.fcache.vorder) (qc encGDedupKey a0.fcache.forder),.map (zR kvGDedupKey kvGPacket a0.fcache.freplies.l) (some (a0.fcache.freplies.bs,a0.fcache.freplies.ck)),.map (zR (AV.int .i64) (AV.int .i64) a0.fcache.flast.l) (some (a0.fcache.flast.bs,a0.fcache.flast.ck)),.cells (a0.veffects) (qc encGServerEffect a0.feffects)] (fun r' σ'=>r'=.tup [.agg (encGPacket r.1),.bool r.2.1]∧σ'=[.cells 0 [.int .i64 r.2.2.fself,.ds true (qc encI r.2.2.fnumbers) (qa r.2.2.fnumbers) false,.ds true (qc encGSchema r.2.2.fschemas) (qa r.2.2.fschemas) false,.str r.2.2.fnewest.fName,.ds true (qc encGMessage r.2.2.fnewest.fMessages) (qa r.2.2.fnewest.fMessages) false,.ds true (qc encGEnumeration r.2.2.fnewest.fEnums) (qa r.2.2.fnewest.fEnums) false,.ds true (qc encGMethod r.2.2.fnewest.fMethods) (qa r.2.2.fnewest.fMethods) false,.ds true (qc encGRow r.2.2.frows) (qa r.2.2.frows) false,.op 1 0 0,.os true 8 5 (r.2.2.veffects) 0 (qa r.2.2.feffects) false],.cells 0 [.int .i64 r.2.2.fcache.fsize,.os true 2 2 (r.2.2.fcache.vorder) 0 (qa r.2.2.fcache.forder) false,.mp 3,.mp 4],.cells (r.2.2.fcache.vorder) (qc encGDedupKey r.2.2.fcache.forder),.map (zR kvGDedupKey kvGPacket r.2.2.fcache.freplies.l) (some (r.2.2.fcache.freplies.bs,r.2.2.fcache.freplies.ck)),.map (zR (AV.int .i64) (AV.int .i64) r.2.2.fcache.flast.l) (some (r.2.2.fcache.flast.bs,r.2.2.fcache.flast.ck)),.cells (r.2.2.veffects) (qc encGServerEffect r.2.2.feffects)]):=by
 refine we [0,1,2,3,4,5] (rs:=[.cell 4 43,.tmp 5]) tok Tryz.func47 rfl Tryz.ntmps47 rfl Tryz.call47 (by simp) rfl ?_;refine zk [(0,.op 0 0 0),(1,.agg (encGPacket a1))] ⟨rfl,rfl,trivial⟩ ?_;unfold yK at h
 refine rg tok [0,3,4] fun K hK=>?_
 simp only[go_sem,qd,qb,qe,reduceCtorEq,encGPacket];apply hK
 refine za fun Z1 hZ1=>?_
 refine rd [0,3,4,12] fun K hK=>?_
 refine DW.start (T:=tab) [.any,.at [],.any,.any,.any,.at [],.any] [] ?_;refine DW.runN tok 7 ?_;simp only[go_sem,qd,qb,qe,reduceCtorEq];refine DW.fin tok (by decide +kernel) rfl ?_;simp only[zn,upd,qb,reduceIte,ym,y1];apply hK
 refine zF rfl (fun hc2=>?_) (fun hc2=>?_)
 · rw[if_neg hc2] at h;have t3:=eq_false hc2
   refine rg tok [4,5] fun K hK=>?_
   simp only[go_sem,qd,qf,qb,qe,reduceCtorEq,t3];apply hK
   apply zE;cases h;simp only[wg,zX,z7,yN,exists_eq_left',go_sem,qf,qb,qe,encGPacket];refine⟨by decide,by simp,?_,?_⟩
   · first|rfl|(simp only[go_sem,qd,qf,qb,qe,qi,qm,reduceIte,reduceCtorEq,push_cast,if_true,qv,qk,qn,qj,qx,qo,qE,qz,qr,qq,qp,zg,cellsGTree,encGDedupKey,encGPacket,encGSchema,encGServerEffect,zM]<;>rfl)
   first|rfl|(simp only[go_sem,qb,qe,reduceCtorEq,push_cast,if_true,qk,qn,qj,qo,qr,qq,zg]<;>rfl)
 rw[if_pos hc2] at h;have t4:=eq_true hc2;apply zd;apply hZ1
 refine za fun Z5 hZ5=>?_
 refine rg tok [0,3,4,15] fun K hK=>?_
 simp only[go_sem,qd,qb,qe,reduceCtorEq,t4];apply hK
 apply ze;refine rgN [0,3,4,15,16] ?_;refine zF rfl (fun hc6=>?_) (fun hc6=>?_)
 · rw[if_pos hc6] at h;have t7:=eq_true hc6;cases h
 rw[if_neg hc6] at h;have t8:=eq_false hc6
 refine rg tok [0,3,4,31] fun K hK=>?_
 simp only[go_sem,qd,qb,reduceCtorEq,t8];apply hK
 refine zF rfl (fun hc9=>?_) (fun hc9=>?_)
 · rw[if_pos hc9] at h;have t10:=eq_true hc9
   refine rc [4,5] fun K hK=>?_
   obtain⟨r11,hr11,h⟩:=bind_some h;refine zj tok 2 ?_;simp only[go_sem,qd,qf,qb,qe,reduceCtorEq,encGPacket,t10];refine clN rfl rfl rfl (@id (ACalls qg 87 [.op 0 0 0,.agg (encGPacket a1)] [.cells 0 [.int .i64 a0.fself,.ds true (qc encI a0.fnumbers) (qa a0.fnumbers) false,.ds true (qc encGSchema a0.fschemas) (qa a0.fschemas) false,.str a0.fnewest.fName,.ds true (qc encGMessage a0.fnewest.fMessages) (qa a0.fnewest.fMessages) false,.ds true (qc encGEnumeration a0.fnewest.fEnums) (qa a0.fnewest.fEnums) false,.ds true (qc encGMethod a0.fnewest.fMethods) (qa a0.fnewest.fMethods) false,.ds true (qc encGRow a0.frows) (qa a0.frows) false,.op 1 0 0,.os true 8 5 (a0.veffects) 0 (qa a0.feffects) false],.cells 0 [.int .i64 a0.fcache.fsize,.os true 2 2 (a0.fcache.vorder) 0 (qa a0.fcache.forder) false,.mp 3,.mp 4],.cells (a0.fcache.vorder) (qc encGDedupKey a0.fcache.forder),.map (zR kvGDedupKey kvGPacket a0.fcache.freplies.l) (some (a0.fcache.freplies.bs,a0.fcache.freplies.ck)),.map (zR (AV.int .i64) (AV.int .i64) a0.fcache.flast.l) (some (a0.fcache.flast.bs,a0.fcache.flast.ck)),.cells (a0.veffects) (qc encGServerEffect a0.feffects),.cells 0 (encGPacket a1),.cells 0 [.int .i64 0,.int .i64 0,.int .i64 0,.int .i64 0,.int .i64 0,.str [],.int .i64 0,.str []]] (fun r' σ'=>r'=.agg (encGPacket r11.1)∧σ'=[.cells 0 [.int .i64 r11.2.fself,.ds true (qc encI r11.2.fnumbers) (qa r11.2.fnumbers) false,.ds true (qc encGSchema r11.2.fschemas) (qa r11.2.fschemas) false,.str r11.2.fnewest.fName,.ds true (qc encGMessage r11.2.fnewest.fMessages) (qa r11.2.fnewest.fMessages) false,.ds true (qc encGEnumeration r11.2.fnewest.fEnums) (qa r11.2.fnewest.fEnums) false,.ds true (qc encGMethod r11.2.fnewest.fMethods) (qa r11.2.fnewest.fMethods) false,.ds true (qc encGRow r11.2.frows) (qa r11.2.frows) false,.op 1 0 0,.os true 8 5 (r11.2.veffects) 0 (qa r11.2.feffects) false],.cells 0 [.int .i64 r11.2.fcache.fsize,.os true 2 2 (r11.2.fcache.vorder) 0 (qa r11.2.fcache.forder) false,.mp 3,.mp 4],.cells (r11.2.fcache.vorder) (qc encGDedupKey r11.2.fcache.forder),.map (zR kvGDedupKey kvGPacket r11.2.fcache.freplies.l) (some (r11.2.fcache.freplies.bs,r11.2.fcache.freplies.ck)),.map (zR (AV.int .i64) (AV.int .i64) r11.2.fcache.flast.l) (some (r11.2.fcache.flast.bs,r11.2.fcache.flast.ck)),.cells (r11.2.veffects) (qc encGServerEffect r11.2.feffects),.cells 0 (encGPacket a1),.cells 0 [.int .i64 0,.int .i64 0,.int .i64 0,.int .i64 0,.int .i64 0,.str [],.int .i64 0,.str []]])) ((yE.ok a0 a1 r11 hr11).ix [0,1,2,3,4,5])) ?_;refine zj tok 2 ?_;simp only[go_sem,qd,qf,qb,qe,reduceCtorEq,encGPacket];refine nkN hK ?_;apply zE;cases h;simp only[wg,zX,z7,yN,exists_eq_left',go_sem,qf,qb,qe,encGPacket];refine⟨by decide,by simp,?_,?_⟩
   · first|rfl|(simp only[go_sem,qd,qf,qb,qe,qi,qm,reduceIte,reduceCtorEq,push_cast,if_true,qv,qk,qn,qj,qx,qo,qE,qz,qr,qq,qp,zg,cellsGTree,encGDedupKey,encGPacket,encGSchema,encGServerEffect,zM]<;>rfl)
   first|rfl|(simp only[go_sem,qb,qe,reduceCtorEq,push_cast,if_true,qk,qn,qj,qo,qr,qq,zg]<;>rfl)
 rw[if_neg hc9] at h;have t12:=eq_false hc9;apply zd;apply hZ5
 refine rg tok [4,5] fun K hK=>?_
 simp only[go_sem,qd,qf,qb,qe,reduceCtorEq,t12];apply hK
 apply zE;cases h;simp only[wg,zX,z7,yN,exists_eq_left',go_sem,qf,qb,qe,encGPacket];refine⟨by decide,by simp,?_,?_⟩
 · first|rfl|(simp only[go_sem,qd,qf,qb,qe,qi,qm,reduceIte,reduceCtorEq,push_cast,if_true,qv,qk,qn,qj,qx,qo,qE,qz,qr,qq,qp,zg,cellsGTree,encGDedupKey,encGPacket,encGSchema,encGServerEffect,zM]<;>rfl)
 first|rfl|(simp only[go_sem,qb,qe,reduceCtorEq,push_cast,if_true,qk,qn,qj,qo,qr,qq,zg]<;>rfl)
end
section
set_option maxRecDepth 4000
set_option maxHeartbeats 1000000
open AM
def wA (a0:List GServerEffect):Option (List GServerEffect):=(Xm (qa a0) 112).bind fun _=>some a0
theorem wA.lo (a0 r:List GServerEffect)(h:wA a0=some r)(ver:Nat):ACalls qg 88 [.os true 8 0 ver 0 (qa a0) false] [.cells ver (qc encGServerEffect a0)] (fun r' σ'=>r'=.ds true (qc encGServerEffect r) (qa r) false∧σ'=[.cells ver (qc encGServerEffect a0)]):=by
 obtain⟨_u,hu,h⟩:=bind_some h;have gu:=yy hu;cases h;have f2:=zz E92.len a0;have f3:=Yg encGServerEffect a0
 have f1:∀ τ:Store,z1 (.cells ver (qc encGServerEffect a0)::τ) 8 (.os true 8 0 ver 0 (qa a0) false)=some (qa a0,qc encGServerEffect a0):=fun τ=>by
  simp only[z1,Store.at_hd,if_true,qv,qk,← f2,qV,qu]
 have fin:∀ σ id ver tt,Store.at σ id ver=some (qc encGServerEffect a0)→Zt [0] id 0=none→tell σ [0] true 12 (.os true 8 id ver 0 (qa a0) tt)=.ds true (qc encGServerEffect a0) (qa a0) false:=by
  intro σ id ver tt hs hk
  simp only[wf,hk,hs,qv,qk];rw[if_pos (by rw[f2]; exact qu _),← f2,qV,zg]
 refine we [0] (rs:=[.tmp 2]) tok Tryz.func88 rfl Tryz.ntmps88 rfl Tryz.call88 (by simp) rfl ?_;refine zk [(0,.os true 8 0 ver 0 (qa a0) false)] ⟨rfl,trivial⟩ ?_;refine rgN [0] ?_
 refine za fun Z1 hZ1=>?_
 refine rc [0,4] fun K hK=>?_
 refine rnN 1 ?_
 refine ZA tok rfl rfl rfl rfl rfl rfl fun b hnil=>?_
 have hb:b=true→a0=[]:=fun hb=>by
  have:=hnil hb;simp only[yd,go_sem,reduceCtorEq] at this;exact qS this
 clear hnil
 refine nkN hK ?_;cases b
 · refine zp rfl ?_;apply zd;apply hZ1
   refine rg tok [2] fun K hK=>?_
   by_cases h0:qa a0=0
   · obtain rfl:=qS h0;simp only[go_sem,qd,qb,qe,reduceCtorEq,zv,zQ,qI,uu,ye,zO,yd,z1,uc,qt,q9,qR,List.drop_nil,List.take_nil,uF,and_self];apply hK
     apply zE;simp only[wg,zX,z7,yN,exists_eq_left',go_sem,qe];refine⟨by decide,by simp,?_,?_⟩
     · first|rfl|(simp only[go_sem,qd,qf,qb,qe,qi,qm,reduceIte,reduceCtorEq,wf,xI,wO,qj]<;>rfl)
     first|rfl|(simp only[go_sem,qd,qf,qb,qe,qi,qm,reduceIte,reduceCtorEq,Zk,Y2,wU,Zl,Zx,qj]<;>rfl)
   have h1:=eq_false h0;simp only[go_sem,qd,qb,qe,reduceCtorEq,zv,zQ,qI,uu,ye,zO,yd,f1,f3,h1,gu,yv,qj,qL,q9];apply hK
   apply zE;simp only[wg,zX,z7,yN,exists_eq_left',go_sem,qe];refine⟨by decide,by simp,?_,?_⟩
   · exact fin _ _ _ _ (by simp only[Store.at_hd,Store.at_tl,if_true]) rfl
   first|rfl|(simp only[go_sem,Zk,wU,Zl,zg,qj]<;>rfl)
 obtain rfl:=hb rfl;refine zq rfl ?_;refine rgN [2] ?_;apply zE;simp only[wg,zX,z7,yN,exists_eq_left',go_sem];refine⟨by decide,by simp,?_,?_⟩
 · first|rfl|(simp only[go_sem,qd,qf,qb,qe,qi,qm,reduceIte,reduceCtorEq,Zw,qj,qo,qE,qq,qp,qz,qr]<;>rfl)
 first|rfl|(simp only[go_sem,qd,qf,qb,qe,qi,qm,reduceIte,reduceCtorEq,Zk,Y2,wU,Zl,Zx,zg,qj,uc]<;>rfl)
def yL (a0:GServerServer):Option (List GServerEffect):=
 (wA a0.feffects).bind fun r1=>some r1
theorem yL.ok (a0:GServerServer)(r:List GServerEffect)(h:yL a0=some r):ACalls qg 48 [.op 0 0 0] [.cells 0 [.int .i64 a0.fself,.ds true (qc encI a0.fnumbers) (qa a0.fnumbers) false,.ds true (qc encGSchema a0.fschemas) (qa a0.fschemas) false,.str a0.fnewest.fName,.ds true (qc encGMessage a0.fnewest.fMessages) (qa a0.fnewest.fMessages) false,.ds true (qc encGEnumeration a0.fnewest.fEnums) (qa a0.fnewest.fEnums) false,.ds true (qc encGMethod a0.fnewest.fMethods) (qa a0.fnewest.fMethods) false,.ds true (qc encGRow a0.frows) (qa a0.frows) false,.op 1 0 0,.os true 8 5 (a0.veffects) 0 (qa a0.feffects) false],.cells 0 [.int .i64 a0.fcache.fsize,.os true 2 2 (a0.fcache.vorder) 0 (qa a0.fcache.forder) false,.mp 3,.mp 4],.cells (a0.fcache.vorder) (qc encGDedupKey a0.fcache.forder),.map (zR kvGDedupKey kvGPacket a0.fcache.freplies.l) (some (a0.fcache.freplies.bs,a0.fcache.freplies.ck)),.map (zR (AV.int .i64) (AV.int .i64) a0.fcache.flast.l) (some (a0.fcache.flast.bs,a0.fcache.flast.ck)),.cells (a0.veffects) (qc encGServerEffect a0.feffects)] (fun r' σ'=>r'=.ds true (qc encGServerEffect r) (qa r) false∧σ'=[.cells 0 [.int .i64 a0.fself,.ds true (qc encI a0.fnumbers) (qa a0.fnumbers) false,.ds true (qc encGSchema a0.fschemas) (qa a0.fschemas) false,.str a0.fnewest.fName,.ds true (qc encGMessage a0.fnewest.fMessages) (qa a0.fnewest.fMessages) false,.ds true (qc encGEnumeration a0.fnewest.fEnums) (qa a0.fnewest.fEnums) false,.ds true (qc encGMethod a0.fnewest.fMethods) (qa a0.fnewest.fMethods) false,.ds true (qc encGRow a0.frows) (qa a0.frows) false,.op 1 0 0,.os true 8 5 (a0.veffects) 0 (qa a0.feffects) false],.cells 0 [.int .i64 a0.fcache.fsize,.os true 2 2 (a0.fcache.vorder) 0 (qa a0.fcache.forder) false,.mp 3,.mp 4],.cells (a0.fcache.vorder) (qc encGDedupKey a0.fcache.forder),.map (zR kvGDedupKey kvGPacket a0.fcache.freplies.l) (some (a0.fcache.freplies.bs,a0.fcache.freplies.ck)),.map (zR (AV.int .i64) (AV.int .i64) a0.fcache.flast.l) (some (a0.fcache.flast.bs,a0.fcache.flast.ck)),.cells (a0.veffects) (qc encGServerEffect a0.feffects)]):=by
 refine we [0,1,2,3,4,5] (rs:=[.tmp 2]) tok Tryz.func48 rfl Tryz.ntmps48 rfl Tryz.call48 (by simp) rfl ?_;refine zk [(0,.op 0 0 0)] ⟨rfl,trivial⟩ ?_;unfold yL at h;refine rgN [0] ?_
 refine rc [2] fun K hK=>?_
 obtain⟨r1,hr1,h⟩:=bind_some h;refine rnN 4 ?_;refine clN rfl rfl rfl (@id (ACalls qg 88 [.os true 8 5 (a0.veffects) 0 (qa a0.feffects) false] [.cells 0 [.int .i64 a0.fself,.ds true (qc encI a0.fnumbers) (qa a0.fnumbers) false,.ds true (qc encGSchema a0.fschemas) (qa a0.fschemas) false,.str a0.fnewest.fName,.ds true (qc encGMessage a0.fnewest.fMessages) (qa a0.fnewest.fMessages) false,.ds true (qc encGEnumeration a0.fnewest.fEnums) (qa a0.fnewest.fEnums) false,.ds true (qc encGMethod a0.fnewest.fMethods) (qa a0.fnewest.fMethods) false,.ds true (qc encGRow a0.frows) (qa a0.frows) false,.op 1 0 0,.os true 8 5 (a0.veffects) 0 (qa a0.feffects) false],.cells 0 [.int .i64 a0.fcache.fsize,.os true 2 2 (a0.fcache.vorder) 0 (qa a0.fcache.forder) false,.mp 3,.mp 4],.cells (a0.fcache.vorder) (qc encGDedupKey a0.fcache.forder),.map (zR kvGDedupKey kvGPacket a0.fcache.freplies.l) (some (a0.fcache.freplies.bs,a0.fcache.freplies.ck)),.map (zR (AV.int .i64) (AV.int .i64) a0.fcache.flast.l) (some (a0.fcache.flast.bs,a0.fcache.flast.ck)),.cells (a0.veffects) (qc encGServerEffect a0.feffects)] (fun r' σ'=>r'=.ds true (qc encGServerEffect r1) (qa r1) false∧σ'=[.cells 0 [.int .i64 a0.fself,.ds true (qc encI a0.fnumbers) (qa a0.fnumbers) false,.ds true (qc encGSchema a0.fschemas) (qa a0.fschemas) false,.str a0.fnewest.fName,.ds true (qc encGMessage a0.fnewest.fMessages) (qa a0.fnewest.fMessages) false,.ds true (qc encGEnumeration a0.fnewest.fEnums) (qa a0.fnewest.fEnums) false,.ds true (qc encGMethod a0.fnewest.fMethods) (qa a0.fnewest.fMethods) false,.ds true (qc encGRow a0.frows) (qa a0.frows) false,.op 1 0 0,.os true 8 5 (a0.veffects) 0 (qa a0.feffects) false],.cells 0 [.int .i64 a0.fcache.fsize,.os true 2 2 (a0.fcache.vorder) 0 (qa a0.fcache.forder) false,.mp 3,.mp 4],.cells (a0.fcache.vorder) (qc encGDedupKey a0.fcache.forder),.map (zR kvGDedupKey kvGPacket a0.fcache.freplies.l) (some (a0.fcache.freplies.bs,a0.fcache.freplies.ck)),.map (zR (AV.int .i64) (AV.int .i64) a0.fcache.flast.l) (some (a0.fcache.flast.bs,a0.fcache.flast.ck)),.cells (a0.veffects) (qc encGServerEffect a0.feffects)])) ((wA.lo a0.feffects r1 hr1 a0.veffects).i [5])) ?_;refine rnN 1 ?_;refine nkN hK ?_;apply zE;cases h;simp only[wg,zX,z7,yN,exists_eq_left',go_sem,qe];refine⟨by decide,by simp,?_,?_⟩
 · first|rfl|(simp only[go_sem,push_cast,qo,qr,qq,zg]<;>rfl)
 first|rfl|(simp only[go_sem,qb,qe,reduceCtorEq,push_cast,if_true,qk,qn,qj,qo,qr,qq,zg]<;>rfl)
def wY  : Option Bool:=
 bnd (xH 1) fun r1=>bnd (xH 1) fun r2=>bnd (wM 5) fun r3=>bnd (wM 7) fun r4=>(wt 0 [1] [r1] r2 [(⟨[99],r3,r4⟩:GRow)] 4).bind fun r5=>(match r5.1 with|.none=>(if ((!(decide (r5.2=0)))||true)=true then some false else none)|.some y6=>(if ((!(decide (r5.2=0)))||false)=true then some false else (yK y6 (⟨3,1,0,1,1,[99],0,[2,10]⟩:GPacket)).bind fun r15=>(yK r15.2.2 (⟨3,1,0,1,1,[99],0,[2,10]⟩:GPacket)).bind fun r16=>(if (((r15.2.1&&r16.2.1)&&(decide (r15.1.fKind=r16.1.fKind)&&(decide (r15.1.fFrom=r16.1.fFrom)&&(decide (r15.1.fTo=r16.1.fTo)&&(decide (r15.1.fID=r16.1.fID)&&(decide (r15.1.fVersion=r16.1.fVersion)&&(decide (r15.1.fMethod=r16.1.fMethod)&&(decide (r15.1.fErr=r16.1.fErr)&&decide (r15.1.fBody=r16.1.fBody)))))))))&&(decide (r15.1.fBody=[2,14])))=true then (yL r16.2.2).bind fun r17=>some (decide ((qa r17:Int)=1)) else some false).bind fun c17=>some c17))
theorem wY.ok  (r:Bool)(h:wY=some r):ACalls qg 41 [] [] (fun r' _=>r'=.bool r):=by
 refine zf (rs:=[.tmp 0]) tok Tryz.func41 rfl Tryz.ntmps41 rfl Tryz.call41 (by simp) ?_;refine zk [] trivial ?_;unfold wY at h;refine rgN [] ?_
 refine rc [1,2] fun K hK=>?_
 obtain⟨r1,hr1,h⟩:=zH h;refine zj tok 1 ?_;simp only[go_sem,qd,qf,qi,zv,zQ,qO,qI,true_and,qT];refine clN rfl rfl rfl (xH.ev 1 r1 hr1 _) ?_;obtain⟨r2,hr2,h⟩:=zH h;refine zj tok 1 ?_;simp only[go_sem,qd,qf,qb,qe,qi,zv,zQ,qO,qI,true_and,qT,encGSchema];refine clN rfl rfl rfl (xH.ev 1 r2 hr2 _) ?_;obtain⟨r3,hr3,h⟩:=zH h;refine clN rfl rfl rfl (wM.ev 5 r3 hr3 _) ?_;obtain⟨r4,hr4,h⟩:=zH h;refine clN rfl rfl rfl (wM.ev 7 r4 hr4 _) ?_;obtain⟨r5,hr5,h⟩:=bind_some h;refine zj tok 2 ?_;simp only[go_sem,qd,qf,qb,qe,qi,zv,zQ,qO,qI,true_and,qT,cellsGTree,encGSchema];refine Xb (L:=[(9,.ds true (qc encI [1]) (qa [1]) false),(11,.ds true (qc encGSchema [r1]) (qa [r1]) false),(12,.agg (encGSchema r2)),(16,.ds true (qc encGRow [(⟨[99],r3,r4⟩:GRow)]) (qa [(⟨[99],r3,r4⟩:GRow)]) false)]) (τ:=[]) (.t [] false) ?_;refine clN rfl rfl rfl (wt.at 0 [1] [r1] r2 [(⟨[99],r3,r4⟩:GRow)] 4 r5 hr5 _) ?_;refine zj tok 5 ?_;simp only[go_sem,qd,qb,qe,encGRow,encGSchema];refine nkN hK ?_
 generalize hz6:r5.1=z6 at h ⊢
 rcases z6 with _|y6
 · try dsimp only at h
   simp only[XH,xp];refine awp_eqS (τ:=[]) (by first|rfl|(simp only[qn,qj,q1,qL,qN,renO_mapE,renO_cells,renL,AV.ren,vaO,ZO,qe]<;>first|rfl|(and_intros<;>rfl))) ?_
   refine za fun Z7 hZ7=>?_
   refine rc [1,25] fun K hK=>?_
   refine rnN 3 ?_;refine zo 3 (fun L τ=>L=[(1,.nilp),(25,.bool ((!(decide (r5.2=0)))||true))]∧τ=[]) ?_ ?_
   · refine xj 22 rfl (fun hg22=>?_) (fun hg22=>?_)
     · have t8:=eq_false hg22;refine rnN 3 ?_;refine zb ⟨rfl,_,_,⟨rfl,rfl⟩,.p t8⟩
     have t9:=eq_true hg22;refine zj tok 3 ?_;simp only[go_sem,qd,qb,evEq];refine zb ⟨rfl,_,_,⟨rfl,rfl⟩,.p t9⟩
   rintro _ _ ⟨rfl,rfl⟩;refine nkN hK ?_;refine zw (b:=((!(decide (r5.2=0)))||true)) rfl (fun hc10=>?_) (fun hc10=>?_)
   · rw[if_pos hc10] at h;refine rgN [0] ?_;cases h;exact rtA
   rw[xU hc10] at h;apply zd;apply hZ7;refine rgN [1,3] ?_;cases h
 try dsimp only at h
 simp only[XG,xp];refine awp_eqS (τ:=[.cells 0 [.int .i64 y6.fself,.ds true (qc encI y6.fnumbers) (qa y6.fnumbers) false,.ds true (qc encGSchema y6.fschemas) (qa y6.fschemas) false,.str y6.fnewest.fName,.ds true (qc encGMessage y6.fnewest.fMessages) (qa y6.fnewest.fMessages) false,.ds true (qc encGEnumeration y6.fnewest.fEnums) (qa y6.fnewest.fEnums) false,.ds true (qc encGMethod y6.fnewest.fMethods) (qa y6.fnewest.fMethods) false,.ds true (qc encGRow y6.frows) (qa y6.frows) false,.op 1 0 0,.os true 8 5 (y6.veffects) 0 (qa y6.feffects) false],.cells 0 [.int .i64 y6.fcache.fsize,.os true 2 2 (y6.fcache.vorder) 0 (qa y6.fcache.forder) false,.mp 3,.mp 4],.cells (y6.fcache.vorder) (qc encGDedupKey y6.fcache.forder),.map (zR kvGDedupKey kvGPacket y6.fcache.freplies.l) (some (y6.fcache.freplies.bs,y6.fcache.freplies.ck)),.map (zR (AV.int .i64) (AV.int .i64) y6.fcache.flast.l) (some (y6.fcache.flast.bs,y6.fcache.flast.ck)),.cells (y6.veffects) (qc encGServerEffect y6.feffects)]) (by first|rfl|(simp only[qn,qj,renO_mapE,renO_cells,renL,AV.ren,ZO]<;>first|rfl|(and_intros<;>rfl))) ?_
 refine za fun Z11 hZ11=>?_
 refine rc [1,25] fun K hK=>?_
 refine rnN 3 ?_;refine zo 3 (fun L τ=>L=[(1,.op 0 0 0),(25,.bool ((!(decide (r5.2=0)))||false))]∧τ=[.cells 0 [.int .i64 y6.fself,.ds true (qc encI y6.fnumbers) (qa y6.fnumbers) false,.ds true (qc encGSchema y6.fschemas) (qa y6.fschemas) false,.str y6.fnewest.fName,.ds true (qc encGMessage y6.fnewest.fMessages) (qa y6.fnewest.fMessages) false,.ds true (qc encGEnumeration y6.fnewest.fEnums) (qa y6.fnewest.fEnums) false,.ds true (qc encGMethod y6.fnewest.fMethods) (qa y6.fnewest.fMethods) false,.ds true (qc encGRow y6.frows) (qa y6.frows) false,.op 1 0 0,.os true 8 5 (y6.veffects) 0 (qa y6.feffects) false],.cells 0 [.int .i64 y6.fcache.fsize,.os true 2 2 (y6.fcache.vorder) 0 (qa y6.fcache.forder) false,.mp 3,.mp 4],.cells (y6.fcache.vorder) (qc encGDedupKey y6.fcache.forder),.map (zR kvGDedupKey kvGPacket y6.fcache.freplies.l) (some (y6.fcache.freplies.bs,y6.fcache.freplies.ck)),.map (zR (AV.int .i64) (AV.int .i64) y6.fcache.flast.l) (some (y6.fcache.flast.bs,y6.fcache.flast.ck)),.cells (y6.veffects) (qc encGServerEffect y6.feffects)]) ?_ ?_
 · refine xj 22 rfl (fun hg22=>?_) (fun hg22=>?_)
   · have t12:=eq_false hg22;refine rnN 3 ?_;refine zb ⟨rfl,_,_,⟨rfl,rfl⟩,.p t12⟩
   have t13:=eq_true hg22;refine zj tok 3 ?_;simp only[go_sem,qd,qb,evEq];refine zb ⟨rfl,_,_,⟨rfl,rfl⟩,.p t13⟩
 rintro _ _ ⟨rfl,rfl⟩;refine nkN hK ?_;refine zw (b:=((!(decide (r5.2=0)))||false)) rfl (fun hc14=>?_) (fun hc14=>?_)
 · rw[if_pos hc14] at h;refine rgN [0] ?_;cases h;exact rtA
 rw[xU hc14] at h;apply zd;apply hZ11;refine rgN [1,3] ?_
 refine rc [1,3,4,5] fun K hK=>?_
 obtain⟨r15,hr15,h⟩:=bind_some h;refine rnN 2 ?_;refine clN rfl rfl rfl (@id (ACalls qg 47 [.op 0 0 0,.agg [.int .i64 3,.int .i64 1,.int .i64 0,.int .i64 1,.int .i64 1,.str [99],.int .i64 0,.str [2,10]]] [.cells 0 [.int .i64 y6.fself,.ds true (qc encI y6.fnumbers) (qa y6.fnumbers) false,.ds true (qc encGSchema y6.fschemas) (qa y6.fschemas) false,.str y6.fnewest.fName,.ds true (qc encGMessage y6.fnewest.fMessages) (qa y6.fnewest.fMessages) false,.ds true (qc encGEnumeration y6.fnewest.fEnums) (qa y6.fnewest.fEnums) false,.ds true (qc encGMethod y6.fnewest.fMethods) (qa y6.fnewest.fMethods) false,.ds true (qc encGRow y6.frows) (qa y6.frows) false,.op 1 0 0,.os true 8 5 (y6.veffects) 0 (qa y6.feffects) false],.cells 0 [.int .i64 y6.fcache.fsize,.os true 2 2 (y6.fcache.vorder) 0 (qa y6.fcache.forder) false,.mp 3,.mp 4],.cells (y6.fcache.vorder) (qc encGDedupKey y6.fcache.forder),.map (zR kvGDedupKey kvGPacket y6.fcache.freplies.l) (some (y6.fcache.freplies.bs,y6.fcache.freplies.ck)),.map (zR (AV.int .i64) (AV.int .i64) y6.fcache.flast.l) (some (y6.fcache.flast.bs,y6.fcache.flast.ck)),.cells (y6.veffects) (qc encGServerEffect y6.feffects),.cells 0 [.int .i64 3,.int .i64 1,.int .i64 0,.int .i64 1,.int .i64 1,.str [99],.int .i64 0,.str [2,10]]] (fun r' σ'=>r'=.tup [.agg (encGPacket r15.1),.bool r15.2.1]∧σ'=[.cells 0 [.int .i64 r15.2.2.fself,.ds true (qc encI r15.2.2.fnumbers) (qa r15.2.2.fnumbers) false,.ds true (qc encGSchema r15.2.2.fschemas) (qa r15.2.2.fschemas) false,.str r15.2.2.fnewest.fName,.ds true (qc encGMessage r15.2.2.fnewest.fMessages) (qa r15.2.2.fnewest.fMessages) false,.ds true (qc encGEnumeration r15.2.2.fnewest.fEnums) (qa r15.2.2.fnewest.fEnums) false,.ds true (qc encGMethod r15.2.2.fnewest.fMethods) (qa r15.2.2.fnewest.fMethods) false,.ds true (qc encGRow r15.2.2.frows) (qa r15.2.2.frows) false,.op 1 0 0,.os true 8 5 (r15.2.2.veffects) 0 (qa r15.2.2.feffects) false],.cells 0 [.int .i64 r15.2.2.fcache.fsize,.os true 2 2 (r15.2.2.fcache.vorder) 0 (qa r15.2.2.fcache.forder) false,.mp 3,.mp 4],.cells (r15.2.2.fcache.vorder) (qc encGDedupKey r15.2.2.fcache.forder),.map (zR kvGDedupKey kvGPacket r15.2.2.fcache.freplies.l) (some (r15.2.2.fcache.freplies.bs,r15.2.2.fcache.freplies.ck)),.map (zR (AV.int .i64) (AV.int .i64) r15.2.2.fcache.flast.l) (some (r15.2.2.fcache.flast.bs,r15.2.2.fcache.flast.ck)),.cells (r15.2.2.veffects) (qc encGServerEffect r15.2.2.feffects),.cells 0 [.int .i64 3,.int .i64 1,.int .i64 0,.int .i64 1,.int .i64 1,.str [99],.int .i64 0,.str [2,10]]])) ((yK.ok y6 (⟨3,1,0,1,1,[99],0,[2,10]⟩:GPacket) r15 hr15).ix [0,1,2,3,4,5])) ?_;refine zj tok 6 ?_;simp only[go_sem,qd,qf,qb,qe,encGPacket];refine nkN hK ?_
 refine rc [1,4,5,6,7] fun K hK=>?_
 obtain⟨r16,hr16,h⟩:=bind_some h;refine rnN 2 ?_;refine clN rfl rfl rfl (@id (ACalls qg 47 [.op 0 0 0,.agg [.int .i64 3,.int .i64 1,.int .i64 0,.int .i64 1,.int .i64 1,.str [99],.int .i64 0,.str [2,10]]] [.cells 0 [.int .i64 r15.2.2.fself,.ds true (qc encI r15.2.2.fnumbers) (qa r15.2.2.fnumbers) false,.ds true (qc encGSchema r15.2.2.fschemas) (qa r15.2.2.fschemas) false,.str r15.2.2.fnewest.fName,.ds true (qc encGMessage r15.2.2.fnewest.fMessages) (qa r15.2.2.fnewest.fMessages) false,.ds true (qc encGEnumeration r15.2.2.fnewest.fEnums) (qa r15.2.2.fnewest.fEnums) false,.ds true (qc encGMethod r15.2.2.fnewest.fMethods) (qa r15.2.2.fnewest.fMethods) false,.ds true (qc encGRow r15.2.2.frows) (qa r15.2.2.frows) false,.op 1 0 0,.os true 8 5 (r15.2.2.veffects) 0 (qa r15.2.2.feffects) false],.cells 0 [.int .i64 r15.2.2.fcache.fsize,.os true 2 2 (r15.2.2.fcache.vorder) 0 (qa r15.2.2.fcache.forder) false,.mp 3,.mp 4],.cells (r15.2.2.fcache.vorder) (qc encGDedupKey r15.2.2.fcache.forder),.map (zR kvGDedupKey kvGPacket r15.2.2.fcache.freplies.l) (some (r15.2.2.fcache.freplies.bs,r15.2.2.fcache.freplies.ck)),.map (zR (AV.int .i64) (AV.int .i64) r15.2.2.fcache.flast.l) (some (r15.2.2.fcache.flast.bs,r15.2.2.fcache.flast.ck)),.cells (r15.2.2.veffects) (qc encGServerEffect r15.2.2.feffects),.cells 0 [.int .i64 3,.int .i64 1,.int .i64 0,.int .i64 1,.int .i64 1,.str [99],.int .i64 0,.str [2,10]],.cells 0 (encGPacket r15.1)] (fun r' σ'=>r'=.tup [.agg (encGPacket r16.1),.bool r16.2.1]∧σ'=[.cells 0 [.int .i64 r16.2.2.fself,.ds true (qc encI r16.2.2.fnumbers) (qa r16.2.2.fnumbers) false,.ds true (qc encGSchema r16.2.2.fschemas) (qa r16.2.2.fschemas) false,.str r16.2.2.fnewest.fName,.ds true (qc encGMessage r16.2.2.fnewest.fMessages) (qa r16.2.2.fnewest.fMessages) false,.ds true (qc encGEnumeration r16.2.2.fnewest.fEnums) (qa r16.2.2.fnewest.fEnums) false,.ds true (qc encGMethod r16.2.2.fnewest.fMethods) (qa r16.2.2.fnewest.fMethods) false,.ds true (qc encGRow r16.2.2.frows) (qa r16.2.2.frows) false,.op 1 0 0,.os true 8 5 (r16.2.2.veffects) 0 (qa r16.2.2.feffects) false],.cells 0 [.int .i64 r16.2.2.fcache.fsize,.os true 2 2 (r16.2.2.fcache.vorder) 0 (qa r16.2.2.fcache.forder) false,.mp 3,.mp 4],.cells (r16.2.2.fcache.vorder) (qc encGDedupKey r16.2.2.fcache.forder),.map (zR kvGDedupKey kvGPacket r16.2.2.fcache.freplies.l) (some (r16.2.2.fcache.freplies.bs,r16.2.2.fcache.freplies.ck)),.map (zR (AV.int .i64) (AV.int .i64) r16.2.2.fcache.flast.l) (some (r16.2.2.fcache.flast.bs,r16.2.2.fcache.flast.ck)),.cells (r16.2.2.veffects) (qc encGServerEffect r16.2.2.feffects),.cells 0 [.int .i64 3,.int .i64 1,.int .i64 0,.int .i64 1,.int .i64 1,.str [99],.int .i64 0,.str [2,10]],.cells 0 (encGPacket r15.1)])) ((yK.ok r15.2.2 (⟨3,1,0,1,1,[99],0,[2,10]⟩:GPacket) r16 hr16).ix [0,1,2,3,4,5])) ?_;refine zj tok 6 ?_;simp only[go_sem,qd,qf,qb,qe,encGPacket];refine nkN hK ?_
 refine rc [0] fun K hK=>?_
 refine rnN 2 ?_;refine zo 2 (fun L τ=>L=[(1,.op 0 0 0),(4,.op 7 0 0),(6,.op 8 0 0),(42,.bool (r15.2.1&&r16.2.1))]∧τ=[.cells 0 [.int .i64 r16.2.2.fself,.ds true (qc encI r16.2.2.fnumbers) (qa r16.2.2.fnumbers) false,.ds true (qc encGSchema r16.2.2.fschemas) (qa r16.2.2.fschemas) false,.str r16.2.2.fnewest.fName,.ds true (qc encGMessage r16.2.2.fnewest.fMessages) (qa r16.2.2.fnewest.fMessages) false,.ds true (qc encGEnumeration r16.2.2.fnewest.fEnums) (qa r16.2.2.fnewest.fEnums) false,.ds true (qc encGMethod r16.2.2.fnewest.fMethods) (qa r16.2.2.fnewest.fMethods) false,.ds true (qc encGRow r16.2.2.frows) (qa r16.2.2.frows) false,.op 1 0 0,.os true 8 5 (r16.2.2.veffects) 0 (qa r16.2.2.feffects) false],.cells 0 [.int .i64 r16.2.2.fcache.fsize,.os true 2 2 (r16.2.2.fcache.vorder) 0 (qa r16.2.2.fcache.forder) false,.mp 3,.mp 4],.cells (r16.2.2.fcache.vorder) (qc encGDedupKey r16.2.2.fcache.forder),.map (zR kvGDedupKey kvGPacket r16.2.2.fcache.freplies.l) (some (r16.2.2.fcache.freplies.bs,r16.2.2.fcache.freplies.ck)),.map (zR (AV.int .i64) (AV.int .i64) r16.2.2.fcache.flast.l) (some (r16.2.2.fcache.flast.bs,r16.2.2.fcache.flast.ck)),.cells (r16.2.2.veffects) (qc encGServerEffect r16.2.2.feffects),.cells 0 [.int .i64 3,.int .i64 1,.int .i64 0,.int .i64 1,.int .i64 1,.str [99],.int .i64 0,.str [2,10]],.cells 0 (encGPacket r15.1),.cells 0 (encGPacket r16.1)]) ?_ ?_
 · refine zP (b:=r15.2.1) 40 rfl (fun hg40=>?_) (fun hg40=>?_)
   · refine rnN 2 ?_;refine zb ⟨rfl,_,_,⟨rfl,rfl⟩,.b hg40⟩
   refine rnN 2 ?_;refine zb ⟨rfl,_,_,⟨rfl,rfl⟩,.b hg40⟩
 rintro _ _ ⟨rfl,rfl⟩;refine rnN 1 ?_;refine zo 4 (fun L τ=>L=[(1,.op 0 0 0),(4,.op 7 0 0),(47,.bool ((r15.2.1&&r16.2.1)&&(decide (r15.1.fKind=r16.1.fKind)&&(decide (r15.1.fFrom=r16.1.fFrom)&&(decide (r15.1.fTo=r16.1.fTo)&&(decide (r15.1.fID=r16.1.fID)&&(decide (r15.1.fVersion=r16.1.fVersion)&&(decide (r15.1.fMethod=r16.1.fMethod)&&(decide (r15.1.fErr=r16.1.fErr)&&decide (r15.1.fBody=r16.1.fBody))))))))))]∧τ=[.cells 0 [.int .i64 r16.2.2.fself,.ds true (qc encI r16.2.2.fnumbers) (qa r16.2.2.fnumbers) false,.ds true (qc encGSchema r16.2.2.fschemas) (qa r16.2.2.fschemas) false,.str r16.2.2.fnewest.fName,.ds true (qc encGMessage r16.2.2.fnewest.fMessages) (qa r16.2.2.fnewest.fMessages) false,.ds true (qc encGEnumeration r16.2.2.fnewest.fEnums) (qa r16.2.2.fnewest.fEnums) false,.ds true (qc encGMethod r16.2.2.fnewest.fMethods) (qa r16.2.2.fnewest.fMethods) false,.ds true (qc encGRow r16.2.2.frows) (qa r16.2.2.frows) false,.op 1 0 0,.os true 8 5 (r16.2.2.veffects) 0 (qa r16.2.2.feffects) false],.cells 0 [.int .i64 r16.2.2.fcache.fsize,.os true 2 2 (r16.2.2.fcache.vorder) 0 (qa r16.2.2.fcache.forder) false,.mp 3,.mp 4],.cells (r16.2.2.fcache.vorder) (qc encGDedupKey r16.2.2.fcache.forder),.map (zR kvGDedupKey kvGPacket r16.2.2.fcache.freplies.l) (some (r16.2.2.fcache.freplies.bs,r16.2.2.fcache.freplies.ck)),.map (zR (AV.int .i64) (AV.int .i64) r16.2.2.fcache.flast.l) (some (r16.2.2.fcache.flast.bs,r16.2.2.fcache.flast.ck)),.cells (r16.2.2.veffects) (qc encGServerEffect r16.2.2.feffects),.cells 0 [.int .i64 3,.int .i64 1,.int .i64 0,.int .i64 1,.int .i64 1,.str [99],.int .i64 0,.str [2,10]],.cells 0 (encGPacket r15.1),.cells 0 (encGPacket r16.1)]) ?_ ?_
 · refine zP (b:=(r15.2.1&&r16.2.1)) 43 rfl (fun hg43=>?_) (fun hg43=>?_)
   · refine zj tok 4 ?_;simp only[go_sem,qd,qf,qb,qe,evEqA,ceqL,ceq];refine zb ⟨rfl,_,_,⟨rfl,rfl⟩,.b hg43⟩
   refine rnN 4 ?_;refine zb ⟨rfl,_,_,⟨rfl,rfl⟩,.b hg43⟩
 rintro _ _ ⟨rfl,rfl⟩;refine rnN 1 ?_;refine zo 4 (fun L τ=>L=[(1,.op 0 0 0),(52,.bool (((r15.2.1&&r16.2.1)&&(decide (r15.1.fKind=r16.1.fKind)&&(decide (r15.1.fFrom=r16.1.fFrom)&&(decide (r15.1.fTo=r16.1.fTo)&&(decide (r15.1.fID=r16.1.fID)&&(decide (r15.1.fVersion=r16.1.fVersion)&&(decide (r15.1.fMethod=r16.1.fMethod)&&(decide (r15.1.fErr=r16.1.fErr)&&decide (r15.1.fBody=r16.1.fBody)))))))))&&(decide (r15.1.fBody=[2,14]))))]∧τ=[.cells 0 [.int .i64 r16.2.2.fself,.ds true (qc encI r16.2.2.fnumbers) (qa r16.2.2.fnumbers) false,.ds true (qc encGSchema r16.2.2.fschemas) (qa r16.2.2.fschemas) false,.str r16.2.2.fnewest.fName,.ds true (qc encGMessage r16.2.2.fnewest.fMessages) (qa r16.2.2.fnewest.fMessages) false,.ds true (qc encGEnumeration r16.2.2.fnewest.fEnums) (qa r16.2.2.fnewest.fEnums) false,.ds true (qc encGMethod r16.2.2.fnewest.fMethods) (qa r16.2.2.fnewest.fMethods) false,.ds true (qc encGRow r16.2.2.frows) (qa r16.2.2.frows) false,.op 1 0 0,.os true 8 5 (r16.2.2.veffects) 0 (qa r16.2.2.feffects) false],.cells 0 [.int .i64 r16.2.2.fcache.fsize,.os true 2 2 (r16.2.2.fcache.vorder) 0 (qa r16.2.2.fcache.forder) false,.mp 3,.mp 4],.cells (r16.2.2.fcache.vorder) (qc encGDedupKey r16.2.2.fcache.forder),.map (zR kvGDedupKey kvGPacket r16.2.2.fcache.freplies.l) (some (r16.2.2.fcache.freplies.bs,r16.2.2.fcache.freplies.ck)),.map (zR (AV.int .i64) (AV.int .i64) r16.2.2.fcache.flast.l) (some (r16.2.2.fcache.flast.bs,r16.2.2.fcache.flast.ck)),.cells (r16.2.2.veffects) (qc encGServerEffect r16.2.2.feffects),.cells 0 [.int .i64 3,.int .i64 1,.int .i64 0,.int .i64 1,.int .i64 1,.str [99],.int .i64 0,.str [2,10]],.cells 0 (encGPacket r15.1),.cells 0 (encGPacket r16.1)]) ?_ ?_
 · refine zP (b:=((r15.2.1&&r16.2.1)&&(decide (r15.1.fKind=r16.1.fKind)&&(decide (r15.1.fFrom=r16.1.fFrom)&&(decide (r15.1.fTo=r16.1.fTo)&&(decide (r15.1.fID=r16.1.fID)&&(decide (r15.1.fVersion=r16.1.fVersion)&&(decide (r15.1.fMethod=r16.1.fMethod)&&(decide (r15.1.fErr=r16.1.fErr)&&decide (r15.1.fBody=r16.1.fBody)))))))))) 48 rfl (fun hg48=>?_) (fun hg48=>?_)
   · refine rnN 4 ?_;refine zb ⟨rfl,_,_,⟨rfl,rfl⟩,.b hg48⟩
   refine rnN 4 ?_;refine zb ⟨rfl,_,_,⟨rfl,rfl⟩,.b hg48⟩
 rintro _ _ ⟨rfl,rfl⟩;refine rnN 1 ?_;obtain⟨c17,hc17,h⟩:=bind_some h;refine zo 5 (fun L τ=>L=[(58,.bool c17)]∧τ=[.cells 0 [.int .i64 r16.2.2.fself,.ds true (qc encI r16.2.2.fnumbers) (qa r16.2.2.fnumbers) false,.ds true (qc encGSchema r16.2.2.fschemas) (qa r16.2.2.fschemas) false,.str r16.2.2.fnewest.fName,.ds true (qc encGMessage r16.2.2.fnewest.fMessages) (qa r16.2.2.fnewest.fMessages) false,.ds true (qc encGEnumeration r16.2.2.fnewest.fEnums) (qa r16.2.2.fnewest.fEnums) false,.ds true (qc encGMethod r16.2.2.fnewest.fMethods) (qa r16.2.2.fnewest.fMethods) false,.ds true (qc encGRow r16.2.2.frows) (qa r16.2.2.frows) false,.op 1 0 0,.os true 8 5 (r16.2.2.veffects) 0 (qa r16.2.2.feffects) false],.cells 0 [.int .i64 r16.2.2.fcache.fsize,.os true 2 2 (r16.2.2.fcache.vorder) 0 (qa r16.2.2.fcache.forder) false,.mp 3,.mp 4],.cells (r16.2.2.fcache.vorder) (qc encGDedupKey r16.2.2.fcache.forder),.map (zR kvGDedupKey kvGPacket r16.2.2.fcache.freplies.l) (some (r16.2.2.fcache.freplies.bs,r16.2.2.fcache.freplies.ck)),.map (zR (AV.int .i64) (AV.int .i64) r16.2.2.fcache.flast.l) (some (r16.2.2.fcache.flast.bs,r16.2.2.fcache.flast.ck)),.cells (r16.2.2.veffects) (qc encGServerEffect r16.2.2.feffects),.cells 0 [.int .i64 3,.int .i64 1,.int .i64 0,.int .i64 1,.int .i64 1,.str [99],.int .i64 0,.str [2,10]],.cells 0 (encGPacket r15.1),.cells 0 (encGPacket r16.1)]) ?_ ?_
 · refine zP (b:=(((r15.2.1&&r16.2.1)&&(decide (r15.1.fKind=r16.1.fKind)&&(decide (r15.1.fFrom=r16.1.fFrom)&&(decide (r15.1.fTo=r16.1.fTo)&&(decide (r15.1.fID=r16.1.fID)&&(decide (r15.1.fVersion=r16.1.fVersion)&&(decide (r15.1.fMethod=r16.1.fMethod)&&(decide (r15.1.fErr=r16.1.fErr)&&decide (r15.1.fBody=r16.1.fBody)))))))))&&(decide (r15.1.fBody=[2,14])))) 53 rfl (fun hg53=>?_) (fun hg53=>?_)
   · rw[if_pos hg53] at hc17;obtain⟨r18,hr18,hc17⟩:=bind_some hc17;refine rnN 1 ?_;refine clN rfl rfl rfl (@id (ACalls qg 48 [.op 0 0 0] [.cells 0 [.int .i64 r16.2.2.fself,.ds true (qc encI r16.2.2.fnumbers) (qa r16.2.2.fnumbers) false,.ds true (qc encGSchema r16.2.2.fschemas) (qa r16.2.2.fschemas) false,.str r16.2.2.fnewest.fName,.ds true (qc encGMessage r16.2.2.fnewest.fMessages) (qa r16.2.2.fnewest.fMessages) false,.ds true (qc encGEnumeration r16.2.2.fnewest.fEnums) (qa r16.2.2.fnewest.fEnums) false,.ds true (qc encGMethod r16.2.2.fnewest.fMethods) (qa r16.2.2.fnewest.fMethods) false,.ds true (qc encGRow r16.2.2.frows) (qa r16.2.2.frows) false,.op 1 0 0,.os true 8 5 (r16.2.2.veffects) 0 (qa r16.2.2.feffects) false],.cells 0 [.int .i64 r16.2.2.fcache.fsize,.os true 2 2 (r16.2.2.fcache.vorder) 0 (qa r16.2.2.fcache.forder) false,.mp 3,.mp 4],.cells (r16.2.2.fcache.vorder) (qc encGDedupKey r16.2.2.fcache.forder),.map (zR kvGDedupKey kvGPacket r16.2.2.fcache.freplies.l) (some (r16.2.2.fcache.freplies.bs,r16.2.2.fcache.freplies.ck)),.map (zR (AV.int .i64) (AV.int .i64) r16.2.2.fcache.flast.l) (some (r16.2.2.fcache.flast.bs,r16.2.2.fcache.flast.ck)),.cells (r16.2.2.veffects) (qc encGServerEffect r16.2.2.feffects),.cells 0 [.int .i64 3,.int .i64 1,.int .i64 0,.int .i64 1,.int .i64 1,.str [99],.int .i64 0,.str [2,10]],.cells 0 (encGPacket r15.1),.cells 0 (encGPacket r16.1)] (fun r' σ'=>r'=.ds true (qc encGServerEffect r18) (qa r18) false∧σ'=[.cells 0 [.int .i64 r16.2.2.fself,.ds true (qc encI r16.2.2.fnumbers) (qa r16.2.2.fnumbers) false,.ds true (qc encGSchema r16.2.2.fschemas) (qa r16.2.2.fschemas) false,.str r16.2.2.fnewest.fName,.ds true (qc encGMessage r16.2.2.fnewest.fMessages) (qa r16.2.2.fnewest.fMessages) false,.ds true (qc encGEnumeration r16.2.2.fnewest.fEnums) (qa r16.2.2.fnewest.fEnums) false,.ds true (qc encGMethod r16.2.2.fnewest.fMethods) (qa r16.2.2.fnewest.fMethods) false,.ds true (qc encGRow r16.2.2.frows) (qa r16.2.2.frows) false,.op 1 0 0,.os true 8 5 (r16.2.2.veffects) 0 (qa r16.2.2.feffects) false],.cells 0 [.int .i64 r16.2.2.fcache.fsize,.os true 2 2 (r16.2.2.fcache.vorder) 0 (qa r16.2.2.fcache.forder) false,.mp 3,.mp 4],.cells (r16.2.2.fcache.vorder) (qc encGDedupKey r16.2.2.fcache.forder),.map (zR kvGDedupKey kvGPacket r16.2.2.fcache.freplies.l) (some (r16.2.2.fcache.freplies.bs,r16.2.2.fcache.freplies.ck)),.map (zR (AV.int .i64) (AV.int .i64) r16.2.2.fcache.flast.l) (some (r16.2.2.fcache.flast.bs,r16.2.2.fcache.flast.ck)),.cells (r16.2.2.veffects) (qc encGServerEffect r16.2.2.feffects),.cells 0 [.int .i64 3,.int .i64 1,.int .i64 0,.int .i64 1,.int .i64 1,.str [99],.int .i64 0,.str [2,10]],.cells 0 (encGPacket r15.1),.cells 0 (encGPacket r16.1)])) ((yL.ok r16.2.2 r18 hr18).ix [0,1,2,3,4,5])) ?_;refine rnN 3 ?_;cases hc17;refine zb ⟨rfl,_,_,⟨rfl,rfl⟩,.b hg53⟩
   rw[xU hg53] at hc17;refine rnN 5 ?_;cases hc17;refine zb ⟨rfl,_,_,⟨rfl,rfl⟩,.b hg53⟩
 rintro _ _ ⟨rfl,rfl⟩;refine rnN 1 ?_;refine nkN hK ?_;cases h;exact rtA
theorem wY.ev  (r:Bool)(h:wY=some r)(σ:Store):ACalls qg 41 [] σ (fun r' σ'=>r'=.bool r∧σ'=σ):=
 (wY.ok  r h).c σ
def law24_ServerWrong.j12 (m1_10:GPacket)(x11:Int):Option Bool:=
 none
def law24_ServerWrong.j33 (y4:GServerServer)(r30:Int)(m7_31:GPacket)(x32:Int):Option Bool:=
 (yK y4 m7_31).bind fun r34=>(yL r34.2.2).bind fun r35=>(yK r34.2.2 (⟨3,1,0,r30,2,[99],0,[2,2]⟩:GPacket)).bind fun r36=>(if (((((((r34.2.1&&(decide (r34.1.fKind=4)))&&(decide (r34.1.fErr=x32)))&&(decide (r34.1.fBody=[])))&&(decide ((qa r35:Int)=0)))&&r36.2.1)&&(decide (r36.1.fErr=0)))&&(decide (r36.1.fBody=[])))=true then (yL r36.2.2).bind fun r37=>some (decide ((qa r37:Int)=1)) else some false).bind fun c37=>(if c37=true then (wY).bind fun r39=>some r39 else some false).bind fun c39=>some c39
def law24_ServerWrong (a0:Int)(a1:Int):Option Bool:=
 bnd (xH 3) fun r1=>bnd (xH 3) fun r2=>(wt 0 [2] [r1] r2 ([]:List GRow) 3).bind fun r3=>(match r3.1 with|.none=>(if r3.2=0 then (yP a1 1000).bind fun r9=>(yP a0 5).bind fun r13=>(if r13=0 then (law24_ServerWrong.j12 (⟨3,1,0,r9,3,[99],0,[2,2]⟩:GPacket) 18) else (if r13=1 then (law24_ServerWrong.j12 (⟨3,1,0,r9,2,[100],0,[2,2]⟩:GPacket) 21) else (if r13=2 then (law24_ServerWrong.j12 (⟨3,1,0,r9,2,[99],0,[2,4]⟩:GPacket) 11) else (if r13=3 then (law24_ServerWrong.j12 (⟨3,1,0,r9,2,[99],0,[3,0]⟩:GPacket) 8) else (law24_ServerWrong.j12 (⟨3,1,0,r9,2,[99],0,[2]⟩:GPacket) 2))))) else some false)|.some y4=>(if r3.2=0 then (yP a1 1000).bind fun r30=>(yP a0 5).bind fun r41=>(if r41=0 then (law24_ServerWrong.j33 y4 r30 (⟨3,1,0,r30,3,[99],0,[2,2]⟩:GPacket) 18) else (if r41=1 then (law24_ServerWrong.j33 y4 r30 (⟨3,1,0,r30,2,[100],0,[2,2]⟩:GPacket) 21) else (if r41=2 then (law24_ServerWrong.j33 y4 r30 (⟨3,1,0,r30,2,[99],0,[2,4]⟩:GPacket) 11) else (if r41=3 then (law24_ServerWrong.j33 y4 r30 (⟨3,1,0,r30,2,[99],0,[3,0]⟩:GPacket) 8) else (law24_ServerWrong.j33 y4 r30 (⟨3,1,0,r30,2,[99],0,[2]⟩:GPacket) 2))))) else some false))
theorem law24_ServerWrong.ok (a0:Int)(a1:Int)(r:Bool)(h:law24_ServerWrong a0 a1=some r):ACalls qg 12 [.int .i64 a0,.int .i64 a1] [] (fun r' _=>r'=.bool r):=by
 refine zf (rs:=[.tmp 4]) tok Tryz.func12 rfl Tryz.ntmps12 rfl Tryz.call12 (by simp) ?_;refine zk [(0,.int .i64 a0),(1,.int .i64 a1)] ⟨rfl,rfl,trivial⟩ ?_;unfold law24_ServerWrong at h;refine rgN [0,1] ?_
 refine rc [0,1,5,6] fun K hK=>?_
 obtain⟨r1,hr1,h⟩:=zH h;refine zj tok 1 ?_;simp only[go_sem,qd,qf,qi,zv,zQ,qO,qI,true_and,qT];refine clN rfl rfl rfl (xH.ev 3 r1 hr1 _) ?_;obtain⟨r2,hr2,h⟩:=zH h;refine zj tok 1 ?_;simp only[go_sem,qd,qf,qb,qe,qi,reduceCtorEq,zv,zQ,qO,qI,true_and,qT,encGSchema];refine clN rfl rfl rfl (xH.ev 3 r2 hr2 _) ?_;obtain⟨r3,hr3,h⟩:=bind_some h;refine Xb (L:=[(0,.int .i64 a0),(1,.int .i64 a1),(17,.ds true (qc encI [2]) (qa [2]) false),(19,.ds true (qc encGSchema [r1]) (qa [r1]) false),(20,.agg (encGSchema r2))]) (τ:=[]) (.t [] false) ?_;refine clN rfl rfl rfl (ACalls.loose (wt.at 0 [2] [r1] r2 ([]:List GRow) 3 r3 hr3 _)) ?_;refine zj tok 5 ?_;simp only[go_sem,qd,qb,qe,reduceCtorEq,encGSchema];refine nkN hK ?_
 generalize hz4:r3.1=z4 at h ⊢
 rcases z4 with _|y4
 · try dsimp only at h
   simp only[XH,xp];refine awp_eqS (τ:=[]) (by first|rfl|(simp only[qn,qj,q1,qL,qN,renO_mapE,renO_cells,renL,AV.ren,vaO,ZO,qe]<;>first|rfl|(and_intros<;>rfl))) ?_
   refine za fun Z5 hZ5=>?_
   refine rgN [0,1,5,25] ?_;refine zF rfl (fun hc6=>?_) (fun hc6=>?_)
   · rw[if_neg hc6] at h;have t7:=eq_false hc6
     refine rg tok [4] fun K hK=>?_
     simp only[go_sem,qd,qb,reduceCtorEq,t7];apply hK
     cases h;exact rtA
   rw[if_pos hc6] at h;have t8:=eq_true hc6;apply zd;apply hZ5
   refine rc [0,5,7] fun K hK=>?_
   obtain⟨r9,hr9,h⟩:=bind_some h;refine zj tok 1 ?_;simp only[go_sem,qd,qb,reduceCtorEq,t8];refine clN rfl rfl rfl (yP.ev a1 1000 r9 hr9 _) ?_;refine rnN 1 ?_;refine nkN hK ?_;refine rgN [0,5,8] ?_;refine rgN [0,5,8,9] ?_;refine rgN [0,5,8,9,10] ?_;refine yR (fun L τ=>∃ (m1_10:GPacket) (x11:Int),L=[(5,.nilp),(8,.op 0 0 0),(9,.op 1 0 0),(10,.int .i64 x11)]∧τ=[.cells 0 [.int .i64 3,.int .i64 1,.int .i64 0,.int .i64 r9,.int .i64 2,.str [99],.int .i64 0,.str [2,2]],.cells 0 (encGPacket m1_10)]∧law24_ServerWrong.j12 m1_10 x11=some r) ?_ ?_
   · refine rc [5,8,9,10,32] fun K hK=>?_
     obtain⟨r13,hr13,h⟩:=bind_some h;refine rnN 1 ?_;refine clN rfl rfl rfl (yP.ev a0 5 r13 hr13 _) ?_;refine nkN hK ?_;apply ze;refine rgN [5,8,9,10,32,34] ?_;refine zF rfl (fun hc14=>?_) (fun hc14=>?_)
     · rw[if_pos hc14] at h;have t15:=eq_true hc14
       refine rgE tok [5,8,9,10] fun K hK=>?_
       simp only[go_sem,qd,qf,qb,qe,t15];apply hK
       exact⟨_,_,⟨(⟨3,1,0,r9,3,[99],0,[2,2]⟩:GPacket),18,rfl,rfl,h⟩,.s⟩
     rw[if_neg hc14] at h;have t16:=eq_false hc14
     refine rg tok [5,8,9,32,37] fun K hK=>?_
     simp only[go_sem,qd,qb,t16];apply hK
     refine zF rfl (fun hc17=>?_) (fun hc17=>?_)
     · rw[if_pos hc17] at h;have t18:=eq_true hc17
       refine rg tok [5,8,9] fun K hK=>?_
       simp only[go_sem,qd,qf,qb,qe,t18];apply hK
       refine rgE tok [5,8,9,10] fun K hK=>?_
       simp only[go_sem,qd,qb];apply hK
       exact⟨_,_,⟨(⟨3,1,0,r9,2,[100],0,[2,2]⟩:GPacket),21,rfl,rfl,h⟩,.s⟩
     rw[if_neg hc17] at h;have t19:=eq_false hc17
     refine rg tok [5,8,9,32,40] fun K hK=>?_
     simp only[go_sem,qd,qb,t19];apply hK
     refine zF rfl (fun hc20=>?_) (fun hc20=>?_)
     · rw[if_pos hc20] at h;have t21:=eq_true hc20
       refine rg tok [5,8,9] fun K hK=>?_
       simp only[go_sem,qd,qf,qb,qe,t21];apply hK
       refine rgE tok [5,8,9,10] fun K hK=>?_
       simp only[go_sem,qd,qb];apply hK
       exact⟨_,_,⟨(⟨3,1,0,r9,2,[99],0,[2,4]⟩:GPacket),11,rfl,rfl,h⟩,.s⟩
     rw[if_neg hc20] at h;have t22:=eq_false hc20
     refine rg tok [5,8,9,43] fun K hK=>?_
     simp only[go_sem,qd,qb,t22];apply hK
     refine zF rfl (fun hc23=>?_) (fun hc23=>?_)
     · rw[if_pos hc23] at h;have t24:=eq_true hc23
       refine rg tok [5,8,9] fun K hK=>?_
       simp only[go_sem,qd,qf,qb,qe,t24];apply hK
       refine rgE tok [5,8,9,10] fun K hK=>?_
       simp only[go_sem,qd,qb];apply hK
       exact⟨_,_,⟨(⟨3,1,0,r9,2,[99],0,[3,0]⟩:GPacket),8,rfl,rfl,h⟩,.s⟩
     rw[if_neg hc23] at h;have t25:=eq_false hc23
     refine rg tok [5,8,9] fun K hK=>?_
     simp only[go_sem,qd,qf,qb,qe,t25];apply hK
     refine rgE tok [5,8,9,10] fun K hK=>?_
     simp only[go_sem,qd,qb];apply hK
     exact⟨_,_,⟨(⟨3,1,0,r9,2,[99],0,[2]⟩:GPacket),2,rfl,rfl,h⟩,.s⟩
   rintro _ _ ⟨m1_10,x11,rfl,rfl,h⟩;unfold law24_ServerWrong.j12 at h;cases h
 try dsimp only at h
 simp only[XG,xp];refine awp_eqS (τ:=[.cells 0 [.int .i64 y4.fself,.ds true (qc encI y4.fnumbers) (qa y4.fnumbers) false,.ds true (qc encGSchema y4.fschemas) (qa y4.fschemas) false,.str y4.fnewest.fName,.ds true (qc encGMessage y4.fnewest.fMessages) (qa y4.fnewest.fMessages) false,.ds true (qc encGEnumeration y4.fnewest.fEnums) (qa y4.fnewest.fEnums) false,.ds true (qc encGMethod y4.fnewest.fMethods) (qa y4.fnewest.fMethods) false,.ds true (qc encGRow y4.frows) (qa y4.frows) false,.op 1 0 0,.os true 8 5 (y4.veffects) 0 (qa y4.feffects) false],.cells 0 [.int .i64 y4.fcache.fsize,.os true 2 2 (y4.fcache.vorder) 0 (qa y4.fcache.forder) false,.mp 3,.mp 4],.cells (y4.fcache.vorder) (qc encGDedupKey y4.fcache.forder),.map (zR kvGDedupKey kvGPacket y4.fcache.freplies.l) (some (y4.fcache.freplies.bs,y4.fcache.freplies.ck)),.map (zR (AV.int .i64) (AV.int .i64) y4.fcache.flast.l) (some (y4.fcache.flast.bs,y4.fcache.flast.ck)),.cells (y4.veffects) (qc encGServerEffect y4.feffects)]) (by first|rfl|(simp only[qn,qj,renO_mapE,renO_cells,renL,AV.ren,ZO]<;>first|rfl|(and_intros<;>rfl))) ?_
 refine za fun Z26 hZ26=>?_
 refine rgN [0,1,5,25] ?_;refine zF rfl (fun hc27=>?_) (fun hc27=>?_)
 · rw[if_neg hc27] at h;have t28:=eq_false hc27
   refine rg tok [4] fun K hK=>?_
   simp only[go_sem,qd,qb,reduceCtorEq,t28];apply hK
   cases h;exact rtA
 rw[if_pos hc27] at h;have t29:=eq_true hc27;apply zd;apply hZ26
 refine rc [0,5,7] fun K hK=>?_
 obtain⟨r30,hr30,h⟩:=bind_some h;refine zj tok 1 ?_;simp only[go_sem,qd,qb,reduceCtorEq,t29];refine clN rfl rfl rfl (yP.ev a1 1000 r30 hr30 _) ?_;refine rnN 1 ?_;refine nkN hK ?_;refine rgN [0,5,8] ?_;refine rgN [0,5,8,9] ?_;refine rgN [0,5,8,9,10] ?_;refine yR (fun L τ=>∃ (m7_31:GPacket) (x32:Int),L=[(5,.op 0 0 0),(8,.op 6 0 0),(9,.op 7 0 0),(10,.int .i64 x32)]∧τ=[.cells 0 [.int .i64 y4.fself,.ds true (qc encI y4.fnumbers) (qa y4.fnumbers) false,.ds true (qc encGSchema y4.fschemas) (qa y4.fschemas) false,.str y4.fnewest.fName,.ds true (qc encGMessage y4.fnewest.fMessages) (qa y4.fnewest.fMessages) false,.ds true (qc encGEnumeration y4.fnewest.fEnums) (qa y4.fnewest.fEnums) false,.ds true (qc encGMethod y4.fnewest.fMethods) (qa y4.fnewest.fMethods) false,.ds true (qc encGRow y4.frows) (qa y4.frows) false,.op 1 0 0,.os true 8 5 (y4.veffects) 0 (qa y4.feffects) false],.cells 0 [.int .i64 y4.fcache.fsize,.os true 2 2 (y4.fcache.vorder) 0 (qa y4.fcache.forder) false,.mp 3,.mp 4],.cells (y4.fcache.vorder) (qc encGDedupKey y4.fcache.forder),.map (zR kvGDedupKey kvGPacket y4.fcache.freplies.l) (some (y4.fcache.freplies.bs,y4.fcache.freplies.ck)),.map (zR (AV.int .i64) (AV.int .i64) y4.fcache.flast.l) (some (y4.fcache.flast.bs,y4.fcache.flast.ck)),.cells (y4.veffects) (qc encGServerEffect y4.feffects),.cells 0 [.int .i64 3,.int .i64 1,.int .i64 0,.int .i64 r30,.int .i64 2,.str [99],.int .i64 0,.str [2,2]],.cells 0 (encGPacket m7_31)]∧law24_ServerWrong.j33 y4 r30 m7_31 x32=some r) ?_ ?_
 · refine rc [5,8,9,10,32] fun K hK=>?_
   obtain⟨r41,hr41,h⟩:=bind_some h;refine rnN 1 ?_;refine clN rfl rfl rfl (yP.ev a0 5 r41 hr41 _) ?_;refine nkN hK ?_;apply ze;refine rgN [5,8,9,10,32,34] ?_;refine zF rfl (fun hc42=>?_) (fun hc42=>?_)
   · rw[if_pos hc42] at h;have t43:=eq_true hc42
     refine rgE tok [5,8,9,10] fun K hK=>?_
     simp only[go_sem,qd,qf,qb,qe,t43];apply hK
     exact⟨_,_,⟨(⟨3,1,0,r30,3,[99],0,[2,2]⟩:GPacket),18,rfl,rfl,h⟩,.s⟩
   rw[if_neg hc42] at h;have t44:=eq_false hc42
   refine rg tok [5,8,9,32,37] fun K hK=>?_
   simp only[go_sem,qd,qb,t44];apply hK
   refine zF rfl (fun hc45=>?_) (fun hc45=>?_)
   · rw[if_pos hc45] at h;have t46:=eq_true hc45
     refine rg tok [5,8,9] fun K hK=>?_
     simp only[go_sem,qd,qf,qb,qe,t46];apply hK
     refine rgE tok [5,8,9,10] fun K hK=>?_
     simp only[go_sem,qd,qb];apply hK
     exact⟨_,_,⟨(⟨3,1,0,r30,2,[100],0,[2,2]⟩:GPacket),21,rfl,rfl,h⟩,.s⟩
   rw[if_neg hc45] at h;have t47:=eq_false hc45
   refine rg tok [5,8,9,32,40] fun K hK=>?_
   simp only[go_sem,qd,qb,t47];apply hK
   refine zF rfl (fun hc48=>?_) (fun hc48=>?_)
   · rw[if_pos hc48] at h;have t49:=eq_true hc48
     refine rg tok [5,8,9] fun K hK=>?_
     simp only[go_sem,qd,qf,qb,qe,t49];apply hK
     refine rgE tok [5,8,9,10] fun K hK=>?_
     simp only[go_sem,qd,qb];apply hK
     exact⟨_,_,⟨(⟨3,1,0,r30,2,[99],0,[2,4]⟩:GPacket),11,rfl,rfl,h⟩,.s⟩
   rw[if_neg hc48] at h;have t50:=eq_false hc48
   refine rg tok [5,8,9,43] fun K hK=>?_
   simp only[go_sem,qd,qb,t50];apply hK
   refine zF rfl (fun hc51=>?_) (fun hc51=>?_)
   · rw[if_pos hc51] at h;have t52:=eq_true hc51
     refine rg tok [5,8,9] fun K hK=>?_
     simp only[go_sem,qd,qf,qb,qe,t52];apply hK
     refine rgE tok [5,8,9,10] fun K hK=>?_
     simp only[go_sem,qd,qb];apply hK
     exact⟨_,_,⟨(⟨3,1,0,r30,2,[99],0,[3,0]⟩:GPacket),8,rfl,rfl,h⟩,.s⟩
   rw[if_neg hc51] at h;have t53:=eq_false hc51
   refine rg tok [5,8,9] fun K hK=>?_
   simp only[go_sem,qd,qf,qb,qe,t53];apply hK
   refine rgE tok [5,8,9,10] fun K hK=>?_
   simp only[go_sem,qd,qb];apply hK
   exact⟨_,_,⟨(⟨3,1,0,r30,2,[99],0,[2]⟩:GPacket),2,rfl,rfl,h⟩,.s⟩
 rintro _ _ ⟨m7_31,x32,rfl,rfl,h⟩;unfold law24_ServerWrong.j33 at h
 refine rc [5,8,10,11,12] fun K hK=>?_
 obtain⟨r34,hr34,h⟩:=bind_some h;refine rnN 2 ?_;refine clN rfl rfl rfl (@id (ACalls qg 47 [.op 0 0 0,.agg (encGPacket m7_31)] [.cells 0 [.int .i64 y4.fself,.ds true (qc encI y4.fnumbers) (qa y4.fnumbers) false,.ds true (qc encGSchema y4.fschemas) (qa y4.fschemas) false,.str y4.fnewest.fName,.ds true (qc encGMessage y4.fnewest.fMessages) (qa y4.fnewest.fMessages) false,.ds true (qc encGEnumeration y4.fnewest.fEnums) (qa y4.fnewest.fEnums) false,.ds true (qc encGMethod y4.fnewest.fMethods) (qa y4.fnewest.fMethods) false,.ds true (qc encGRow y4.frows) (qa y4.frows) false,.op 1 0 0,.os true 8 5 (y4.veffects) 0 (qa y4.feffects) false],.cells 0 [.int .i64 y4.fcache.fsize,.os true 2 2 (y4.fcache.vorder) 0 (qa y4.fcache.forder) false,.mp 3,.mp 4],.cells (y4.fcache.vorder) (qc encGDedupKey y4.fcache.forder),.map (zR kvGDedupKey kvGPacket y4.fcache.freplies.l) (some (y4.fcache.freplies.bs,y4.fcache.freplies.ck)),.map (zR (AV.int .i64) (AV.int .i64) y4.fcache.flast.l) (some (y4.fcache.flast.bs,y4.fcache.flast.ck)),.cells (y4.veffects) (qc encGServerEffect y4.feffects),.cells 0 [.int .i64 3,.int .i64 1,.int .i64 0,.int .i64 r30,.int .i64 2,.str [99],.int .i64 0,.str [2,2]],.cells 0 (encGPacket m7_31)] (fun r' σ'=>r'=.tup [.agg (encGPacket r34.1),.bool r34.2.1]∧σ'=[.cells 0 [.int .i64 r34.2.2.fself,.ds true (qc encI r34.2.2.fnumbers) (qa r34.2.2.fnumbers) false,.ds true (qc encGSchema r34.2.2.fschemas) (qa r34.2.2.fschemas) false,.str r34.2.2.fnewest.fName,.ds true (qc encGMessage r34.2.2.fnewest.fMessages) (qa r34.2.2.fnewest.fMessages) false,.ds true (qc encGEnumeration r34.2.2.fnewest.fEnums) (qa r34.2.2.fnewest.fEnums) false,.ds true (qc encGMethod r34.2.2.fnewest.fMethods) (qa r34.2.2.fnewest.fMethods) false,.ds true (qc encGRow r34.2.2.frows) (qa r34.2.2.frows) false,.op 1 0 0,.os true 8 5 (r34.2.2.veffects) 0 (qa r34.2.2.feffects) false],.cells 0 [.int .i64 r34.2.2.fcache.fsize,.os true 2 2 (r34.2.2.fcache.vorder) 0 (qa r34.2.2.fcache.forder) false,.mp 3,.mp 4],.cells (r34.2.2.fcache.vorder) (qc encGDedupKey r34.2.2.fcache.forder),.map (zR kvGDedupKey kvGPacket r34.2.2.fcache.freplies.l) (some (r34.2.2.fcache.freplies.bs,r34.2.2.fcache.freplies.ck)),.map (zR (AV.int .i64) (AV.int .i64) r34.2.2.fcache.flast.l) (some (r34.2.2.fcache.flast.bs,r34.2.2.fcache.flast.ck)),.cells (r34.2.2.veffects) (qc encGServerEffect r34.2.2.feffects),.cells 0 [.int .i64 3,.int .i64 1,.int .i64 0,.int .i64 r30,.int .i64 2,.str [99],.int .i64 0,.str [2,2]],.cells 0 (encGPacket m7_31)])) ((yK.ok y4 m7_31 r34 hr34).ix [0,1,2,3,4,5])) ?_;refine zj tok 6 ?_;simp only[go_sem,qd,qf,qb,qe,encGPacket];refine nkN hK ?_
 refine rc [5,8,10,11,12,13] fun K hK=>?_
 obtain⟨r35,hr35,h⟩:=bind_some h;refine rnN 1 ?_;refine clN rfl rfl rfl (@id (ACalls qg 48 [.op 0 0 0] [.cells 0 [.int .i64 r34.2.2.fself,.ds true (qc encI r34.2.2.fnumbers) (qa r34.2.2.fnumbers) false,.ds true (qc encGSchema r34.2.2.fschemas) (qa r34.2.2.fschemas) false,.str r34.2.2.fnewest.fName,.ds true (qc encGMessage r34.2.2.fnewest.fMessages) (qa r34.2.2.fnewest.fMessages) false,.ds true (qc encGEnumeration r34.2.2.fnewest.fEnums) (qa r34.2.2.fnewest.fEnums) false,.ds true (qc encGMethod r34.2.2.fnewest.fMethods) (qa r34.2.2.fnewest.fMethods) false,.ds true (qc encGRow r34.2.2.frows) (qa r34.2.2.frows) false,.op 1 0 0,.os true 8 5 (r34.2.2.veffects) 0 (qa r34.2.2.feffects) false],.cells 0 [.int .i64 r34.2.2.fcache.fsize,.os true 2 2 (r34.2.2.fcache.vorder) 0 (qa r34.2.2.fcache.forder) false,.mp 3,.mp 4],.cells (r34.2.2.fcache.vorder) (qc encGDedupKey r34.2.2.fcache.forder),.map (zR kvGDedupKey kvGPacket r34.2.2.fcache.freplies.l) (some (r34.2.2.fcache.freplies.bs,r34.2.2.fcache.freplies.ck)),.map (zR (AV.int .i64) (AV.int .i64) r34.2.2.fcache.flast.l) (some (r34.2.2.fcache.flast.bs,r34.2.2.fcache.flast.ck)),.cells (r34.2.2.veffects) (qc encGServerEffect r34.2.2.feffects),.cells 0 [.int .i64 3,.int .i64 1,.int .i64 0,.int .i64 r30,.int .i64 2,.str [99],.int .i64 0,.str [2,2]],.cells 0 (encGPacket m7_31),.cells 0 (encGPacket r34.1)] (fun r' σ'=>r'=.ds true (qc encGServerEffect r35) (qa r35) false∧σ'=[.cells 0 [.int .i64 r34.2.2.fself,.ds true (qc encI r34.2.2.fnumbers) (qa r34.2.2.fnumbers) false,.ds true (qc encGSchema r34.2.2.fschemas) (qa r34.2.2.fschemas) false,.str r34.2.2.fnewest.fName,.ds true (qc encGMessage r34.2.2.fnewest.fMessages) (qa r34.2.2.fnewest.fMessages) false,.ds true (qc encGEnumeration r34.2.2.fnewest.fEnums) (qa r34.2.2.fnewest.fEnums) false,.ds true (qc encGMethod r34.2.2.fnewest.fMethods) (qa r34.2.2.fnewest.fMethods) false,.ds true (qc encGRow r34.2.2.frows) (qa r34.2.2.frows) false,.op 1 0 0,.os true 8 5 (r34.2.2.veffects) 0 (qa r34.2.2.feffects) false],.cells 0 [.int .i64 r34.2.2.fcache.fsize,.os true 2 2 (r34.2.2.fcache.vorder) 0 (qa r34.2.2.fcache.forder) false,.mp 3,.mp 4],.cells (r34.2.2.fcache.vorder) (qc encGDedupKey r34.2.2.fcache.forder),.map (zR kvGDedupKey kvGPacket r34.2.2.fcache.freplies.l) (some (r34.2.2.fcache.freplies.bs,r34.2.2.fcache.freplies.ck)),.map (zR (AV.int .i64) (AV.int .i64) r34.2.2.fcache.flast.l) (some (r34.2.2.fcache.flast.bs,r34.2.2.fcache.flast.ck)),.cells (r34.2.2.veffects) (qc encGServerEffect r34.2.2.feffects),.cells 0 [.int .i64 3,.int .i64 1,.int .i64 0,.int .i64 r30,.int .i64 2,.str [99],.int .i64 0,.str [2,2]],.cells 0 (encGPacket m7_31),.cells 0 (encGPacket r34.1)])) ((yL.ok r34.2.2 r35 hr35).ix [0,1,2,3,4,5])) ?_;refine rnN 2 ?_;refine nkN hK ?_
 refine rc [5,10,11,12,13,14,15] fun K hK=>?_
 obtain⟨r36,hr36,h⟩:=bind_some h;refine rnN 2 ?_;refine clN rfl rfl rfl (@id (ACalls qg 47 [.op 0 0 0,.agg [.int .i64 3,.int .i64 1,.int .i64 0,.int .i64 r30,.int .i64 2,.str [99],.int .i64 0,.str [2,2]]] [.cells 0 [.int .i64 r34.2.2.fself,.ds true (qc encI r34.2.2.fnumbers) (qa r34.2.2.fnumbers) false,.ds true (qc encGSchema r34.2.2.fschemas) (qa r34.2.2.fschemas) false,.str r34.2.2.fnewest.fName,.ds true (qc encGMessage r34.2.2.fnewest.fMessages) (qa r34.2.2.fnewest.fMessages) false,.ds true (qc encGEnumeration r34.2.2.fnewest.fEnums) (qa r34.2.2.fnewest.fEnums) false,.ds true (qc encGMethod r34.2.2.fnewest.fMethods) (qa r34.2.2.fnewest.fMethods) false,.ds true (qc encGRow r34.2.2.frows) (qa r34.2.2.frows) false,.op 1 0 0,.os true 8 5 (r34.2.2.veffects) 0 (qa r34.2.2.feffects) false],.cells 0 [.int .i64 r34.2.2.fcache.fsize,.os true 2 2 (r34.2.2.fcache.vorder) 0 (qa r34.2.2.fcache.forder) false,.mp 3,.mp 4],.cells (r34.2.2.fcache.vorder) (qc encGDedupKey r34.2.2.fcache.forder),.map (zR kvGDedupKey kvGPacket r34.2.2.fcache.freplies.l) (some (r34.2.2.fcache.freplies.bs,r34.2.2.fcache.freplies.ck)),.map (zR (AV.int .i64) (AV.int .i64) r34.2.2.fcache.flast.l) (some (r34.2.2.fcache.flast.bs,r34.2.2.fcache.flast.ck)),.cells (r34.2.2.veffects) (qc encGServerEffect r34.2.2.feffects),.cells 0 [.int .i64 3,.int .i64 1,.int .i64 0,.int .i64 r30,.int .i64 2,.str [99],.int .i64 0,.str [2,2]],.cells 0 (encGPacket m7_31),.cells 0 (encGPacket r34.1)] (fun r' σ'=>r'=.tup [.agg (encGPacket r36.1),.bool r36.2.1]∧σ'=[.cells 0 [.int .i64 r36.2.2.fself,.ds true (qc encI r36.2.2.fnumbers) (qa r36.2.2.fnumbers) false,.ds true (qc encGSchema r36.2.2.fschemas) (qa r36.2.2.fschemas) false,.str r36.2.2.fnewest.fName,.ds true (qc encGMessage r36.2.2.fnewest.fMessages) (qa r36.2.2.fnewest.fMessages) false,.ds true (qc encGEnumeration r36.2.2.fnewest.fEnums) (qa r36.2.2.fnewest.fEnums) false,.ds true (qc encGMethod r36.2.2.fnewest.fMethods) (qa r36.2.2.fnewest.fMethods) false,.ds true (qc encGRow r36.2.2.frows) (qa r36.2.2.frows) false,.op 1 0 0,.os true 8 5 (r36.2.2.veffects) 0 (qa r36.2.2.feffects) false],.cells 0 [.int .i64 r36.2.2.fcache.fsize,.os true 2 2 (r36.2.2.fcache.vorder) 0 (qa r36.2.2.fcache.forder) false,.mp 3,.mp 4],.cells (r36.2.2.fcache.vorder) (qc encGDedupKey r36.2.2.fcache.forder),.map (zR kvGDedupKey kvGPacket r36.2.2.fcache.freplies.l) (some (r36.2.2.fcache.freplies.bs,r36.2.2.fcache.freplies.ck)),.map (zR (AV.int .i64) (AV.int .i64) r36.2.2.fcache.flast.l) (some (r36.2.2.fcache.flast.bs,r36.2.2.fcache.flast.ck)),.cells (r36.2.2.veffects) (qc encGServerEffect r36.2.2.feffects),.cells 0 [.int .i64 3,.int .i64 1,.int .i64 0,.int .i64 r30,.int .i64 2,.str [99],.int .i64 0,.str [2,2]],.cells 0 (encGPacket m7_31),.cells 0 (encGPacket r34.1)])) ((yK.ok r34.2.2 (⟨3,1,0,r30,2,[99],0,[2,2]⟩:GPacket) r36 hr36).ix [0,1,2,3,4,5])) ?_;refine zj tok 6 ?_;simp only[go_sem,qd,qf,qb,qe,encGPacket];refine nkN hK ?_
 refine rc [4] fun K hK=>?_
 refine rnN 2 ?_;refine zo 4 (fun L τ=>L=[(5,.op 0 0 0),(10,.int .i64 x32),(11,.op 8 0 0),(13,.int .i64 (qa r35:Int)),(14,.op 9 0 0),(15,.bool r36.2.1),(66,.bool (r34.2.1&&(decide (r34.1.fKind=4))))]∧τ=[.cells 0 [.int .i64 r36.2.2.fself,.ds true (qc encI r36.2.2.fnumbers) (qa r36.2.2.fnumbers) false,.ds true (qc encGSchema r36.2.2.fschemas) (qa r36.2.2.fschemas) false,.str r36.2.2.fnewest.fName,.ds true (qc encGMessage r36.2.2.fnewest.fMessages) (qa r36.2.2.fnewest.fMessages) false,.ds true (qc encGEnumeration r36.2.2.fnewest.fEnums) (qa r36.2.2.fnewest.fEnums) false,.ds true (qc encGMethod r36.2.2.fnewest.fMethods) (qa r36.2.2.fnewest.fMethods) false,.ds true (qc encGRow r36.2.2.frows) (qa r36.2.2.frows) false,.op 1 0 0,.os true 8 5 (r36.2.2.veffects) 0 (qa r36.2.2.feffects) false],.cells 0 [.int .i64 r36.2.2.fcache.fsize,.os true 2 2 (r36.2.2.fcache.vorder) 0 (qa r36.2.2.fcache.forder) false,.mp 3,.mp 4],.cells (r36.2.2.fcache.vorder) (qc encGDedupKey r36.2.2.fcache.forder),.map (zR kvGDedupKey kvGPacket r36.2.2.fcache.freplies.l) (some (r36.2.2.fcache.freplies.bs,r36.2.2.fcache.freplies.ck)),.map (zR (AV.int .i64) (AV.int .i64) r36.2.2.fcache.flast.l) (some (r36.2.2.fcache.flast.bs,r36.2.2.fcache.flast.ck)),.cells (r36.2.2.veffects) (qc encGServerEffect r36.2.2.feffects),.cells 0 [.int .i64 3,.int .i64 1,.int .i64 0,.int .i64 r30,.int .i64 2,.str [99],.int .i64 0,.str [2,2]],.cells 0 (encGPacket m7_31),.cells 0 (encGPacket r34.1),.cells 0 (encGPacket r36.1)]) ?_ ?_
 · refine zP (b:=r34.2.1) 62 rfl (fun hg62=>?_) (fun hg62=>?_)
   · refine rnN 4 ?_;refine zb ⟨rfl,_,_,⟨rfl,rfl⟩,.b hg62⟩
   refine rnN 4 ?_;refine zb ⟨rfl,_,_,⟨rfl,rfl⟩,.b hg62⟩
 rintro _ _ ⟨rfl,rfl⟩;refine rnN 1 ?_;refine zo 5 (fun L τ=>L=[(5,.op 0 0 0),(11,.op 8 0 0),(13,.int .i64 (qa r35:Int)),(14,.op 9 0 0),(15,.bool r36.2.1),(72,.bool ((r34.2.1&&(decide (r34.1.fKind=4)))&&(decide (r34.1.fErr=x32))))]∧τ=[.cells 0 [.int .i64 r36.2.2.fself,.ds true (qc encI r36.2.2.fnumbers) (qa r36.2.2.fnumbers) false,.ds true (qc encGSchema r36.2.2.fschemas) (qa r36.2.2.fschemas) false,.str r36.2.2.fnewest.fName,.ds true (qc encGMessage r36.2.2.fnewest.fMessages) (qa r36.2.2.fnewest.fMessages) false,.ds true (qc encGEnumeration r36.2.2.fnewest.fEnums) (qa r36.2.2.fnewest.fEnums) false,.ds true (qc encGMethod r36.2.2.fnewest.fMethods) (qa r36.2.2.fnewest.fMethods) false,.ds true (qc encGRow r36.2.2.frows) (qa r36.2.2.frows) false,.op 1 0 0,.os true 8 5 (r36.2.2.veffects) 0 (qa r36.2.2.feffects) false],.cells 0 [.int .i64 r36.2.2.fcache.fsize,.os true 2 2 (r36.2.2.fcache.vorder) 0 (qa r36.2.2.fcache.forder) false,.mp 3,.mp 4],.cells (r36.2.2.fcache.vorder) (qc encGDedupKey r36.2.2.fcache.forder),.map (zR kvGDedupKey kvGPacket r36.2.2.fcache.freplies.l) (some (r36.2.2.fcache.freplies.bs,r36.2.2.fcache.freplies.ck)),.map (zR (AV.int .i64) (AV.int .i64) r36.2.2.fcache.flast.l) (some (r36.2.2.fcache.flast.bs,r36.2.2.fcache.flast.ck)),.cells (r36.2.2.veffects) (qc encGServerEffect r36.2.2.feffects),.cells 0 [.int .i64 3,.int .i64 1,.int .i64 0,.int .i64 r30,.int .i64 2,.str [99],.int .i64 0,.str [2,2]],.cells 0 (encGPacket m7_31),.cells 0 (encGPacket r34.1),.cells 0 (encGPacket r36.1)]) ?_ ?_
 · refine zP (b:=(r34.2.1&&(decide (r34.1.fKind=4)))) 67 rfl (fun hg67=>?_) (fun hg67=>?_)
   · refine rnN 5 ?_;refine zb ⟨rfl,_,_,⟨rfl,rfl⟩,.b hg67⟩
   refine rnN 5 ?_;refine zb ⟨rfl,_,_,⟨rfl,rfl⟩,.b hg67⟩
 rintro _ _ ⟨rfl,rfl⟩;refine rnN 1 ?_;refine zo 4 (fun L τ=>L=[(5,.op 0 0 0),(13,.int .i64 (qa r35:Int)),(14,.op 9 0 0),(15,.bool r36.2.1),(77,.bool (((r34.2.1&&(decide (r34.1.fKind=4)))&&(decide (r34.1.fErr=x32)))&&(decide (r34.1.fBody=[]))))]∧τ=[.cells 0 [.int .i64 r36.2.2.fself,.ds true (qc encI r36.2.2.fnumbers) (qa r36.2.2.fnumbers) false,.ds true (qc encGSchema r36.2.2.fschemas) (qa r36.2.2.fschemas) false,.str r36.2.2.fnewest.fName,.ds true (qc encGMessage r36.2.2.fnewest.fMessages) (qa r36.2.2.fnewest.fMessages) false,.ds true (qc encGEnumeration r36.2.2.fnewest.fEnums) (qa r36.2.2.fnewest.fEnums) false,.ds true (qc encGMethod r36.2.2.fnewest.fMethods) (qa r36.2.2.fnewest.fMethods) false,.ds true (qc encGRow r36.2.2.frows) (qa r36.2.2.frows) false,.op 1 0 0,.os true 8 5 (r36.2.2.veffects) 0 (qa r36.2.2.feffects) false],.cells 0 [.int .i64 r36.2.2.fcache.fsize,.os true 2 2 (r36.2.2.fcache.vorder) 0 (qa r36.2.2.fcache.forder) false,.mp 3,.mp 4],.cells (r36.2.2.fcache.vorder) (qc encGDedupKey r36.2.2.fcache.forder),.map (zR kvGDedupKey kvGPacket r36.2.2.fcache.freplies.l) (some (r36.2.2.fcache.freplies.bs,r36.2.2.fcache.freplies.ck)),.map (zR (AV.int .i64) (AV.int .i64) r36.2.2.fcache.flast.l) (some (r36.2.2.fcache.flast.bs,r36.2.2.fcache.flast.ck)),.cells (r36.2.2.veffects) (qc encGServerEffect r36.2.2.feffects),.cells 0 [.int .i64 3,.int .i64 1,.int .i64 0,.int .i64 r30,.int .i64 2,.str [99],.int .i64 0,.str [2,2]],.cells 0 (encGPacket m7_31),.cells 0 (encGPacket r34.1),.cells 0 (encGPacket r36.1)]) ?_ ?_
 · refine zP (b:=((r34.2.1&&(decide (r34.1.fKind=4)))&&(decide (r34.1.fErr=x32)))) 73 rfl (fun hg73=>?_) (fun hg73=>?_)
   · refine rnN 4 ?_;refine zb ⟨rfl,_,_,⟨rfl,rfl⟩,.b hg73⟩
   refine rnN 4 ?_;refine zb ⟨rfl,_,_,⟨rfl,rfl⟩,.b hg73⟩
 rintro _ _ ⟨rfl,rfl⟩;refine rnN 1 ?_;refine zo 3 (fun L τ=>L=[(5,.op 0 0 0),(14,.op 9 0 0),(15,.bool r36.2.1),(81,.bool ((((r34.2.1&&(decide (r34.1.fKind=4)))&&(decide (r34.1.fErr=x32)))&&(decide (r34.1.fBody=[])))&&(decide ((qa r35:Int)=0))))]∧τ=[.cells 0 [.int .i64 r36.2.2.fself,.ds true (qc encI r36.2.2.fnumbers) (qa r36.2.2.fnumbers) false,.ds true (qc encGSchema r36.2.2.fschemas) (qa r36.2.2.fschemas) false,.str r36.2.2.fnewest.fName,.ds true (qc encGMessage r36.2.2.fnewest.fMessages) (qa r36.2.2.fnewest.fMessages) false,.ds true (qc encGEnumeration r36.2.2.fnewest.fEnums) (qa r36.2.2.fnewest.fEnums) false,.ds true (qc encGMethod r36.2.2.fnewest.fMethods) (qa r36.2.2.fnewest.fMethods) false,.ds true (qc encGRow r36.2.2.frows) (qa r36.2.2.frows) false,.op 1 0 0,.os true 8 5 (r36.2.2.veffects) 0 (qa r36.2.2.feffects) false],.cells 0 [.int .i64 r36.2.2.fcache.fsize,.os true 2 2 (r36.2.2.fcache.vorder) 0 (qa r36.2.2.fcache.forder) false,.mp 3,.mp 4],.cells (r36.2.2.fcache.vorder) (qc encGDedupKey r36.2.2.fcache.forder),.map (zR kvGDedupKey kvGPacket r36.2.2.fcache.freplies.l) (some (r36.2.2.fcache.freplies.bs,r36.2.2.fcache.freplies.ck)),.map (zR (AV.int .i64) (AV.int .i64) r36.2.2.fcache.flast.l) (some (r36.2.2.fcache.flast.bs,r36.2.2.fcache.flast.ck)),.cells (r36.2.2.veffects) (qc encGServerEffect r36.2.2.feffects),.cells 0 [.int .i64 3,.int .i64 1,.int .i64 0,.int .i64 r30,.int .i64 2,.str [99],.int .i64 0,.str [2,2]],.cells 0 (encGPacket m7_31),.cells 0 (encGPacket r34.1),.cells 0 (encGPacket r36.1)]) ?_ ?_
 · refine zP (b:=(((r34.2.1&&(decide (r34.1.fKind=4)))&&(decide (r34.1.fErr=x32)))&&(decide (r34.1.fBody=[])))) 78 rfl (fun hg78=>?_) (fun hg78=>?_)
   · refine rnN 3 ?_;refine zb ⟨rfl,_,_,⟨rfl,rfl⟩,.b hg78⟩
   refine rnN 3 ?_;refine zb ⟨rfl,_,_,⟨rfl,rfl⟩,.b hg78⟩
 rintro _ _ ⟨rfl,rfl⟩;refine rnN 1 ?_;refine zo 2 (fun L τ=>L=[(5,.op 0 0 0),(14,.op 9 0 0),(84,.bool (((((r34.2.1&&(decide (r34.1.fKind=4)))&&(decide (r34.1.fErr=x32)))&&(decide (r34.1.fBody=[])))&&(decide ((qa r35:Int)=0)))&&r36.2.1))]∧τ=[.cells 0 [.int .i64 r36.2.2.fself,.ds true (qc encI r36.2.2.fnumbers) (qa r36.2.2.fnumbers) false,.ds true (qc encGSchema r36.2.2.fschemas) (qa r36.2.2.fschemas) false,.str r36.2.2.fnewest.fName,.ds true (qc encGMessage r36.2.2.fnewest.fMessages) (qa r36.2.2.fnewest.fMessages) false,.ds true (qc encGEnumeration r36.2.2.fnewest.fEnums) (qa r36.2.2.fnewest.fEnums) false,.ds true (qc encGMethod r36.2.2.fnewest.fMethods) (qa r36.2.2.fnewest.fMethods) false,.ds true (qc encGRow r36.2.2.frows) (qa r36.2.2.frows) false,.op 1 0 0,.os true 8 5 (r36.2.2.veffects) 0 (qa r36.2.2.feffects) false],.cells 0 [.int .i64 r36.2.2.fcache.fsize,.os true 2 2 (r36.2.2.fcache.vorder) 0 (qa r36.2.2.fcache.forder) false,.mp 3,.mp 4],.cells (r36.2.2.fcache.vorder) (qc encGDedupKey r36.2.2.fcache.forder),.map (zR kvGDedupKey kvGPacket r36.2.2.fcache.freplies.l) (some (r36.2.2.fcache.freplies.bs,r36.2.2.fcache.freplies.ck)),.map (zR (AV.int .i64) (AV.int .i64) r36.2.2.fcache.flast.l) (some (r36.2.2.fcache.flast.bs,r36.2.2.fcache.flast.ck)),.cells (r36.2.2.veffects) (qc encGServerEffect r36.2.2.feffects),.cells 0 [.int .i64 3,.int .i64 1,.int .i64 0,.int .i64 r30,.int .i64 2,.str [99],.int .i64 0,.str [2,2]],.cells 0 (encGPacket m7_31),.cells 0 (encGPacket r34.1),.cells 0 (encGPacket r36.1)]) ?_ ?_
 · refine zP (b:=((((r34.2.1&&(decide (r34.1.fKind=4)))&&(decide (r34.1.fErr=x32)))&&(decide (r34.1.fBody=[])))&&(decide ((qa r35:Int)=0)))) 82 rfl (fun hg82=>?_) (fun hg82=>?_)
   · refine rnN 2 ?_;refine zb ⟨rfl,_,_,⟨rfl,rfl⟩,.b hg82⟩
   refine rnN 2 ?_;refine zb ⟨rfl,_,_,⟨rfl,rfl⟩,.b hg82⟩
 rintro _ _ ⟨rfl,rfl⟩;refine rnN 1 ?_;refine zo 4 (fun L τ=>L=[(5,.op 0 0 0),(14,.op 9 0 0),(89,.bool ((((((r34.2.1&&(decide (r34.1.fKind=4)))&&(decide (r34.1.fErr=x32)))&&(decide (r34.1.fBody=[])))&&(decide ((qa r35:Int)=0)))&&r36.2.1)&&(decide (r36.1.fErr=0))))]∧τ=[.cells 0 [.int .i64 r36.2.2.fself,.ds true (qc encI r36.2.2.fnumbers) (qa r36.2.2.fnumbers) false,.ds true (qc encGSchema r36.2.2.fschemas) (qa r36.2.2.fschemas) false,.str r36.2.2.fnewest.fName,.ds true (qc encGMessage r36.2.2.fnewest.fMessages) (qa r36.2.2.fnewest.fMessages) false,.ds true (qc encGEnumeration r36.2.2.fnewest.fEnums) (qa r36.2.2.fnewest.fEnums) false,.ds true (qc encGMethod r36.2.2.fnewest.fMethods) (qa r36.2.2.fnewest.fMethods) false,.ds true (qc encGRow r36.2.2.frows) (qa r36.2.2.frows) false,.op 1 0 0,.os true 8 5 (r36.2.2.veffects) 0 (qa r36.2.2.feffects) false],.cells 0 [.int .i64 r36.2.2.fcache.fsize,.os true 2 2 (r36.2.2.fcache.vorder) 0 (qa r36.2.2.fcache.forder) false,.mp 3,.mp 4],.cells (r36.2.2.fcache.vorder) (qc encGDedupKey r36.2.2.fcache.forder),.map (zR kvGDedupKey kvGPacket r36.2.2.fcache.freplies.l) (some (r36.2.2.fcache.freplies.bs,r36.2.2.fcache.freplies.ck)),.map (zR (AV.int .i64) (AV.int .i64) r36.2.2.fcache.flast.l) (some (r36.2.2.fcache.flast.bs,r36.2.2.fcache.flast.ck)),.cells (r36.2.2.veffects) (qc encGServerEffect r36.2.2.feffects),.cells 0 [.int .i64 3,.int .i64 1,.int .i64 0,.int .i64 r30,.int .i64 2,.str [99],.int .i64 0,.str [2,2]],.cells 0 (encGPacket m7_31),.cells 0 (encGPacket r34.1),.cells 0 (encGPacket r36.1)]) ?_ ?_
 · refine zP (b:=(((((r34.2.1&&(decide (r34.1.fKind=4)))&&(decide (r34.1.fErr=x32)))&&(decide (r34.1.fBody=[])))&&(decide ((qa r35:Int)=0)))&&r36.2.1)) 85 rfl (fun hg85=>?_) (fun hg85=>?_)
   · refine rnN 4 ?_;refine zb ⟨rfl,_,_,⟨rfl,rfl⟩,.b hg85⟩
   refine rnN 4 ?_;refine zb ⟨rfl,_,_,⟨rfl,rfl⟩,.b hg85⟩
 rintro _ _ ⟨rfl,rfl⟩;refine rnN 1 ?_;refine zo 4 (fun L τ=>L=[(5,.op 0 0 0),(94,.bool (((((((r34.2.1&&(decide (r34.1.fKind=4)))&&(decide (r34.1.fErr=x32)))&&(decide (r34.1.fBody=[])))&&(decide ((qa r35:Int)=0)))&&r36.2.1)&&(decide (r36.1.fErr=0)))&&(decide (r36.1.fBody=[]))))]∧τ=[.cells 0 [.int .i64 r36.2.2.fself,.ds true (qc encI r36.2.2.fnumbers) (qa r36.2.2.fnumbers) false,.ds true (qc encGSchema r36.2.2.fschemas) (qa r36.2.2.fschemas) false,.str r36.2.2.fnewest.fName,.ds true (qc encGMessage r36.2.2.fnewest.fMessages) (qa r36.2.2.fnewest.fMessages) false,.ds true (qc encGEnumeration r36.2.2.fnewest.fEnums) (qa r36.2.2.fnewest.fEnums) false,.ds true (qc encGMethod r36.2.2.fnewest.fMethods) (qa r36.2.2.fnewest.fMethods) false,.ds true (qc encGRow r36.2.2.frows) (qa r36.2.2.frows) false,.op 1 0 0,.os true 8 5 (r36.2.2.veffects) 0 (qa r36.2.2.feffects) false],.cells 0 [.int .i64 r36.2.2.fcache.fsize,.os true 2 2 (r36.2.2.fcache.vorder) 0 (qa r36.2.2.fcache.forder) false,.mp 3,.mp 4],.cells (r36.2.2.fcache.vorder) (qc encGDedupKey r36.2.2.fcache.forder),.map (zR kvGDedupKey kvGPacket r36.2.2.fcache.freplies.l) (some (r36.2.2.fcache.freplies.bs,r36.2.2.fcache.freplies.ck)),.map (zR (AV.int .i64) (AV.int .i64) r36.2.2.fcache.flast.l) (some (r36.2.2.fcache.flast.bs,r36.2.2.fcache.flast.ck)),.cells (r36.2.2.veffects) (qc encGServerEffect r36.2.2.feffects),.cells 0 [.int .i64 3,.int .i64 1,.int .i64 0,.int .i64 r30,.int .i64 2,.str [99],.int .i64 0,.str [2,2]],.cells 0 (encGPacket m7_31),.cells 0 (encGPacket r34.1),.cells 0 (encGPacket r36.1)]) ?_ ?_
 · refine zP (b:=((((((r34.2.1&&(decide (r34.1.fKind=4)))&&(decide (r34.1.fErr=x32)))&&(decide (r34.1.fBody=[])))&&(decide ((qa r35:Int)=0)))&&r36.2.1)&&(decide (r36.1.fErr=0)))) 90 rfl (fun hg90=>?_) (fun hg90=>?_)
   · refine rnN 4 ?_;refine zb ⟨rfl,_,_,⟨rfl,rfl⟩,.b hg90⟩
   refine rnN 4 ?_;refine zb ⟨rfl,_,_,⟨rfl,rfl⟩,.b hg90⟩
 rintro _ _ ⟨rfl,rfl⟩;refine rnN 1 ?_;obtain⟨c37,hc37,h⟩:=bind_some h;refine zo 5 (fun L τ=>L=[(100,.bool c37)]∧τ=[.cells 0 [.int .i64 r36.2.2.fself,.ds true (qc encI r36.2.2.fnumbers) (qa r36.2.2.fnumbers) false,.ds true (qc encGSchema r36.2.2.fschemas) (qa r36.2.2.fschemas) false,.str r36.2.2.fnewest.fName,.ds true (qc encGMessage r36.2.2.fnewest.fMessages) (qa r36.2.2.fnewest.fMessages) false,.ds true (qc encGEnumeration r36.2.2.fnewest.fEnums) (qa r36.2.2.fnewest.fEnums) false,.ds true (qc encGMethod r36.2.2.fnewest.fMethods) (qa r36.2.2.fnewest.fMethods) false,.ds true (qc encGRow r36.2.2.frows) (qa r36.2.2.frows) false,.op 1 0 0,.os true 8 5 (r36.2.2.veffects) 0 (qa r36.2.2.feffects) false],.cells 0 [.int .i64 r36.2.2.fcache.fsize,.os true 2 2 (r36.2.2.fcache.vorder) 0 (qa r36.2.2.fcache.forder) false,.mp 3,.mp 4],.cells (r36.2.2.fcache.vorder) (qc encGDedupKey r36.2.2.fcache.forder),.map (zR kvGDedupKey kvGPacket r36.2.2.fcache.freplies.l) (some (r36.2.2.fcache.freplies.bs,r36.2.2.fcache.freplies.ck)),.map (zR (AV.int .i64) (AV.int .i64) r36.2.2.fcache.flast.l) (some (r36.2.2.fcache.flast.bs,r36.2.2.fcache.flast.ck)),.cells (r36.2.2.veffects) (qc encGServerEffect r36.2.2.feffects),.cells 0 [.int .i64 3,.int .i64 1,.int .i64 0,.int .i64 r30,.int .i64 2,.str [99],.int .i64 0,.str [2,2]],.cells 0 (encGPacket m7_31),.cells 0 (encGPacket r34.1),.cells 0 (encGPacket r36.1)]) ?_ ?_
 · refine zP (b:=(((((((r34.2.1&&(decide (r34.1.fKind=4)))&&(decide (r34.1.fErr=x32)))&&(decide (r34.1.fBody=[])))&&(decide ((qa r35:Int)=0)))&&r36.2.1)&&(decide (r36.1.fErr=0)))&&(decide (r36.1.fBody=[])))) 95 rfl (fun hg95=>?_) (fun hg95=>?_)
   · rw[if_pos hg95] at hc37;obtain⟨r38,hr38,hc37⟩:=bind_some hc37;refine rnN 1 ?_;refine clN rfl rfl rfl (@id (ACalls qg 48 [.op 0 0 0] [.cells 0 [.int .i64 r36.2.2.fself,.ds true (qc encI r36.2.2.fnumbers) (qa r36.2.2.fnumbers) false,.ds true (qc encGSchema r36.2.2.fschemas) (qa r36.2.2.fschemas) false,.str r36.2.2.fnewest.fName,.ds true (qc encGMessage r36.2.2.fnewest.fMessages) (qa r36.2.2.fnewest.fMessages) false,.ds true (qc encGEnumeration r36.2.2.fnewest.fEnums) (qa r36.2.2.fnewest.fEnums) false,.ds true (qc encGMethod r36.2.2.fnewest.fMethods) (qa r36.2.2.fnewest.fMethods) false,.ds true (qc encGRow r36.2.2.frows) (qa r36.2.2.frows) false,.op 1 0 0,.os true 8 5 (r36.2.2.veffects) 0 (qa r36.2.2.feffects) false],.cells 0 [.int .i64 r36.2.2.fcache.fsize,.os true 2 2 (r36.2.2.fcache.vorder) 0 (qa r36.2.2.fcache.forder) false,.mp 3,.mp 4],.cells (r36.2.2.fcache.vorder) (qc encGDedupKey r36.2.2.fcache.forder),.map (zR kvGDedupKey kvGPacket r36.2.2.fcache.freplies.l) (some (r36.2.2.fcache.freplies.bs,r36.2.2.fcache.freplies.ck)),.map (zR (AV.int .i64) (AV.int .i64) r36.2.2.fcache.flast.l) (some (r36.2.2.fcache.flast.bs,r36.2.2.fcache.flast.ck)),.cells (r36.2.2.veffects) (qc encGServerEffect r36.2.2.feffects),.cells 0 [.int .i64 3,.int .i64 1,.int .i64 0,.int .i64 r30,.int .i64 2,.str [99],.int .i64 0,.str [2,2]],.cells 0 (encGPacket m7_31),.cells 0 (encGPacket r34.1),.cells 0 (encGPacket r36.1)] (fun r' σ'=>r'=.ds true (qc encGServerEffect r38) (qa r38) false∧σ'=[.cells 0 [.int .i64 r36.2.2.fself,.ds true (qc encI r36.2.2.fnumbers) (qa r36.2.2.fnumbers) false,.ds true (qc encGSchema r36.2.2.fschemas) (qa r36.2.2.fschemas) false,.str r36.2.2.fnewest.fName,.ds true (qc encGMessage r36.2.2.fnewest.fMessages) (qa r36.2.2.fnewest.fMessages) false,.ds true (qc encGEnumeration r36.2.2.fnewest.fEnums) (qa r36.2.2.fnewest.fEnums) false,.ds true (qc encGMethod r36.2.2.fnewest.fMethods) (qa r36.2.2.fnewest.fMethods) false,.ds true (qc encGRow r36.2.2.frows) (qa r36.2.2.frows) false,.op 1 0 0,.os true 8 5 (r36.2.2.veffects) 0 (qa r36.2.2.feffects) false],.cells 0 [.int .i64 r36.2.2.fcache.fsize,.os true 2 2 (r36.2.2.fcache.vorder) 0 (qa r36.2.2.fcache.forder) false,.mp 3,.mp 4],.cells (r36.2.2.fcache.vorder) (qc encGDedupKey r36.2.2.fcache.forder),.map (zR kvGDedupKey kvGPacket r36.2.2.fcache.freplies.l) (some (r36.2.2.fcache.freplies.bs,r36.2.2.fcache.freplies.ck)),.map (zR (AV.int .i64) (AV.int .i64) r36.2.2.fcache.flast.l) (some (r36.2.2.fcache.flast.bs,r36.2.2.fcache.flast.ck)),.cells (r36.2.2.veffects) (qc encGServerEffect r36.2.2.feffects),.cells 0 [.int .i64 3,.int .i64 1,.int .i64 0,.int .i64 r30,.int .i64 2,.str [99],.int .i64 0,.str [2,2]],.cells 0 (encGPacket m7_31),.cells 0 (encGPacket r34.1),.cells 0 (encGPacket r36.1)])) ((yL.ok r36.2.2 r38 hr38).ix [0,1,2,3,4,5])) ?_;refine rnN 3 ?_;cases hc37;refine zb ⟨rfl,_,_,⟨rfl,rfl⟩,.b hg95⟩
   rw[xU hg95] at hc37;refine rnN 5 ?_;cases hc37;refine zb ⟨rfl,_,_,⟨rfl,rfl⟩,.b hg95⟩
 rintro _ _ ⟨rfl,rfl⟩;refine rnN 1 ?_;obtain⟨c39,hc39,h⟩:=bind_some h;refine zo 2 (fun L τ=>L=[(103,.bool c39)]∧τ=[.cells 0 [.int .i64 r36.2.2.fself,.ds true (qc encI r36.2.2.fnumbers) (qa r36.2.2.fnumbers) false,.ds true (qc encGSchema r36.2.2.fschemas) (qa r36.2.2.fschemas) false,.str r36.2.2.fnewest.fName,.ds true (qc encGMessage r36.2.2.fnewest.fMessages) (qa r36.2.2.fnewest.fMessages) false,.ds true (qc encGEnumeration r36.2.2.fnewest.fEnums) (qa r36.2.2.fnewest.fEnums) false,.ds true (qc encGMethod r36.2.2.fnewest.fMethods) (qa r36.2.2.fnewest.fMethods) false,.ds true (qc encGRow r36.2.2.frows) (qa r36.2.2.frows) false,.op 1 0 0,.os true 8 5 (r36.2.2.veffects) 0 (qa r36.2.2.feffects) false],.cells 0 [.int .i64 r36.2.2.fcache.fsize,.os true 2 2 (r36.2.2.fcache.vorder) 0 (qa r36.2.2.fcache.forder) false,.mp 3,.mp 4],.cells (r36.2.2.fcache.vorder) (qc encGDedupKey r36.2.2.fcache.forder),.map (zR kvGDedupKey kvGPacket r36.2.2.fcache.freplies.l) (some (r36.2.2.fcache.freplies.bs,r36.2.2.fcache.freplies.ck)),.map (zR (AV.int .i64) (AV.int .i64) r36.2.2.fcache.flast.l) (some (r36.2.2.fcache.flast.bs,r36.2.2.fcache.flast.ck)),.cells (r36.2.2.veffects) (qc encGServerEffect r36.2.2.feffects),.cells 0 [.int .i64 3,.int .i64 1,.int .i64 0,.int .i64 r30,.int .i64 2,.str [99],.int .i64 0,.str [2,2]],.cells 0 (encGPacket m7_31),.cells 0 (encGPacket r34.1),.cells 0 (encGPacket r36.1)]) ?_ ?_
 · refine zP (b:=c37) 101 rfl (fun hg101=>?_) (fun hg101=>?_)
   · rw[if_pos hg101] at hc39;obtain⟨r40,hr40,hc39⟩:=bind_some hc39;refine clN rfl rfl rfl (wY.ev  r40 hr40 _) ?_;refine rnN 1 ?_;cases hc39;refine zb ⟨rfl,_,_,⟨rfl,rfl⟩,.b hg101⟩
   rw[xU hg101] at hc39;refine rnN 2 ?_;cases hc39;refine zb ⟨rfl,_,_,⟨rfl,rfl⟩,.b hg101⟩
 rintro _ _ ⟨rfl,rfl⟩;refine rnN 1 ?_;refine nkN hK ?_;cases h;exact rtA
end
section
set_option maxRecDepth 4000
open AM
def wS : GServerServer:=⟨0,[2],[xH 3],xH 3,[],⟨3,[],0,⟨[],[],0⟩,⟨[],[],0⟩⟩,[],0⟩
theorem wNew : wt 0 [2] [xH 3] (xH 3) ([]:List GRow) 3=some (some wS,0):=by kernel_rfl
theorem place_ok (a:Int){n:Int}(h0:0<n)(h1:n≤1000):∃ k,yP a n=some k∧0≤k∧k<n:=by
 unfold yP;rw[show grd (n≠0)=some () from if_pos (by omega),uA];have hm:=Int.tmod_lt_of_pos a h0
 have hl : -n<a.tmod n:=by
  have:=Int.lt_tmod_of_pos a h0
  omega
 split
 · refine⟨a.tmod n+n,?_,by omega,by omega⟩
   show some (IntKind.i64.wrap _)=_
   rw[i64_in (by omega) (by omega)]
 exact⟨a.tmod n,rfl,by omega,by omega⟩
theorem wrong0 (k:Int):law24_ServerWrong.j33 wS k ⟨3,1,0,k,3,[99],0,[2,2]⟩ 18=some true:=by kernel_rfl
theorem wrong1 (k:Int):law24_ServerWrong.j33 wS k ⟨3,1,0,k,2,[100],0,[2,2]⟩ 21=some true:=by kernel_rfl
theorem wrong2 (k:Int):law24_ServerWrong.j33 wS k ⟨3,1,0,k,2,[99],0,[2,4]⟩ 11=some true:=by kernel_rfl
theorem wrong3 (k:Int):law24_ServerWrong.j33 wS k ⟨3,1,0,k,2,[99],0,[3,0]⟩ 8=some true:=by kernel_rfl
theorem wrong4 (k:Int):law24_ServerWrong.j33 wS k ⟨3,1,0,k,2,[99],0,[2]⟩ 2=some true:=by kernel_rfl
theorem law24_ServerWrong_true (a b:Int):law24_ServerWrong a b=some true:=by
 unfold law24_ServerWrong;simp only[bnd];rw[wNew,uA]
 dsimp only
 rw[if_pos rfl];obtain⟨k,hk,_,_⟩:=place_ok b (n:=1000) (by decide) (by decide);obtain⟨h,hh,_,_⟩:=place_ok a (n:=5) (by decide) (by decide);rw[hk,uA,hh,uA]
 split
 · exact wrong0 k
 split
 · exact wrong1 k
 split
 · exact wrong2 k
 split
 · exact wrong3 k
 exact wrong4 k
end
section
open Go.ChangeShapes Go.WideShapes Go.ChangeAt Go.RowKit Go.Shelf Go.Lib AM
theorem own : ownKnob Tryz.prog.godebug=none:=by kernel_rfl
def listed : List (String×DataW Unit):=[("unicode/utf8.acceptRanges",Rows.laid_unicode_utf8_acceptRanges),("unicode/utf8.first",Rows.laid_unicode_utf8_first)]
noncomputable def laidWorld (os:Os):World:=
 let w0:=World.holding qg os ⟨#[],#[],[]⟩
 let put (h:Array Obj) (g:Nat) (cs:Array Value):Array Obj:=h.modify g fun
  |.cells _ t frozen=>.cells cs t frozen
  |o=>o
 let h1:=put w0.heap (utf8Ren.g 3) (Lib.firstTab.map fun z=>Value.int .u8 z).toArray
 let h2:=put h1 (utf8Ren.g 4) ((uw 16).flatMap fun i=>[Value.int .u8 (Lib.accLo i),Value.int .u8 (Lib.accHi i)]).toArray
 { w0 with heap:=h2 }
theorem laid_met (os:Os)(args:Array Value):laidMet qg listed ((laidWorld os).forCall (fun _ _=>0) ⟨#[],args,[]⟩).memory:=
 (LaidIn.of_run (l:=listed) [0,1] 8 (by kernel_rfl) (by kernel_rfl) (by kernel_rfl) (by kernel_rfl)).met
theorem laid_metH (os:Os)(args:Array Value):laidMetH qg listed ((laidWorld os).forCall (fun _ _=>0) ⟨#[],args,[]⟩).memory:=laid_met os args
theorem firstD : Rows.laid_unicode_utf8_first=Lib.firstData:=by kernel_rfl
theorem acceptD : (Rows.laid_unicode_utf8_acceptRanges:DataW Unit)=Lib.acceptData:=by kernel_rfl
theorem u8types : U8Types qg utf8Ren:=⟨Xz.t5,Xz.t119,Xz.t138,Xz.t139⟩
theorem glb_of_laid {W:World}(hL:laidMetH qg listed W):Glb W fun b=>b<W.heap.size:=by
 have h':laidMet qg listed W:=hL;have r1:=Lib.laidMet.reads h' (.tail _ (.head _));have r2:=Lib.laidMet.reads h' (.head _);rw[firstD] at r1;rw[acceptD] at r2;have ht:Lib.Utf8Tabs (utf8Ren.g 3) (utf8Ren.g 4) W:=utf8Tabs_of_readsT u8types ⟨by kernel_rfl,by kernel_rfl,by kernel_rfl,by kernel_rfl,by kernel_rfl,by kernel_rfl,by kernel_rfl⟩ r1 r2;obtain⟨t1,t2⟩:=ht
 have lt:∀ {g o:Nat} {v:Value},W.cell? ⟨g,o,none⟩=some v→g<W.heap.size:=by
  intro g o v h
  refine Nat.lt_of_not_le fun hle=>?_
  unfold World.cell? at h;rw[Array.getElem?_eq_none hle] at h;cases h
 refine⟨fun g vs hm=>?_,fun g vs hm i v hv=>?_⟩
 · rcases ul.1 hm with e|hm
   · cases e; exact lt (t1 0 (by decide))
   rcases ul.1 hm with e|hm
   · cases e; exact lt (t2 0 (by decide)).1
   cases hm
 rcases ul.1 hm with e|hm
 · cases e
   have hi:i<256:=by
    have:=(qD.1 hv).1; simpa using this
   rw[uT,List.getElem?_range hi] at hv;cases hv;exact t1 i hi
 rcases ul.1 hm with e|hm
 · cases e
   have hi:i<32:=by
    have:=(qD.1 hv).1; simpa using this
   rw[uT,List.getElem?_range hi] at hv;cases hv;have h1:=t2 (i / 2) (by omega)
   have:i % 2=0∨i % 2=1:=by omega
   rcases this with h|h
   · have e:2*(i / 2)=i:=by omega
     rw[e] at h1
     simp only[h,if_true]; exact h1.1
   have e:2*(i / 2)+1=i:=by omega
   rw[e] at h1
   simp only[h]; exact h1.2
 cases hm
end
section
namespace AM
open Go.RowKit Go.ChangeShapes Go.WideShapes Go.Deep
section
variable {H:Type} {enc:TypeId×Value→H} {P:Program} {w:World} {base:Nat} {spare:Nat→Bool} {held:Bool}
def OpensS (enc:TypeId×Value→H)(P:Program)(w:World)(base:Nat)(spare:Nat→Bool)(held:Bool)(N:Nat)(t:TypeId)(A:List AV→Prop):Prop:=
 ∀ n cs y,DataW.trod enc P w base spare held n t cs=some y→SizeOf.sizeOf y.1<N→(∀ x∈y.1.weights P t,x≤reachBytes)→∃ avs,avs.length=cs.length∧A avs∧∀ i,i<avs.length→VR (Env.start w) (gc avs i) (cs.getD i undef)
variable {N:Nat}
theorem OpensS.mono {t:TypeId}{A B:List AV→Prop}(h:OpensS enc P w base spare held N t A)(k:∀ l,A l→B l):OpensS enc P w base spare held N t B:=fun n cs y hy hN hs=>by
 obtain⟨avs,h1,h2,h3⟩:=h n cs y hy hN hs;exact⟨avs,h1,k _ h2,h3⟩
theorem Opens.sized {t:TypeId}{A:List AV→Prop}(h:Opens enc P w base spare held t A):OpensS enc P w base spare held N t A:=fun n cs y hy _ _=>h n cs y hy
theorem OpensS.agg {t:TypeId}{A:List AV→Prop}(h:∀ N,OpensS enc P w base spare held N t A){vs:Array Value}{d:DataW H}{p:List MemPlace}(hv:DataW.Trod enc P w base spare held t (.agg vs) d p)(hw:∀ x∈d.weights P t,x≤reachBytes):∃ l,A l∧VR (Env.start w) (.agg l) (.agg vs):=by
 obtain⟨n,hn⟩:=hv;obtain⟨avs,e1,e2,e3⟩:=h _ _ _ _ hn (qw _) hw;refine⟨avs,e2,.agg _ _ (by simpa [Value.cells] using e1.symm) fun i hi=>?_⟩;have:=e3 i hi
 simpa [Value.cells,qy,uk] using this
end
end AM
open AM
section
variable {H:Type} {enc:TypeId×Value→H} {w:World} {base:Nat} {spare:Nat→Bool} {held:Bool} {N:Nat}
end
end
end Go.Proofs.YtaahlckibpiphaaGreatDoor
