/- Parts of the proof, cut down to what it needs. -/
import Derived.Test.YtaahlckibpiphaaGreatDoorDFB
set_option linter.constructorNameAsVariable false
set_option linter.unusedSimpArgs false
set_option linter.unusedVariables false
namespace Go.Proofs.YtaahlckibpiphaaGreatDoor
open _root_.List renaming length → qg, flatMap → qh, drop_zero → qn, map_append → qo, map_cons → qp, map_nil → qs, length_append → qw, length_cons → qx, length_nil → qz, flatMap_append → qA, flatMap_cons → qB, getD_eq_getElem?_getD → qC, append_assoc → qD, append_nil → qF, cons_append → qH, nil_append → qJ, length_eq_zero_iff → qK, flatMap_nil → qL, replicate → qO, getElem?_append_left → qQ, getElem?_eq_some_iff → qR, range_zero → qS, all_cons → qT, getElem?_eq_getElem → qU, all_nil → qV, range_succ → qY, getElem?_set_ne → qZ, getElem?_append_right → q7, getElem?_eq_none → ua, length_map → ub, take_length → uc, all_eq_true → ud, mem_cons_of_mem → ue, take_of_length_le → ug, getElem?_set_self → uh, take_append_drop → ui, mem_cons → uk, mem_map → um, getElem?_cons_zero → uu, getElem?_cons_succ → uv, range → uw, set_cons_zero → ux, set_cons_succ → uy, length_take → uE, mem_of_getElem? → uL, mem_append_left → uM, eq_nil_of_length_eq_zero → uN, mem_cons_self → uO
open _root_.Option renaming bind_some → un, map_some → uq, getD_some → uB
open _root_.Nat renaming reduceEqDiff → qa, reduceLeDiff → qb, reduceAdd → qc, reduceSub → qd, reduceMul → qe, reduceLT → qf, zero_add → ql, le_refl → qy, lt_succ_self → qE, zero_le → qX, mul_le_mul_right → q2, reduceMod → q3, lt_of_lt_of_le → q5, add_assoc → ur, zero_mul → ut, sub_zero → uC, succ_mul → uH, sub_self → uI, le_trans → uJ, add_zero → uK, lt_or_ge → uQ
open _root_.Bool renaming not_false → qk, and_true → qm, or_true → qq, not_true → qr, and_false → qt, or_false → qv, and_self → qG, and_eq_true → qM, false_eq_true → qW, or_eq_true → uj, true_and → uF, false_or → uG
open _root_.Int renaming toNat → qP, toNat_natCast → uA
open _root_.BitVec renaming ofInt → qN, toNat → uf
open _root_.Array renaming length_toList → q1, getD_eq_getD_getElem? → ul, getElem?_eq_getElem → uz, getElem?_setIfInBounds_ne → uD, replicate → uP, getElem?_modify → uR
open _root_.UInt8 renaming ofNat → uo
open Result renaming andThen_ok → qj
open Sem renaming run_bind → qu, run_pure → qI
open _root_.Go.Proofs.Tryz renaming prog → qi
section
set_option maxRecDepth 4000
set_option maxHeartbeats 1000000
open AM
theorem xG.ev (a0:GSchema)(a1:List UInt8)(r:GEnumeration×Bool)(h:xG a0 a1=r)(σ:Store):ACalls qi 213 [.agg (encGSchema a0),.str a1] σ (fun r' σ'=>r'=.tup [.agg (encGEnumeration r.1),.bool r.2]∧σ'=σ):=
 (xG.ok a0 a1 r h).c σ
def wG (a0:GSchema)(a1:GField):Bool:=
 (if a1.fType.fKind=6 then bnd (xG a0 a1.fType.fName) fun r6=>(((decide (1≤a1.fLabel))&&(decide (a1.fLabel≤3)))&&r6.2) else (if a1.fType.fKind=7 then bnd (zH a0 a1.fType.fName) fun r10=>(((decide (1≤a1.fLabel))&&(decide (a1.fLabel≤3)))&&r10.2) else (((((decide (1≤a1.fLabel))&&(decide (a1.fLabel≤3)))&&(decide (1≤a1.fType.fKind)))&&(decide (a1.fType.fName=[])))&&(decide (a1.fType.fKind<6)))))
theorem wG.ok (a0:GSchema)(a1:GField)(r:Bool)(h:wG a0 a1=r):ACalls qi 172 [.agg (encGSchema a0),.agg (encGField a1)] [] (fun r' _=>r'=.bool r):=by
 refine zj (rs:=[.tmp 4]) tok Tryz.func172 rfl Tryz.ntmps172 rfl Tryz.call172 (by simp) ?_;refine zm [(0,.agg (encGSchema a0)),(1,.agg (encGField a1))] ⟨rfl,rfl,trivial⟩ ?_;unfold wG at h
 refine rg tok [2,3] fun K hK=>?_
 simp only[go_sem,qf,qb,qa,qc,qe,qd,reduceIte,reduceCtorEq,encGField,encGSchema,encGType];apply hK
 refine rc [2,3,5] fun K hK=>?_
 refine za tok 4 ?_;simp only[go_sem,qf,qb,qa,qc,qe,qd,reduceIte,reduceCtorEq,zn];refine zl 4 (fun L τ=>L=[(2,.op 0 0 0),(3,.op 1 0 0),(17,.bool ((decide (1≤a1.fLabel))&&(decide (a1.fLabel≤3))))]∧τ=[.cells 0 (encGSchema a0),.cells 0 (encGField a1)]) ?_ ?_
 · refine yQ 13 rfl (fun hg13=>?_) (fun hg13=>?_)
   · have t1:=eq_true hg13;refine za tok 4 ?_;simp only[go_sem,qf,qb,qa,qc,qe,qd,reduceIte,reduceCtorEq,zn];refine ze ⟨rfl,_,_,⟨rfl,rfl⟩,.p t1⟩
   have t2:=eq_false hg13;refine za tok 4 ?_;simp only[go_sem,qf,qb,qa,qc,qe,qd,reduceIte,reduceCtorEq,zn];refine ze ⟨rfl,_,_,⟨rfl,rfl⟩,.p t2⟩
 rintro _ _ ⟨rfl,rfl⟩;refine rnN 1 ?_;refine nkN hK ?_
 refine zd fun Z3 hZ3=>?_
 refine rgN [2,3,5,20] ?_;apply zg
 refine rg tok [2,3,5,20,21] fun K hK=>?_
 simp only[go_sem,qf,qb,qa,qc,qe,qd,reduceIte,reduceCtorEq,zn];apply hK
 refine zM rfl (fun hc4=>?_) (fun hc4=>?_)
 · rw[if_pos hc4] at h;have t5:=eq_true hc4
   refine rc [5,7] fun K hK=>?_
   obtain⟨r6,hr6,h⟩:=zB h;refine za tok 4 ?_;simp only[go_sem,qf,qb,qa,qc,qe,qd,reduceIte,reduceCtorEq,encGSchema,t5];refine clN rfl rfl rfl (xG.ev a0 a1.fType.fName r6 hr6 _) ?_;refine za tok 6 ?_;simp only[go_sem,qf,qb,qa,qc,qe,qd,reduceIte,reduceCtorEq,encGEnumeration,encGSchema,t5];refine nkN hK ?_
   refine rc [4] fun K hK=>?_
   refine za tok 2 ?_;simp only[go_sem,qf,qb,qa,qc,qe,qd,reduceIte,reduceCtorEq,t5];refine zl 2 (fun L τ=>L=[(34,.bool (((decide (1≤a1.fLabel))&&(decide (a1.fLabel≤3)))&&r6.2))]∧τ=[.cells 0 (encGSchema a0),.cells 0 (encGField a1),.cells 0 (encGEnumeration r6.1)]) ?_ ?_
   · refine zR (b:=((decide (1≤a1.fLabel))&&(decide (a1.fLabel≤3)))) 32 rfl (fun hg32=>?_) (fun hg32=>?_)
     · refine za tok 2 ?_;simp only[go_sem,qf,qb,qa,qc,qe,qd,reduceIte,reduceCtorEq,t5];refine ze ⟨rfl,_,_,⟨rfl,rfl⟩,.b hg32⟩
     refine za tok 2 ?_;simp only[go_sem,qf,qb,qa,qc,qe,qd,reduceIte,reduceCtorEq,t5];refine ze ⟨rfl,_,_,⟨rfl,rfl⟩,.b hg32⟩
   rintro _ _ ⟨rfl,rfl⟩;refine za tok 1 ?_;simp only[go_sem,qf,qb,qa,qc,qe,qd,reduceIte,reduceCtorEq,t5];refine nkN hK ?_;cases h;exact rtA
 rw[if_neg hc4] at h;have t7:=eq_false hc4
 refine rg tok [2,3,5,35] fun K hK=>?_
 simp only[go_sem,qf,qb,qa,qc,qe,qd,reduceIte,reduceCtorEq,zn,t7];apply hK
 refine zM rfl (fun hc8=>?_) (fun hc8=>?_)
 · rw[if_pos hc8] at h;have t9:=eq_true hc8
   refine rc [5,9] fun K hK=>?_
   obtain⟨r10,hr10,h⟩:=zB h;refine za tok 4 ?_;simp only[go_sem,qf,qb,qa,qc,qe,qd,reduceIte,reduceCtorEq,encGSchema,t7,t9];refine clN rfl rfl rfl (zH.ev a0 a1.fType.fName r10 hr10 _) ?_;refine za tok 6 ?_;simp only[go_sem,qf,qb,qa,qc,qe,qd,reduceIte,reduceCtorEq,encGMessage,encGSchema,t7,t9];refine nkN hK ?_
   refine rc [4] fun K hK=>?_
   refine za tok 2 ?_;simp only[go_sem,qf,qb,qa,qc,qe,qd,reduceIte,reduceCtorEq,t7,t9];refine zl 2 (fun L τ=>L=[(48,.bool (((decide (1≤a1.fLabel))&&(decide (a1.fLabel≤3)))&&r10.2))]∧τ=[.cells 0 (encGSchema a0),.cells 0 (encGField a1),.cells 0 (encGMessage r10.1)]) ?_ ?_
   · refine zR (b:=((decide (1≤a1.fLabel))&&(decide (a1.fLabel≤3)))) 46 rfl (fun hg46=>?_) (fun hg46=>?_)
     · refine za tok 2 ?_;simp only[go_sem,qf,qb,qa,qc,qe,qd,reduceIte,reduceCtorEq,t7,t9];refine ze ⟨rfl,_,_,⟨rfl,rfl⟩,.b hg46⟩
     refine za tok 2 ?_;simp only[go_sem,qf,qb,qa,qc,qe,qd,reduceIte,reduceCtorEq,t7,t9];refine ze ⟨rfl,_,_,⟨rfl,rfl⟩,.b hg46⟩
   rintro _ _ ⟨rfl,rfl⟩;refine za tok 1 ?_;simp only[go_sem,qf,qb,qa,qc,qe,qd,reduceIte,reduceCtorEq,t7,t9];refine nkN hK ?_;cases h;exact rtA
 rw[if_neg hc8] at h;have t11:=eq_false hc8;apply zf;apply hZ3
 refine rc [4] fun K hK=>?_
 refine za tok 2 ?_;simp only[go_sem,qf,qb,qa,qc,qe,qd,reduceIte,reduceCtorEq,t7,t11];refine zl 5 (fun L τ=>L=[(3,.op 1 0 0),(55,.bool (((decide (1≤a1.fLabel))&&(decide (a1.fLabel≤3)))&&(decide (1≤a1.fType.fKind))))]∧τ=[.cells 0 (encGSchema a0),.cells 0 (encGField a1)]) ?_ ?_
 · refine zR (b:=((decide (1≤a1.fLabel))&&(decide (a1.fLabel≤3)))) 50 rfl (fun hg50=>?_) (fun hg50=>?_)
   · refine za tok 5 ?_;simp only[go_sem,qf,qb,qa,qc,qe,qd,reduceIte,reduceCtorEq,zn,t7,t11];refine ze ⟨rfl,_,_,⟨rfl,rfl⟩,.b hg50⟩
   refine za tok 5 ?_;simp only[go_sem,qf,qb,qa,qc,qe,qd,reduceIte,reduceCtorEq,zn,t7,t11];refine ze ⟨rfl,_,_,⟨rfl,rfl⟩,.b hg50⟩
 rintro _ _ ⟨rfl,rfl⟩;refine za tok 1 ?_;simp only[go_sem,qf,qb,qa,qc,qe,qd,reduceIte,reduceCtorEq,t7,t11];refine zl 8 (fun L τ=>L=[(3,.op 1 0 0),(64,.bool ((((decide (1≤a1.fLabel))&&(decide (a1.fLabel≤3)))&&(decide (1≤a1.fType.fKind)))&&(decide (a1.fType.fName=[]))))]∧τ=[.cells 0 (encGSchema a0),.cells 0 (encGField a1)]) ?_ ?_
 · refine zR (b:=(((decide (1≤a1.fLabel))&&(decide (a1.fLabel≤3)))&&(decide (1≤a1.fType.fKind)))) 56 rfl (fun hg56=>?_) (fun hg56=>?_)
   · refine za tok 8 ?_;simp only[go_sem,qf,qb,qa,qc,qe,qd,reduceIte,reduceCtorEq,zn,encGType,t7,t11,evEqA,ceqL,ceq];refine ze ⟨rfl,_,_,⟨rfl,rfl⟩,.b hg56⟩
   refine za tok 8 ?_;simp only[go_sem,qf,qb,qa,qc,qe,qd,reduceIte,reduceCtorEq,zn,encGType,t7,t11];refine ze ⟨rfl,_,_,⟨rfl,rfl⟩,.b hg56⟩
 rintro _ _ ⟨rfl,rfl⟩;refine za tok 1 ?_;simp only[go_sem,qf,qb,qa,qc,qe,qd,reduceIte,reduceCtorEq,encGType,t7,t11];refine zl 5 (fun L τ=>L=[(70,.bool (((((decide (1≤a1.fLabel))&&(decide (a1.fLabel≤3)))&&(decide (1≤a1.fType.fKind)))&&(decide (a1.fType.fName=[])))&&(decide (a1.fType.fKind<6))))]∧τ=[.cells 0 (encGSchema a0),.cells 0 (encGField a1)]) ?_ ?_
 · refine zR (b:=((((decide (1≤a1.fLabel))&&(decide (a1.fLabel≤3)))&&(decide (1≤a1.fType.fKind)))&&(decide (a1.fType.fName=[])))) 65 rfl (fun hg65=>?_) (fun hg65=>?_)
   · refine za tok 5 ?_;simp only[go_sem,qf,qb,qa,qc,qe,qd,reduceIte,reduceCtorEq,zn,encGType,t7,t11];refine ze ⟨rfl,_,_,⟨rfl,rfl⟩,.b hg65⟩
   refine za tok 5 ?_;simp only[go_sem,qf,qb,qa,qc,qe,qd,reduceIte,reduceCtorEq,zn,encGType,t7,t11];refine ze ⟨rfl,_,_,⟨rfl,rfl⟩,.b hg65⟩
 rintro _ _ ⟨rfl,rfl⟩;refine za tok 1 ?_;simp only[go_sem,qf,qb,qa,qc,qe,qd,reduceIte,reduceCtorEq,encGType,t7,t11];refine nkN hK ?_;cases h;exact rtA
theorem wG.ev (a0:GSchema)(a1:GField)(r:Bool)(h:wG a0 a1=r)(σ:Store):ACalls qi 172 [.agg (encGSchema a0),.agg (encGField a1)] σ (fun r' σ'=>r'=.bool r∧σ'=σ):=
 (wG.ok a0 a1 r h).c σ
def yF.l21 (a0:GSchema)(r2:Bool×List (List UInt8×Bool)):List GField→Int→List (Int×Bool)→List (List UInt8×Bool)→Option (Int×List (List UInt8×Bool))
 |[],x17,l15,l16=>some (0,r2.2)
 |y21::q21,x17,l15,l16=>(yy l16 y21.fName).bind fun r28=>(if (!r28.1)=true then some (6,r2.2) else bnd (wS y21.fTag) fun r30=>(if ((!r30)||((vat l15 y21.fTag).getD false))=true then some (7,r2.2) else bnd (wG a0 y21) fun r33=>(if (!r33)=true then some (8,r2.2) else ((yF.l21 a0 r2 q21) (x17+1) (setM l15 y21.fTag true) r28.2))))
def yF.l12 (a0:GSchema)(a2:GMessage)(r2:Bool×List (List UInt8×Bool)):List Int→Int→List (Int×Bool)→Option (Int×List (List UInt8×Bool))
 |[],x9,l8=>(yF.l21 a0 r2 a2.fFields 0 l8 [])
 |y12::q12,x9,l8=>bnd (wS y12) fun r41=>(if ((!r41)||((vat l8 y12).getD false))=true then some (7,r2.2) else ((yF.l12 a0 a2 r2 q12) (x9+1) (setM l8 y12 true)))
def yF (a0:GSchema)(a1:List (List UInt8×Bool))(a2:GMessage):Option (Int×List (List UInt8×Bool)):=
 (yy a1 a2.fName).bind fun r2=>(if (!r2.1)=true then some (6,r2.2) else (if ((decide (16<(qg a2.fFields:Int)))||(decide (32<(qg a2.fReserved:Int))))=true then some (4,r2.2) else (yF.l12 a0 a2 r2 a2.fReserved 0 [])))
theorem yF.ok (a0:GSchema)(a1:List (List UInt8×Bool))(a2:GMessage)(r:Int×List (List UInt8×Bool))(h:yF a0 a1 a2=some r):ACalls qi 126 [.agg (encGSchema a0),.mp 0,.agg (encGMessage a2)] [.map (xw AV.str AV.bool a1)] (fun r' σ'=>r'=.int .i64 r.1∧σ'=[.map (xw AV.str AV.bool r.2)]):=by
 refine xE [0] (rs:=[.tmp 6]) tok Tryz.func126 rfl Tryz.ntmps126 rfl Tryz.call126 (by simp) rfl ?_;refine zm [(0,.agg (encGSchema a0)),(1,.mp 0),(2,.agg (encGMessage a2))] ⟨rfl,rfl,rfl,trivial⟩ ?_;unfold yF at h
 refine rg tok [1,3,5] fun K hK=>?_
 simp only[go_sem,qf,qb,qa,qc,qe,qd,reduceIte,reduceCtorEq,encGMessage,encGSchema];apply hK
 refine zd fun Z1 hZ1=>?_
 apply zg
 refine rc [3,5,13] fun K hK=>?_
 obtain⟨r2,hr2,h⟩:=bind_some h;refine rnN 3 ?_;refine clN rfl rfl rfl (@id (ACalls qi 128 [.mp 0,.str a2.fName] [.map (xw AV.str AV.bool a1),.cells 0 (encGSchema a0),.cells 0 (encGMessage a2)] (fun r' σ'=>r'=.bool r2.1∧σ'=[.map (xw AV.str AV.bool r2.2),.cells 0 (encGSchema a0),.cells 0 (encGMessage a2)])) ((yy.ok a1 a2.fName r2 hr2).i [0])) ?_;refine rnN 2 ?_;refine nkN hK ?_;refine zs (b:=(!r2.1)) rfl (fun hc3=>?_) (fun hc3=>?_)
 · rw[if_pos hc3] at h;refine rgN [6] ?_;apply zJ;cases h;simp only[wb,ya,yf,yS,exists_eq_left',go_sem,qf,qb,qa,qc,qe,qd,reduceIte,reduceCtorEq];refine⟨by decide,by simp,?_,?_⟩
   · first|rfl|(simp only[go_sem,qf,qb,qa,qc,qe,qd,reduceIte,reduceCtorEq,push_cast,if_true,qn,ql,qp,qs,qo,qq,qv,qm,qt,qr,qk,zh]<;>rfl)
   first|rfl|(simp only[go_sem,qf,qb,qa,qc,qe,qd,reduceIte,reduceCtorEq,push_cast,if_true,qn,ql,qp,qs,qo,qq,qv,qm,qt,qr,qk,zh]<;>rfl)
 rw[xI hc3] at h
 refine rc [3,5,19] fun K hK=>?_
 refine za tok 5 ?_;simp only[go_sem,qf,qb,qa,qc,qe,qd,reduceIte,reduceCtorEq,zn];refine zl 5 (fun L τ=>L=[(3,.op 1 0 0),(5,.op 2 0 0),(29,.bool ((decide (16<(qg a2.fFields:Int)))||(decide (32<(qg a2.fReserved:Int)))))]∧τ=[.map (xw AV.str AV.bool r2.2),.cells 0 (encGSchema a0),.cells 0 (encGMessage a2)]) ?_ ?_
 · refine yQ 24 rfl (fun hg24=>?_) (fun hg24=>?_)
   · have t4:=eq_true hg24;refine za tok 5 ?_;simp only[go_sem,qf,qb,qa,qc,qe,qd,reduceIte,reduceCtorEq,zn];refine ze ⟨rfl,_,_,⟨rfl,rfl⟩,.p t4⟩
   have t5:=eq_false hg24;refine za tok 5 ?_;simp only[go_sem,qf,qb,qa,qc,qe,qd,reduceIte,reduceCtorEq,zn];refine ze ⟨rfl,_,_,⟨rfl,rfl⟩,.p t5⟩
 rintro _ _ ⟨rfl,rfl⟩;refine rnN 1 ?_;refine nkN hK ?_;refine zs (b:=((decide (16<(qg a2.fFields:Int)))||(decide (32<(qg a2.fReserved:Int))))) rfl (fun hc6=>?_) (fun hc6=>?_)
 · rw[if_pos hc6] at h;refine rgN [6] ?_;apply zJ;cases h;simp only[wb,ya,yf,yS,exists_eq_left',go_sem,qf,qb,qa,qc,qe,qd,reduceIte,reduceCtorEq];refine⟨by decide,by simp,?_,?_⟩
   · first|rfl|(simp only[go_sem,qf,qb,qa,qc,qe,qd,reduceIte,reduceCtorEq,push_cast,if_true,qn,ql,qp,qs,qo,qq,qv,qm,qt,qr,qk,zh]<;>rfl)
   first|rfl|(simp only[go_sem,qf,qb,qa,qc,qe,qd,reduceIte,reduceCtorEq,push_cast,if_true,qn,ql,qp,qs,qo,qq,qv,qm,qt,qr,qk,zh]<;>rfl)
 rw[xI hc6] at h;apply zf;apply hZ1;refine rgN [3,5,7] ?_;refine yB (L:=[(3,.op 1 0 0),(5,.op 2 0 0),(7,.mp 3)]) (τ:=[.map (xw AV.str AV.bool r2.2),.cells 0 (encGSchema a0),.cells 0 (encGMessage a2),.map (xw (AV.int .i64) AV.bool [])]) .s ?_
 refine zd fun Z7 hZ7=>?_
 refine rgN [3,5,7,32,33,34] ?_;apply zg
 refine yq 32 fun hb12=>?_
 replace hb12:qg a2.fReserved≤9223372036854775807:=hb12.1;refine zP (fun m L τ=>∃ (p12 q12:List Int) (x9:Int) (l8:List (Int×Bool)),m=qg q12∧L=[(3,.op 1 0 0),(5,.op 2 0 0),(7,.mp 3),(32,.ds true (qh encI a2.fReserved) (qg a2.fReserved) false),(33,.int .i64 (qg a2.fReserved:Int)),(34,.int .i64 x9)]∧τ=[.map (xw AV.str AV.bool r2.2),.cells 0 (encGSchema a0),.cells 0 (encGMessage a2),.map (xw (AV.int .i64) AV.bool l8)]∧a2.fReserved=p12++q12∧x9=(qg p12:Int)∧yF.l12 a0 a2 r2 q12 x9 l8=some r) _ ⟨[],a2.fReserved,0,[],rfl,rfl,rfl,rfl,rfl,h⟩ .s ?_;rintro m L τ ⟨p12,q12,x9,l8,rfl,rfl,rfl,hE12,hi12,h⟩
 rcases q12 with _|⟨y12,q12⟩
 · have hz12:=yN hE12 hi12;simp only[yF.l12] at h
   refine rg tok [3,5,7,32,33,34,35] fun K hK=>?_
   simp only[go_sem,qf,qb,qa,qc,qe,qd,reduceIte,reduceCtorEq,zn,hz12];apply hK
   refine zd fun Z13 hZ13=>?_
   refine zo rfl ?_;apply zI;apply hZ7
   refine rg tok [3,5,7,10] fun K hK=>?_
   simp only[go_sem,qf,qb,qa,qc,qe,qd,reduceIte,reduceCtorEq,hz12];apply hK
   refine yB (L:=[(3,.op 1 0 0),(5,.op 2 0 0),(7,.mp 3),(10,.mp 4)]) (τ:=[.map (xw AV.str AV.bool r2.2),.cells 0 (encGSchema a0),.cells 0 (encGMessage a2),.map (xw (AV.int .i64) AV.bool l8),.map (xw AV.str AV.bool [])]) .s ?_
   refine zd fun Z14 hZ14=>?_
   refine rg tok [3,7,10,51,52,53] fun K hK=>?_
   simp only[go_sem,qf,qb,qa,qc,qe,qd,reduceIte,reduceCtorEq,hz12];apply hK
   apply zg
   refine yq 51 fun hb21=>?_
   replace hb21:qg a2.fFields≤9223372036854775807:=hb21.1;refine zP (fun m L τ=>∃ (p21 q21:List GField) (x17:Int) (l15:List (Int×Bool)) (l16:List (List UInt8×Bool)),m=qg q21∧L=[(3,.op 1 0 0),(7,.mp 2),(10,.mp 3),(51,.ds true (qh encGField a2.fFields) (qg a2.fFields) false),(52,.int .i64 (qg a2.fFields:Int)),(53,.int .i64 x17)]∧τ=[.map (xw AV.str AV.bool r2.2),.cells 0 (encGSchema a0),.map (xw (AV.int .i64) AV.bool l15),.map (xw AV.str AV.bool l16)]∧a2.fFields=p21++q21∧x17=(qg p21:Int)∧yF.l21 a0 r2 q21 x17 l15 l16=some r) _ ⟨[],a2.fFields,0,l8,[],rfl,rfl,rfl,rfl,rfl,h⟩ (.t [0,1,3,4] false) ?_;rintro m L τ ⟨p21,q21,x17,l15,l16,rfl,rfl,rfl,hE21,hi21,h⟩
   rcases q21 with _|⟨y21,q21⟩
   · have hz21:=yN hE21 hi21;simp only[yF.l21] at h
     refine rg tok [3,7,10,51,52,53,54] fun K hK=>?_
     simp only[go_sem,qf,qb,qa,qc,qe,qd,reduceIte,reduceCtorEq,zn,hz12,hz21];apply hK
     refine zd fun Z22 hZ22=>?_
     refine zo rfl ?_;apply zI;apply hZ14
     refine rg tok [6] fun K hK=>?_
     simp only[go_sem,qf,qb,qa,qc,qe,qd,reduceIte,reduceCtorEq,hz12,hz21];apply hK
     apply zJ;cases h;simp only[wb,ya,yf,yS,exists_eq_left',go_sem,qf,qb,qa,qc,qe,qd,reduceIte,reduceCtorEq];refine⟨by decide,by simp,?_,?_⟩
     · first|rfl|(simp only[go_sem,qf,qb,qa,qc,qe,qd,reduceIte,reduceCtorEq,push_cast,if_true,qn,ql,qp,qs,qo,qq,qv,qm,qt,qr,qk,zh]<;>rfl)
     first|rfl|(simp only[go_sem,qf,qb,qa,qc,qe,qd,reduceIte,reduceCtorEq,push_cast,if_true,qn,ql,qp,qs,qo,qq,qv,qm,qt,qr,qk,zh]<;>rfl)
   obtain⟨hz21,hw21,hx21,hE'21,hi'21⟩:=yo hE21 hi21 hb21;simp only[yF.l21] at h
   refine rg tok [3,7,10,51,52,53,54] fun K hK=>?_
   simp only[go_sem,qf,qb,qa,qc,qe,qd,reduceIte,reduceCtorEq,zn,hz12,hz21,hw21];apply hK
   refine zd fun Z23 hZ23=>?_
   refine zu rfl ?_;apply zf;apply hZ23
   refine zd fun Z24 hZ24=>?_
   apply zg;have f25:=E127.idxS hx21;have f26:=E127.loadS rfl rfl hx21
   refine rg tok [3,7,10,12,51,52,53] fun K hK=>?_
   simp only[go_sem,qf,qb,qa,qc,qe,qd,reduceIte,reduceCtorEq,encGField,encGType,hz12,hz21,hw21,f25,f26];apply hK
   refine zd fun Z27 hZ27=>?_
   apply zg
   refine rc [3,7,10,12,51,52,53,57] fun K hK=>?_
   obtain⟨r28,hr28,h⟩:=bind_some h;refine za tok 3 ?_;simp only[go_sem,qf,qb,qa,qc,qe,qd,reduceIte,reduceCtorEq,hz12,hz21,hw21];refine clN rfl rfl rfl (@id (ACalls qi 128 [.mp 3,.str y21.fName] [.map (xw AV.str AV.bool r2.2),.cells 0 (encGSchema a0),.map (xw (AV.int .i64) AV.bool l15),.map (xw AV.str AV.bool l16),.cells 0 (encGField y21)] (fun r' σ'=>r'=.bool r28.1∧σ'=[.map (xw AV.str AV.bool r2.2),.cells 0 (encGSchema a0),.map (xw (AV.int .i64) AV.bool l15),.map (xw AV.str AV.bool r28.2),.cells 0 (encGField y21)])) ((yy.ok l16 y21.fName r28 hr28).i [3])) ?_;refine za tok 2 ?_;simp only[go_sem,qf,qb,qa,qc,qe,qd,reduceIte,reduceCtorEq,hz12,hz21,hw21];refine nkN hK ?_;refine zs (b:=(!r28.1)) rfl (fun hc29=>?_) (fun hc29=>?_)
   · rw[if_pos hc29] at h
     refine rg tok [6] fun K hK=>?_
     simp only[go_sem,qf,qb,qa,qc,qe,qd,reduceIte,reduceCtorEq,hz12,hz21,hw21];apply hK
     apply zJ;cases h;simp only[wb,ya,yf,yS,exists_eq_left',go_sem,qf,qb,qa,qc,qe,qd,reduceIte,reduceCtorEq];refine⟨by decide,by simp,?_,?_⟩
     · first|rfl|(simp only[go_sem,qf,qb,qa,qc,qe,qd,reduceIte,reduceCtorEq,push_cast,if_true,qn,ql,qp,qs,qo,qq,qv,qm,qt,qr,qk,zh]<;>rfl)
     first|rfl|(simp only[go_sem,qf,qb,qa,qc,qe,qd,reduceIte,reduceCtorEq,push_cast,if_true,qn,ql,qp,qs,qo,qq,qv,qm,qt,qr,qk,zh]<;>rfl)
   rw[xI hc29] at h
   refine rc [3,7,10,12,51,52,53,63] fun K hK=>?_
   obtain⟨r30,hr30,h⟩:=zB h;refine za tok 2 ?_;simp only[go_sem,qf,qb,qa,qc,qe,qd,reduceIte,reduceCtorEq,hz12,hz21,hw21];refine clN rfl rfl rfl (wS.ev y21.fTag r30 hr30 _) ?_;refine za tok 2 ?_;simp only[go_sem,qf,qb,qa,qc,qe,qd,reduceIte,reduceCtorEq,hz12,hz21,hw21];refine zl 5 (fun L τ=>L=[(3,.op 1 0 0),(7,.mp 2),(10,.mp 3),(12,.op 4 0 0),(51,.ds true (qh encGField a2.fFields) (qg a2.fFields) false),(52,.int .i64 (qg a2.fFields:Int)),(53,.int .i64 x17),(73,.bool ((!r30)||((vat l15 y21.fTag).getD false)))]∧τ=[.map (xw AV.str AV.bool r2.2),.cells 0 (encGSchema a0),.map (xw (AV.int .i64) AV.bool l15),.map (xw AV.str AV.bool r28.2),.cells 0 (encGField y21)]) ?_ ?_
   · refine zR (b:=(!r30)) 68 rfl (fun hg68=>?_) (fun hg68=>?_)
     · refine za tok 5 ?_;simp only[go_sem,qf,qb,qa,qc,qe,qd,reduceIte,reduceCtorEq,ZI,qW,if_false,if_true,hz12,hz21,hw21];refine ze ⟨rfl,_,_,⟨rfl,rfl⟩,.b hg68⟩
     have f31:=fun (o0:AObj) (o1:AObj) (x:Store)=>Xr (T:=tab) (t:=265) (ek:=(AV.int .i64)) (ev:=AV.bool) (z:=false) (KeyE.int rfl rfl rfl rfl) rfl rfl rfl rfl l15 y21.fTag false (o0::o1::.map (xw (AV.int .i64) AV.bool l15)::x) 2 rfl
     refine za tok 5 ?_;simp only[go_sem,qf,qb,qa,qc,qe,qd,reduceIte,reduceCtorEq,ZI,qW,if_false,if_true,hz12,hz21,hw21,f31];refine ze ⟨rfl,_,_,⟨rfl,rfl⟩,.b hg68⟩
   rintro _ _ ⟨rfl,rfl⟩;refine za tok 1 ?_;simp only[go_sem,qf,qb,qa,qc,qe,qd,reduceIte,reduceCtorEq,hz12,hz21,hw21];refine nkN hK ?_;refine zs (b:=((!r30)||((vat l15 y21.fTag).getD false))) rfl (fun hc32=>?_) (fun hc32=>?_)
   · rw[if_pos hc32] at h
     refine rg tok [6] fun K hK=>?_
     simp only[go_sem,qf,qb,qa,qc,qe,qd,reduceIte,reduceCtorEq,hz12,hz21,hw21];apply hK
     apply zJ;cases h;simp only[wb,ya,yf,yS,exists_eq_left',go_sem,qf,qb,qa,qc,qe,qd,reduceIte,reduceCtorEq];refine⟨by decide,by simp,?_,?_⟩
     · first|rfl|(simp only[go_sem,qf,qb,qa,qc,qe,qd,reduceIte,reduceCtorEq,push_cast,if_true,qn,ql,qp,qs,qo,qq,qv,qm,qt,qr,qk,zh]<;>rfl)
     first|rfl|(simp only[go_sem,qf,qb,qa,qc,qe,qd,reduceIte,reduceCtorEq,push_cast,if_true,qn,ql,qp,qs,qo,qq,qv,qm,qt,qr,qk,zh]<;>rfl)
   rw[xI hc32] at h
   refine rc [3,7,10,12,51,52,53,74] fun K hK=>?_
   obtain⟨r33,hr33,h⟩:=zB h;refine za tok 2 ?_;simp only[go_sem,qf,qb,qa,qc,qe,qd,reduceIte,reduceCtorEq,encGField,encGSchema,encGType,hz12,hz21,hw21];refine clN rfl rfl rfl (wG.ev a0 y21 r33 hr33 _) ?_;refine za tok 2 ?_;simp only[go_sem,qf,qb,qa,qc,qe,qd,reduceIte,reduceCtorEq,encGField,encGSchema,encGType,hz12,hz21,hw21];refine nkN hK ?_;refine zs (b:=(!r33)) rfl (fun hc34=>?_) (fun hc34=>?_)
   · rw[if_pos hc34] at h
     refine rg tok [6] fun K hK=>?_
     simp only[go_sem,qf,qb,qa,qc,qe,qd,reduceIte,reduceCtorEq,hz12,hz21,hw21];apply hK
     apply zJ;cases h;simp only[wb,ya,yf,yS,exists_eq_left',go_sem,qf,qb,qa,qc,qe,qd,reduceIte,reduceCtorEq];refine⟨by decide,by simp,?_,?_⟩
     · first|rfl|(simp only[go_sem,qf,qb,qa,qc,qe,qd,reduceIte,reduceCtorEq,push_cast,if_true,qn,ql,qp,qs,qo,qq,qv,qm,qt,qr,qk,zh]<;>rfl)
     first|rfl|(simp only[go_sem,qf,qb,qa,qc,qe,qd,reduceIte,reduceCtorEq,push_cast,if_true,qn,ql,qp,qs,qo,qq,qv,qm,qt,qr,qk,zh]<;>rfl)
   rw[xI hc34] at h;apply zf;apply hZ27
   have f35:=fun (o0:AObj) (o1:AObj) (x:Store)=>Xf (T:=tab) (t:=265) (ek:=(AV.int .i64)) (ev:=AV.bool) (KeyE.int rfl rfl rfl rfl) rfl rfl l15 y21.fTag true (o0::o1::.map (xw (AV.int .i64) AV.bool l15)::x) 2 rfl
   refine rgE tok [3,7,10,51,52,53] fun K hK=>?_
   simp only[go_sem,qf,qb,qa,qc,qe,qd,reduceIte,reduceCtorEq,hz12,hz21,hw21,f35];apply hK
   apply hZ24
   refine rgE tok [3,7,10,51,52,53] fun K hK=>?_
   simp only[go_sem,qf,qb,qa,qc,qe,qd,reduceIte,reduceCtorEq,zn,hz12,hz21,hw21];apply hK
   exact⟨_,_,_,qE q21.length,⟨p21++[y21],q21,x17+1,setM l15 y21.fTag true,r28.2,rfl,rfl,rfl,hE'21,hi'21,h⟩,(.t [0,1,2,3] false)⟩
 obtain⟨hz12,hw12,hx12,hE'12,hi'12⟩:=yo hE12 hi12 hb12;simp only[yF.l12] at h
 refine rg tok [3,5,7,32,33,34,35] fun K hK=>?_
 simp only[go_sem,qf,qb,qa,qc,qe,qd,reduceIte,reduceCtorEq,zn,hz12,hw12];apply hK
 refine zd fun Z36 hZ36=>?_
 refine zu rfl ?_;apply zf;apply hZ36
 refine zd fun Z37 hZ37=>?_
 apply zg;have f38:=E26.idxS hx12;have f39:=E26.fldS0 (f:=3) rfl rfl hx12
 refine rg tok [3,5,7,9,32,33,34] fun K hK=>?_
 simp only[go_sem,qf,qb,qa,qc,qe,qd,reduceIte,reduceCtorEq,encI,hz12,hw12,f38,f39];apply hK
 refine zd fun Z40 hZ40=>?_
 refine rc [3,5,7,9,32,33,34,45] fun K hK=>?_
 obtain⟨r41,hr41,h⟩:=zB h;refine za tok 1 ?_;simp only[go_sem,qf,qb,qa,qc,qe,qd,reduceIte,reduceCtorEq,hz12,hw12];refine clN rfl rfl rfl (wS.ev y12 r41 hr41 _) ?_;refine za tok 2 ?_;simp only[go_sem,qf,qb,qa,qc,qe,qd,reduceIte,reduceCtorEq,hz12,hw12];refine zl 4 (fun L τ=>L=[(3,.op 1 0 0),(5,.op 2 0 0),(7,.mp 3),(9,.int .i64 y12),(32,.ds true (qh encI a2.fReserved) (qg a2.fReserved) false),(33,.int .i64 (qg a2.fReserved:Int)),(34,.int .i64 x9),(45,.bool ((!r41)||((vat l8 y12).getD false)))]∧τ=[.map (xw AV.str AV.bool r2.2),.cells 0 (encGSchema a0),.cells 0 (encGMessage a2),.map (xw (AV.int .i64) AV.bool l8)]) ?_ ?_
 · refine zR (b:=(!r41)) 41 rfl (fun hg41=>?_) (fun hg41=>?_)
   · refine za tok 4 ?_;simp only[go_sem,qf,qb,qa,qc,qe,qd,reduceIte,reduceCtorEq,ZI,qW,if_false,if_true,hz12,hw12];refine ze ⟨rfl,_,_,⟨rfl,rfl⟩,.b hg41⟩
   have f42:=fun (o0:AObj) (o1:AObj) (o2:AObj) (x:Store)=>Xr (T:=tab) (t:=265) (ek:=(AV.int .i64)) (ev:=AV.bool) (z:=false) (KeyE.int rfl rfl rfl rfl) rfl rfl rfl rfl l8 y12 false (o0::o1::o2::.map (xw (AV.int .i64) AV.bool l8)::x) 3 rfl
   refine za tok 4 ?_;simp only[go_sem,qf,qb,qa,qc,qe,qd,reduceIte,reduceCtorEq,ZI,qW,if_false,if_true,hz12,hw12,f42];refine ze ⟨rfl,_,_,⟨rfl,rfl⟩,.b hg41⟩
 rintro _ _ ⟨rfl,rfl⟩;refine nkN hK ?_;refine zs (b:=((!r41)||((vat l8 y12).getD false))) rfl (fun hc43=>?_) (fun hc43=>?_)
 · rw[if_pos hc43] at h
   refine rg tok [6] fun K hK=>?_
   simp only[go_sem,qf,qb,qa,qc,qe,qd,reduceIte,reduceCtorEq,hz12,hw12];apply hK
   apply zJ;cases h;simp only[wb,ya,yf,yS,exists_eq_left',go_sem,qf,qb,qa,qc,qe,qd,reduceIte,reduceCtorEq];refine⟨by decide,by simp,?_,?_⟩
   · first|rfl|(simp only[go_sem,qf,qb,qa,qc,qe,qd,reduceIte,reduceCtorEq,push_cast,if_true,qn,ql,qp,qs,qo,qq,qv,qm,qt,qr,qk,zh]<;>rfl)
   first|rfl|(simp only[go_sem,qf,qb,qa,qc,qe,qd,reduceIte,reduceCtorEq,push_cast,if_true,qn,ql,qp,qs,qo,qq,qv,qm,qt,qr,qk,zh]<;>rfl)
 rw[xI hc43] at h;apply zf;apply hZ40
 have f44:=fun (o0:AObj) (o1:AObj) (o2:AObj) (x:Store)=>Xf (T:=tab) (t:=265) (ek:=(AV.int .i64)) (ev:=AV.bool) (KeyE.int rfl rfl rfl rfl) rfl rfl l8 y12 true (o0::o1::o2::.map (xw (AV.int .i64) AV.bool l8)::x) 3 rfl
 refine rgE tok [3,5,7,32,33,34] fun K hK=>?_
 simp only[go_sem,qf,qb,qa,qc,qe,qd,reduceIte,reduceCtorEq,hz12,hw12,f44];apply hK
 apply hZ37
 refine rgE tok [3,5,7,32,33,34] fun K hK=>?_
 simp only[go_sem,qf,qb,qa,qc,qe,qd,reduceIte,reduceCtorEq,zn,hz12,hw12];apply hK
 exact⟨_,_,_,qE q12.length,⟨p12++[y12],q12,x9+1,setM l8 y12 true,rfl,rfl,rfl,hE'12,hi'12,h⟩,.s⟩
def xp.l23 (r2:Bool×List (List UInt8×Bool)):List GNamed→Int→List (List UInt8×Bool)→List (Int×Bool)→Option (Int×List (List UInt8×Bool))
 |[],x19,l17,l18=>some (0,r2.2)
 |y23::q23,x19,l17,l18=>(yy l17 y23.fName).bind fun r30=>(if (!r30.1)=true then some (6,r2.2) else (if (((decide (y23.fN<0))||(decide (2147483647<y23.fN)))||((vat l18 y23.fN).getD false))=true then some (11,r2.2) else ((xp.l23 r2 q23) (x19+1) r30.2 (setM l18 y23.fN true))))
def xp.l12 (a1:GEnumeration)(r2:Bool×List (List UInt8×Bool)):List GNamed→Int→Bool→Option (Int×List (List UInt8×Bool))
 |[],x9,x8=>(if (!x8)=true then some (12,r2.2) else (xp.l23 r2 a1.fValues 0 [] []))
 |y12::q12,x9,x8=>((xp.l12 a1 r2 q12) (x9+1) (x8||(decide (y12.fN=0))))
def xp (a0:List (List UInt8×Bool))(a1:GEnumeration):Option (Int×List (List UInt8×Bool)):=
 (yy a0 a1.fName).bind fun r2=>(if (!r2.1)=true then some (6,r2.2) else (if 16<(qg a1.fValues:Int) then some (4,r2.2) else (xp.l12 a1 r2 a1.fValues 0 false)))
theorem xp.ok (a0:List (List UInt8×Bool))(a1:GEnumeration)(r:Int×List (List UInt8×Bool))(h:xp a0 a1=some r):ACalls qi 127 [.mp 0,.agg (encGEnumeration a1)] [.map (xw AV.str AV.bool a0)] (fun r' σ'=>r'=.int .i64 r.1∧σ'=[.map (xw AV.str AV.bool r.2)]):=by
 refine xE [0] (rs:=[.tmp 4]) tok Tryz.func127 rfl Tryz.ntmps127 rfl Tryz.call127 (by simp) rfl ?_;refine zm [(0,.mp 0),(1,.agg (encGEnumeration a1))] ⟨rfl,rfl,trivial⟩ ?_;unfold xp at h
 refine rg tok [0,3] fun K hK=>?_
 simp only[go_sem,qf,qb,qa,qc,qe,qd,reduceIte,reduceCtorEq,encGEnumeration];apply hK
 refine zd fun Z1 hZ1=>?_
 apply zg
 refine rc [3,12] fun K hK=>?_
 obtain⟨r2,hr2,h⟩:=bind_some h;refine rnN 3 ?_;refine clN rfl rfl rfl (@id (ACalls qi 128 [.mp 0,.str a1.fName] [.map (xw AV.str AV.bool a0),.cells 0 (encGEnumeration a1)] (fun r' σ'=>r'=.bool r2.1∧σ'=[.map (xw AV.str AV.bool r2.2),.cells 0 (encGEnumeration a1)])) ((yy.ok a0 a1.fName r2 hr2).i [0])) ?_;refine rnN 2 ?_;refine nkN hK ?_;refine zs (b:=(!r2.1)) rfl (fun hc3=>?_) (fun hc3=>?_)
 · rw[if_pos hc3] at h;refine rgN [4] ?_;apply zJ;cases h;simp only[wb,ya,yf,yS,exists_eq_left',go_sem,qf,qb,qa,qc,qe,qd,reduceIte,reduceCtorEq];refine⟨by decide,by simp,?_,?_⟩
   · first|rfl|(simp only[go_sem,qf,qb,qa,qc,qe,qd,reduceIte,reduceCtorEq,push_cast,if_true,qn,ql,qp,qs,qo,qq,qv,qm,qt,qr,qk,zh]<;>rfl)
   first|rfl|(simp only[go_sem,qf,qb,qa,qc,qe,qd,reduceIte,reduceCtorEq,push_cast,if_true,qn,ql,qp,qs,qo,qq,qv,qm,qt,qr,qk,zh]<;>rfl)
 rw[xI hc3] at h
 refine rg tok [3,18] fun K hK=>?_
 simp only[go_sem,qf,qb,qa,qc,qe,qd,reduceIte,reduceCtorEq,zn];apply hK
 refine zM rfl (fun hc4=>?_) (fun hc4=>?_)
 · rw[if_pos hc4] at h;have t5:=eq_true hc4
   refine rg tok [4] fun K hK=>?_
   simp only[go_sem,qf,qb,qa,qc,qe,qd,reduceIte,reduceCtorEq,t5];apply hK
   apply zJ;cases h;simp only[wb,ya,yf,yS,exists_eq_left',go_sem,qf,qb,qa,qc,qe,qd,reduceIte,reduceCtorEq];refine⟨by decide,by simp,?_,?_⟩
   · first|rfl|(simp only[go_sem,qf,qb,qa,qc,qe,qd,reduceIte,reduceCtorEq,push_cast,if_true,qn,ql,qp,qs,qo,qq,qv,qm,qt,qr,qk,zh]<;>rfl)
   first|rfl|(simp only[go_sem,qf,qb,qa,qc,qe,qd,reduceIte,reduceCtorEq,push_cast,if_true,qn,ql,qp,qs,qo,qq,qv,qm,qt,qr,qk,zh]<;>rfl)
 rw[if_neg hc4] at h;have t6:=eq_false hc4;apply zf;apply hZ1
 refine rg tok [3,5] fun K hK=>?_
 simp only[go_sem,qf,qb,qa,qc,qe,qd,reduceIte,reduceCtorEq,t6];apply hK
 refine zd fun Z7 hZ7=>?_
 refine rg tok [3,5,24,25,26] fun K hK=>?_
 simp only[go_sem,qf,qb,qa,qc,qe,qd,reduceIte,reduceCtorEq,t6];apply hK
 apply zg
 refine yq 24 fun hb12=>?_
 replace hb12:qg a1.fValues≤9223372036854775807:=hb12.1;refine zP (fun m L τ=>∃ (p12 q12:List GNamed) (x9:Int) (x8:Bool),m=qg q12∧L=[(3,.op 1 0 0),(5,.bool x8),(24,.ds true (qh encGNamed a1.fValues) (qg a1.fValues) false),(25,.int .i64 (qg a1.fValues:Int)),(26,.int .i64 x9)]∧τ=[.map (xw AV.str AV.bool r2.2),.cells 0 (encGEnumeration a1)]∧a1.fValues=p12++q12∧x9=(qg p12:Int)∧xp.l12 a1 r2 q12 x9 x8=some r) _ ⟨[],a1.fValues,0,false,rfl,rfl,rfl,rfl,rfl,h⟩ .s ?_;rintro m L τ ⟨p12,q12,x9,x8,rfl,rfl,rfl,hE12,hi12,h⟩
 rcases q12 with _|⟨y12,q12⟩
 · have hz12:=yN hE12 hi12;simp only[xp.l12] at h
   refine rg tok [3,5,24,25,26,27] fun K hK=>?_
   simp only[go_sem,qf,qb,qa,qc,qe,qd,reduceIte,reduceCtorEq,zn,t6,hz12];apply hK
   refine zd fun Z13 hZ13=>?_
   refine zo rfl ?_;apply zI;apply hZ7
   refine zd fun Z14 hZ14=>?_
   refine rg tok [3,38] fun K hK=>?_
   simp only[go_sem,qf,qb,qa,qc,qe,qd,reduceIte,reduceCtorEq,t6,hz12];apply hK
   refine zs (b:=(!x8)) rfl (fun hc15=>?_) (fun hc15=>?_)
   · rw[if_pos hc15] at h
     refine rg tok [4] fun K hK=>?_
     simp only[go_sem,qf,qb,qa,qc,qe,qd,reduceIte,reduceCtorEq,t6,hz12];apply hK
     apply zJ;cases h;simp only[wb,ya,yf,yS,exists_eq_left',go_sem,qf,qb,qa,qc,qe,qd,reduceIte,reduceCtorEq];refine⟨by decide,by simp,?_,?_⟩
     · first|rfl|(simp only[go_sem,qf,qb,qa,qc,qe,qd,reduceIte,reduceCtorEq,push_cast,if_true,qn,ql,qp,qs,qo,qq,qv,qm,qt,qr,qk,zh]<;>rfl)
     first|rfl|(simp only[go_sem,qf,qb,qa,qc,qe,qd,reduceIte,reduceCtorEq,push_cast,if_true,qn,ql,qp,qs,qo,qq,qv,qm,qt,qr,qk,zh]<;>rfl)
   rw[xI hc15] at h;apply zf;apply hZ14
   refine rg tok [3,8,9] fun K hK=>?_
   simp only[go_sem,qf,qb,qa,qc,qe,qd,reduceIte,reduceCtorEq,t6,hz12];apply hK
   refine yB (L:=[(3,.op 1 0 0),(8,.mp 2),(9,.mp 3)]) (τ:=[.map (xw AV.str AV.bool r2.2),.cells 0 (encGEnumeration a1),.map (xw AV.str AV.bool []),.map (xw (AV.int .i64) AV.bool [])]) .s ?_
   refine zd fun Z16 hZ16=>?_
   refine rg tok [8,9,42,43,44] fun K hK=>?_
   simp only[go_sem,qf,qb,qa,qc,qe,qd,reduceIte,reduceCtorEq,t6,hz12];apply hK
   apply zg
   refine yq 42 fun hb23=>?_
   replace hb23:qg a1.fValues≤9223372036854775807:=hb23.1;refine zP (fun m L τ=>∃ (p23 q23:List GNamed) (x19:Int) (l17:List (List UInt8×Bool)) (l18:List (Int×Bool)),m=qg q23∧L=[(8,.mp 1),(9,.mp 2),(42,.ds true (qh encGNamed a1.fValues) (qg a1.fValues) false),(43,.int .i64 (qg a1.fValues:Int)),(44,.int .i64 x19)]∧τ=[.map (xw AV.str AV.bool r2.2),.map (xw AV.str AV.bool l17),.map (xw (AV.int .i64) AV.bool l18)]∧a1.fValues=p23++q23∧x19=(qg p23:Int)∧xp.l23 r2 q23 x19 l17 l18=some r) _ ⟨[],a1.fValues,0,[],[],rfl,rfl,rfl,rfl,rfl,h⟩ (.t [0,2,3] false) ?_;rintro m L τ ⟨p23,q23,x19,l17,l18,rfl,rfl,rfl,hE23,hi23,h⟩
   rcases q23 with _|⟨y23,q23⟩
   · have hz23:=yN hE23 hi23;simp only[xp.l23] at h
     refine rg tok [8,9,42,43,44,45] fun K hK=>?_
     simp only[go_sem,qf,qb,qa,qc,qe,qd,reduceIte,reduceCtorEq,zn,t6,hz12,hz23];apply hK
     refine zd fun Z24 hZ24=>?_
     refine zo rfl ?_;apply zI;apply hZ16
     refine rg tok [4] fun K hK=>?_
     simp only[go_sem,qf,qb,qa,qc,qe,qd,reduceIte,reduceCtorEq,t6,hz12,hz23];apply hK
     apply zJ;cases h;simp only[wb,ya,yf,yS,exists_eq_left',go_sem,qf,qb,qa,qc,qe,qd,reduceIte,reduceCtorEq];refine⟨by decide,by simp,?_,?_⟩
     · first|rfl|(simp only[go_sem,qf,qb,qa,qc,qe,qd,reduceIte,reduceCtorEq,push_cast,if_true,qn,ql,qp,qs,qo,qq,qv,qm,qt,qr,qk,zh]<;>rfl)
     first|rfl|(simp only[go_sem,qf,qb,qa,qc,qe,qd,reduceIte,reduceCtorEq,push_cast,if_true,qn,ql,qp,qs,qo,qq,qv,qm,qt,qr,qk,zh]<;>rfl)
   obtain⟨hz23,hw23,hx23,hE'23,hi'23⟩:=yo hE23 hi23 hb23;simp only[xp.l23] at h
   refine rg tok [8,9,42,43,44,45] fun K hK=>?_
   simp only[go_sem,qf,qb,qa,qc,qe,qd,reduceIte,reduceCtorEq,zn,t6,hz12,hz23,hw23];apply hK
   refine zd fun Z25 hZ25=>?_
   refine zu rfl ?_;apply zf;apply hZ25
   refine zd fun Z26 hZ26=>?_
   apply zg;have f27:=E140.idxS hx23;have f28:=E140.loadS rfl rfl hx23
   refine rg tok [8,9,11,42,43,44] fun K hK=>?_
   simp only[go_sem,qf,qb,qa,qc,qe,qd,reduceIte,reduceCtorEq,encGNamed,t6,hz12,hz23,hw23,f27,f28];apply hK
   refine zd fun Z29 hZ29=>?_
   apply zg
   refine rc [8,9,11,42,43,44,48] fun K hK=>?_
   obtain⟨r30,hr30,h⟩:=bind_some h;refine za tok 3 ?_;simp only[go_sem,qf,qb,qa,qc,qe,qd,reduceIte,reduceCtorEq,t6,hz12,hz23,hw23];refine clN rfl rfl rfl (@id (ACalls qi 128 [.mp 1,.str y23.fName] [.map (xw AV.str AV.bool r2.2),.map (xw AV.str AV.bool l17),.map (xw (AV.int .i64) AV.bool l18),.cells 0 [.str y23.fName,.int .i64 y23.fN]] (fun r' σ'=>r'=.bool r30.1∧σ'=[.map (xw AV.str AV.bool r2.2),.map (xw AV.str AV.bool r30.2),.map (xw (AV.int .i64) AV.bool l18),.cells 0 [.str y23.fName,.int .i64 y23.fN]])) ((yy.ok l17 y23.fName r30 hr30).i [1])) ?_;refine za tok 2 ?_;simp only[go_sem,qf,qb,qa,qc,qe,qd,reduceIte,reduceCtorEq,t6,hz12,hz23,hw23];refine nkN hK ?_;refine zs (b:=(!r30.1)) rfl (fun hc31=>?_) (fun hc31=>?_)
   · rw[if_pos hc31] at h
     refine rg tok [4] fun K hK=>?_
     simp only[go_sem,qf,qb,qa,qc,qe,qd,reduceIte,reduceCtorEq,t6,hz12,hz23,hw23];apply hK
     apply zJ;cases h;simp only[wb,ya,yf,yS,exists_eq_left',go_sem,qf,qb,qa,qc,qe,qd,reduceIte,reduceCtorEq];refine⟨by decide,by simp,?_,?_⟩
     · first|rfl|(simp only[go_sem,qf,qb,qa,qc,qe,qd,reduceIte,reduceCtorEq,push_cast,if_true,qn,ql,qp,qs,qo,qq,qv,qm,qt,qr,qk,zh]<;>rfl)
     first|rfl|(simp only[go_sem,qf,qb,qa,qc,qe,qd,reduceIte,reduceCtorEq,push_cast,if_true,qn,ql,qp,qs,qo,qq,qv,qm,qt,qr,qk,zh]<;>rfl)
   rw[xI hc31] at h
   refine rc [8,9,11,42,43,44,54] fun K hK=>?_
   refine za tok 4 ?_;simp only[go_sem,qf,qb,qa,qc,qe,qd,reduceIte,reduceCtorEq,zn,t6,hz12,hz23,hw23];refine zl 4 (fun L τ=>L=[(8,.mp 1),(9,.mp 2),(11,.op 3 0 0),(42,.ds true (qh encGNamed a1.fValues) (qg a1.fValues) false),(43,.int .i64 (qg a1.fValues:Int)),(44,.int .i64 x19),(62,.bool ((decide (y23.fN<0))||(decide (2147483647<y23.fN))))]∧τ=[.map (xw AV.str AV.bool r2.2),.map (xw AV.str AV.bool r30.2),.map (xw (AV.int .i64) AV.bool l18),.cells 0 [.str y23.fName,.int .i64 y23.fN]]) ?_ ?_
   · refine yQ 58 rfl (fun hg58=>?_) (fun hg58=>?_)
     · have t32:=eq_true hg58;refine za tok 4 ?_;simp only[go_sem,qf,qb,qa,qc,qe,qd,reduceIte,reduceCtorEq,zn,t6,hz12,hz23,hw23];refine ze ⟨rfl,_,_,⟨rfl,rfl⟩,.p t32⟩
     have t33:=eq_false hg58;refine za tok 4 ?_;simp only[go_sem,qf,qb,qa,qc,qe,qd,reduceIte,reduceCtorEq,zn,t6,hz12,hz23,hw23];refine ze ⟨rfl,_,_,⟨rfl,rfl⟩,.p t33⟩
   rintro _ _ ⟨rfl,rfl⟩;refine za tok 1 ?_;simp only[go_sem,qf,qb,qa,qc,qe,qd,reduceIte,reduceCtorEq,t6,hz12,hz23,hw23];refine zl 5 (fun L τ=>L=[(8,.mp 1),(9,.mp 2),(11,.op 3 0 0),(42,.ds true (qh encGNamed a1.fValues) (qg a1.fValues) false),(43,.int .i64 (qg a1.fValues:Int)),(44,.int .i64 x19),(68,.bool (((decide (y23.fN<0))||(decide (2147483647<y23.fN)))||((vat l18 y23.fN).getD false)))]∧τ=[.map (xw AV.str AV.bool r2.2),.map (xw AV.str AV.bool r30.2),.map (xw (AV.int .i64) AV.bool l18),.cells 0 [.str y23.fName,.int .i64 y23.fN]]) ?_ ?_
   · refine zR (b:=((decide (y23.fN<0))||(decide (2147483647<y23.fN)))) 63 rfl (fun hg63=>?_) (fun hg63=>?_)
     · refine za tok 5 ?_;simp only[go_sem,qf,qb,qa,qc,qe,qd,reduceIte,reduceCtorEq,ZI,qW,if_false,if_true,t6,hz12,hz23,hw23];refine ze ⟨rfl,_,_,⟨rfl,rfl⟩,.b hg63⟩
     have f34:=fun (o0:AObj) (o1:AObj) (x:Store)=>Xr (T:=tab) (t:=265) (ek:=(AV.int .i64)) (ev:=AV.bool) (z:=false) (KeyE.int rfl rfl rfl rfl) rfl rfl rfl rfl l18 y23.fN false (o0::o1::.map (xw (AV.int .i64) AV.bool l18)::x) 2 rfl
     refine za tok 5 ?_;simp only[go_sem,qf,qb,qa,qc,qe,qd,reduceIte,reduceCtorEq,ZI,qW,if_false,if_true,t6,hz12,hz23,hw23,f34];refine ze ⟨rfl,_,_,⟨rfl,rfl⟩,.b hg63⟩
   rintro _ _ ⟨rfl,rfl⟩;refine za tok 1 ?_;simp only[go_sem,qf,qb,qa,qc,qe,qd,reduceIte,reduceCtorEq,t6,hz12,hz23,hw23];refine nkN hK ?_;refine zs (b:=(((decide (y23.fN<0))||(decide (2147483647<y23.fN)))||((vat l18 y23.fN).getD false))) rfl (fun hc35=>?_) (fun hc35=>?_)
   · rw[if_pos hc35] at h
     refine rg tok [4] fun K hK=>?_
     simp only[go_sem,qf,qb,qa,qc,qe,qd,reduceIte,reduceCtorEq,t6,hz12,hz23,hw23];apply hK
     apply zJ;cases h;simp only[wb,ya,yf,yS,exists_eq_left',go_sem,qf,qb,qa,qc,qe,qd,reduceIte,reduceCtorEq];refine⟨by decide,by simp,?_,?_⟩
     · first|rfl|(simp only[go_sem,qf,qb,qa,qc,qe,qd,reduceIte,reduceCtorEq,push_cast,if_true,qn,ql,qp,qs,qo,qq,qv,qm,qt,qr,qk,zh]<;>rfl)
     first|rfl|(simp only[go_sem,qf,qb,qa,qc,qe,qd,reduceIte,reduceCtorEq,push_cast,if_true,qn,ql,qp,qs,qo,qq,qv,qm,qt,qr,qk,zh]<;>rfl)
   rw[xI hc35] at h;apply zf;apply hZ29
   have f36:=fun (o0:AObj) (o1:AObj) (x:Store)=>Xf (T:=tab) (t:=265) (ek:=(AV.int .i64)) (ev:=AV.bool) (KeyE.int rfl rfl rfl rfl) rfl rfl l18 y23.fN true (o0::o1::.map (xw (AV.int .i64) AV.bool l18)::x) 2 rfl
   refine rgE tok [8,9,42,43,44] fun K hK=>?_
   simp only[go_sem,qf,qb,qa,qc,qe,qd,reduceIte,reduceCtorEq,t6,hz12,hz23,hw23,f36];apply hK
   apply hZ26
   refine rgE tok [8,9,42,43,44] fun K hK=>?_
   simp only[go_sem,qf,qb,qa,qc,qe,qd,reduceIte,reduceCtorEq,zn,t6,hz12,hz23,hw23];apply hK
   exact⟨_,_,_,qE q23.length,⟨p23++[y23],q23,x19+1,r30.2,setM l18 y23.fN true,rfl,rfl,rfl,hE'23,hi'23,h⟩,(.t [0,1,2] false)⟩
 obtain⟨hz12,hw12,hx12,hE'12,hi'12⟩:=yo hE12 hi12 hb12;simp only[xp.l12] at h
 refine rg tok [3,5,24,25,26,27] fun K hK=>?_
 simp only[go_sem,qf,qb,qa,qc,qe,qd,reduceIte,reduceCtorEq,zn,t6,hz12,hw12];apply hK
 refine zd fun Z37 hZ37=>?_
 refine zu rfl ?_;apply zf;apply hZ37
 refine zd fun Z38 hZ38=>?_
 apply zg;have f39:=E140.idxS hx12;have f40:=E140.loadS rfl rfl hx12
 refine rg tok [3,5,7,24,25,26] fun K hK=>?_
 simp only[go_sem,qf,qb,qa,qc,qe,qd,reduceIte,reduceCtorEq,encGNamed,t6,hz12,hw12,f39,f40];apply hK
 refine rcE [3,5,24,25,26] fun K hK=>?_
 refine za tok 2 ?_;simp only[go_sem,qf,qb,qa,qc,qe,qd,reduceIte,reduceCtorEq,t6,hz12,hw12];refine zl 4 (fun L τ=>L=[(3,.op 1 0 0),(5,.bool x8),(24,.ds true (qh encGNamed a1.fValues) (qg a1.fValues) false),(25,.int .i64 (qg a1.fValues:Int)),(26,.int .i64 x9),(35,.bool (x8||(decide (y12.fN=0))))]∧τ=[.map (xw AV.str AV.bool r2.2),.cells 0 (encGEnumeration a1),.cells 0 [.str y12.fName,.int .i64 y12.fN]]) ?_ ?_
 · refine zR (b:=x8) 31 rfl (fun hg31=>?_) (fun hg31=>?_)
   · refine za tok 4 ?_;simp only[go_sem,qf,qb,qa,qc,qe,qd,reduceIte,reduceCtorEq,zn,t6,hz12,hw12];refine ze ⟨rfl,_,_,⟨rfl,rfl⟩,.b hg31⟩
   refine za tok 4 ?_;simp only[go_sem,qf,qb,qa,qc,qe,qd,reduceIte,reduceCtorEq,zn,t6,hz12,hw12];refine ze ⟨rfl,_,_,⟨rfl,rfl⟩,.b hg31⟩
 rintro _ _ ⟨rfl,rfl⟩;refine za tok 1 ?_;simp only[go_sem,qf,qb,qa,qc,qe,qd,reduceIte,reduceCtorEq,t6,hz12,hw12];refine nkN hK ?_;apply hZ38
 refine rgE tok [3,5,24,25,26] fun K hK=>?_
 simp only[go_sem,qf,qb,qa,qc,qe,qd,reduceIte,reduceCtorEq,zn,t6,hz12,hw12];apply hK
 exact⟨_,_,_,qE q12.length,⟨p12++[y12],q12,x9+1,(x8||(decide (y12.fN=0))),rfl,rfl,rfl,hE'12,hi'12,h⟩,(.t [0,1] false)⟩
end
section
set_option maxRecDepth 4000
set_option maxHeartbeats 1000000
open AM
def zS.l29 (a0:GSchema):List GMethod→Int→List (List UInt8×Bool)→Option Int
 |[],x26,l25=>some 0
 |y29::q29,x26,l25=>bnd (zH a0 y29.fIn) fun r35=>bnd (zH a0 y29.fOut) fun r36=>(yy l25 y29.fName).bind fun r37=>(if (!r37.1)=true then some 6 else (if ((!r35.2)||(!r36.2))=true then some 8 else ((zS.l29 a0 q29) (x26+1) r37.2)))
def zS.l22 (a0:GSchema):List GEnumeration→Int→List (List UInt8×Bool)→Option Int
 |[],x19,l18=>(zS.l29 a0 a0.fMethods 0 [])
 |y22::q22,x19,l18=>(xp l18 y22).bind fun r44=>(if r44.1=0 then ((zS.l22 a0 q22) (x19+1) r44.2) else some r44.1)
def zS.l15 (a0:GSchema):List GMessage→Int→List (List UInt8×Bool)→Option Int
 |[],x12,l11=>(zS.l22 a0 a0.fEnums 0 l11)
 |y15::q15,x12,l11=>(yF a0 l11 y15).bind fun r52=>(if r52.1=0 then ((zS.l15 a0 q15) (x12+1) r52.2) else some r52.1)
def zS (a0:GSchema):Option Int:=
 (xB a0.fName).bind fun r2=>(if (!r2)=true then some 6 else (if (qg a0.fMessages:Int)=0 then some 12 else (if (((decide (10<(qg a0.fMessages:Int)))||(decide (6<(qg a0.fEnums:Int))))||(decide (6<(qg a0.fMethods:Int))))=true then some 4 else (zS.l15 a0 a0.fMessages 0 []))))
theorem zS.ok (a0:GSchema)(r:Int)(h:zS a0=some r):ACalls qi 82 [.agg (encGSchema a0)] [] (fun r' _=>r'=.int .i64 r):=by
 refine zj (rs:=[.tmp 2]) tok Tryz.func82 rfl Tryz.ntmps82 rfl Tryz.call82 (by simp) ?_;refine zm [(0,.agg (encGSchema a0))] ⟨rfl,trivial⟩ ?_;unfold zS at h
 refine rg tok [1] fun K hK=>?_
 simp only[go_sem,qf,qb,qa,qc,qe,qd,reduceIte,reduceCtorEq,encGSchema];apply hK
 refine zd fun Z1 hZ1=>?_
 apply zg
 refine rc [1,17] fun K hK=>?_
 obtain⟨r2,hr2,h⟩:=bind_some h;refine rnN 2 ?_;refine clN rfl rfl rfl (xB.ev a0.fName r2 hr2 _) ?_;refine rnN 2 ?_;refine nkN hK ?_;refine zs (b:=(!r2)) rfl (fun hc3=>?_) (fun hc3=>?_)
 · rw[if_pos hc3] at h;refine rgN [2] ?_;cases h;exact rtA
 rw[xI hc3] at h
 refine rg tok [1,22] fun K hK=>?_
 simp only[go_sem,qf,qb,qa,qc,qe,qd,reduceIte,reduceCtorEq,zn];apply hK
 refine zM rfl (fun hc4=>?_) (fun hc4=>?_)
 · rw[if_pos hc4] at h;have t5:=eq_true hc4
   refine rg tok [2] fun K hK=>?_
   simp only[go_sem,qf,qb,qa,qc,qe,qd,reduceIte,reduceCtorEq,t5];apply hK
   cases h;exact rtA
 rw[if_neg hc4] at h;have t6:=eq_false hc4
 refine rc [1,27] fun K hK=>?_
 refine za tok 5 ?_;simp only[go_sem,qf,qb,qa,qc,qe,qd,reduceIte,reduceCtorEq,zn,t6];refine zl 5 (fun L τ=>L=[(1,.op 0 0 0),(37,.bool ((decide (10<(qg a0.fMessages:Int)))||(decide (6<(qg a0.fEnums:Int)))))]∧τ=[.cells 0 (encGSchema a0)]) ?_ ?_
 · refine yQ 32 rfl (fun hg32=>?_) (fun hg32=>?_)
   · have t7:=eq_true hg32;refine za tok 5 ?_;simp only[go_sem,qf,qb,qa,qc,qe,qd,reduceIte,reduceCtorEq,zn,t6];refine ze ⟨rfl,_,_,⟨rfl,rfl⟩,.p t7⟩
   have t8:=eq_false hg32;refine za tok 5 ?_;simp only[go_sem,qf,qb,qa,qc,qe,qd,reduceIte,reduceCtorEq,zn,t6];refine ze ⟨rfl,_,_,⟨rfl,rfl⟩,.p t8⟩
 rintro _ _ ⟨rfl,rfl⟩;refine za tok 1 ?_;simp only[go_sem,qf,qb,qa,qc,qe,qd,reduceIte,reduceCtorEq,t6];refine zl 5 (fun L τ=>L=[(1,.op 0 0 0),(43,.bool (((decide (10<(qg a0.fMessages:Int)))||(decide (6<(qg a0.fEnums:Int))))||(decide (6<(qg a0.fMethods:Int)))))]∧τ=[.cells 0 (encGSchema a0)]) ?_ ?_
 · refine zR (b:=((decide (10<(qg a0.fMessages:Int)))||(decide (6<(qg a0.fEnums:Int))))) 38 rfl (fun hg38=>?_) (fun hg38=>?_)
   · refine za tok 5 ?_;simp only[go_sem,qf,qb,qa,qc,qe,qd,reduceIte,reduceCtorEq,zn,t6];refine ze ⟨rfl,_,_,⟨rfl,rfl⟩,.b hg38⟩
   refine za tok 5 ?_;simp only[go_sem,qf,qb,qa,qc,qe,qd,reduceIte,reduceCtorEq,zn,t6];refine ze ⟨rfl,_,_,⟨rfl,rfl⟩,.b hg38⟩
 rintro _ _ ⟨rfl,rfl⟩;refine za tok 1 ?_;simp only[go_sem,qf,qb,qa,qc,qe,qd,reduceIte,reduceCtorEq,t6];refine nkN hK ?_;refine zs (b:=(((decide (10<(qg a0.fMessages:Int)))||(decide (6<(qg a0.fEnums:Int))))||(decide (6<(qg a0.fMethods:Int))))) rfl (fun hc9=>?_) (fun hc9=>?_)
 · rw[if_pos hc9] at h
   refine rg tok [2] fun K hK=>?_
   simp only[go_sem,qf,qb,qa,qc,qe,qd,reduceIte,reduceCtorEq,t6];apply hK
   cases h;exact rtA
 rw[xI hc9] at h;apply zf;apply hZ1
 refine rg tok [1,3] fun K hK=>?_
 simp only[go_sem,qf,qb,qa,qc,qe,qd,reduceIte,reduceCtorEq,t6];apply hK
 refine yB (L:=[(1,.op 0 0 0),(3,.mp 1)]) (τ:=[.cells 0 (encGSchema a0),.map (xw AV.str AV.bool [])]) .s ?_
 refine zd fun Z10 hZ10=>?_
 refine rg tok [1,3,46,47,48] fun K hK=>?_
 simp only[go_sem,qf,qb,qa,qc,qe,qd,reduceIte,reduceCtorEq,t6];apply hK
 apply zg
 refine yq 46 fun hb15=>?_
 replace hb15:qg a0.fMessages≤9223372036854775807:=hb15.1;refine zP (fun m L τ=>∃ (p15 q15:List GMessage) (x12:Int) (l11:List (List UInt8×Bool)),m=qg q15∧L=[(1,.op 0 0 0),(3,.mp 1),(46,.ds true (qh encGMessage a0.fMessages) (qg a0.fMessages) false),(47,.int .i64 (qg a0.fMessages:Int)),(48,.int .i64 x12)]∧τ=[.cells 0 (encGSchema a0),.map (xw AV.str AV.bool l11)]∧a0.fMessages=p15++q15∧x12=(qg p15:Int)∧zS.l15 a0 q15 x12 l11=some r) _ ⟨[],a0.fMessages,0,[],rfl,rfl,rfl,rfl,rfl,h⟩ .s ?_;rintro m L τ ⟨p15,q15,x12,l11,rfl,rfl,rfl,hE15,hi15,h⟩
 rcases q15 with _|⟨y15,q15⟩
 · have hz15:=yN hE15 hi15;simp only[zS.l15] at h
   refine rg tok [1,3,46,47,48,49] fun K hK=>?_
   simp only[go_sem,qf,qb,qa,qc,qe,qd,reduceIte,reduceCtorEq,zn,t6,hz15];apply hK
   refine zd fun Z16 hZ16=>?_
   refine zo rfl ?_;apply zI;apply hZ10
   refine zd fun Z17 hZ17=>?_
   refine rg tok [1,3,61,62,63] fun K hK=>?_
   simp only[go_sem,qf,qb,qa,qc,qe,qd,reduceIte,reduceCtorEq,t6,hz15];apply hK
   apply zg
   refine yq 61 fun hb22=>?_
   replace hb22:qg a0.fEnums≤9223372036854775807:=hb22.1;refine zP (fun m L τ=>∃ (p22 q22:List GEnumeration) (x19:Int) (l18:List (List UInt8×Bool)),m=qg q22∧L=[(1,.op 0 0 0),(3,.mp 1),(61,.ds true (qh encGEnumeration a0.fEnums) (qg a0.fEnums) false),(62,.int .i64 (qg a0.fEnums:Int)),(63,.int .i64 x19)]∧τ=[.cells 0 (encGSchema a0),.map (xw AV.str AV.bool l18)]∧a0.fEnums=p22++q22∧x19=(qg p22:Int)∧zS.l22 a0 q22 x19 l18=some r) _ ⟨[],a0.fEnums,0,l11,rfl,rfl,rfl,rfl,rfl,h⟩ .s ?_;rintro m L τ ⟨p22,q22,x19,l18,rfl,rfl,rfl,hE22,hi22,h⟩
   rcases q22 with _|⟨y22,q22⟩
   · have hz22:=yN hE22 hi22;simp only[zS.l22] at h
     refine rg tok [1,3,61,62,63,64] fun K hK=>?_
     simp only[go_sem,qf,qb,qa,qc,qe,qd,reduceIte,reduceCtorEq,zn,t6,hz15,hz22];apply hK
     refine zd fun Z23 hZ23=>?_
     refine zo rfl ?_;apply zI;apply hZ17
     refine rg tok [1,10] fun K hK=>?_
     simp only[go_sem,qf,qb,qa,qc,qe,qd,reduceIte,reduceCtorEq,t6,hz15,hz22];apply hK
     refine yB (L:=[(1,.op 0 0 0),(10,.mp 2)]) (τ:=[.cells 0 (encGSchema a0),.map (xw AV.str AV.bool l18),.map (xw AV.str AV.bool [])]) .s ?_
     refine zd fun Z24 hZ24=>?_
     refine rg tok [1,10,76,77,78] fun K hK=>?_
     simp only[go_sem,qf,qb,qa,qc,qe,qd,reduceIte,reduceCtorEq,t6,hz15,hz22];apply hK
     apply zg
     refine yq 76 fun hb29=>?_
     replace hb29:qg a0.fMethods≤9223372036854775807:=hb29.1;refine zP (fun m L τ=>∃ (p29 q29:List GMethod) (x26:Int) (l25:List (List UInt8×Bool)),m=qg q29∧L=[(1,.op 0 0 0),(10,.mp 1),(76,.ds true (qh encGMethod a0.fMethods) (qg a0.fMethods) false),(77,.int .i64 (qg a0.fMethods:Int)),(78,.int .i64 x26)]∧τ=[.cells 0 (encGSchema a0),.map (xw AV.str AV.bool l25)]∧a0.fMethods=p29++q29∧x26=(qg p29:Int)∧zS.l29 a0 q29 x26 l25=some r) _ ⟨[],a0.fMethods,0,[],rfl,rfl,rfl,rfl,rfl,h⟩ (.t [0,2] false) ?_;rintro m L τ ⟨p29,q29,x26,l25,rfl,rfl,rfl,hE29,hi29,h⟩
     rcases q29 with _|⟨y29,q29⟩
     · have hz29:=yN hE29 hi29;simp only[zS.l29] at h
       refine rg tok [1,10,76,77,78,79] fun K hK=>?_
       simp only[go_sem,qf,qb,qa,qc,qe,qd,reduceIte,reduceCtorEq,zn,t6,hz15,hz22,hz29];apply hK
       refine zd fun Z30 hZ30=>?_
       refine zo rfl ?_;apply zI;apply hZ24
       refine rg tok [2] fun K hK=>?_
       simp only[go_sem,qf,qb,qa,qc,qe,qd,reduceIte,reduceCtorEq,t6,hz15,hz22,hz29];apply hK
       cases h;exact rtA
     obtain⟨hz29,hw29,hx29,hE'29,hi'29⟩:=yo hE29 hi29 hb29;simp only[zS.l29] at h
     refine rg tok [1,10,76,77,78,79] fun K hK=>?_
     simp only[go_sem,qf,qb,qa,qc,qe,qd,reduceIte,reduceCtorEq,zn,t6,hz15,hz22,hz29,hw29];apply hK
     refine zd fun Z31 hZ31=>?_
     refine zu rfl ?_;apply zf;apply hZ31
     refine zd fun Z32 hZ32=>?_
     apply zg;have f33:=E29.idxS hx29;have f34:=E29.loadS rfl rfl hx29
     refine rg tok [1,10,12,76,77,78] fun K hK=>?_
     simp only[go_sem,qf,qb,qa,qc,qe,qd,reduceIte,reduceCtorEq,encGMethod,t6,hz15,hz22,hz29,hw29,f33,f34];apply hK
     refine rc [1,10,12,14,76,77,78] fun K hK=>?_
     obtain⟨r35,hr35,h⟩:=zB h;refine za tok 3 ?_;simp only[go_sem,qf,qb,qa,qc,qe,qd,reduceIte,reduceCtorEq,encGSchema,t6,hz15,hz22,hz29,hw29];refine clN rfl rfl rfl (zH.ev a0 y29.fIn r35 hr35 _) ?_;refine za tok 6 ?_;simp only[go_sem,qf,qb,qa,qc,qe,qd,reduceIte,reduceCtorEq,encGMessage,encGSchema,t6,hz15,hz22,hz29,hw29];refine nkN hK ?_
     refine rc [1,10,12,14,16,76,77,78] fun K hK=>?_
     obtain⟨r36,hr36,h⟩:=zB h;refine za tok 3 ?_;simp only[go_sem,qf,qb,qa,qc,qe,qd,reduceIte,reduceCtorEq,encGSchema,t6,hz15,hz22,hz29,hw29];refine clN rfl rfl rfl (zH.ev a0 y29.fOut r36 hr36 _) ?_;refine za tok 6 ?_;simp only[go_sem,qf,qb,qa,qc,qe,qd,reduceIte,reduceCtorEq,encGMessage,encGSchema,t6,hz15,hz22,hz29,hw29];refine nkN hK ?_;apply zg
     refine rc [1,10,14,16,76,77,78,96] fun K hK=>?_
     obtain⟨r37,hr37,h⟩:=bind_some h;refine za tok 3 ?_;simp only[go_sem,qf,qb,qa,qc,qe,qd,reduceIte,reduceCtorEq,t6,hz15,hz22,hz29,hw29];refine clN rfl rfl rfl (@id (ACalls qi 128 [.mp 1,.str y29.fName] [.cells 0 (encGSchema a0),.map (xw AV.str AV.bool l25),.cells 0 [.str y29.fName,.str y29.fIn,.str y29.fOut],.cells 0 (encGMessage r35.1),.cells 0 (encGMessage r36.1)] (fun r' σ'=>r'=.bool r37.1∧σ'=[.cells 0 (encGSchema a0),.map (xw AV.str AV.bool r37.2),.cells 0 [.str y29.fName,.str y29.fIn,.str y29.fOut],.cells 0 (encGMessage r35.1),.cells 0 (encGMessage r36.1)])) ((yy.ok l25 y29.fName r37 hr37).i [1])) ?_;refine za tok 2 ?_;simp only[go_sem,qf,qb,qa,qc,qe,qd,reduceIte,reduceCtorEq,t6,hz15,hz22,hz29,hw29];refine nkN hK ?_;refine zs (b:=(!r37.1)) rfl (fun hc38=>?_) (fun hc38=>?_)
     · rw[if_pos hc38] at h
       refine rg tok [2] fun K hK=>?_
       simp only[go_sem,qf,qb,qa,qc,qe,qd,reduceIte,reduceCtorEq,t6,hz15,hz22,hz29,hw29];apply hK
       cases h;exact rtA
     rw[xI hc38] at h
     refine rc [1,10,76,77,78,102] fun K hK=>?_
     refine za tok 3 ?_;simp only[go_sem,qf,qb,qa,qc,qe,qd,reduceIte,reduceCtorEq,t6,hz15,hz22,hz29,hw29];refine zl 3 (fun L τ=>L=[(1,.op 0 0 0),(10,.mp 1),(76,.ds true (qh encGMethod a0.fMethods) (qg a0.fMethods) false),(77,.int .i64 (qg a0.fMethods:Int)),(78,.int .i64 x26),(108,.bool ((!r35.2)||(!r36.2)))]∧τ=[.cells 0 (encGSchema a0),.map (xw AV.str AV.bool r37.2),.cells 0 [.str y29.fName,.str y29.fIn,.str y29.fOut],.cells 0 (encGMessage r35.1),.cells 0 (encGMessage r36.1)]) ?_ ?_
     · refine zR (b:=(!r35.2)) 105 rfl (fun hg105=>?_) (fun hg105=>?_)
       · refine za tok 3 ?_;simp only[go_sem,qf,qb,qa,qc,qe,qd,reduceIte,reduceCtorEq,t6,hz15,hz22,hz29,hw29];refine ze ⟨rfl,_,_,⟨rfl,rfl⟩,.b hg105⟩
       refine za tok 3 ?_;simp only[go_sem,qf,qb,qa,qc,qe,qd,reduceIte,reduceCtorEq,t6,hz15,hz22,hz29,hw29];refine ze ⟨rfl,_,_,⟨rfl,rfl⟩,.b hg105⟩
     rintro _ _ ⟨rfl,rfl⟩;refine za tok 1 ?_;simp only[go_sem,qf,qb,qa,qc,qe,qd,reduceIte,reduceCtorEq,t6,hz15,hz22,hz29,hw29];refine nkN hK ?_;refine zs (b:=((!r35.2)||(!r36.2))) rfl (fun hc39=>?_) (fun hc39=>?_)
     · rw[if_pos hc39] at h
       refine rg tok [2] fun K hK=>?_
       simp only[go_sem,qf,qb,qa,qc,qe,qd,reduceIte,reduceCtorEq,t6,hz15,hz22,hz29,hw29];apply hK
       cases h;exact rtA
     rw[xI hc39] at h;apply zf;apply hZ32
     refine rgE tok [1,10,76,77,78] fun K hK=>?_
     simp only[go_sem,qf,qb,qa,qc,qe,qd,reduceIte,reduceCtorEq,zn,t6,hz15,hz22,hz29,hw29];apply hK
     exact⟨_,_,_,qE q29.length,⟨p29++[y29],q29,x26+1,r37.2,rfl,rfl,rfl,hE'29,hi'29,h⟩,(.t [0,1] false)⟩
   obtain⟨hz22,hw22,hx22,hE'22,hi'22⟩:=yo hE22 hi22 hb22;simp only[zS.l22] at h
   refine rg tok [1,3,61,62,63,64] fun K hK=>?_
   simp only[go_sem,qf,qb,qa,qc,qe,qd,reduceIte,reduceCtorEq,zn,t6,hz15,hz22,hw22];apply hK
   refine zd fun Z40 hZ40=>?_
   refine zu rfl ?_;apply zf;apply hZ40
   refine zd fun Z41 hZ41=>?_
   apply zg;have f42:=E28.idxS hx22;have f43:=E28.loadS rfl rfl hx22
   refine rg tok [1,3,8,61,62,63] fun K hK=>?_
   simp only[go_sem,qf,qb,qa,qc,qe,qd,reduceIte,reduceCtorEq,encGEnumeration,t6,hz15,hz22,hw22,f42,f43];apply hK
   refine rc [1,3,9,61,62,63] fun K hK=>?_
   obtain⟨r44,hr44,h⟩:=bind_some h;refine za tok 2 ?_;simp only[go_sem,qf,qb,qa,qc,qe,qd,reduceIte,reduceCtorEq,encGEnumeration,t6,hz15,hz22,hw22];refine clN rfl rfl rfl (@id (ACalls qi 127 [.mp 1,.agg (encGEnumeration y22)] [.cells 0 (encGSchema a0),.map (xw AV.str AV.bool l18),.cells 0 (encGEnumeration y22)] (fun r' σ'=>r'=.int .i64 r44.1∧σ'=[.cells 0 (encGSchema a0),.map (xw AV.str AV.bool r44.2),.cells 0 (encGEnumeration y22)])) ((xp.ok l18 y22 r44 hr44).i [1])) ?_;refine za tok 1 ?_;simp only[go_sem,qf,qb,qa,qc,qe,qd,reduceIte,reduceCtorEq,encGEnumeration,t6,hz15,hz22,hw22];refine nkN hK ?_
   refine rg tok [1,3,9,61,62,63,71] fun K hK=>?_
   simp only[go_sem,qf,qb,qa,qc,qe,qd,reduceIte,reduceCtorEq,zn,t6,hz15,hz22,hw22];apply hK
   refine zM rfl (fun hc45=>?_) (fun hc45=>?_)
   · rw[if_neg hc45] at h;have t46:=eq_false hc45
     refine rg tok [2] fun K hK=>?_
     simp only[go_sem,qf,qb,qa,qc,qe,qd,reduceIte,reduceCtorEq,t6,hz15,hz22,hw22,t46];apply hK
     cases h;exact rtA
   rw[if_pos hc45] at h;have t47:=eq_true hc45;apply zf;apply hZ41
   refine rgE tok [1,3,61,62,63] fun K hK=>?_
   simp only[go_sem,qf,qb,qa,qc,qe,qd,reduceIte,reduceCtorEq,zn,t6,hz15,hz22,hw22,t47];apply hK
   exact⟨_,_,_,qE q22.length,⟨p22++[y22],q22,x19+1,r44.2,rfl,rfl,rfl,hE'22,hi'22,h⟩,(.t [0,1] false)⟩
 obtain⟨hz15,hw15,hx15,hE'15,hi'15⟩:=yo hE15 hi15 hb15;simp only[zS.l15] at h
 refine rg tok [1,3,46,47,48,49] fun K hK=>?_
 simp only[go_sem,qf,qb,qa,qc,qe,qd,reduceIte,reduceCtorEq,zn,t6,hz15,hw15];apply hK
 refine zd fun Z48 hZ48=>?_
 refine zu rfl ?_;apply zf;apply hZ48
 refine zd fun Z49 hZ49=>?_
 apply zg;have f50:=E27.idxS hx15;have f51:=E27.loadS rfl rfl hx15
 refine rg tok [1,3,5,46,47,48] fun K hK=>?_
 simp only[go_sem,qf,qb,qa,qc,qe,qd,reduceIte,reduceCtorEq,encGMessage,t6,hz15,hw15,f50,f51];apply hK
 refine rc [1,3,6,46,47,48] fun K hK=>?_
 obtain⟨r52,hr52,h⟩:=bind_some h;refine za tok 3 ?_;simp only[go_sem,qf,qb,qa,qc,qe,qd,reduceIte,reduceCtorEq,encGMessage,encGSchema,t6,hz15,hw15];refine clN rfl rfl rfl (@id (ACalls qi 126 [.agg (encGSchema a0),.mp 1,.agg (encGMessage y15)] [.cells 0 (encGSchema a0),.map (xw AV.str AV.bool l11),.cells 0 (encGMessage y15)] (fun r' σ'=>r'=.int .i64 r52.1∧σ'=[.cells 0 (encGSchema a0),.map (xw AV.str AV.bool r52.2),.cells 0 (encGMessage y15)])) ((yF.ok a0 l11 y15 r52 hr52).i [1])) ?_;refine za tok 1 ?_;simp only[go_sem,qf,qb,qa,qc,qe,qd,reduceIte,reduceCtorEq,encGMessage,encGSchema,t6,hz15,hw15];refine nkN hK ?_
 refine rg tok [1,3,6,46,47,48,57] fun K hK=>?_
 simp only[go_sem,qf,qb,qa,qc,qe,qd,reduceIte,reduceCtorEq,zn,t6,hz15,hw15];apply hK
 refine zM rfl (fun hc53=>?_) (fun hc53=>?_)
 · rw[if_neg hc53] at h;have t54:=eq_false hc53
   refine rg tok [2] fun K hK=>?_
   simp only[go_sem,qf,qb,qa,qc,qe,qd,reduceIte,reduceCtorEq,t6,hz15,hw15,t54];apply hK
   cases h;exact rtA
 rw[if_pos hc53] at h;have t55:=eq_true hc53;apply zf;apply hZ49
 refine rgE tok [1,3,46,47,48] fun K hK=>?_
 simp only[go_sem,qf,qb,qa,qc,qe,qd,reduceIte,reduceCtorEq,zn,t6,hz15,hw15,t55];apply hK
 exact⟨_,_,_,qE q15.length,⟨p15++[y15],q15,x12+1,r52.2,rfl,rfl,rfl,hE'15,hi'15,h⟩,(.t [0,1] false)⟩
theorem zS.ev (a0:GSchema)(r:Int)(h:zS a0=some r)(σ:Store):ACalls qi 82 [.agg (encGSchema a0)] σ (fun r' σ'=>r'=.int .i64 r∧σ'=σ):=
 (zS.ok a0 r h).c σ
def xd.l10 (a2:List GSchema):List Int→Int→Int→Option Bool
 |[],x7,x6=>some true
 |y10::q10,x7,x6=>(if ((decide (y10≤x6))||(decide (12<y10)))=true then some true else (YD a2 x7).bind fun y19=>(zS y19).bind fun r22=>some (!(decide (r22=0)))).bind fun c19=>(if c19=true then some false else ((xd.l10 a2 q10) (x7+1) y10))
def xd (a0:Int)(a1:List Int)(a2:List GSchema):Option Bool:=
 (if (((((decide ((qg a1:Int)<1))||(decide (12<(qg a1:Int))))||(!(decide ((qg a2:Int)=(qg a1:Int)))))||(decide (a0<0)))||(decide (255<a0)))=true then some false else (xd.l10 a2 a1 0 0))
theorem xd.ok (a0:Int)(a1:List Int)(a2:List GSchema)(r:Bool)(h:xd a0 a1 a2=some r):ACalls qi 58 [.int .i64 a0,.ds true (qh encI a1) (qg a1) false,.ds true (qh encGSchema a2) (qg a2) false] [] (fun r' _=>r'=.bool r):=by
 refine zj (rs:=[.tmp 6]) tok Tryz.func58 rfl Tryz.ntmps58 rfl Tryz.call58 (by simp) ?_;refine zm [(0,.int .i64 a0),(1,.ds true (qh encI a1) (qg a1) false),(2,.ds true (qh encGSchema a2) (qg a2) false)] ⟨rfl,rfl,rfl,trivial⟩ ?_;unfold xd at h;refine rgN [0,1,2] ?_
 refine zd fun Z1 hZ1=>?_
 refine rc [1,2,32] fun K hK=>?_
 refine za tok 4 ?_;simp only[go_sem,qf,qb,qa,qc,qe,qd,reduceIte,reduceCtorEq,zn];refine zl 4 (fun L τ=>L=[(0,.int .i64 a0),(1,.ds true (qh encI a1) (qg a1) false),(2,.ds true (qh encGSchema a2) (qg a2) false),(17,.bool ((decide ((qg a1:Int)<1))||(decide (12<(qg a1:Int)))))]∧τ=[]) ?_ ?_
 · refine yQ 13 rfl (fun hg13=>?_) (fun hg13=>?_)
   · have t2:=eq_true hg13;refine za tok 4 ?_;simp only[go_sem,qf,qb,qa,qc,qe,qd,reduceIte,reduceCtorEq,zn];refine ze ⟨rfl,_,_,⟨rfl,rfl⟩,.p t2⟩
   have t3:=eq_false hg13;refine za tok 4 ?_;simp only[go_sem,qf,qb,qa,qc,qe,qd,reduceIte,reduceCtorEq,zn];refine ze ⟨rfl,_,_,⟨rfl,rfl⟩,.p t3⟩
 rintro _ _ ⟨rfl,rfl⟩;refine rnN 1 ?_;refine zl 6 (fun L τ=>L=[(0,.int .i64 a0),(1,.ds true (qh encI a1) (qg a1) false),(2,.ds true (qh encGSchema a2) (qg a2) false),(24,.bool (((decide ((qg a1:Int)<1))||(decide (12<(qg a1:Int))))||(!(decide ((qg a2:Int)=(qg a1:Int))))))]∧τ=[]) ?_ ?_
 · refine zR (b:=((decide ((qg a1:Int)<1))||(decide (12<(qg a1:Int))))) 18 rfl (fun hg18=>?_) (fun hg18=>?_)
   · refine za tok 6 ?_;simp only[go_sem,qf,qb,qa,qc,qe,qd,reduceIte,reduceCtorEq,zn];refine ze ⟨rfl,_,_,⟨rfl,rfl⟩,.b hg18⟩
   refine za tok 6 ?_;simp only[go_sem,qf,qb,qa,qc,qe,qd,reduceIte,reduceCtorEq,zn];refine ze ⟨rfl,_,_,⟨rfl,rfl⟩,.b hg18⟩
 rintro _ _ ⟨rfl,rfl⟩;refine rnN 1 ?_;refine zl 3 (fun L τ=>L=[(0,.int .i64 a0),(1,.ds true (qh encI a1) (qg a1) false),(2,.ds true (qh encGSchema a2) (qg a2) false),(28,.bool ((((decide ((qg a1:Int)<1))||(decide (12<(qg a1:Int))))||(!(decide ((qg a2:Int)=(qg a1:Int)))))||(decide (a0<0))))]∧τ=[]) ?_ ?_
 · refine zR (b:=(((decide ((qg a1:Int)<1))||(decide (12<(qg a1:Int))))||(!(decide ((qg a2:Int)=(qg a1:Int)))))) 25 rfl (fun hg25=>?_) (fun hg25=>?_)
   · refine za tok 3 ?_;simp only[go_sem,qf,qb,qa,qc,qe,qd,reduceIte,reduceCtorEq,zn];refine ze ⟨rfl,_,_,⟨rfl,rfl⟩,.b hg25⟩
   refine za tok 3 ?_;simp only[go_sem,qf,qb,qa,qc,qe,qd,reduceIte,reduceCtorEq,zn];refine ze ⟨rfl,_,_,⟨rfl,rfl⟩,.b hg25⟩
 rintro _ _ ⟨rfl,rfl⟩;refine rnN 1 ?_;refine zl 3 (fun L τ=>L=[(1,.ds true (qh encI a1) (qg a1) false),(2,.ds true (qh encGSchema a2) (qg a2) false),(32,.bool (((((decide ((qg a1:Int)<1))||(decide (12<(qg a1:Int))))||(!(decide ((qg a2:Int)=(qg a1:Int)))))||(decide (a0<0)))||(decide (255<a0))))]∧τ=[]) ?_ ?_
 · refine zR (b:=((((decide ((qg a1:Int)<1))||(decide (12<(qg a1:Int))))||(!(decide ((qg a2:Int)=(qg a1:Int)))))||(decide (a0<0)))) 29 rfl (fun hg29=>?_) (fun hg29=>?_)
   · refine za tok 3 ?_;simp only[go_sem,qf,qb,qa,qc,qe,qd,reduceIte,reduceCtorEq,zn];refine ze ⟨rfl,_,_,⟨rfl,rfl⟩,.b hg29⟩
   refine za tok 3 ?_;simp only[go_sem,qf,qb,qa,qc,qe,qd,reduceIte,reduceCtorEq,zn];refine ze ⟨rfl,_,_,⟨rfl,rfl⟩,.b hg29⟩
 rintro _ _ ⟨rfl,rfl⟩;refine nkN hK ?_;refine zs (b:=(((((decide ((qg a1:Int)<1))||(decide (12<(qg a1:Int))))||(!(decide ((qg a2:Int)=(qg a1:Int)))))||(decide (a0<0)))||(decide (255<a0)))) rfl (fun hc4=>?_) (fun hc4=>?_)
 · rw[if_pos hc4] at h;refine rgN [6] ?_;cases h;exact rtA
 rw[xI hc4] at h;apply zf;apply hZ1;refine rgN [1,2,7] ?_
 refine zd fun Z5 hZ5=>?_
 refine rgN [2,7,33,34,35] ?_;apply zg
 refine yq 33 fun hb10=>?_
 replace hb10:qg a1≤9223372036854775807:=hb10.1;refine zP (fun m L τ=>∃ (p10 q10:List Int) (x7:Int) (x6:Int),m=qg q10∧L=[(2,.ds true (qh encGSchema a2) (qg a2) false),(7,.int .i64 x6),(33,.ds true (qh encI a1) (qg a1) false),(34,.int .i64 (qg a1:Int)),(35,.int .i64 x7)]∧τ=[]∧a1=p10++q10∧x7=(qg p10:Int)∧xd.l10 a2 q10 x7 x6=some r) _ ⟨[],a1,0,0,rfl,rfl,rfl,rfl,rfl,h⟩ .s ?_;rintro m L τ ⟨p10,q10,x7,x6,rfl,rfl,rfl,hE10,hi10,h⟩
 rcases q10 with _|⟨y10,q10⟩
 · have hz10:=yN hE10 hi10;simp only[xd.l10] at h
   refine rg tok [2,7,33,34,35,36] fun K hK=>?_
   simp only[go_sem,qf,qb,qa,qc,qe,qd,reduceIte,reduceCtorEq,zn,hz10];apply hK
   refine zd fun Z11 hZ11=>?_
   refine zo rfl ?_;apply zI;apply hZ5
   refine rg tok [6] fun K hK=>?_
   simp only[go_sem,qf,qb,qa,qc,qe,qd,reduceIte,reduceCtorEq,hz10];apply hK
   cases h;exact rtA
 obtain⟨hz10,hw10,hx10,hE'10,hi'10⟩:=yo hE10 hi10 hb10;simp only[xd.l10] at h
 refine rg tok [2,7,33,34,35,36] fun K hK=>?_
 simp only[go_sem,qf,qb,qa,qc,qe,qd,reduceIte,reduceCtorEq,zn,hz10,hw10];apply hK
 refine zd fun Z12 hZ12=>?_
 refine zu rfl ?_;apply zf;apply hZ12
 refine zd fun Z13 hZ13=>?_
 apply zg;have f14:=E26.idxS hx10;have f15:=E26.fldS0 (f:=3) rfl rfl hx10
 refine rg tok [2,7,8,9,33,34,35] fun K hK=>?_
 simp only[go_sem,qf,qb,qa,qc,qe,qd,reduceIte,reduceCtorEq,encI,hz10,hw10,f14,f15];apply hK
 refine zd fun Z16 hZ16=>?_
 refine rc [2,9,33,34,35,54] fun K hK=>?_
 refine za tok 4 ?_;simp only[go_sem,qf,qb,qa,qc,qe,qd,reduceIte,reduceCtorEq,zn,hz10,hw10];refine zl 3 (fun L τ=>L=[(2,.ds true (qh encGSchema a2) (qg a2) false),(8,.int .i64 x7),(9,.int .i64 y10),(33,.ds true (qh encI a1) (qg a1) false),(34,.int .i64 (qg a1:Int)),(35,.int .i64 x7),(46,.bool ((decide (y10≤x6))||(decide (12<y10))))]∧τ=[]) ?_ ?_
 · refine yQ 43 rfl (fun hg43=>?_) (fun hg43=>?_)
   · have t17:=eq_true hg43;refine za tok 3 ?_;simp only[go_sem,qf,qb,qa,qc,qe,qd,reduceIte,reduceCtorEq,zn,hz10,hw10];refine ze ⟨rfl,_,_,⟨rfl,rfl⟩,.p t17⟩
   have t18:=eq_false hg43;refine za tok 3 ?_;simp only[go_sem,qf,qb,qa,qc,qe,qd,reduceIte,reduceCtorEq,zn,hz10,hw10];refine ze ⟨rfl,_,_,⟨rfl,rfl⟩,.p t18⟩
 rintro _ _ ⟨rfl,rfl⟩;refine za tok 1 ?_;simp only[go_sem,qf,qb,qa,qc,qe,qd,reduceIte,reduceCtorEq,hz10,hw10];obtain⟨c19,hc19,h⟩:=bind_some h;refine zl 7 (fun L τ=>L=[(2,.ds true (qh encGSchema a2) (qg a2) false),(9,.int .i64 y10),(33,.ds true (qh encI a1) (qg a1) false),(34,.int .i64 (qg a1:Int)),(35,.int .i64 x7),(54,.bool c19)]∧τ=[]) ?_ ?_
 · refine zR (b:=((decide (y10≤x6))||(decide (12<y10)))) 47 rfl (fun hg47=>?_) (fun hg47=>?_)
   · rw[if_pos hg47] at hc19;refine za tok 7 ?_;simp only[go_sem,qf,qb,qa,qc,qe,qd,reduceIte,reduceCtorEq,zn,encGSchema,hz10,hw10];cases hc19;refine ze ⟨rfl,_,_,⟨rfl,rfl⟩,.b hg47⟩
   rw[xI hg47] at hc19;obtain⟨y20,hy20,hc19⟩:=bind_some hc19;have f21:=E33.idxS hy20;have f22:=E33.loadS rfl rfl hy20;obtain⟨r23,hr23,hc19⟩:=bind_some hc19;refine za tok 4 ?_;simp only[go_sem,qf,qb,qa,qc,qe,qd,reduceIte,reduceCtorEq,encGSchema,hz10,hw10,f21,f22];refine clN rfl rfl rfl (zS.ev y20 r23 hr23 _) ?_;refine za tok 2 ?_;simp only[go_sem,qf,qb,qa,qc,qe,qd,reduceIte,reduceCtorEq,zn,encGSchema,hz10,hw10];cases hc19;refine ze ⟨rfl,_,_,⟨rfl,rfl⟩,.b hg47⟩
 rintro _ _ ⟨rfl,rfl⟩;refine nkN hK ?_;refine zs (b:=c19) rfl (fun hc24=>?_) (fun hc24=>?_)
 · rw[if_pos hc24] at h
   refine rg tok [6] fun K hK=>?_
   simp only[go_sem,qf,qb,qa,qc,qe,qd,reduceIte,reduceCtorEq,hz10,hw10];apply hK
   cases h;exact rtA
 rw[xI hc24] at h;apply zf;apply hZ16
 refine rgE tok [2,7,33,34,35] fun K hK=>?_
 simp only[go_sem,qf,qb,qa,qc,qe,qd,reduceIte,reduceCtorEq,hz10,hw10];apply hK
 apply hZ13
 refine rgE tok [2,7,33,34,35] fun K hK=>?_
 simp only[go_sem,qf,qb,qa,qc,qe,qd,reduceIte,reduceCtorEq,zn,hz10,hw10];apply hK
 exact⟨_,_,_,qE q10.length,⟨p10++[y10],q10,x7+1,y10,rfl,rfl,rfl,hE'10,hi'10,h⟩,.s⟩
theorem xd.ev (a0:Int)(a1:List Int)(a2:List GSchema)(r:Bool)(h:xd a0 a1 a2=some r)(σ:Store):ACalls qi 58 [.int .i64 a0,.ds true (qh encI a1) (qg a1) false,.ds true (qh encGSchema a2) (qg a2) false] σ (fun r' σ'=>r'=.bool r∧σ'=σ):=
 (xd.ok a0 a1 a2 r h).c σ
def yh (a0:GClientClient):Option GSchema:=
 (YD a0.fschemas (IntKind.i64.wrap ((qg a0.fschemas:Int)-1))).bind fun y1=>some y1
theorem yh.ok (a0:GClientClient)(r:GSchema)(h:yh a0=some r):ACalls qi 60 [.op 0 0 0] [.cells 0 (encGClientClient a0)] (fun r' σ'=>r'=.agg (encGSchema r)∧σ'=[.cells 0 (encGClientClient a0)]):=by
 refine xE [0] (rs:=[.cell 2 31]) tok Tryz.func60 rfl Tryz.ntmps60 rfl Tryz.call60 (by simp) rfl ?_;refine zm [(0,.op 0 0 0)] ⟨rfl,trivial⟩ ?_;unfold yh at h;refine rgN [0,2] ?_;obtain⟨y1,hy1,h⟩:=bind_some h;have f2:=E33.idxS hy1;have f3:=E33.loadS rfl rfl hy1
 refine rd [2] fun K hK=>?_
 refine DW.start (T:=tab) [.any,.any,.any,.at [],.any,.any,.any,.at [],.at [],.any,.any,.at [],.eff] [] ?_;refine DW.runN tok 8 ?_;simp only[go_sem,qf,qb,qa,qc,qe,qd,reduceIte,reduceCtorEq,encGSchema,f2,f3];refine DW.runN tok 5 ?_;simp only[go_sem,qf,qb,qa,qc,qe,qd,reduceIte,reduceCtorEq,zn,encGSchema,f2,f3];refine DW.fin tok (by decide +kernel) rfl ?_;simp only[zk,zw,zD,xJ,upd,qa,reduceIte,z1,yA];apply hK
 apply zJ;cases h;simp only[wb,ya,yf,yS,exists_eq_left',go_sem,qf,qb,qa,qc,qe,qd,reduceIte,reduceCtorEq,cellsGTree,encGClientClient,encGPacket,encGSchema,zb];refine⟨by decide,by simp,?_,?_⟩
 · first|rfl|(simp only[go_sem,qf,qb,qa,qc,qe,qd,reduceIte,reduceCtorEq,push_cast,if_true,qn,ql,qp,qs,qo,qq,qv,qm,qt,qr,qk,zh,cellsGTree,encGClientClient,encGPacket,encGSchema,zb]<;>rfl)
 first|rfl|(simp only[go_sem,qf,qb,qa,qc,qe,qd,reduceIte,reduceCtorEq,push_cast,if_true,qn,ql,qp,qs,qo,qq,qv,qm,qt,qr,qk,zh,cellsGTree,encGClientClient,encGPacket,encGSchema,zb]<;>rfl)
def ym.l4 (a1:List UInt8):List GMethod→Int→GMethod×Bool
 |[],x2=>((⟨[],[],[]⟩:GMethod),false)
 |y4::q4,x2=>(if y4.fName=a1 then (y4,true) else ((ym.l4 a1 q4) (x2+1)))
def ym (a0:GSchema)(a1:List UInt8):GMethod×Bool:=
 (ym.l4 a1 a0.fMethods 0)
theorem ym.ok (a0:GSchema)(a1:List UInt8)(r:GMethod×Bool)(h:ym a0 a1=r):ACalls qi 59 [.agg (encGSchema a0),.str a1] [] (fun r' _=>r'=.tup [.agg (encGMethod r.1),.bool r.2]):=by
 refine zj (rs:=[.cell 4 61,.tmp 5]) tok Tryz.func59 rfl Tryz.ntmps59 rfl Tryz.call59 (by simp) ?_;refine zm [(0,.agg (encGSchema a0)),(1,.str a1)] ⟨rfl,rfl,trivial⟩ ?_;unfold ym at h
 refine rg tok [1,2,4] fun K hK=>?_
 simp only[go_sem,qf,qb,qa,qc,qe,qd,reduceIte,reduceCtorEq,encGSchema];apply hK
 refine zd fun Z1 hZ1=>?_
 refine rgN [1,4,9,10,11] ?_;apply zg
 refine yq 9 fun hb4=>?_
 replace hb4:qg a0.fMethods≤9223372036854775807:=hb4.1;refine zP (fun m L τ=>∃ (p4 q4:List GMethod) (x2:Int),m=qg q4∧L=[(1,.str a1),(4,.op 0 0 0),(9,.ds true (qh encGMethod a0.fMethods) (qg a0.fMethods) false),(10,.int .i64 (qg a0.fMethods:Int)),(11,.int .i64 x2)]∧τ=[.cells 0 [.str [],.str [],.str []]]∧a0.fMethods=p4++q4∧x2=(qg p4:Int)∧ym.l4 a1 q4 x2=r) _ ⟨[],a0.fMethods,0,rfl,rfl,rfl,rfl,rfl,h⟩ (.t [1] false) ?_;rintro m L τ ⟨p4,q4,x2,rfl,rfl,rfl,hE4,hi4,h⟩
 rcases q4 with _|⟨y4,q4⟩
 · have hz4:=yN hE4 hi4;simp only[ym.l4] at h
   refine rg tok [1,4,9,10,11,12] fun K hK=>?_
   simp only[go_sem,qf,qb,qa,qc,qe,qd,reduceIte,reduceCtorEq,zn,hz4];apply hK
   refine zd fun Z5 hZ5=>?_
   refine zo rfl ?_;apply zI;apply hZ1
   refine rg tok [4,5] fun K hK=>?_
   simp only[go_sem,qf,qb,qa,qc,qe,qd,reduceIte,reduceCtorEq,encGMethod,hz4];apply hK
   cases h;exact rtA
 obtain⟨hz4,hw4,hx4,hE'4,hi'4⟩:=yo hE4 hi4 hb4;simp only[ym.l4] at h
 refine rg tok [1,4,9,10,11,12] fun K hK=>?_
 simp only[go_sem,qf,qb,qa,qc,qe,qd,reduceIte,reduceCtorEq,zn,hz4,hw4];apply hK
 refine zd fun Z6 hZ6=>?_
 refine zu rfl ?_;apply zf;apply hZ6
 refine zd fun Z7 hZ7=>?_
 apply zg;have f8:=E29.idxS hx4;have f9:=E29.loadS rfl rfl hx4
 refine rg tok [1,4,7,9,10,11] fun K hK=>?_
 simp only[go_sem,qf,qb,qa,qc,qe,qd,reduceIte,reduceCtorEq,encGMethod,hz4,hw4,f8,f9];apply hK
 refine rg tok [1,4,7,9,10,11,18] fun K hK=>?_
 simp only[go_sem,qf,qb,qa,qc,qe,qd,reduceIte,reduceCtorEq,zn,hz4,hw4];apply hK
 refine zM rfl (fun hc10=>?_) (fun hc10=>?_)
 · rw[if_pos hc10] at h;have t11:=eq_true hc10
   refine rg tok [4,5] fun K hK=>?_
   simp only[go_sem,qf,qb,qa,qc,qe,qd,reduceIte,reduceCtorEq,encGMethod,hz4,hw4,t11];apply hK
   cases h;exact rtA
 rw[if_neg hc10] at h;have t12:=eq_false hc10;apply zf;apply hZ7
 refine rgE tok [1,4,9,10,11] fun K hK=>?_
 simp only[go_sem,qf,qb,qa,qc,qe,qd,reduceIte,reduceCtorEq,zn,hz4,hw4,t12];apply hK
 exact⟨_,_,_,qE q4.length,⟨p4++[y4],q4,x2+1,rfl,rfl,rfl,hE'4,hi'4,h⟩,(.t [0] false)⟩
end
section
set_option maxRecDepth 4000
set_option maxHeartbeats 1000000
open AM
theorem ym.ev (a0:GSchema)(a1:List UInt8)(r:GMethod×Bool)(h:ym a0 a1=r)(σ:Store):ACalls qi 59 [.agg (encGSchema a0),.str a1] σ (fun r' σ'=>r'=.tup [.agg (encGMethod r.1),.bool r.2]∧σ'=σ):=
 (ym.ok a0 a1 r h).c σ
def yp.l20 (yP:GTree→Int→Option Int)(a1:Int)(x7:Int)(rec10:Int→Int→Option Int):List GTree→Int→Int→Option Int
 |[],x17,x16=>(rec10 (x7+1) x16)
 |y20::q20,x17,x16=>(yP y20 (IntKind.i64.wrap (a1-1))).bind fun r26=>((yp.l20 yP a1 x7 rec10 q20) (x17+1) (if x16<r26 then r26 else x16))
def yp.l10 (yP:GTree→Int→Option Int)(a1:Int):List GEntry→Int→Int→Option Int
 |[],x7,x6=>some (IntKind.i64.wrap (x6+1))
 |y10::q10,x7,x6=>(yp.l20 yP a1 x7 (yp.l10 yP a1 q10) y10.fTrees 0 x6)
def yp.body (yP:GTree→Int→Option Int)(a0:GTree)(a1:Int):Option Int:=
 (if ((!(decide (a0.fKind=3)))||(decide (a1=0)))=true then some 0 else (yp.l10 yP a1 a0.fEntries 0 0))
theorem yp.step (yP:GTree→Int→Option Int)(ih_value_deep:∀ (a0:GTree) (a1:Int) (r:Int),yP a0 a1=some r→ACalls qi 179 [.agg (cellsGTree a0),.int .i64 a1] [] (fun r' _=>r'=.int .i64 r))(a0:GTree)(a1:Int)(r:Int)(h:yp.body yP a0 a1=some r):ACalls qi 179 [.agg (cellsGTree a0),.int .i64 a1] [] (fun r' _=>r'=.int .i64 r):=by
 have ev_value_deep:=fun a0 a1 r h σ=>(ih_value_deep a0 a1 r h).c σ
 refine zj (rs:=[.tmp 4]) tok Tryz.func179 rfl Tryz.ntmps179 rfl Tryz.call179 (by simp) ?_;refine zm [(0,.agg (cellsGTree a0)),(1,.int .i64 a1)] ⟨rfl,rfl,trivial⟩ ?_;unfold yp.body at h
 refine rg tok [1,2] fun K hK=>?_
 simp only[go_sem,qf,qb,qa,qc,qe,qd,reduceIte,reduceCtorEq,cellsGTree,zb];apply hK
 refine zd fun Z1 hZ1=>?_
 refine rc [1,2,16] fun K hK=>?_
 refine za tok 4 ?_;simp only[go_sem,qf,qb,qa,qc,qe,qd,reduceIte,reduceCtorEq,zn];refine zl 3 (fun L τ=>L=[(1,.int .i64 a1),(2,.op 0 0 0),(16,.bool ((!(decide (a0.fKind=3)))||(decide (a1=0))))]∧τ=[.cells 0 (cellsGTree a0)]) ?_ ?_
 · refine yQ 13 rfl (fun hg13=>?_) (fun hg13=>?_)
   · have t2:=eq_false hg13;refine za tok 3 ?_;simp only[go_sem,qf,qb,qa,qc,qe,qd,reduceIte,reduceCtorEq,zn];refine ze ⟨rfl,_,_,⟨rfl,rfl⟩,.p t2⟩
   have t3:=eq_true hg13;refine za tok 3 ?_;simp only[go_sem,qf,qb,qa,qc,qe,qd,reduceIte,reduceCtorEq,zn];refine ze ⟨rfl,_,_,⟨rfl,rfl⟩,.p t3⟩
 rintro _ _ ⟨rfl,rfl⟩;refine nkN hK ?_;refine zs (b:=((!(decide (a0.fKind=3)))||(decide (a1=0)))) rfl (fun hc4=>?_) (fun hc4=>?_)
 · rw[if_pos hc4] at h;refine rgN [4] ?_;cases h;exact rtA
 rw[xI hc4] at h;apply zf;apply hZ1;refine rgN [1,2,5] ?_
 refine zd fun Z5 hZ5=>?_
 refine rgN [1,5,18,19,20] ?_;apply zg
 refine yq 18 fun hb10=>?_
 replace hb10:qg a0.fEntries≤9223372036854775807:=hb10.1;refine zP (fun m L τ=>∃ (p10 q10:List GEntry) (x7:Int) (x6:Int),m=qg q10∧L=[(1,.int .i64 a1),(5,.int .i64 x6),(18,.ds true (qh encGEntry a0.fEntries) (qg a0.fEntries) false),(19,.int .i64 (qg a0.fEntries:Int)),(20,.int .i64 x7)]∧τ=[]∧a0.fEntries=p10++q10∧x7=(qg p10:Int)∧yp.l10 yP a1 q10 x7 x6=some r) _ ⟨[],a0.fEntries,0,0,rfl,rfl,rfl,rfl,rfl,h⟩ (.t [] false) ?_;rintro m L τ ⟨p10,q10,x7,x6,rfl,rfl,rfl,hE10,hi10,h⟩
 rcases q10 with _|⟨y10,q10⟩
 · have hz10:=yN hE10 hi10;simp only[yp.l10] at h
   refine rg tok [1,5,18,19,20,21] fun K hK=>?_
   simp only[go_sem,qf,qb,qa,qc,qe,qd,reduceIte,reduceCtorEq,zn,hz10];apply hK
   refine zd fun Z11 hZ11=>?_
   refine zo rfl ?_;apply zI;apply hZ5
   refine rg tok [4] fun K hK=>?_
   simp only[go_sem,qf,qb,qa,qc,qe,qd,reduceIte,reduceCtorEq,zn,hz10];apply hK
   cases h;exact rtA
 obtain⟨hz10,hw10,hx10,hE'10,hi'10⟩:=yo hE10 hi10 hb10;simp only[yp.l10] at h
 refine rg tok [1,5,18,19,20,21] fun K hK=>?_
 simp only[go_sem,qf,qb,qa,qc,qe,qd,reduceIte,reduceCtorEq,zn,hz10,hw10];apply hK
 refine zd fun Z12 hZ12=>?_
 refine zu rfl ?_;apply zf;apply hZ12
 refine zd fun Z13 hZ13=>?_
 apply zg;have f14:=E34.idxS hx10;have f15:=E34.loadS rfl rfl hx10
 refine rg tok [1,5,7,18,19,20] fun K hK=>?_
 simp only[go_sem,qf,qb,qa,qc,qe,qd,reduceIte,reduceCtorEq,cellsGEntry,zN,hz10,hw10,f14,f15];apply hK
 refine rg tok [1,5,18,19,20,25,26,27] fun K hK=>?_
 simp only[go_sem,qf,qb,qa,qc,qe,qd,reduceIte,reduceCtorEq,hz10,hw10];apply hK
 apply zg
 refine yq 25 fun hb20=>?_
 replace hb20:qg y10.fTrees≤9223372036854775807:=hb20.1;refine zP (fun m L τ=>∃ (p20 q20:List GTree) (x17:Int) (x16:Int),m=qg q20∧L=[(1,.int .i64 a1),(5,.int .i64 x16),(18,.ds true (qh encGEntry a0.fEntries) (qg a0.fEntries) false),(19,.int .i64 (qg a0.fEntries:Int)),(20,.int .i64 x7),(25,.ds true (qh encGTree y10.fTrees) (qg y10.fTrees) false),(26,.int .i64 (qg y10.fTrees:Int)),(27,.int .i64 x17)]∧τ=[]∧y10.fTrees=p20++q20∧x17=(qg p20:Int)∧yp.l20 yP a1 x7 (yp.l10 yP a1 q10) q20 x17 x16=some r) _ ⟨[],y10.fTrees,0,x6,rfl,rfl,rfl,rfl,rfl,h⟩ (.t [] false) ?_;rintro m L τ ⟨p20,q20,x17,x16,rfl,rfl,rfl,hE20,hi20,h⟩
 rcases q20 with _|⟨y20,q20⟩
 · have hz20:=yN hE20 hi20;simp only[yp.l20] at h
   refine rg tok [1,5,18,19,20,25,26,27,28] fun K hK=>?_
   simp only[go_sem,qf,qb,qa,qc,qe,qd,reduceIte,reduceCtorEq,zn,hz10,hw10,hz20];apply hK
   refine zd fun Z21 hZ21=>?_
   refine zo rfl ?_;apply zI;apply hZ13
   refine rgE tok [1,5,18,19,20] fun K hK=>?_
   simp only[go_sem,qf,qb,qa,qc,qe,qd,reduceIte,reduceCtorEq,zn,hz10,hw10,hz20];apply hK
   exact⟨_,_,_,qE q10.length,⟨p10++[y10],q10,x7+1,x16,rfl,rfl,rfl,hE'10,hi'10,h⟩,.s⟩
 obtain⟨hz20,hw20,hx20,hE'20,hi'20⟩:=yo hE20 hi20 hb20;simp only[yp.l20] at h
 refine rg tok [1,5,18,19,20,25,26,27,28] fun K hK=>?_
 simp only[go_sem,qf,qb,qa,qc,qe,qd,reduceIte,reduceCtorEq,zn,hz10,hw10,hz20,hw20];apply hK
 refine zd fun Z22 hZ22=>?_
 refine zu rfl ?_;apply zf;apply hZ22
 refine zd fun Z23 hZ23=>?_
 apply zg;have f24:=E38.idxS hx20;have f25:=E38.loadS rfl rfl hx20
 refine rg tok [1,5,9,18,19,20,25,26,27] fun K hK=>?_
 simp only[go_sem,qf,qb,qa,qc,qe,qd,reduceIte,reduceCtorEq,cellsGTree,zb,hz10,hw10,hz20,hw20,f24,f25];apply hK
 refine rcE [1,5,18,19,20,25,26,27] fun K hK=>?_
 obtain⟨r26,hr26,h⟩:=bind_some h;refine za tok 4 ?_;simp only[go_sem,qf,qb,qa,qc,qe,qd,reduceIte,reduceCtorEq,zn,cellsGTree,zb,hz10,hw10,hz20,hw20];refine clN rfl rfl rfl (ev_value_deep y20 (IntKind.i64.wrap (a1-1)) r26 hr26 _) ?_;refine za tok 2 ?_;simp only[go_sem,qf,qb,qa,qc,qe,qd,reduceIte,reduceCtorEq,XZ,foldO,vaw,cellsGTree,zb,hz10,hw10,hz20,hw20];refine nkN hK ?_;apply hZ23
 refine rgE tok [1,5,18,19,20,25,26,27] fun K hK=>?_
 simp only[go_sem,qf,qb,qa,qc,qe,qd,reduceIte,reduceCtorEq,zn,hz10,hw10,hz20,hw20];apply hK
 exact⟨_,_,_,qE q20.length,⟨p20++[y20],q20,x17+1,(if x16<r26 then r26 else x16),rfl,rfl,rfl,hE'20,hi'20,h⟩,(.t [] false)⟩
def yp : Nat→GTree→Int→Option Int
 |0,_,_=>none
 |k+1,a0,a1=>yp.body (yp k) a0 a1
theorem yp.all (k:Nat):(∀ (a0:GTree) (a1:Int) (r:Int),yp k a0 a1=some r→ACalls qi 179 [.agg (cellsGTree a0),.int .i64 a1] [] (fun r' _=>r'=.int .i64 r)):=by
 induction k with
 |zero=>exact (fun a0 a1 r h=>by simp only[yp] at h; cases h)
 |succ k ih=>exact (fun a0 a1 r h=>yp.step _ ih a0 a1 r (by simpa only [yp] using h))
theorem yp.ev (k:Nat)(a0:GTree)(a1:Int)(r:Int)(h:yp k a0 a1=some r)(σ:Store):ACalls qi 179 [.agg (cellsGTree a0),.int .i64 a1] σ (fun r' σ'=>r'=.int .i64 r∧σ'=σ):=
 ((yp.all k) a0 a1 r h).c σ
def ww (a0:GTree):Option Int:=
 (yp xl a0 101).bind fun r1=>some r1
theorem ww.ok (a0:GTree)(r:Int)(h:ww a0=some r):ACalls qi 139 [.agg (cellsGTree a0)] [] (fun r' _=>r'=.int .i64 r):=by
 refine zj (rs:=[.tmp 2]) tok Tryz.func139 rfl Tryz.ntmps139 rfl Tryz.call139 (by simp) ?_;refine zm [(0,.agg (cellsGTree a0))] ⟨rfl,trivial⟩ ?_;unfold ww at h
 refine rg tok [1] fun K hK=>?_
 simp only[go_sem,qf,qb,qa,qc,qe,qd,reduceIte,reduceCtorEq,cellsGTree,zb];apply hK
 refine rc [2] fun K hK=>?_
 obtain⟨r1,hr1,h⟩:=bind_some h;refine za tok 1 ?_;simp only[go_sem,qf,qb,qa,qc,qe,qd,reduceIte,reduceCtorEq,cellsGTree,zb];refine clN rfl rfl rfl (yp.ev xl a0 101 r1 hr1 _) ?_;refine za tok 1 ?_;simp only[go_sem,qf,qb,qa,qc,qe,qd,reduceIte,reduceCtorEq,cellsGTree,zb];refine nkN hK ?_;cases h;exact rtA
theorem ww.ev (a0:GTree)(r:Int)(h:ww a0=some r)(σ:Store):ACalls qi 139 [.agg (cellsGTree a0)] σ (fun r' σ'=>r'=.int .i64 r∧σ'=σ):=
 (ww.ok a0 r h).c σ
def xT (a0:GRaw):Bool:=
 (if ((decide (a0.fTag<1))||(decide (500<a0.fTag)))=true then false else (if a0.fWire=0 then decide (a0.fB=[]) else (if a0.fWire=1 then ((decide (a0.fN=0))&&(decide ((qg a0.fB:Int)≤4096))) else false)))
theorem xT.ok (a0:GRaw)(r:Bool)(h:xT a0=r):ACalls qi 147 [.agg (encGRaw a0)] [] (fun r' _=>r'=.bool r):=by
 refine zj (rs:=[.tmp 2]) tok Tryz.func147 rfl Tryz.ntmps147 rfl Tryz.call147 (by simp) ?_;refine zm [(0,.agg (encGRaw a0))] ⟨rfl,trivial⟩ ?_;unfold xT at h
 refine rg tok [1] fun K hK=>?_
 simp only[go_sem,qf,qb,qa,qc,qe,qd,reduceIte,reduceCtorEq,encGRaw];apply hK
 refine zd fun Z1 hZ1=>?_
 refine rc [1,10] fun K hK=>?_
 refine za tok 4 ?_;simp only[go_sem,qf,qb,qa,qc,qe,qd,reduceIte,reduceCtorEq,zn];refine zl 4 (fun L τ=>L=[(1,.op 0 0 0),(10,.bool ((decide (a0.fTag<1))||(decide (500<a0.fTag))))]∧τ=[.cells 0 [.int .i64 a0.fTag,.int .i64 a0.fWire,.int .i64 a0.fN,.str a0.fB]]) ?_ ?_
 · refine yQ 6 rfl (fun hg6=>?_) (fun hg6=>?_)
   · have t2:=eq_true hg6;refine za tok 4 ?_;simp only[go_sem,qf,qb,qa,qc,qe,qd,reduceIte,reduceCtorEq,zn];refine ze ⟨rfl,_,_,⟨rfl,rfl⟩,.p t2⟩
   have t3:=eq_false hg6;refine za tok 4 ?_;simp only[go_sem,qf,qb,qa,qc,qe,qd,reduceIte,reduceCtorEq,zn];refine ze ⟨rfl,_,_,⟨rfl,rfl⟩,.p t3⟩
 rintro _ _ ⟨rfl,rfl⟩;refine nkN hK ?_;refine zs (b:=((decide (a0.fTag<1))||(decide (500<a0.fTag)))) rfl (fun hc4=>?_) (fun hc4=>?_)
 · rw[if_pos hc4] at h;refine rgN [2] ?_;cases h;exact rtA
 rw[xI hc4] at h;apply zf;apply hZ1
 refine zd fun Z5 hZ5=>?_
 refine rgN [1,12] ?_;apply zg
 refine rg tok [1,12,13] fun K hK=>?_
 simp only[go_sem,qf,qb,qa,qc,qe,qd,reduceIte,reduceCtorEq,zn];apply hK
 refine zM rfl (fun hc6=>?_) (fun hc6=>?_)
 · rw[if_pos hc6] at h;have t7:=eq_true hc6
   refine rg tok [2] fun K hK=>?_
   simp only[go_sem,qf,qb,qa,qc,qe,qd,reduceIte,reduceCtorEq,zn,t7];apply hK
   cases h;exact rtA
 rw[if_neg hc6] at h;have t8:=eq_false hc6
 refine rg tok [1,18] fun K hK=>?_
 simp only[go_sem,qf,qb,qa,qc,qe,qd,reduceIte,reduceCtorEq,zn,t8];apply hK
 refine zM rfl (fun hc9=>?_) (fun hc9=>?_)
 · rw[if_pos hc9] at h;have t10:=eq_true hc9
   refine rc [2] fun K hK=>?_
   refine za tok 4 ?_;simp only[go_sem,qf,qb,qa,qc,qe,qd,reduceIte,reduceCtorEq,zn,t8,t10];refine zl 5 (fun L τ=>L=[(28,.bool ((decide (a0.fN=0))&&(decide ((qg a0.fB:Int)≤4096))))]∧τ=[.cells 0 [.int .i64 a0.fTag,.int .i64 a0.fWire,.int .i64 a0.fN,.str a0.fB]]) ?_ ?_
   · refine yQ 23 rfl (fun hg23=>?_) (fun hg23=>?_)
     · have t11:=eq_true hg23;refine za tok 5 ?_;simp only[go_sem,qf,qb,qa,qc,qe,qd,reduceIte,reduceCtorEq,zn,t8,t10];refine ze ⟨rfl,_,_,⟨rfl,rfl⟩,.p t11⟩
     have t12:=eq_false hg23;refine za tok 5 ?_;simp only[go_sem,qf,qb,qa,qc,qe,qd,reduceIte,reduceCtorEq,zn,t8,t10];refine ze ⟨rfl,_,_,⟨rfl,rfl⟩,.p t12⟩
   rintro _ _ ⟨rfl,rfl⟩;refine za tok 1 ?_;simp only[go_sem,qf,qb,qa,qc,qe,qd,reduceIte,reduceCtorEq,t8,t10];refine nkN hK ?_;cases h;exact rtA
 rw[if_neg hc9] at h;have t13:=eq_false hc9;apply zf;apply hZ5
 refine rg tok [2] fun K hK=>?_
 simp only[go_sem,qf,qb,qa,qc,qe,qd,reduceIte,reduceCtorEq,t8,t13];apply hK
 cases h;exact rtA
theorem xT.ev (a0:GRaw)(r:Bool)(h:xT a0=r)(σ:Store):ACalls qi 147 [.agg (encGRaw a0)] σ (fun r' σ'=>r'=.bool r∧σ'=σ):=
 (xT.ok a0 r h).c σ
def xA.l4 (a0:List GRaw):Nat→Int→Option Bool
 |0,_=>none
 |k4+1,x2=>(if x2<(qg a0:Int) then (YD a0 x2).bind fun y9=>(YD a0 (IntKind.i64.wrap (x2-1))).bind fun y12=>(if y9.fTag<y12.fTag then some false else ((xA.l4 a0 k4) (IntKind.i64.wrap (x2+1)))) else some true)
def xA (a0:List GRaw):Option Bool:=
 (xA.l4 a0 xl 1)
theorem xA.ok (a0:List GRaw)(r:Bool)(h:xA a0=some r):ACalls qi 223 [.ds true (qh encGRaw a0) (qg a0) false] [] (fun r' _=>r'=.bool r):=by
 refine zj (rs:=[.tmp 2]) tok Tryz.func223 rfl Tryz.ntmps223 rfl Tryz.call223 (by simp) ?_;refine zm [(0,.ds true (qh encGRaw a0) (qg a0) false)] ⟨rfl,trivial⟩ ?_;unfold xA at h;refine rgN [0] ?_
 refine zd fun Z1 hZ1=>?_
 refine rgN [0,3] ?_;apply zg;refine zP (fun m L τ=>∃ (k4:Nat) (x2:Int),m=0+k4∧L=[(0,.ds true (qh encGRaw a0) (qg a0) false),(3,.int .i64 x2)]∧τ=[]∧xA.l4 a0 k4 x2=some r) _ ⟨xl,1,rfl,rfl,rfl,h⟩ .s ?_;rintro m L τ ⟨k4,x2,rfl,rfl,rfl,h⟩
 rcases k4 with _|k4
 · cases h
 simp only[xA.l4] at h
 refine zd fun Z5 hZ5=>?_
 refine rg tok [0,3,7] fun K hK=>?_
 simp only[go_sem,qf,qb,qa,qc,qe,qd,reduceIte,reduceCtorEq,zn];apply hK
 refine zM rfl (fun hc6=>?_) (fun hc6=>?_)
 · rw[if_pos hc6] at h;have t7:=eq_true hc6;apply zf;apply hZ5
   refine zd fun Z8 hZ8=>?_
   apply zg;obtain⟨y9,hy9,h⟩:=bind_some h;have f10:=E35.idxS hy9;have f11:=E35.fldS0 (f:=3) rfl rfl hy9;obtain⟨y12,hy12,h⟩:=bind_some h;have f13:=E35.idxS hy12;have f14:=E35.fldS0 (f:=3) rfl rfl hy12
   refine rd [0,3,21] fun K hK=>?_
   refine DW.start (T:=tab) [.any,.any,.any,.any,.at [],.any,.any,.any,.any,.any,.at [],.any] [] ?_;refine DW.runN tok 8 ?_;simp only[go_sem,qf,qb,qa,qc,qe,qd,reduceIte,reduceCtorEq,zn,encGRaw,t7,f10,f11,f13,f14];refine DW.runN tok 4 ?_;simp only[go_sem,qf,qb,qa,qc,qe,qd,reduceIte,reduceCtorEq,zn,encGRaw,t7,f10,f11,f13,f14];refine DW.fin tok (by decide +kernel) rfl ?_;simp only[zk,zw,zD,xJ,upd,qa,reduceIte,z1,yA];apply hK
   refine zM rfl (fun hc15=>?_) (fun hc15=>?_)
   · rw[if_pos hc15] at h;have t16:=eq_true hc15
     refine rg tok [2] fun K hK=>?_
     simp only[go_sem,qf,qb,qa,qc,qe,qd,reduceIte,reduceCtorEq,t7,t16];apply hK
     cases h;exact rtA
   rw[if_neg hc15] at h;have t17:=eq_false hc15;apply zf;apply hZ8
   refine rgE tok [0,3] fun K hK=>?_
   simp only[go_sem,qf,qb,qa,qc,qe,qd,reduceIte,reduceCtorEq,zn,t7,t17];apply hK
   exact⟨_,_,_,qE (0+k4),⟨k4,IntKind.i64.wrap (x2+1),rfl,rfl,rfl,h⟩,.s⟩
 rw[if_neg hc6] at h;have t18:=eq_false hc6;apply zI;apply hZ1
 refine rg tok [2] fun K hK=>?_
 simp only[go_sem,qf,qb,qa,qc,qe,qd,reduceIte,reduceCtorEq,t18];apply hK
 cases h;exact rtA
theorem xA.ev (a0:List GRaw)(r:Bool)(h:xA a0=some r)(σ:Store):ACalls qi 223 [.ds true (qh encGRaw a0) (qg a0) false] σ (fun r' σ'=>r'=.bool r∧σ'=σ):=
 (xA.ok a0 r h).c σ
def yW.l16 (x2:Int)(rec4:Int→Option Bool)(y4:GRaw):List GEntry→Int→Option Bool
 |[],x14=>(rec4 (x2+1))
 |y16::q16,x14=>(if y16.fTag=y4.fTag then some false else ((yW.l16 x2 rec4 y4 q16) (x14+1)))
def yW.l4 (a0:GTree):List GRaw→Int→Option Bool
 |[],x2=>(xA a0.fRest).bind fun r6=>some r6
 |y4::q4,x2=>bnd (xT y4) fun r12=>(if (!r12)=true then some false else (yW.l16 x2 (yW.l4 a0 q4) y4 a0.fEntries 0))
def yW (a0:GTree):Option Bool:=
 (yW.l4 a0 a0.fRest 0)
theorem yW.ok (a0:GTree)(r:Bool)(h:yW a0=some r):ACalls qi 181 [.agg (cellsGTree a0)] [] (fun r' _=>r'=.bool r):=by
 refine zj (rs:=[.tmp 2]) tok Tryz.func181 rfl Tryz.ntmps181 rfl Tryz.call181 (by simp) ?_;refine zm [(0,.agg (cellsGTree a0))] ⟨rfl,trivial⟩ ?_;unfold yW at h
 refine rg tok [1] fun K hK=>?_
 simp only[go_sem,qf,qb,qa,qc,qe,qd,reduceIte,reduceCtorEq,cellsGTree,zb];apply hK
 refine zd fun Z1 hZ1=>?_
 refine rgN [1,8,9,10] ?_;apply zg
 refine yq 8 fun hb4=>?_
 replace hb4:qg a0.fRest≤9223372036854775807:=hb4.1;refine zP (fun m L τ=>∃ (p4 q4:List GRaw) (x2:Int),m=qg q4∧L=[(1,.op 0 0 0),(8,.ds true (qh encGRaw a0.fRest) (qg a0.fRest) false),(9,.int .i64 (qg a0.fRest:Int)),(10,.int .i64 x2)]∧τ=[.cells 0 (cellsGTree a0)]∧a0.fRest=p4++q4∧x2=(qg p4:Int)∧yW.l4 a0 q4 x2=some r) _ ⟨[],a0.fRest,0,rfl,rfl,rfl,rfl,rfl,h⟩ .s ?_;rintro m L τ ⟨p4,q4,x2,rfl,rfl,rfl,hE4,hi4,h⟩
 rcases q4 with _|⟨y4,q4⟩
 · have hz4:=yN hE4 hi4;simp only[yW.l4] at h
   refine rg tok [1,8,9,10,11] fun K hK=>?_
   simp only[go_sem,qf,qb,qa,qc,qe,qd,reduceIte,reduceCtorEq,zn,hz4];apply hK
   refine zd fun Z5 hZ5=>?_
   refine zo rfl ?_;apply zI;apply hZ1
   refine rc [2] fun K hK=>?_
   obtain⟨r6,hr6,h⟩:=bind_some h;refine za tok 2 ?_;simp only[go_sem,qf,qb,qa,qc,qe,qd,reduceIte,reduceCtorEq,hz4];refine clN rfl rfl rfl (xA.ev a0.fRest r6 hr6 _) ?_;refine za tok 1 ?_;simp only[go_sem,qf,qb,qa,qc,qe,qd,reduceIte,reduceCtorEq,hz4];refine nkN hK ?_;cases h;exact rtA
 obtain⟨hz4,hw4,hx4,hE'4,hi'4⟩:=yo hE4 hi4 hb4;simp only[yW.l4] at h
 refine rg tok [1,8,9,10,11] fun K hK=>?_
 simp only[go_sem,qf,qb,qa,qc,qe,qd,reduceIte,reduceCtorEq,zn,hz4,hw4];apply hK
 refine zd fun Z7 hZ7=>?_
 refine zu rfl ?_;apply zf;apply hZ7
 refine zd fun Z8 hZ8=>?_
 apply zg;have f9:=E35.idxS hx4;have f10:=E35.loadS rfl rfl hx4
 refine rg tok [1,4,8,9,10] fun K hK=>?_
 simp only[go_sem,qf,qb,qa,qc,qe,qd,reduceIte,reduceCtorEq,encGRaw,hz4,hw4,f9,f10];apply hK
 refine zd fun Z11 hZ11=>?_
 refine rc [1,4,8,9,10,16] fun K hK=>?_
 obtain⟨r12,hr12,h⟩:=zB h;refine za tok 1 ?_;simp only[go_sem,qf,qb,qa,qc,qe,qd,reduceIte,reduceCtorEq,encGRaw,hz4,hw4];refine clN rfl rfl rfl (xT.ev y4 r12 hr12 _) ?_;refine za tok 1 ?_;simp only[go_sem,qf,qb,qa,qc,qe,qd,reduceIte,reduceCtorEq,encGRaw,hz4,hw4];refine nkN hK ?_;refine zs (b:=(!r12)) rfl (fun hc13=>?_) (fun hc13=>?_)
 · rw[if_pos hc13] at h
   refine rg tok [2] fun K hK=>?_
   simp only[go_sem,qf,qb,qa,qc,qe,qd,reduceIte,reduceCtorEq,hz4,hw4];apply hK
   cases h;exact rtA
 rw[xI hc13] at h;apply zf;apply hZ11
 refine rg tok [1,4,8,9,10,18,19,20] fun K hK=>?_
 simp only[go_sem,qf,qb,qa,qc,qe,qd,reduceIte,reduceCtorEq,hz4,hw4];apply hK
 apply zg
 refine yq 18 fun hb16=>?_
 replace hb16:qg a0.fEntries≤9223372036854775807:=hb16.1;refine zP (fun m L τ=>∃ (p16 q16:List GEntry) (x14:Int),m=qg q16∧L=[(1,.op 0 0 0),(4,.op 1 0 0),(8,.ds true (qh encGRaw a0.fRest) (qg a0.fRest) false),(9,.int .i64 (qg a0.fRest:Int)),(10,.int .i64 x2),(18,.ds true (qh encGEntry a0.fEntries) (qg a0.fEntries) false),(19,.int .i64 (qg a0.fEntries:Int)),(20,.int .i64 x14)]∧τ=[.cells 0 (cellsGTree a0),.cells 0 [.int .i64 y4.fTag,.int .i64 y4.fWire,.int .i64 y4.fN,.str y4.fB]]∧a0.fEntries=p16++q16∧x14=(qg p16:Int)∧yW.l16 x2 (yW.l4 a0 q4) y4 q16 x14=some r) _ ⟨[],a0.fEntries,0,rfl,rfl,rfl,rfl,rfl,h⟩ .s ?_;rintro m L τ ⟨p16,q16,x14,rfl,rfl,rfl,hE16,hi16,h⟩
 rcases q16 with _|⟨y16,q16⟩
 · have hz16:=yN hE16 hi16;simp only[yW.l16] at h
   refine rg tok [1,4,8,9,10,18,19,20,21] fun K hK=>?_
   simp only[go_sem,qf,qb,qa,qc,qe,qd,reduceIte,reduceCtorEq,zn,hz4,hw4,hz16];apply hK
   refine zd fun Z17 hZ17=>?_
   refine zo rfl ?_;apply zI;apply hZ8
   refine rgE tok [1,8,9,10] fun K hK=>?_
   simp only[go_sem,qf,qb,qa,qc,qe,qd,reduceIte,reduceCtorEq,zn,hz4,hw4,hz16];apply hK
   exact⟨_,_,_,qE q4.length,⟨p4++[y4],q4,x2+1,rfl,rfl,rfl,hE'4,hi'4,h⟩,(.t [0] false)⟩
 obtain⟨hz16,hw16,hx16,hE'16,hi'16⟩:=yo hE16 hi16 hb16;simp only[yW.l16] at h
 refine rg tok [1,4,8,9,10,18,19,20,21] fun K hK=>?_
 simp only[go_sem,qf,qb,qa,qc,qe,qd,reduceIte,reduceCtorEq,zn,hz4,hw4,hz16,hw16];apply hK
 refine zd fun Z18 hZ18=>?_
 refine zu rfl ?_;apply zf;apply hZ18
 refine zd fun Z19 hZ19=>?_
 apply zg;have f20:=E34.idxS hx16;have f21:=E34.loadS rfl rfl hx16
 refine rg tok [1,4,6,8,9,10,18,19,20] fun K hK=>?_
 simp only[go_sem,qf,qb,qa,qc,qe,qd,reduceIte,reduceCtorEq,cellsGEntry,zN,hz4,hw4,hz16,hw16,f20,f21];apply hK
 refine rg tok [1,4,8,9,10,18,19,20,28] fun K hK=>?_
 simp only[go_sem,qf,qb,qa,qc,qe,qd,reduceIte,reduceCtorEq,zn,hz4,hw4,hz16,hw16];apply hK
 refine zM rfl (fun hc22=>?_) (fun hc22=>?_)
 · rw[if_pos hc22] at h;have t23:=eq_true hc22
   refine rg tok [2] fun K hK=>?_
   simp only[go_sem,qf,qb,qa,qc,qe,qd,reduceIte,reduceCtorEq,hz4,hw4,hz16,hw16,t23];apply hK
   cases h;exact rtA
 rw[if_neg hc22] at h;have t24:=eq_false hc22;apply zf;apply hZ19
 refine rgE tok [1,4,8,9,10,18,19,20] fun K hK=>?_
 simp only[go_sem,qf,qb,qa,qc,qe,qd,reduceIte,reduceCtorEq,zn,hz4,hw4,hz16,hw16,t24];apply hK
 exact⟨_,_,_,qE q16.length,⟨p16++[y16],q16,x14+1,rfl,rfl,rfl,hE'16,hi'16,h⟩,(.t [0,1] false)⟩
theorem yW.ev (a0:GTree)(r:Bool)(h:yW a0=some r)(σ:Store):ACalls qi 181 [.agg (cellsGTree a0)] σ (fun r' σ'=>r'=.bool r∧σ'=σ):=
 (yW.ok a0 r h).c σ
def zG.j25 (x16:Int)(rec18:Int→Option Bool)(x24:Bool):Option Bool:=
 (if x24=true then some false else (rec18 (x16+1)))
def zG.l18 (zU:GTree→Option Bool)(x3:Int)(rec6:Int→Int→Option Bool)(y6:GEntry):List GTree→Int→Option Bool
 |[],x16=>(rec6 (x3+1) y6.fTag)
 |y18::q18,x16=>(YD y6.fTrees 0).bind fun y27=>(if y18.fKind=y27.fKind then (zU y18).bind fun r32=>(zG.j25 x16 (zG.l18 zU x3 rec6 y6 q18) (!r32)) else (zG.j25 x16 (zG.l18 zU x3 rec6 y6 q18) true))
def zG.l6 (zU:GTree→Option Bool):List GEntry→Int→Int→Option Bool
 |[],x3,x2=>some true
 |y6::q6,x3,x2=>(if ((((decide (y6.fTag≤x2))||(decide (500<y6.fTag)))||(decide ((qg y6.fTrees:Int)<1)))||(decide (64<(qg y6.fTrees:Int))))=true then some false else (zG.l18 zU x3 (zG.l6 zU q6) y6 y6.fTrees 0))
def zG.body (xf:GTree→Option Bool)(zU:GTree→Option Bool)(a0:GTree):Option Bool:=
 (zG.l6 zU a0.fEntries 0 0)
theorem zG.step (xf:GTree→Option Bool)(zU:GTree→Option Bool)(Zu:∀ (a0:GTree) (r:Bool),xf a0=some r→ACalls qi 180 [.agg (cellsGTree a0)] [] (fun r' _=>r'=.bool r))(ZZ:∀ (a0:GTree) (r:Bool),zU a0=some r→ACalls qi 140 [.agg (cellsGTree a0)] [] (fun r' _=>r'=.bool r))(a0:GTree)(r:Bool)(h:zG.body xf zU a0=some r):ACalls qi 180 [.agg (cellsGTree a0)] [] (fun r' _=>r'=.bool r):=by
 have ev_value_entries:=fun a0 r h σ=>(Zu a0 r h).c σ
 have ev_value_right:=fun a0 r h σ=>(ZZ a0 r h).c σ
 refine zj (rs:=[.tmp 2]) tok Tryz.func180 rfl Tryz.ntmps180 rfl Tryz.call180 (by simp) ?_;refine zm [(0,.agg (cellsGTree a0))] ⟨rfl,trivial⟩ ?_;unfold zG.body at h
 refine rg tok [1] fun K hK=>?_
 simp only[go_sem,qf,qb,qa,qc,qe,qd,reduceIte,reduceCtorEq,cellsGTree,zb];apply hK
 refine rgN [1,3] ?_
 refine zd fun Z1 hZ1=>?_
 refine rgN [3,9,10,11] ?_;apply zg
 refine yq 9 fun hb6=>?_
 replace hb6:qg a0.fEntries≤9223372036854775807:=hb6.1;refine zP (fun m L τ=>∃ (p6 q6:List GEntry) (x3:Int) (x2:Int),m=qg q6∧L=[(3,.int .i64 x2),(9,.ds true (qh encGEntry a0.fEntries) (qg a0.fEntries) false),(10,.int .i64 (qg a0.fEntries:Int)),(11,.int .i64 x3)]∧τ=[]∧a0.fEntries=p6++q6∧x3=(qg p6:Int)∧zG.l6 zU q6 x3 x2=some r) _ ⟨[],a0.fEntries,0,0,rfl,rfl,rfl,rfl,rfl,h⟩ (.t [] false) ?_;rintro m L τ ⟨p6,q6,x3,x2,rfl,rfl,rfl,hE6,hi6,h⟩
 rcases q6 with _|⟨y6,q6⟩
 · have hz6:=yN hE6 hi6;simp only[zG.l6] at h
   refine rg tok [3,9,10,11,12] fun K hK=>?_
   simp only[go_sem,qf,qb,qa,qc,qe,qd,reduceIte,reduceCtorEq,zn,hz6];apply hK
   refine zd fun Z7 hZ7=>?_
   refine zo rfl ?_;apply zI;apply hZ1
   refine rg tok [2] fun K hK=>?_
   simp only[go_sem,qf,qb,qa,qc,qe,qd,reduceIte,reduceCtorEq,hz6];apply hK
   cases h;exact rtA
 obtain⟨hz6,hw6,hx6,hE'6,hi'6⟩:=yo hE6 hi6 hb6;simp only[zG.l6] at h
 refine rg tok [3,9,10,11,12] fun K hK=>?_
 simp only[go_sem,qf,qb,qa,qc,qe,qd,reduceIte,reduceCtorEq,zn,hz6,hw6];apply hK
 refine zd fun Z8 hZ8=>?_
 refine zu rfl ?_;apply zf;apply hZ8
 refine zd fun Z9 hZ9=>?_
 apply zg;have f10:=E34.idxS hx6;have f11:=E34.loadS rfl rfl hx6
 refine rg tok [3,5,9,10,11] fun K hK=>?_
 simp only[go_sem,qf,qb,qa,qc,qe,qd,reduceIte,reduceCtorEq,cellsGEntry,zN,hz6,hw6,f10,f11];apply hK
 refine zd fun Z12 hZ12=>?_
 refine rc [5,9,10,11,35] fun K hK=>?_
 refine za tok 5 ?_;simp only[go_sem,qf,qb,qa,qc,qe,qd,reduceIte,reduceCtorEq,zn,hz6,hw6];refine zl 4 (fun L τ=>L=[(5,.op 0 0 0),(9,.ds true (qh encGEntry a0.fEntries) (qg a0.fEntries) false),(10,.int .i64 (qg a0.fEntries:Int)),(11,.int .i64 x3),(23,.bool ((decide (y6.fTag≤x2))||(decide (500<y6.fTag))))]∧τ=[.cells 0 (cellsGEntry y6)]) ?_ ?_
 · refine yQ 19 rfl (fun hg19=>?_) (fun hg19=>?_)
   · have t13:=eq_true hg19;refine za tok 4 ?_;simp only[go_sem,qf,qb,qa,qc,qe,qd,reduceIte,reduceCtorEq,zn,hz6,hw6];refine ze ⟨rfl,_,_,⟨rfl,rfl⟩,.p t13⟩
   have t14:=eq_false hg19;refine za tok 4 ?_;simp only[go_sem,qf,qb,qa,qc,qe,qd,reduceIte,reduceCtorEq,zn,hz6,hw6];refine ze ⟨rfl,_,_,⟨rfl,rfl⟩,.p t14⟩
 rintro _ _ ⟨rfl,rfl⟩;refine za tok 1 ?_;simp only[go_sem,qf,qb,qa,qc,qe,qd,reduceIte,reduceCtorEq,hz6,hw6];refine zl 5 (fun L τ=>L=[(5,.op 0 0 0),(9,.ds true (qh encGEntry a0.fEntries) (qg a0.fEntries) false),(10,.int .i64 (qg a0.fEntries:Int)),(11,.int .i64 x3),(29,.bool (((decide (y6.fTag≤x2))||(decide (500<y6.fTag)))||(decide ((qg y6.fTrees:Int)<1))))]∧τ=[.cells 0 (cellsGEntry y6)]) ?_ ?_
 · refine zR (b:=((decide (y6.fTag≤x2))||(decide (500<y6.fTag)))) 24 rfl (fun hg24=>?_) (fun hg24=>?_)
   · refine za tok 5 ?_;simp only[go_sem,qf,qb,qa,qc,qe,qd,reduceIte,reduceCtorEq,zn,hz6,hw6];refine ze ⟨rfl,_,_,⟨rfl,rfl⟩,.b hg24⟩
   refine za tok 5 ?_;simp only[go_sem,qf,qb,qa,qc,qe,qd,reduceIte,reduceCtorEq,zn,hz6,hw6];refine ze ⟨rfl,_,_,⟨rfl,rfl⟩,.b hg24⟩
 rintro _ _ ⟨rfl,rfl⟩;refine za tok 1 ?_;simp only[go_sem,qf,qb,qa,qc,qe,qd,reduceIte,reduceCtorEq,hz6,hw6];refine zl 5 (fun L τ=>L=[(5,.op 0 0 0),(9,.ds true (qh encGEntry a0.fEntries) (qg a0.fEntries) false),(10,.int .i64 (qg a0.fEntries:Int)),(11,.int .i64 x3),(35,.bool ((((decide (y6.fTag≤x2))||(decide (500<y6.fTag)))||(decide ((qg y6.fTrees:Int)<1)))||(decide (64<(qg y6.fTrees:Int)))))]∧τ=[.cells 0 (cellsGEntry y6)]) ?_ ?_
 · refine zR (b:=(((decide (y6.fTag≤x2))||(decide (500<y6.fTag)))||(decide ((qg y6.fTrees:Int)<1)))) 30 rfl (fun hg30=>?_) (fun hg30=>?_)
   · refine za tok 5 ?_;simp only[go_sem,qf,qb,qa,qc,qe,qd,reduceIte,reduceCtorEq,zn,hz6,hw6];refine ze ⟨rfl,_,_,⟨rfl,rfl⟩,.b hg30⟩
   refine za tok 5 ?_;simp only[go_sem,qf,qb,qa,qc,qe,qd,reduceIte,reduceCtorEq,zn,hz6,hw6];refine ze ⟨rfl,_,_,⟨rfl,rfl⟩,.b hg30⟩
 rintro _ _ ⟨rfl,rfl⟩;refine nkN hK ?_;refine zs (b:=((((decide (y6.fTag≤x2))||(decide (500<y6.fTag)))||(decide ((qg y6.fTrees:Int)<1)))||(decide (64<(qg y6.fTrees:Int))))) rfl (fun hc15=>?_) (fun hc15=>?_)
 · rw[if_pos hc15] at h
   refine rg tok [2] fun K hK=>?_
   simp only[go_sem,qf,qb,qa,qc,qe,qd,reduceIte,reduceCtorEq,hz6,hw6];apply hK
   cases h;exact rtA
 rw[xI hc15] at h;apply zf;apply hZ12
 refine rg tok [3,5,9,10,11] fun K hK=>?_
 simp only[go_sem,qf,qb,qa,qc,qe,qd,reduceIte,reduceCtorEq,hz6,hw6];apply hK
 refine rg tok [3,5,9,10,11,39,40,41] fun K hK=>?_
 simp only[go_sem,qf,qb,qa,qc,qe,qd,reduceIte,reduceCtorEq,hz6,hw6];apply hK
 apply zg
 refine yq 39 fun hb18=>?_
 replace hb18:qg y6.fTrees≤9223372036854775807:=hb18.1;refine zP (fun m L τ=>∃ (p18 q18:List GTree) (x16:Int),m=qg q18∧L=[(3,.int .i64 y6.fTag),(5,.op 0 0 0),(9,.ds true (qh encGEntry a0.fEntries) (qg a0.fEntries) false),(10,.int .i64 (qg a0.fEntries:Int)),(11,.int .i64 x3),(39,.ds true (qh encGTree y6.fTrees) (qg y6.fTrees) false),(40,.int .i64 (qg y6.fTrees:Int)),(41,.int .i64 x16)]∧τ=[.cells 0 (cellsGEntry y6)]∧y6.fTrees=p18++q18∧x16=(qg p18:Int)∧zG.l18 zU x3 (zG.l6 zU q6) y6 q18 x16=some r) _ ⟨[],y6.fTrees,0,rfl,rfl,rfl,rfl,rfl,h⟩ .s ?_;rintro m L τ ⟨p18,q18,x16,rfl,rfl,rfl,hE18,hi18,h⟩
 rcases q18 with _|⟨y18,q18⟩
 · have hz18:=yN hE18 hi18;simp only[zG.l18] at h
   refine rg tok [3,5,9,10,11,39,40,41,42] fun K hK=>?_
   simp only[go_sem,qf,qb,qa,qc,qe,qd,reduceIte,reduceCtorEq,zn,hz6,hw6,hz18];apply hK
   refine zd fun Z19 hZ19=>?_
   refine zo rfl ?_;apply zI;apply hZ9
   refine rgE tok [3,9,10,11] fun K hK=>?_
   simp only[go_sem,qf,qb,qa,qc,qe,qd,reduceIte,reduceCtorEq,zn,hz6,hw6,hz18];apply hK
   exact⟨_,_,_,qE q6.length,⟨p6++[y6],q6,x3+1,y6.fTag,rfl,rfl,rfl,hE'6,hi'6,h⟩,(.t [] false)⟩
 obtain⟨hz18,hw18,hx18,hE'18,hi'18⟩:=yo hE18 hi18 hb18;simp only[zG.l18] at h
 refine rg tok [3,5,9,10,11,39,40,41,42] fun K hK=>?_
 simp only[go_sem,qf,qb,qa,qc,qe,qd,reduceIte,reduceCtorEq,zn,hz6,hw6,hz18,hw18];apply hK
 refine zd fun Z20 hZ20=>?_
 refine zu rfl ?_;apply zf;apply hZ20
 refine zd fun Z21 hZ21=>?_
 apply zg;have f22:=E38.idxS hx18;have f23:=E38.loadS rfl rfl hx18
 refine rg tok [3,5,7,9,10,11,39,40,41] fun K hK=>?_
 simp only[go_sem,qf,qb,qa,qc,qe,qd,reduceIte,reduceCtorEq,cellsGTree,zb,hz6,hw6,hz18,hw18,f22,f23];apply hK
 refine yR (fun L τ=>∃ (x24:Bool),L=[(3,.int .i64 y6.fTag),(5,.op 0 0 0),(9,.ds true (qh encGEntry a0.fEntries) (qg a0.fEntries) false),(10,.int .i64 (qg a0.fEntries:Int)),(11,.int .i64 x3),(39,.ds true (qh encGTree y6.fTrees) (qg y6.fTrees) false),(40,.int .i64 (qg y6.fTrees:Int)),(41,.int .i64 x16),(57,.bool x24)]∧τ=[.cells 0 (cellsGEntry y6)]∧zG.j25 x16 (zG.l18 zU x3 (zG.l6 zU q6) y6 q18) x24=some r) ?_ ?_
 · refine rdE [3,5,9,10,11,39,40,41,57] fun K hK=>?_
   refine DW.start (T:=tab) [.any,.at [],.any,.at [],.any,.any,.at [],.any,.any,.at [],.eff,.any,.any] [] ?_;obtain⟨y27,hy27,h⟩:=bind_some h;have f28:=E38.idxS hy27;have f29:=E38.fldS0 (f:=3) rfl rfl hy27;refine DW.runN tok 8 ?_;simp only[go_sem,qf,qb,qa,qc,qe,qd,reduceIte,reduceCtorEq,zn,cellsGTree,zb,hz6,hw6,hz18,hw18,f28,f29];refine DW.runN tok 1 ?_;simp only[go_sem,qf,qb,qa,qc,qe,qd,reduceIte,reduceCtorEq,cellsGTree,zb,hz6,hw6,hz18,hw18,f28,f29]
   refine DW.if 53 rfl (fun hg53=>?_) (fun hg53=>?_)
   · rw[if_neg hg53] at h;have t30:=eq_false hg53;refine DW.runN tok 4 ?_;simp only[go_sem,qf,qb,qa,qc,qe,qd,reduceIte,reduceCtorEq,cellsGTree,zb,hz6,hw6,hz18,hw18,t30];refine DW.fin tok (by decide +kernel) rfl ?_;simp only[zk,zw,zD,xJ,upd,qa,reduceIte,z1,yA];apply hK
     exact⟨_,_,⟨true,rfl,rfl,h⟩,(.t [0] false)⟩
   rw[if_pos hg53] at h;have t31:=eq_true hg53;obtain⟨r32,hr32,h⟩:=bind_some h;refine DW.runN tok 1 ?_;simp only[go_sem,qf,qb,qa,qc,qe,qd,reduceIte,reduceCtorEq,cellsGTree,zb,hz6,hw6,hz18,hw18,t31];refine DW.call rfl rfl rfl (ev_value_right y18 r32 hr32 _) ?_;refine DW.runN tok 2 ?_;simp only[go_sem,qf,qb,qa,qc,qe,qd,reduceIte,reduceCtorEq,cellsGTree,zb,hz6,hw6,hz18,hw18,t31];refine DW.fin tok (by decide +kernel) rfl ?_;simp only[zk,zw,zD,xJ,upd,qa,reduceIte,z1,yA];apply hK
   exact⟨_,_,⟨!r32,rfl,rfl,h⟩,(.t [0] false)⟩
 rintro _ _ ⟨x24,rfl,rfl,h⟩;unfold zG.j25 at h;refine zs (b:=x24) rfl (fun hc26=>?_) (fun hc26=>?_)
 · rw[if_pos hc26] at h
   refine rg tok [2] fun K hK=>?_
   simp only[go_sem,qf,qb,qa,qc,qe,qd,reduceIte,reduceCtorEq,hz6,hw6,hz18,hw18];apply hK
   cases h;exact rtA
 rw[xI hc26] at h;apply zf;apply hZ21
 refine rgE tok [3,5,9,10,11,39,40,41] fun K hK=>?_
 simp only[go_sem,qf,qb,qa,qc,qe,qd,reduceIte,reduceCtorEq,zn,hz6,hw6,hz18,hw18];apply hK
 exact⟨_,_,_,qE q18.length,⟨p18++[y18],q18,x16+1,rfl,rfl,rfl,hE'18,hi'18,h⟩,.s⟩
end
section
set_option maxRecDepth 4000
set_option maxHeartbeats 1000000
open AM
def xm.body (xf:GTree→Option Bool)(zU:GTree→Option Bool)(a0:GTree):Option Bool:=
 (if a0.fKind=1 then some (((decide (a0.fS=[]))&&(decide ((qg a0.fEntries:Int)=0)))&&(decide ((qg a0.fRest:Int)=0))) else (if a0.fKind=2 then some (((decide (a0.fN=0))&&(decide ((qg a0.fEntries:Int)=0)))&&(decide ((qg a0.fRest:Int)=0))) else (if a0.fKind=3 then (if ((decide (a0.fN=0))&&(decide (a0.fS=[])))=true then (xf a0).bind fun r16=>some r16 else some false).bind fun c16=>(if c16=true then (yW a0).bind fun r18=>some r18 else some false).bind fun c18=>some c18 else some false)))
theorem xm.step (xf:GTree→Option Bool)(zU:GTree→Option Bool)(Zu:∀ (a0:GTree) (r:Bool),xf a0=some r→ACalls qi 180 [.agg (cellsGTree a0)] [] (fun r' _=>r'=.bool r))(ZZ:∀ (a0:GTree) (r:Bool),zU a0=some r→ACalls qi 140 [.agg (cellsGTree a0)] [] (fun r' _=>r'=.bool r))(a0:GTree)(r:Bool)(h:xm.body xf zU a0=some r):ACalls qi 140 [.agg (cellsGTree a0)] [] (fun r' _=>r'=.bool r):=by
 have ev_value_entries:=fun a0 r h σ=>(Zu a0 r h).c σ
 have ev_value_right:=fun a0 r h σ=>(ZZ a0 r h).c σ
 refine zj (rs:=[.tmp 2]) tok Tryz.func140 rfl Tryz.ntmps140 rfl Tryz.call140 (by simp) ?_;refine zm [(0,.agg (cellsGTree a0))] ⟨rfl,trivial⟩ ?_;unfold xm.body at h
 refine rg tok [1] fun K hK=>?_
 simp only[go_sem,qf,qb,qa,qc,qe,qd,reduceIte,reduceCtorEq,cellsGTree,zb];apply hK
 refine zd fun Z1 hZ1=>?_
 refine rgN [1,4] ?_;apply zg
 refine rg tok [1,4,5] fun K hK=>?_
 simp only[go_sem,qf,qb,qa,qc,qe,qd,reduceIte,reduceCtorEq,zn];apply hK
 refine zM rfl (fun hc2=>?_) (fun hc2=>?_)
 · rw[if_pos hc2] at h;have t3:=eq_true hc2
   refine rc [2] fun K hK=>?_
   refine za tok 4 ?_;simp only[go_sem,qf,qb,qa,qc,qe,qd,reduceIte,reduceCtorEq,zn,t3];refine zl 5 (fun L τ=>L=[(1,.op 0 0 0),(15,.bool ((decide (a0.fS=[]))&&(decide ((qg a0.fEntries:Int)=0))))]∧τ=[.cells 0 (cellsGTree a0)]) ?_ ?_
   · refine yQ 10 rfl (fun hg10=>?_) (fun hg10=>?_)
     · have t4:=eq_true hg10;refine za tok 5 ?_;simp only[go_sem,qf,qb,qa,qc,qe,qd,reduceIte,reduceCtorEq,zn,t3];refine ze ⟨rfl,_,_,⟨rfl,rfl⟩,.p t4⟩
     have t5:=eq_false hg10;refine za tok 5 ?_;simp only[go_sem,qf,qb,qa,qc,qe,qd,reduceIte,reduceCtorEq,zn,t3];refine ze ⟨rfl,_,_,⟨rfl,rfl⟩,.p t5⟩
   rintro _ _ ⟨rfl,rfl⟩;refine za tok 1 ?_;simp only[go_sem,qf,qb,qa,qc,qe,qd,reduceIte,reduceCtorEq,t3];refine zl 5 (fun L τ=>L=[(21,.bool (((decide (a0.fS=[]))&&(decide ((qg a0.fEntries:Int)=0)))&&(decide ((qg a0.fRest:Int)=0))))]∧τ=[.cells 0 (cellsGTree a0)]) ?_ ?_
   · refine zR (b:=((decide (a0.fS=[]))&&(decide ((qg a0.fEntries:Int)=0)))) 16 rfl (fun hg16=>?_) (fun hg16=>?_)
     · refine za tok 5 ?_;simp only[go_sem,qf,qb,qa,qc,qe,qd,reduceIte,reduceCtorEq,zn,t3];refine ze ⟨rfl,_,_,⟨rfl,rfl⟩,.b hg16⟩
     refine za tok 5 ?_;simp only[go_sem,qf,qb,qa,qc,qe,qd,reduceIte,reduceCtorEq,zn,t3];refine ze ⟨rfl,_,_,⟨rfl,rfl⟩,.b hg16⟩
   rintro _ _ ⟨rfl,rfl⟩;refine za tok 1 ?_;simp only[go_sem,qf,qb,qa,qc,qe,qd,reduceIte,reduceCtorEq,t3];refine nkN hK ?_;cases h;exact rtA
 rw[if_neg hc2] at h;have t6:=eq_false hc2
 refine rg tok [1,4,22] fun K hK=>?_
 simp only[go_sem,qf,qb,qa,qc,qe,qd,reduceIte,reduceCtorEq,zn,t6];apply hK
 refine zM rfl (fun hc7=>?_) (fun hc7=>?_)
 · rw[if_pos hc7] at h;have t8:=eq_true hc7
   refine rc [2] fun K hK=>?_
   refine za tok 4 ?_;simp only[go_sem,qf,qb,qa,qc,qe,qd,reduceIte,reduceCtorEq,zn,t6,t8];refine zl 5 (fun L τ=>L=[(1,.op 0 0 0),(32,.bool ((decide (a0.fN=0))&&(decide ((qg a0.fEntries:Int)=0))))]∧τ=[.cells 0 (cellsGTree a0)]) ?_ ?_
   · refine yQ 27 rfl (fun hg27=>?_) (fun hg27=>?_)
     · have t9:=eq_true hg27;refine za tok 5 ?_;simp only[go_sem,qf,qb,qa,qc,qe,qd,reduceIte,reduceCtorEq,zn,t6,t8];refine ze ⟨rfl,_,_,⟨rfl,rfl⟩,.p t9⟩
     have t10:=eq_false hg27;refine za tok 5 ?_;simp only[go_sem,qf,qb,qa,qc,qe,qd,reduceIte,reduceCtorEq,zn,t6,t8];refine ze ⟨rfl,_,_,⟨rfl,rfl⟩,.p t10⟩
   rintro _ _ ⟨rfl,rfl⟩;refine za tok 1 ?_;simp only[go_sem,qf,qb,qa,qc,qe,qd,reduceIte,reduceCtorEq,t6,t8];refine zl 5 (fun L τ=>L=[(38,.bool (((decide (a0.fN=0))&&(decide ((qg a0.fEntries:Int)=0)))&&(decide ((qg a0.fRest:Int)=0))))]∧τ=[.cells 0 (cellsGTree a0)]) ?_ ?_
   · refine zR (b:=((decide (a0.fN=0))&&(decide ((qg a0.fEntries:Int)=0)))) 33 rfl (fun hg33=>?_) (fun hg33=>?_)
     · refine za tok 5 ?_;simp only[go_sem,qf,qb,qa,qc,qe,qd,reduceIte,reduceCtorEq,zn,t6,t8];refine ze ⟨rfl,_,_,⟨rfl,rfl⟩,.b hg33⟩
     refine za tok 5 ?_;simp only[go_sem,qf,qb,qa,qc,qe,qd,reduceIte,reduceCtorEq,zn,t6,t8];refine ze ⟨rfl,_,_,⟨rfl,rfl⟩,.b hg33⟩
   rintro _ _ ⟨rfl,rfl⟩;refine za tok 1 ?_;simp only[go_sem,qf,qb,qa,qc,qe,qd,reduceIte,reduceCtorEq,t6,t8];refine nkN hK ?_;cases h;exact rtA
 rw[if_neg hc7] at h;have t11:=eq_false hc7
 refine rg tok [1,39] fun K hK=>?_
 simp only[go_sem,qf,qb,qa,qc,qe,qd,reduceIte,reduceCtorEq,zn,t6,t11];apply hK
 refine zM rfl (fun hc12=>?_) (fun hc12=>?_)
 · rw[if_pos hc12] at h;have t13:=eq_true hc12
   refine rc [2] fun K hK=>?_
   refine za tok 4 ?_;simp only[go_sem,qf,qb,qa,qc,qe,qd,reduceIte,reduceCtorEq,zn,t6,t11,t13];refine zl 4 (fun L τ=>L=[(1,.op 0 0 0),(48,.bool ((decide (a0.fN=0))&&(decide (a0.fS=[]))))]∧τ=[.cells 0 (cellsGTree a0)]) ?_ ?_
   · refine yQ 44 rfl (fun hg44=>?_) (fun hg44=>?_)
     · have t14:=eq_true hg44;refine za tok 4 ?_;simp only[go_sem,qf,qb,qa,qc,qe,qd,reduceIte,reduceCtorEq,zn,t6,t11,t13];refine ze ⟨rfl,_,_,⟨rfl,rfl⟩,.p t14⟩
     have t15:=eq_false hg44;refine za tok 4 ?_;simp only[go_sem,qf,qb,qa,qc,qe,qd,reduceIte,reduceCtorEq,zn,t6,t11,t13];refine ze ⟨rfl,_,_,⟨rfl,rfl⟩,.p t15⟩
   rintro _ _ ⟨rfl,rfl⟩;refine za tok 1 ?_;simp only[go_sem,qf,qb,qa,qc,qe,qd,reduceIte,reduceCtorEq,t6,t11,t13];obtain⟨c16,hc16,h⟩:=bind_some h;refine zl 3 (fun L τ=>L=[(1,.op 0 0 0),(52,.bool c16)]∧τ=[.cells 0 (cellsGTree a0)]) ?_ ?_
   · refine zR (b:=((decide (a0.fN=0))&&(decide (a0.fS=[])))) 49 rfl (fun hg49=>?_) (fun hg49=>?_)
     · rw[if_pos hg49] at hc16;obtain⟨r17,hr17,hc16⟩:=bind_some hc16;refine za tok 1 ?_;simp only[go_sem,qf,qb,qa,qc,qe,qd,reduceIte,reduceCtorEq,cellsGTree,zb,t6,t11,t13];refine clN rfl rfl rfl (ev_value_entries a0 r17 hr17 _) ?_;refine za tok 1 ?_;simp only[go_sem,qf,qb,qa,qc,qe,qd,reduceIte,reduceCtorEq,cellsGTree,zb,t6,t11,t13];cases hc16;refine ze ⟨rfl,_,_,⟨rfl,rfl⟩,.b hg49⟩
     rw[xI hg49] at hc16;refine za tok 3 ?_;simp only[go_sem,qf,qb,qa,qc,qe,qd,reduceIte,reduceCtorEq,cellsGTree,zb,t6,t11,t13];cases hc16;refine ze ⟨rfl,_,_,⟨rfl,rfl⟩,.b hg49⟩
   rintro _ _ ⟨rfl,rfl⟩;refine za tok 1 ?_;simp only[go_sem,qf,qb,qa,qc,qe,qd,reduceIte,reduceCtorEq,cellsGTree,zb,t6,t11,t13];obtain⟨c18,hc18,h⟩:=bind_some h;refine zl 3 (fun L τ=>L=[(56,.bool c18)]∧τ=[.cells 0 (cellsGTree a0)]) ?_ ?_
   · refine zR (b:=c16) 53 rfl (fun hg53=>?_) (fun hg53=>?_)
     · rw[if_pos hg53] at hc18;obtain⟨r19,hr19,hc18⟩:=bind_some hc18;refine za tok 1 ?_;simp only[go_sem,qf,qb,qa,qc,qe,qd,reduceIte,reduceCtorEq,cellsGTree,zb,t6,t11,t13];refine clN rfl rfl rfl (yW.ev a0 r19 hr19 _) ?_;refine za tok 1 ?_;simp only[go_sem,qf,qb,qa,qc,qe,qd,reduceIte,reduceCtorEq,cellsGTree,zb,t6,t11,t13];cases hc18;refine ze ⟨rfl,_,_,⟨rfl,rfl⟩,.b hg53⟩
     rw[xI hg53] at hc18;refine za tok 3 ?_;simp only[go_sem,qf,qb,qa,qc,qe,qd,reduceIte,reduceCtorEq,cellsGTree,zb,t6,t11,t13];cases hc18;refine ze ⟨rfl,_,_,⟨rfl,rfl⟩,.b hg53⟩
   rintro _ _ ⟨rfl,rfl⟩;refine za tok 1 ?_;simp only[go_sem,qf,qb,qa,qc,qe,qd,reduceIte,reduceCtorEq,cellsGTree,zb,t6,t11,t13];refine nkN hK ?_;cases h;exact rtA
 rw[if_neg hc12] at h;have t20:=eq_false hc12;apply zf;apply hZ1
 refine rg tok [2] fun K hK=>?_
 simp only[go_sem,qf,qb,qa,qc,qe,qd,reduceIte,reduceCtorEq,t6,t11,t20];apply hK
 cases h;exact rtA
mutual
def zG : Nat→GTree→Option Bool
 |0,_=>none
 |k+1,a0=>zG.body (zG k) (xm k) a0
def xm : Nat→GTree→Option Bool
 |0,_=>none
 |k+1,a0=>xm.body (zG k) (xm k) a0
end
theorem zG.all (k:Nat):(∀ (a0:GTree) (r:Bool),zG k a0=some r→ACalls qi 180 [.agg (cellsGTree a0)] [] (fun r' _=>r'=.bool r))∧(∀ (a0:GTree) (r:Bool),xm k a0=some r→ACalls qi 140 [.agg (cellsGTree a0)] [] (fun r' _=>r'=.bool r)):=by
 induction k with
 |zero=>exact⟨(fun a0 r h=>by simp only[zG] at h; cases h),(fun a0 r h=>by simp only[xm] at h; cases h)⟩
 |succ k ih=>exact⟨(fun a0 r h=>zG.step _ _ ih.1 ih.2 a0 r (by simpa only [zG] using h)),(fun a0 r h=>xm.step _ _ ih.1 ih.2 a0 r (by simpa only [xm] using h))⟩
theorem xm.ev (k:Nat)(a0:GTree)(r:Bool)(h:xm k a0=some r)(σ:Store):ACalls qi 140 [.agg (cellsGTree a0)] σ (fun r' σ'=>r'=.bool r∧σ'=σ):=
 ((zG.all k).2 a0 r h).c σ
def xW (a0:GTree):Option Bool:=
 (ww a0).bind fun r1=>(if r1≤10 then (xm xl a0).bind fun r2=>some r2 else some false).bind fun c2=>some c2
theorem xW.ok (a0:GTree)(r:Bool)(h:xW a0=some r):ACalls qi 93 [.agg (cellsGTree a0)] [] (fun r' _=>r'=.bool r):=by
 refine zj (rs:=[.tmp 2]) tok Tryz.func93 rfl Tryz.ntmps93 rfl Tryz.call93 (by simp) ?_;refine zm [(0,.agg (cellsGTree a0))] ⟨rfl,trivial⟩ ?_;unfold xW at h
 refine rg tok [1] fun K hK=>?_
 simp only[go_sem,qf,qb,qa,qc,qe,qd,reduceIte,reduceCtorEq,cellsGTree,zb];apply hK
 refine rc [2] fun K hK=>?_
 obtain⟨r1,hr1,h⟩:=bind_some h;refine za tok 1 ?_;simp only[go_sem,qf,qb,qa,qc,qe,qd,reduceIte,reduceCtorEq,cellsGTree,zb];refine clN rfl rfl rfl (ww.ev a0 r1 hr1 _) ?_;refine za tok 2 ?_;simp only[go_sem,qf,qb,qa,qc,qe,qd,reduceIte,reduceCtorEq,zn,cellsGTree,zb];obtain⟨c2,hc2,h⟩:=bind_some h;refine zl 3 (fun L τ=>L=[(9,.bool c2)]∧τ=[.cells 0 (cellsGTree a0)]) ?_ ?_
 · refine yQ 6 rfl (fun hg6=>?_) (fun hg6=>?_)
   · have t3:=eq_true hg6;rw[if_pos hg6] at hc2;obtain⟨r4,hr4,hc2⟩:=bind_some hc2;refine za tok 1 ?_;simp only[go_sem,qf,qb,qa,qc,qe,qd,reduceIte,reduceCtorEq,cellsGTree,zb];refine clN rfl rfl rfl (xm.ev xl a0 r4 hr4 _) ?_;refine za tok 1 ?_;simp only[go_sem,qf,qb,qa,qc,qe,qd,reduceIte,reduceCtorEq,cellsGTree,zb];cases hc2;refine ze ⟨rfl,_,_,⟨rfl,rfl⟩,.p t3⟩
   have t5:=eq_false hg6;rw[if_neg hg6] at hc2;refine za tok 3 ?_;simp only[go_sem,qf,qb,qa,qc,qe,qd,reduceIte,reduceCtorEq,cellsGTree,zb];cases hc2;refine ze ⟨rfl,_,_,⟨rfl,rfl⟩,.p t5⟩
 rintro _ _ ⟨rfl,rfl⟩;refine za tok 1 ?_;simp only[go_sem,qf,qb,qa,qc,qe,qd,reduceIte,reduceCtorEq,cellsGTree,zb];refine nkN hK ?_;cases h;exact rtA
theorem xW.ev (a0:GTree)(r:Bool)(h:xW a0=some r)(σ:Store):ACalls qi 93 [.agg (cellsGTree a0)] σ (fun r' σ'=>r'=.bool r∧σ'=σ):=
 (xW.ok a0 r h).c σ
def y7.j2  : Int:=
 2
def y7.j4  : Int:=
 1
def y7 (a0:GType):Int:=
 (if a0.fKind=1 then y7.j4 else (if a0.fKind=2 then y7.j4 else (if a0.fKind=3 then y7.j4 else (if a0.fKind=6 then y7.j4 else (if a0.fKind=4 then y7.j2 else (if a0.fKind=5 then y7.j2 else 3))))))
theorem y7.ok (a0:GType)(r:Int)(h:y7 a0=r):ACalls qi 182 [.agg (encGType a0)] [] (fun r' _=>r'=.int .i64 r):=by
 refine zj (rs:=[.tmp 2]) tok Tryz.func182 rfl Tryz.ntmps182 rfl Tryz.call182 (by simp) ?_;refine zm [(0,.agg (encGType a0))] ⟨rfl,trivial⟩ ?_;unfold y7 at h
 refine rg tok [1] fun K hK=>?_
 simp only[go_sem,qf,qb,qa,qc,qe,qd,reduceIte,reduceCtorEq,encGType];apply hK
 refine zd fun Z1 hZ1=>?_
 refine rgN [4] ?_;apply zg;refine yR (fun L τ=>L=[]∧τ=[]∧y7.j2=r) ?_ ?_
 · apply zg;apply zg;refine yR (fun L τ=>L=[]∧τ=[]∧y7.j4=r) ?_ ?_
   · apply zg;apply zg;apply zg;apply zg
     refine zd fun Z6 hZ6=>?_
     refine zd fun Z7 hZ7=>?_
     refine rg tok [4,5] fun K hK=>?_
     simp only[go_sem,qf,qb,qa,qc,qe,qd,reduceIte,reduceCtorEq,zn];apply hK
     refine zM rfl (fun hc8=>?_) (fun hc8=>?_)
     · rw[if_pos hc8] at h;have t9:=eq_true hc8;apply zI;exact⟨_,_,⟨rfl,rfl,h⟩,(.t [] false)⟩
     rw[if_neg hc8] at h;have t10:=eq_false hc8;apply zf;apply hZ7
     refine zd fun Z11 hZ11=>?_
     refine rg tok [4,7] fun K hK=>?_
     simp only[go_sem,qf,qb,qa,qc,qe,qd,reduceIte,reduceCtorEq,zn,t10];apply hK
     refine zM rfl (fun hc12=>?_) (fun hc12=>?_)
     · rw[if_pos hc12] at h;have t13:=eq_true hc12;apply zI;exact⟨_,_,⟨rfl,rfl,h⟩,(.t [] false)⟩
     rw[if_neg hc12] at h;have t14:=eq_false hc12;apply zf;apply hZ11
     refine zd fun Z15 hZ15=>?_
     refine rg tok [4,9] fun K hK=>?_
     simp only[go_sem,qf,qb,qa,qc,qe,qd,reduceIte,reduceCtorEq,zn,t10,t14];apply hK
     refine zM rfl (fun hc16=>?_) (fun hc16=>?_)
     · rw[if_pos hc16] at h;have t17:=eq_true hc16;apply zI;exact⟨_,_,⟨rfl,rfl,h⟩,(.t [] false)⟩
     rw[if_neg hc16] at h;have t18:=eq_false hc16;apply zf;apply hZ15
     refine zd fun Z19 hZ19=>?_
     refine rg tok [4,11] fun K hK=>?_
     simp only[go_sem,qf,qb,qa,qc,qe,qd,reduceIte,reduceCtorEq,zn,t10,t14,t18];apply hK
     refine zM rfl (fun hc20=>?_) (fun hc20=>?_)
     · rw[if_pos hc20] at h;have t21:=eq_true hc20;apply zI;exact⟨_,_,⟨rfl,rfl,h⟩,(.t [] false)⟩
     rw[if_neg hc20] at h;have t22:=eq_false hc20;apply zf;apply hZ19
     refine zd fun Z23 hZ23=>?_
     refine rg tok [4,13] fun K hK=>?_
     simp only[go_sem,qf,qb,qa,qc,qe,qd,reduceIte,reduceCtorEq,zn,t10,t14,t18,t22];apply hK
     refine zM rfl (fun hc24=>?_) (fun hc24=>?_)
     · rw[if_pos hc24] at h;have t25:=eq_true hc24;apply zI;exact⟨_,_,⟨rfl,rfl,h⟩,(.t [] false)⟩
     rw[if_neg hc24] at h;have t26:=eq_false hc24;apply zf;apply hZ23
     refine rg tok [15] fun K hK=>?_
     simp only[go_sem,qf,qb,qa,qc,qe,qd,reduceIte,reduceCtorEq,zn,t10,t14,t18,t22,t26];apply hK
     refine zM rfl (fun hc27=>?_) (fun hc27=>?_)
     · rw[if_pos hc27] at h;have t28:=eq_true hc27;apply zI;exact⟨_,_,⟨rfl,rfl,h⟩,(.t [] false)⟩
     rw[if_neg hc27] at h;have t29:=eq_false hc27;apply zf;apply hZ6;apply zI;apply hZ1
     refine rg tok [2] fun K hK=>?_
     simp only[go_sem,qf,qb,qa,qc,qe,qd,reduceIte,reduceCtorEq,t10,t14,t18,t22,t26,t29];apply hK
     cases h;exact rtA
   rintro _ _ ⟨rfl,rfl,h⟩;unfold y7.j4 at h
   refine zd fun Z5 hZ5=>?_
   refine rgN [2] ?_;cases h;exact rtA
 rintro _ _ ⟨rfl,rfl,h⟩;unfold y7.j2 at h
 refine zd fun Z3 hZ3=>?_
 refine rgN [2] ?_;cases h;exact rtA
theorem y7.ev (a0:GType)(r:Int)(h:y7 a0=r)(σ:Store):ACalls qi 182 [.agg (encGType a0)] σ (fun r' σ'=>r'=.int .i64 r∧σ'=σ):=
 (y7.ok a0 r h).c σ
def wW (a0:GType)(a1:GTree):Option Int:=
 bnd (y7 a0) fun r2=>(if a1.fKind=r2 then bnd (if a1.fKind=1 then bnd (xN a0 a1.fN) fun r6 => !r6 else false) fun c6=>(if c6=true then some 11 else (if a0.fKind=4 then (yY a1.fS).bind fun r11=>some (!r11) else some false).bind fun c11=>(if c11=true then some 9 else some 0)) else some 8)
theorem wW.ok (a0:GType)(a1:GTree)(r:Int)(h:wW a0 a1=some r):ACalls qi 142 [.agg (encGType a0),.agg (cellsGTree a1)] [] (fun r' _=>r'=.int .i64 r):=by
 refine zj (rs:=[.tmp 4]) tok Tryz.func142 rfl Tryz.ntmps142 rfl Tryz.call142 (by simp) ?_;refine zm [(0,.agg (encGType a0)),(1,.agg (cellsGTree a1))] ⟨rfl,rfl,trivial⟩ ?_;unfold wW at h
 refine rg tok [2,3] fun K hK=>?_
 simp only[go_sem,qf,qb,qa,qc,qe,qd,reduceIte,reduceCtorEq,cellsGTree,zb,encGType];apply hK
 refine zd fun Z1 hZ1=>?_
 apply zg;obtain⟨r2,hr2,h⟩:=zB h
 refine rd [2,3,5] fun K hK=>?_
 refine DW.start (T:=tab) [.any,.own 1 [],.at [],.eff,.any,.any] [(1,[])] ?_;refine DW.runN tok 3 ?_;simp only[go_sem,qf,qb,qa,qc,qe,qd,reduceIte,reduceCtorEq,encGType];refine DW.call rfl rfl rfl (y7.ev a0 r2 hr2 _) ?_;refine DW.runN tok 2 ?_;simp only[go_sem,qf,qb,qa,qc,qe,qd,reduceIte,reduceCtorEq,zn,encGType];refine DW.fin tok (by decide +kernel) rfl ?_;simp only[zk,zw,zD,xJ,upd,qa,reduceIte,z1,yA];apply hK
 refine zM rfl (fun hc3=>?_) (fun hc3=>?_)
 · rw[if_neg hc3] at h;have t4:=eq_false hc3
   refine rg tok [4] fun K hK=>?_
   simp only[go_sem,qf,qb,qa,qc,qe,qd,reduceIte,reduceCtorEq,t4];apply hK
   cases h;exact rtA
 rw[if_pos hc3] at h;have t5:=eq_true hc3
 refine rc [2,3,11] fun K hK=>?_
 refine za tok 4 ?_;simp only[go_sem,qf,qb,qa,qc,qe,qd,reduceIte,reduceCtorEq,zn,t5];obtain⟨c6,hc6,h⟩:=zB h;refine zl 6 (fun L τ=>L=[(2,.op 0 0 0),(3,.op 1 0 0),(21,.bool c6)]∧τ=[.cells 0 [.int .i64 a0.fKind,.str a0.fName],.cells 0 (cellsGTree a1)]) ?_ ?_
 · refine yQ 15 rfl (fun hg15=>?_) (fun hg15=>?_)
   · have t7:=eq_true hg15;rw[if_pos hg15] at hc6;obtain⟨r8,hr8,hc6⟩:=zB hc6;refine za tok 3 ?_;simp only[go_sem,qf,qb,qa,qc,qe,qd,reduceIte,reduceCtorEq,encGType,t5];refine clN rfl rfl rfl (xN.ev a0 a1.fN r8 hr8 _) ?_;refine za tok 2 ?_;simp only[go_sem,qf,qb,qa,qc,qe,qd,reduceIte,reduceCtorEq,encGType,t5];subst hc6;refine ze ⟨rfl,_,_,⟨rfl,rfl⟩,.p t7⟩
   have t9:=eq_false hg15;rw[if_neg hg15] at hc6;refine za tok 6 ?_;simp only[go_sem,qf,qb,qa,qc,qe,qd,reduceIte,reduceCtorEq,encGType,t5];subst hc6;refine ze ⟨rfl,_,_,⟨rfl,rfl⟩,.p t9⟩
 rintro _ _ ⟨rfl,rfl⟩;refine za tok 1 ?_;simp only[go_sem,qf,qb,qa,qc,qe,qd,reduceIte,reduceCtorEq,encGType,t5];refine nkN hK ?_;refine zs (b:=c6) rfl (fun hc10=>?_) (fun hc10=>?_)
 · rw[if_pos hc10] at h
   refine rg tok [4] fun K hK=>?_
   simp only[go_sem,qf,qb,qa,qc,qe,qd,reduceIte,reduceCtorEq,t5];apply hK
   cases h;exact rtA
 rw[xI hc10] at h
 refine rc [22] fun K hK=>?_
 refine za tok 4 ?_;simp only[go_sem,qf,qb,qa,qc,qe,qd,reduceIte,reduceCtorEq,zn,t5];obtain⟨c11,hc11,h⟩:=bind_some h;refine zl 5 (fun L τ=>L=[(31,.bool c11)]∧τ=[.cells 0 [.int .i64 a0.fKind,.str a0.fName],.cells 0 (cellsGTree a1)]) ?_ ?_
 · refine yQ 26 rfl (fun hg26=>?_) (fun hg26=>?_)
   · have t12:=eq_true hg26;rw[if_pos hg26] at hc11;obtain⟨r13,hr13,hc11⟩:=bind_some hc11;refine za tok 2 ?_;simp only[go_sem,qf,qb,qa,qc,qe,qd,reduceIte,reduceCtorEq,t5];refine clN rfl rfl rfl (yY.ev a1.fS r13 hr13 _) ?_;refine za tok 2 ?_;simp only[go_sem,qf,qb,qa,qc,qe,qd,reduceIte,reduceCtorEq,t5];cases hc11;refine ze ⟨rfl,_,_,⟨rfl,rfl⟩,.p t12⟩
   have t14:=eq_false hg26;rw[if_neg hg26] at hc11;refine za tok 5 ?_;simp only[go_sem,qf,qb,qa,qc,qe,qd,reduceIte,reduceCtorEq,t5];cases hc11;refine ze ⟨rfl,_,_,⟨rfl,rfl⟩,.p t14⟩
 rintro _ _ ⟨rfl,rfl⟩;refine za tok 1 ?_;simp only[go_sem,qf,qb,qa,qc,qe,qd,reduceIte,reduceCtorEq,t5];refine nkN hK ?_;refine zs (b:=c11) rfl (fun hc15=>?_) (fun hc15=>?_)
 · rw[if_pos hc15] at h
   refine rg tok [4] fun K hK=>?_
   simp only[go_sem,qf,qb,qa,qc,qe,qd,reduceIte,reduceCtorEq,t5];apply hK
   cases h;exact rtA
 rw[xI hc15] at h;apply zf;apply hZ1
 refine rg tok [4] fun K hK=>?_
 simp only[go_sem,qf,qb,qa,qc,qe,qd,reduceIte,reduceCtorEq,t5];apply hK
 cases h;exact rtA
theorem wW.ev (a0:GType)(a1:GTree)(r:Int)(h:wW a0 a1=some r)(σ:Store):ACalls qi 142 [.agg (encGType a0),.agg (cellsGTree a1)] σ (fun r' σ'=>r'=.int .i64 r∧σ'=σ):=
 (wW.ok a0 a1 r h).c σ
def zv.l9 (a1:GMessage):List GRaw→Int→Option Int
 |[],x7=>some 0
 |y9::q9,x7=>bnd (yw a1 y9.fTag) fun r15=>(if r15.2=true then some 7 else ((zv.l9 a1 q9) (x7+1)))
def zv.j46 (x28:Int)(rec30:Int→Option Int)(x45:Int):Option Int:=
 (if x45=0 then (rec30 (x28+1)) else some x45)
def zv.l30 (z6:GSchema→GMessage→GTree→Option Int)(a0:GSchema)(x2:Int)(rec4:Int→Option Int)(y4:GEntry)(r21:GField×Bool):List GTree→Int→Option Int
 |[],x28=>(if r21.1.fLabel=1 then (YD y4.fTrees 0).bind fun y32=>bnd (wt y32) fun r35=>some r35 else some false).bind fun c32=>(if c32=true then some 12 else (rec4 (x2+1)))
 |y30::q30,x28=>(wW r21.1.fType y30).bind fun r44=>(if ((decide (r44=0))&&(decide (r21.1.fType.fKind=7)))=true then bnd (zH a0 r21.1.fType.fName) fun r53=>(z6 a0 r53.1 y30).bind fun r54=>(zv.j46 x28 (zv.l30 z6 a0 x2 rec4 y4 r21 q30) r54) else (zv.j46 x28 (zv.l30 z6 a0 x2 rec4 y4 r21 q30) r44))
def zv.l4 (z6:GSchema→GMessage→GTree→Option Int)(a0:GSchema)(a1:GMessage)(a2:GTree):List GEntry→Int→Option Int
 |[],x2=>(zv.l9 a1 a2.fRest 0)
 |y4::q4,x2=>bnd (yw a1 y4.fTag) fun r21=>(if (!r21.2)=true then some 7 else (if ((!(decide (r21.1.fLabel=3)))&&(decide (1<(qg y4.fTrees:Int))))=true then some 4 else (zv.l30 z6 a0 x2 (zv.l4 z6 a0 a1 a2 q4) y4 r21 y4.fTrees 0)))
def zv.body (z6:GSchema→GMessage→GTree→Option Int)(a0:GSchema)(a1:GMessage)(a2:GTree):Option Int:=
 (zv.l4 z6 a0 a1 a2 a2.fEntries 0)
theorem zv.step (z6:GSchema→GMessage→GTree→Option Int)(X7:∀ (a0:GSchema) (a1:GMessage) (a2:GTree) (r:Int),z6 a0 a1 a2=some r→ACalls qi 94 [.agg (encGSchema a0),.agg (encGMessage a1),.agg (cellsGTree a2)] [] (fun r' _=>r'=.int .i64 r))(a0:GSchema)(a1:GMessage)(a2:GTree)(r:Int)(h:zv.body z6 a0 a1 a2=some r):ACalls qi 94 [.agg (encGSchema a0),.agg (encGMessage a1),.agg (cellsGTree a2)] [] (fun r' _=>r'=.int .i64 r):=by
 have ev_valid_message:=fun a0 a1 a2 r h σ=>(X7 a0 a1 a2 r h).c σ
 refine zj (rs:=[.tmp 6]) tok Tryz.func94 rfl Tryz.ntmps94 rfl Tryz.call94 (by simp) ?_;refine zm [(0,.agg (encGSchema a0)),(1,.agg (encGMessage a1)),(2,.agg (cellsGTree a2))] ⟨rfl,rfl,rfl,trivial⟩ ?_;unfold zv.body at h
 refine rg tok [3,4,5] fun K hK=>?_
 simp only[go_sem,qf,qb,qa,qc,qe,qd,reduceIte,reduceCtorEq,cellsGTree,encGMessage,encGSchema,zb];apply hK
 refine zd fun Z1 hZ1=>?_
 refine rgN [3,4,5,21,22,23] ?_;apply zg
 refine yq 21 fun hb4=>?_
 replace hb4:qg a2.fEntries≤9223372036854775807:=hb4.1;refine zP (fun m L τ=>∃ (p4 q4:List GEntry) (x2:Int),m=qg q4∧L=[(3,.op 0 0 0),(4,.op 1 0 0),(5,.op 2 0 0),(21,.ds true (qh encGEntry a2.fEntries) (qg a2.fEntries) false),(22,.int .i64 (qg a2.fEntries:Int)),(23,.int .i64 x2)]∧τ=[.cells 0 (encGSchema a0),.cells 0 (encGMessage a1),.cells 0 (cellsGTree a2)]∧a2.fEntries=p4++q4∧x2=(qg p4:Int)∧zv.l4 z6 a0 a1 a2 q4 x2=some r) _ ⟨[],a2.fEntries,0,rfl,rfl,rfl,rfl,rfl,h⟩ .s ?_;rintro m L τ ⟨p4,q4,x2,rfl,rfl,rfl,hE4,hi4,h⟩
 rcases q4 with _|⟨y4,q4⟩
 · have hz4:=yN hE4 hi4;simp only[zv.l4] at h
   refine rg tok [3,4,5,21,22,23,24] fun K hK=>?_
   simp only[go_sem,qf,qb,qa,qc,qe,qd,reduceIte,reduceCtorEq,zn,hz4];apply hK
   refine zd fun Z5 hZ5=>?_
   refine zo rfl ?_;apply zI;apply hZ1
   refine zd fun Z6 hZ6=>?_
   refine rg tok [4,94,95,96] fun K hK=>?_
   simp only[go_sem,qf,qb,qa,qc,qe,qd,reduceIte,reduceCtorEq,hz4];apply hK
   apply zg
   refine yq 94 fun hb9=>?_
   replace hb9:qg a2.fRest≤9223372036854775807:=hb9.1;refine zP (fun m L τ=>∃ (p9 q9:List GRaw) (x7:Int),m=qg q9∧L=[(4,.op 0 0 0),(94,.ds true (qh encGRaw a2.fRest) (qg a2.fRest) false),(95,.int .i64 (qg a2.fRest:Int)),(96,.int .i64 x7)]∧τ=[.cells 0 (encGMessage a1)]∧a2.fRest=p9++q9∧x7=(qg p9:Int)∧zv.l9 a1 q9 x7=some r) _ ⟨[],a2.fRest,0,rfl,rfl,rfl,rfl,rfl,h⟩ (.t [1] false) ?_;rintro m L τ ⟨p9,q9,x7,rfl,rfl,rfl,hE9,hi9,h⟩
   rcases q9 with _|⟨y9,q9⟩
   · have hz9:=yN hE9 hi9;simp only[zv.l9] at h
     refine rg tok [4,94,95,96,97] fun K hK=>?_
     simp only[go_sem,qf,qb,qa,qc,qe,qd,reduceIte,reduceCtorEq,zn,hz4,hz9];apply hK
     refine zd fun Z10 hZ10=>?_
     refine zo rfl ?_;apply zI;apply hZ6
     refine rg tok [6] fun K hK=>?_
     simp only[go_sem,qf,qb,qa,qc,qe,qd,reduceIte,reduceCtorEq,hz4,hz9];apply hK
     cases h;exact rtA
   obtain⟨hz9,hw9,hx9,hE'9,hi'9⟩:=yo hE9 hi9 hb9;simp only[zv.l9] at h
   refine rg tok [4,94,95,96,97] fun K hK=>?_
   simp only[go_sem,qf,qb,qa,qc,qe,qd,reduceIte,reduceCtorEq,zn,hz4,hz9,hw9];apply hK
   refine zd fun Z11 hZ11=>?_
   refine zu rfl ?_;apply zf;apply hZ11
   refine zd fun Z12 hZ12=>?_
   apply zg;have f13:=E35.idxS hx9;have f14:=E35.loadS rfl rfl hx9
   refine rg tok [4,17,94,95,96] fun K hK=>?_
   simp only[go_sem,qf,qb,qa,qc,qe,qd,reduceIte,reduceCtorEq,encGRaw,hz4,hz9,hw9,f13,f14];apply hK
   refine rc [4,19,94,95,96] fun K hK=>?_
   obtain⟨r15,hr15,h⟩:=zB h;refine za tok 3 ?_;simp only[go_sem,qf,qb,qa,qc,qe,qd,reduceIte,reduceCtorEq,encGMessage,hz4,hz9,hw9];refine clN rfl rfl rfl (yw.ev a1 y9.fTag r15 hr15 _) ?_;refine za tok 6 ?_;simp only[go_sem,qf,qb,qa,qc,qe,qd,reduceIte,reduceCtorEq,encGField,encGMessage,encGType,hz4,hz9,hw9];refine nkN hK ?_
   refine rg tok [4,94,95,96,107] fun K hK=>?_
   simp only[go_sem,qf,qb,qa,qc,qe,qd,reduceIte,reduceCtorEq,hz4,hz9,hw9];apply hK
   refine zs (b:=r15.2) rfl (fun hc16=>?_) (fun hc16=>?_)
   · rw[if_pos hc16] at h
     refine rg tok [6] fun K hK=>?_
     simp only[go_sem,qf,qb,qa,qc,qe,qd,reduceIte,reduceCtorEq,hz4,hz9,hw9];apply hK
     cases h;exact rtA
   rw[xI hc16] at h;apply zf;apply hZ12
   refine rgE tok [4,94,95,96] fun K hK=>?_
   simp only[go_sem,qf,qb,qa,qc,qe,qd,reduceIte,reduceCtorEq,zn,hz4,hz9,hw9];apply hK
   exact⟨_,_,_,qE q9.length,⟨p9++[y9],q9,x7+1,rfl,rfl,rfl,hE'9,hi'9,h⟩,(.t [0] false)⟩
 obtain⟨hz4,hw4,hx4,hE'4,hi'4⟩:=yo hE4 hi4 hb4;simp only[zv.l4] at h
 refine rg tok [3,4,5,21,22,23,24] fun K hK=>?_
 simp only[go_sem,qf,qb,qa,qc,qe,qd,reduceIte,reduceCtorEq,zn,hz4,hw4];apply hK
 refine zd fun Z17 hZ17=>?_
 refine zu rfl ?_;apply zf;apply hZ17
 refine zd fun Z18 hZ18=>?_
 apply zg;have f19:=E34.idxS hx4;have f20:=E34.loadS rfl rfl hx4
 refine rg tok [3,4,5,8,21,22,23] fun K hK=>?_
 simp only[go_sem,qf,qb,qa,qc,qe,qd,reduceIte,reduceCtorEq,cellsGEntry,zN,hz4,hw4,f19,f20];apply hK
 refine rc [3,4,5,8,9,10,21,22,23] fun K hK=>?_
 obtain⟨r21,hr21,h⟩:=zB h;refine za tok 3 ?_;simp only[go_sem,qf,qb,qa,qc,qe,qd,reduceIte,reduceCtorEq,encGMessage,hz4,hw4];refine clN rfl rfl rfl (yw.ev a1 y4.fTag r21 hr21 _) ?_;refine za tok 6 ?_;simp only[go_sem,qf,qb,qa,qc,qe,qd,reduceIte,reduceCtorEq,encGField,encGMessage,encGType,hz4,hw4];refine nkN hK ?_
 refine zd fun Z22 hZ22=>?_
 apply zg
 refine rg tok [3,4,5,8,9,21,22,23,34] fun K hK=>?_
 simp only[go_sem,qf,qb,qa,qc,qe,qd,reduceIte,reduceCtorEq,hz4,hw4];apply hK
 refine zs (b:=(!r21.2)) rfl (fun hc23=>?_) (fun hc23=>?_)
 · rw[if_pos hc23] at h
   refine rg tok [6] fun K hK=>?_
   simp only[go_sem,qf,qb,qa,qc,qe,qd,reduceIte,reduceCtorEq,hz4,hw4];apply hK
   cases h;exact rtA
 rw[xI hc23] at h
 refine rc [3,4,5,8,9,21,22,23,37] fun K hK=>?_
 refine za tok 4 ?_;simp only[go_sem,qf,qb,qa,qc,qe,qd,reduceIte,reduceCtorEq,zn,hz4,hw4];refine zl 5 (fun L τ=>L=[(3,.op 0 0 0),(4,.op 1 0 0),(5,.op 2 0 0),(8,.op 3 0 0),(9,.op 4 0 0),(21,.ds true (qh encGEntry a2.fEntries) (qg a2.fEntries) false),(22,.int .i64 (qg a2.fEntries:Int)),(23,.int .i64 x2),(46,.bool ((!(decide (r21.1.fLabel=3)))&&(decide (1<(qg y4.fTrees:Int)))))]∧τ=[.cells 0 (encGSchema a0),.cells 0 (encGMessage a1),.cells 0 (cellsGTree a2),.cells 0 (cellsGEntry y4),.cells 0 (encGField r21.1)]) ?_ ?_
 · refine yQ 41 rfl (fun hg41=>?_) (fun hg41=>?_)
   · have t24:=eq_false hg41;refine za tok 5 ?_;simp only[go_sem,qf,qb,qa,qc,qe,qd,reduceIte,reduceCtorEq,zn,hz4,hw4];refine ze ⟨rfl,_,_,⟨rfl,rfl⟩,.p t24⟩
   have t25:=eq_true hg41;refine za tok 5 ?_;simp only[go_sem,qf,qb,qa,qc,qe,qd,reduceIte,reduceCtorEq,zn,hz4,hw4];refine ze ⟨rfl,_,_,⟨rfl,rfl⟩,.p t25⟩
 rintro _ _ ⟨rfl,rfl⟩;refine za tok 1 ?_;simp only[go_sem,qf,qb,qa,qc,qe,qd,reduceIte,reduceCtorEq,hz4,hw4];refine nkN hK ?_;refine zs (b:=((!(decide (r21.1.fLabel=3)))&&(decide (1<(qg y4.fTrees:Int))))) rfl (fun hc26=>?_) (fun hc26=>?_)
 · rw[if_pos hc26] at h
   refine rg tok [6] fun K hK=>?_
   simp only[go_sem,qf,qb,qa,qc,qe,qd,reduceIte,reduceCtorEq,hz4,hw4];apply hK
   cases h;exact rtA
 rw[xI hc26] at h;apply zf;apply hZ22
 refine zd fun Z27 hZ27=>?_
 refine rg tok [3,4,5,8,9,21,22,23,48,49,50] fun K hK=>?_
 simp only[go_sem,qf,qb,qa,qc,qe,qd,reduceIte,reduceCtorEq,hz4,hw4];apply hK
 apply zg
 refine yq 48 fun hb30=>?_
 replace hb30:qg y4.fTrees≤9223372036854775807:=hb30.1;refine zP (fun m L τ=>∃ (p30 q30:List GTree) (x28:Int),m=qg q30∧L=[(3,.op 0 0 0),(4,.op 1 0 0),(5,.op 2 0 0),(8,.op 3 0 0),(9,.op 4 0 0),(21,.ds true (qh encGEntry a2.fEntries) (qg a2.fEntries) false),(22,.int .i64 (qg a2.fEntries:Int)),(23,.int .i64 x2),(48,.ds true (qh encGTree y4.fTrees) (qg y4.fTrees) false),(49,.int .i64 (qg y4.fTrees:Int)),(50,.int .i64 x28)]∧τ=[.cells 0 (encGSchema a0),.cells 0 (encGMessage a1),.cells 0 (cellsGTree a2),.cells 0 (cellsGEntry y4),.cells 0 (encGField r21.1)]∧y4.fTrees=p30++q30∧x28=(qg p30:Int)∧zv.l30 z6 a0 x2 (zv.l4 z6 a0 a1 a2 q4) y4 r21 q30 x28=some r) _ ⟨[],y4.fTrees,0,rfl,rfl,rfl,rfl,rfl,h⟩ .s ?_;rintro m L τ ⟨p30,q30,x28,rfl,rfl,rfl,hE30,hi30,h⟩
 rcases q30 with _|⟨y30,q30⟩
 · have hz30:=yN hE30 hi30;simp only[zv.l30] at h
   refine rg tok [3,4,5,8,9,21,22,23,48,49,50,51] fun K hK=>?_
   simp only[go_sem,qf,qb,qa,qc,qe,qd,reduceIte,reduceCtorEq,zn,hz4,hw4,hz30];apply hK
   refine zd fun Z31 hZ31=>?_
   refine zo rfl ?_;apply zI;apply hZ27
   refine rc [3,4,5,21,22,23,91] fun K hK=>?_
   refine za tok 4 ?_;simp only[go_sem,qf,qb,qa,qc,qe,qd,reduceIte,reduceCtorEq,zn,hz4,hw4,hz30];obtain⟨c32,hc32,h⟩:=bind_some h;refine zl 6 (fun L τ=>L=[(3,.op 0 0 0),(4,.op 1 0 0),(5,.op 2 0 0),(21,.ds true (qh encGEntry a2.fEntries) (qg a2.fEntries) false),(22,.int .i64 (qg a2.fEntries:Int)),(23,.int .i64 x2),(91,.bool c32)]∧τ=[.cells 0 (encGSchema a0),.cells 0 (encGMessage a1),.cells 0 (cellsGTree a2),.cells 0 (cellsGEntry y4),.cells 0 (encGField r21.1)]) ?_ ?_
   · refine yQ 85 rfl (fun hg85=>?_) (fun hg85=>?_)
     · have t33:=eq_true hg85;rw[if_pos hg85] at hc32;obtain⟨y34,hy34,hc32⟩:=bind_some hc32;have f35:=E38.idxS hy34;have f36:=E38.loadS rfl rfl hy34;obtain⟨r37,hr37,hc32⟩:=zB hc32;refine za tok 4 ?_;simp only[go_sem,qf,qb,qa,qc,qe,qd,reduceIte,reduceCtorEq,cellsGTree,zb,hz4,hw4,hz30,f35,f36];refine clN rfl rfl rfl (wt.ev y34 r37 hr37 _) ?_;refine za tok 1 ?_;simp only[go_sem,qf,qb,qa,qc,qe,qd,reduceIte,reduceCtorEq,cellsGTree,zb,hz4,hw4,hz30];cases hc32;refine ze ⟨rfl,_,_,⟨rfl,rfl⟩,.p t33⟩
     have t38:=eq_false hg85;rw[if_neg hg85] at hc32;refine za tok 6 ?_;simp only[go_sem,qf,qb,qa,qc,qe,qd,reduceIte,reduceCtorEq,cellsGTree,zb,hz4,hw4,hz30];cases hc32;refine ze ⟨rfl,_,_,⟨rfl,rfl⟩,.p t38⟩
   rintro _ _ ⟨rfl,rfl⟩;refine nkN hK ?_;refine zs (b:=c32) rfl (fun hc39=>?_) (fun hc39=>?_)
   · rw[if_pos hc39] at h
     refine rg tok [6] fun K hK=>?_
     simp only[go_sem,qf,qb,qa,qc,qe,qd,reduceIte,reduceCtorEq,hz4,hw4,hz30];apply hK
     cases h;exact rtA
   rw[xI hc39] at h;apply zf;apply hZ18
   refine rgE tok [3,4,5,21,22,23] fun K hK=>?_
   simp only[go_sem,qf,qb,qa,qc,qe,qd,reduceIte,reduceCtorEq,zn,hz4,hw4,hz30];apply hK
   exact⟨_,_,_,qE q4.length,⟨p4++[y4],q4,x2+1,rfl,rfl,rfl,hE'4,hi'4,h⟩,(.t [0,1,2] false)⟩
 obtain⟨hz30,hw30,hx30,hE'30,hi'30⟩:=yo hE30 hi30 hb30;simp only[zv.l30] at h
 refine rg tok [3,4,5,8,9,21,22,23,48,49,50,51] fun K hK=>?_
 simp only[go_sem,qf,qb,qa,qc,qe,qd,reduceIte,reduceCtorEq,zn,hz4,hw4,hz30,hw30];apply hK
 refine zd fun Z40 hZ40=>?_
 refine zu rfl ?_;apply zf;apply hZ40
 refine zd fun Z41 hZ41=>?_
 apply zg;have f42:=E38.idxS hx30;have f43:=E38.loadS rfl rfl hx30
 refine rg tok [3,4,5,8,9,12,21,22,23,48,49,50] fun K hK=>?_
 simp only[go_sem,qf,qb,qa,qc,qe,qd,reduceIte,reduceCtorEq,cellsGTree,zb,hz4,hw4,hz30,hw30,f42,f43];apply hK
 refine rc [3,4,5,8,9,12,13,21,22,23,48,49,50] fun K hK=>?_
 obtain⟨r44,hr44,h⟩:=bind_some h;refine za tok 3 ?_;simp only[go_sem,qf,qb,qa,qc,qe,qd,reduceIte,reduceCtorEq,cellsGTree,zb,encGType,hz4,hw4,hz30,hw30];refine clN rfl rfl rfl (wW.ev r21.1.fType y30 r44 hr44 _) ?_;refine za tok 1 ?_;simp only[go_sem,qf,qb,qa,qc,qe,qd,reduceIte,reduceCtorEq,cellsGTree,zb,encGType,hz4,hw4,hz30,hw30];refine nkN hK ?_;refine yR (fun L τ=>∃ (x45:Int),L=[(3,.op 0 0 0),(4,.op 1 0 0),(5,.op 2 0 0),(8,.op 3 0 0),(9,.op 4 0 0),(13,.int .i64 x45),(21,.ds true (qh encGEntry a2.fEntries) (qg a2.fEntries) false),(22,.int .i64 (qg a2.fEntries:Int)),(23,.int .i64 x2),(48,.ds true (qh encGTree y4.fTrees) (qg y4.fTrees) false),(49,.int .i64 (qg y4.fTrees:Int)),(50,.int .i64 x28)]∧τ=[.cells 0 (encGSchema a0),.cells 0 (encGMessage a1),.cells 0 (cellsGTree a2),.cells 0 (cellsGEntry y4),.cells 0 (encGField r21.1)]∧zv.j46 x28 (zv.l30 z6 a0 x2 (zv.l4 z6 a0 a1 a2 q4) y4 r21 q30) x45=some r) ?_ ?_
 · refine rc [3,4,5,8,9,12,13,21,22,23,48,49,50,65] fun K hK=>?_
   refine za tok 3 ?_;simp only[go_sem,qf,qb,qa,qc,qe,qd,reduceIte,reduceCtorEq,zn,hz4,hw4,hz30,hw30];refine zl 5 (fun L τ=>L=[(3,.op 0 0 0),(4,.op 1 0 0),(5,.op 2 0 0),(8,.op 3 0 0),(9,.op 4 0 0),(12,.op 5 0 0),(13,.int .i64 r44),(21,.ds true (qh encGEntry a2.fEntries) (qg a2.fEntries) false),(22,.int .i64 (qg a2.fEntries:Int)),(23,.int .i64 x2),(48,.ds true (qh encGTree y4.fTrees) (qg y4.fTrees) false),(49,.int .i64 (qg y4.fTrees:Int)),(50,.int .i64 x28),(65,.bool ((decide (r44=0))&&(decide (r21.1.fType.fKind=7))))]∧τ=[.cells 0 (encGSchema a0),.cells 0 (encGMessage a1),.cells 0 (cellsGTree a2),.cells 0 (cellsGEntry y4),.cells 0 (encGField r21.1),.cells 0 (cellsGTree y30)]) ?_ ?_
   · refine yQ 60 rfl (fun hg60=>?_) (fun hg60=>?_)
     · have t50:=eq_true hg60;refine za tok 5 ?_;simp only[go_sem,qf,qb,qa,qc,qe,qd,reduceIte,reduceCtorEq,zn,hz4,hw4,hz30,hw30];refine ze ⟨rfl,_,_,⟨rfl,rfl⟩,.p t50⟩
     have t51:=eq_false hg60;refine za tok 5 ?_;simp only[go_sem,qf,qb,qa,qc,qe,qd,reduceIte,reduceCtorEq,zn,hz4,hw4,hz30,hw30];refine ze ⟨rfl,_,_,⟨rfl,rfl⟩,.p t51⟩
   rintro _ _ ⟨rfl,rfl⟩;refine nkN hK ?_;refine zs (b:=((decide (r44=0))&&(decide (r21.1.fType.fKind=7)))) rfl (fun hc52=>?_) (fun hc52=>?_)
   · rw[if_pos hc52] at h
     refine rc [3,4,5,8,9,12,14,21,22,23,48,49,50] fun K hK=>?_
     obtain⟨r53,hr53,h⟩:=zB h;refine za tok 4 ?_;simp only[go_sem,qf,qb,qa,qc,qe,qd,reduceIte,reduceCtorEq,encGSchema,hz4,hw4,hz30,hw30];refine clN rfl rfl rfl (zH.ev a0 r21.1.fType.fName r53 hr53 _) ?_;refine za tok 6 ?_;simp only[go_sem,qf,qb,qa,qc,qe,qd,reduceIte,reduceCtorEq,encGMessage,encGSchema,hz4,hw4,hz30,hw30];refine nkN hK ?_
     refine rcE [3,4,5,8,9,13,21,22,23,48,49,50] fun K hK=>?_
     obtain⟨r54,hr54,h⟩:=bind_some h;refine za tok 3 ?_;simp only[go_sem,qf,qb,qa,qc,qe,qd,reduceIte,reduceCtorEq,cellsGTree,encGMessage,encGSchema,zb,hz4,hw4,hz30,hw30];refine clN rfl rfl rfl (ev_valid_message a0 r53.1 y30 r54 hr54 _) ?_;refine za tok 1 ?_;simp only[go_sem,qf,qb,qa,qc,qe,qd,reduceIte,reduceCtorEq,cellsGTree,encGMessage,encGSchema,zb,hz4,hw4,hz30,hw30];refine nkN hK ?_;exact⟨_,_,⟨r54,rfl,rfl,h⟩,(.t [0,1,2,3,4] false)⟩
   rw[xI hc52] at h;apply zf;exact⟨_,_,⟨r44,rfl,rfl,h⟩,(.t [0,1,2,3,4] false)⟩
 rintro _ _ ⟨x45,rfl,rfl,h⟩;unfold zv.j46 at h
 refine rg tok [3,4,5,8,9,13,21,22,23,48,49,50,79] fun K hK=>?_
 simp only[go_sem,qf,qb,qa,qc,qe,qd,reduceIte,reduceCtorEq,zn,hz4,hw4,hz30,hw30];apply hK
 refine zM rfl (fun hc47=>?_) (fun hc47=>?_)
 · rw[if_neg hc47] at h;have t48:=eq_false hc47
   refine rg tok [6] fun K hK=>?_
   simp only[go_sem,qf,qb,qa,qc,qe,qd,reduceIte,reduceCtorEq,hz4,hw4,hz30,hw30,t48];apply hK
   cases h;exact rtA
 rw[if_pos hc47] at h;have t49:=eq_true hc47;apply zf;apply hZ41
 refine rgE tok [3,4,5,8,9,21,22,23,48,49,50] fun K hK=>?_
 simp only[go_sem,qf,qb,qa,qc,qe,qd,reduceIte,reduceCtorEq,zn,hz4,hw4,hz30,hw30,t49];apply hK
 exact⟨_,_,_,qE q30.length,⟨p30++[y30],q30,x28+1,rfl,rfl,rfl,hE'30,hi'30,h⟩,.s⟩
end
section
set_option maxRecDepth 4000
set_option maxHeartbeats 1000000
open AM
def zv : Nat→GSchema→GMessage→GTree→Option Int
 |0,_,_,_=>none
 |k+1,a0,a1,a2=>zv.body (zv k) a0 a1 a2
theorem zv.all (k:Nat):(∀ (a0:GSchema) (a1:GMessage) (a2:GTree) (r:Int),zv k a0 a1 a2=some r→ACalls qi 94 [.agg (encGSchema a0),.agg (encGMessage a1),.agg (cellsGTree a2)] [] (fun r' _=>r'=.int .i64 r)):=by
 induction k with
 |zero=>exact (fun a0 a1 a2 r h=>by simp only[zv] at h; cases h)
 |succ k ih=>exact (fun a0 a1 a2 r h=>zv.step _ ih a0 a1 a2 r (by simpa only [zv] using h))
theorem zv.ev (k:Nat)(a0:GSchema)(a1:GMessage)(a2:GTree)(r:Int)(h:zv k a0 a1 a2=some r)(σ:Store):ACalls qi 94 [.agg (encGSchema a0),.agg (encGMessage a1),.agg (cellsGTree a2)] σ (fun r' σ'=>r'=.int .i64 r∧σ'=σ):=
 ((zv.all k) a0 a1 a2 r h).c σ
def wi (a0:GSchema)(a1:List UInt8)(a2:GTree):Option Int:=
 (zS a0).bind fun r2=>(if r2=0 then bnd (zH a0 a1) fun r6=>(if (!r6.2)=true then some 14 else (if a2.fKind=3 then (xW a2).bind fun r9=>some (!r9) else some true).bind fun c9=>(if c9=true then some 1 else (zv xl a0 r6.1 a2).bind fun r14=>some r14)) else some 1)
theorem wi.ok (a0:GSchema)(a1:List UInt8)(a2:GTree)(r:Int)(h:wi a0 a1 a2=some r):ACalls qi 61 [.agg (encGSchema a0),.str a1,.agg (cellsGTree a2)] [] (fun r' _=>r'=.int .i64 r):=by
 refine zj (rs:=[.tmp 6]) tok Tryz.func61 rfl Tryz.ntmps61 rfl Tryz.call61 (by simp) ?_;refine zm [(0,.agg (encGSchema a0)),(1,.str a1),(2,.agg (cellsGTree a2))] ⟨rfl,rfl,rfl,trivial⟩ ?_;unfold wi at h
 refine rg tok [1,3,5] fun K hK=>?_
 simp only[go_sem,qf,qb,qa,qc,qe,qd,reduceIte,reduceCtorEq,cellsGTree,encGSchema,zb];apply hK
 refine zd fun Z1 hZ1=>?_
 refine rc [1,3,5,11] fun K hK=>?_
 obtain⟨r2,hr2,h⟩:=bind_some h;refine za tok 1 ?_;simp only[go_sem,qf,qb,qa,qc,qe,qd,reduceIte,reduceCtorEq,encGSchema];refine clN rfl rfl rfl (zS.ev a0 r2 hr2 _) ?_;refine za tok 1 ?_;simp only[go_sem,qf,qb,qa,qc,qe,qd,reduceIte,reduceCtorEq,zn,encGSchema];refine nkN hK ?_;refine zM rfl (fun hc3=>?_) (fun hc3=>?_)
 · rw[if_neg hc3] at h;have t4:=eq_false hc3
   refine rg tok [6] fun K hK=>?_
   simp only[go_sem,qf,qb,qa,qc,qe,qd,reduceIte,reduceCtorEq,t4];apply hK
   cases h;exact rtA
 rw[if_pos hc3] at h;have t5:=eq_true hc3;apply zf;apply hZ1
 refine rc [3,5,7,8] fun K hK=>?_
 obtain⟨r6,hr6,h⟩:=zB h;refine za tok 2 ?_;simp only[go_sem,qf,qb,qa,qc,qe,qd,reduceIte,reduceCtorEq,encGSchema,t5];refine clN rfl rfl rfl (zH.ev a0 a1 r6 hr6 _) ?_;refine za tok 6 ?_;simp only[go_sem,qf,qb,qa,qc,qe,qd,reduceIte,reduceCtorEq,encGMessage,encGSchema,t5];refine nkN hK ?_
 refine zd fun Z7 hZ7=>?_
 apply zg
 refine rg tok [3,5,7,18] fun K hK=>?_
 simp only[go_sem,qf,qb,qa,qc,qe,qd,reduceIte,reduceCtorEq,t5];apply hK
 refine zs (b:=(!r6.2)) rfl (fun hc8=>?_) (fun hc8=>?_)
 · rw[if_pos hc8] at h
   refine rg tok [6] fun K hK=>?_
   simp only[go_sem,qf,qb,qa,qc,qe,qd,reduceIte,reduceCtorEq,t5];apply hK
   cases h;exact rtA
 rw[xI hc8] at h
 refine rc [3,5,7,21] fun K hK=>?_
 refine za tok 4 ?_;simp only[go_sem,qf,qb,qa,qc,qe,qd,reduceIte,reduceCtorEq,zn,t5];obtain⟨c9,hc9,h⟩:=bind_some h;refine zl 4 (fun L τ=>L=[(3,.op 0 0 0),(5,.op 1 0 0),(7,.op 2 0 0),(29,.bool c9)]∧τ=[.cells 0 (encGSchema a0),.cells 0 (cellsGTree a2),.cells 0 (encGMessage r6.1)]) ?_ ?_
 · refine yQ 25 rfl (fun hg25=>?_) (fun hg25=>?_)
   · have t10:=eq_false hg25;rw[if_neg hg25] at hc9;refine za tok 4 ?_;simp only[go_sem,qf,qb,qa,qc,qe,qd,reduceIte,reduceCtorEq,cellsGTree,zb,t5];cases hc9;refine ze ⟨rfl,_,_,⟨rfl,rfl⟩,.p t10⟩
   have t11:=eq_true hg25;rw[if_pos hg25] at hc9;obtain⟨r12,hr12,hc9⟩:=bind_some hc9;refine za tok 1 ?_;simp only[go_sem,qf,qb,qa,qc,qe,qd,reduceIte,reduceCtorEq,cellsGTree,zb,t5];refine clN rfl rfl rfl (xW.ev a2 r12 hr12 _) ?_;refine za tok 2 ?_;simp only[go_sem,qf,qb,qa,qc,qe,qd,reduceIte,reduceCtorEq,cellsGTree,zb,t5];cases hc9;refine ze ⟨rfl,_,_,⟨rfl,rfl⟩,.p t11⟩
 rintro _ _ ⟨rfl,rfl⟩;refine za tok 1 ?_;simp only[go_sem,qf,qb,qa,qc,qe,qd,reduceIte,reduceCtorEq,cellsGTree,zb,t5];refine nkN hK ?_;refine zs (b:=c9) rfl (fun hc13=>?_) (fun hc13=>?_)
 · rw[if_pos hc13] at h
   refine rg tok [6] fun K hK=>?_
   simp only[go_sem,qf,qb,qa,qc,qe,qd,reduceIte,reduceCtorEq,t5];apply hK
   cases h;exact rtA
 rw[xI hc13] at h;apply zf;apply hZ7
 refine rc [6] fun K hK=>?_
 obtain⟨r14,hr14,h⟩:=bind_some h;refine za tok 3 ?_;simp only[go_sem,qf,qb,qa,qc,qe,qd,reduceIte,reduceCtorEq,cellsGTree,encGMessage,encGSchema,zb,t5];refine clN rfl rfl rfl (zv.ev xl a0 r6.1 a2 r14 hr14 _) ?_;refine za tok 1 ?_;simp only[go_sem,qf,qb,qa,qc,qe,qd,reduceIte,reduceCtorEq,cellsGTree,encGMessage,encGSchema,zb,t5];refine nkN hK ?_;cases h;exact rtA
theorem wi.ev (a0:GSchema)(a1:List UInt8)(a2:GTree)(r:Int)(h:wi a0 a1 a2=some r)(σ:Store):ACalls qi 61 [.agg (encGSchema a0),.str a1,.agg (cellsGTree a2)] σ (fun r' σ'=>r'=.int .i64 r∧σ'=σ):=
 (wi.ok a0 a1 a2 r h).c σ
def Zr (a0:Int):GValueValue:=
 (GValueValue.num a0)
theorem Zr.ok (a0:Int)(r:GValueValue)(h:Zr a0=r):ACalls qi 225 [.int .i64 a0] [] (fun r' _=>r'=.agg (encGValueValue r)):=by
 refine zj (rs:=[.cell 2 228]) tok Tryz.func225 rfl Tryz.ntmps225 rfl Tryz.call225 (by simp) ?_;refine zm [(0,.int .i64 a0)] ⟨rfl,trivial⟩ ?_;unfold Zr at h;refine rgN [0,2] ?_
 refine rg tok [2] fun K hK=>?_
 simp only[go_sem,qf,qb,qa,qc,qe,qd,reduceIte,reduceCtorEq,encGValueValue];apply hK
 cases h;exact rtA
theorem Zr.ev (a0:Int)(r:GValueValue)(h:Zr a0=r)(σ:Store):ACalls qi 225 [.int .i64 a0] σ (fun r' σ'=>r'=.agg (encGValueValue r)∧σ'=σ):=
 (Zr.ok a0 r h).c σ
def Zq (a0:List UInt8):GValueValue:=
 (GValueValue.str a0)
theorem Zq.ok (a0:List UInt8)(r:GValueValue)(h:Zq a0=r):ACalls qi 226 [.str a0] [] (fun r' _=>r'=.agg (encGValueValue r)):=by
 refine zj (rs:=[.cell 2 228]) tok Tryz.func226 rfl Tryz.ntmps226 rfl Tryz.call226 (by simp) ?_;refine zm [(0,.str a0)] ⟨rfl,trivial⟩ ?_;unfold Zq at h;refine rgN [0,2] ?_
 refine rg tok [2] fun K hK=>?_
 simp only[go_sem,qf,qb,qa,qc,qe,qd,reduceIte,reduceCtorEq,encGValueValue];apply hK
 cases h;exact rtA
theorem Zq.ev (a0:List UInt8)(r:GValueValue)(h:Zq a0=r)(σ:Store):ACalls qi 226 [.str a0] σ (fun r' σ'=>r'=.agg (encGValueValue r)∧σ'=σ):=
 (Zq.ok a0 r h).c σ
def yV (a0:List GRaw):Option (List GRaw):=(Xj (qg a0) 40).bind fun _=>some a0
theorem yV.ok (a0 r:List GRaw)(h:yV a0=some r):ACalls qi 227 [.ds true (qh encGRaw a0) (qg a0) false] [] (fun r' _=>r'=.ds true (qh encGRaw r) (qg r) false):=by
 obtain⟨_u,hu,h⟩:=bind_some h;have gu:=yI hu;cases h
 have f1:=fun nl tt σ=>wx E35.len a0 nl tt σ
 have f2:=zE E35.len a0;have f3:=YZ encGRaw a0
 have fin:∀ σ id ver tt,Store.at σ id ver=some (qh encGRaw a0)→tell σ [] true 12 (.os true 4 id ver 0 (qg a0) tt)=.ds true (qh encGRaw a0) (qg a0) false:=by
  intro σ id ver tt hs
  simp only[w9,wC,hs,qn,ql];rw[if_pos (by rw[f2]; exact qy _),← f2,uc,zh]
 refine zj (rs:=[.tmp 2]) tok Tryz.func227 rfl Tryz.ntmps227 rfl Tryz.call227 (by simp) ?_;refine zm [(0,.ds true (qh encGRaw a0) (qg a0) false)] ⟨rfl,trivial⟩ ?_;refine rgN [0] ?_
 refine zd fun Z1 hZ1=>?_
 refine rc [0,4] fun K hK=>?_
 refine rnN 1 ?_
 refine XI tok rfl rfl rfl rfl rfl rfl fun b hnil=>?_
 have hb:b=true→a0=[]:=fun hb=>by
  have:=hnil hb;simp only[yx,go_sem,qf,qb,qa,qc,qe,qd,reduceIte,reduceCtorEq] at this;exact uN this
 clear hnil
 refine nkN hK ?_;cases b
 · refine zo rfl ?_;apply zf;apply hZ1
   refine rg tok [2] fun K hK=>?_
   by_cases h0:qg a0=0
   · obtain rfl:=uN h0;simp only[go_sem,qf,qb,qa,qc,qe,qd,reduceIte,reduceCtorEq,zL,zX,qS,qX,yv,yb,yx,yc,qL,qz,ut,qV,gt_iff_lt];apply hK
     apply zJ;simp only[wb,ya,yf,yS,exists_eq_left',go_sem,qf,qb,qa,qc,qe,qd,reduceIte,reduceCtorEq]
     first|rfl|(simp only[go_sem,qf,qb,qa,qc,qe,qd,reduceIte,reduceCtorEq,w9,wC,qs]<;>rfl)
   have h1:=eq_false h0;simp only[go_sem,qf,qb,qa,qc,qe,qd,reduceIte,reduceCtorEq,zL,zX,qS,qX,yv,yb,yx,f1,f3,h1,gu,yu,gt_iff_lt,qs,qJ,ut];apply hK
   apply zJ;simp only[wb,ya,yf,yS,exists_eq_left',go_sem,qf,qb,qa,qc,qe,qd,reduceIte,reduceCtorEq];exact fin _ _ _ _ (by simp only[Store.at_hd,Store.at_tl,if_true])
 obtain rfl:=hb rfl;refine zu rfl ?_;refine rgN [2] ?_;apply zJ;simp only[wb,ya,yf,yS,exists_eq_left',go_sem,qf,qb,qa,qc,qe,qd,reduceIte,reduceCtorEq]
 first|rfl|(simp only[go_sem,qf,qb,qa,qc,qe,qd,reduceIte,reduceCtorEq,Yu,qs,qq,qr,qt]<;>rfl)
theorem yV.own (a0 r:List GRaw)(h:yV a0=some r):ACalls qi 227 [.ds true (qh encGRaw a0) (qg a0) false] [] (fun r' σ'=>r'=.os true 4 0 0 0 (qg r) false∧σ'=[.cells 0 (qh encGRaw r)]):=by
 obtain⟨_u,hu,h⟩:=bind_some h;have gu:=yI hu;cases h
 have f1:=fun nl tt σ=>wx E35.len a0 nl tt σ
 have f2:=zE E35.len a0;have f3:=YZ encGRaw a0;refine vaD (rs:=[.tmp 2]) tok Tryz.func227 rfl Tryz.ntmps227 rfl Tryz.call227 (by simp) ?_;refine zm [(0,.ds true (qh encGRaw a0) (qg a0) false)] ⟨rfl,trivial⟩ ?_;refine rgN [0] ?_
 refine zd fun Z1 hZ1=>?_
 refine rc [0,4] fun K hK=>?_
 refine rnN 1 ?_
 refine XI tok rfl rfl rfl rfl rfl rfl fun b hnil=>?_
 have hb:b=true→a0=[]:=fun hb=>by
  have:=hnil hb;simp only[yx,go_sem,qf,qb,qa,qc,qe,qd,reduceIte,reduceCtorEq] at this;exact uN this
 clear hnil
 refine nkN hK ?_;cases b
 · refine zo rfl ?_;apply zf;apply hZ1
   refine rg tok [2] fun K hK=>?_
   by_cases h0:qg a0=0
   · obtain rfl:=uN h0;simp only[go_sem,qf,qb,qa,qc,qe,qd,reduceIte,reduceCtorEq,zL,zX,qS,qX,yv,yb,yx,yc,qL,qz,ut,qV,gt_iff_lt];apply hK
     apply zJ;simp only[wb,ya,yf,yS,exists_eq_left',go_sem,qf,qb,qa,qc,qe,qd,reduceIte,reduceCtorEq];refine .inl ⟨0,true,by simp,?_,?_⟩
     · first|rfl|(simp only[go_sem,qf,qb,qa,qc,qe,qd,reduceIte,reduceCtorEq,w9,wM,if_true]<;>rfl)
     first|rfl|(simp only[go_sem,qf,qb,qa,qc,qe,qd,reduceIte,reduceCtorEq,Yd,YH,ZG,Yf,Ye,qs]<;>rfl)
   have h1:=eq_false h0;simp only[go_sem,qf,qb,qa,qc,qe,qd,reduceIte,reduceCtorEq,zL,zX,qS,qX,yv,yb,yx,f1,f3,h1,gu,yu,gt_iff_lt,qs,qJ,ut];apply hK
   apply zJ;simp only[wb,ya,yf,yS,exists_eq_left',go_sem,qf,qb,qa,qc,qe,qd,reduceIte,reduceCtorEq];refine .inl ⟨1,false,by simp,?_,?_⟩
   · first|rfl|(simp only[go_sem,qf,qb,qa,qc,qe,qd,reduceIte,reduceCtorEq,w9,wM,if_true]<;>rfl)
   first|rfl|(simp only[go_sem,qf,qb,qa,qc,qe,qd,reduceIte,reduceCtorEq,Yd,YH,ZG,Yf,Ye,zh]<;>rfl)
 obtain rfl:=hb rfl;refine zu rfl ?_;refine rgN [2] ?_;apply zJ;simp only[wb,ya,yf,yS,exists_eq_left',go_sem,qf,qb,qa,qc,qe,qd,reduceIte,reduceCtorEq];refine .inr ?_
 first|rfl|(simp only[go_sem,qf,qb,qa,qc,qe,qd,reduceIte,reduceCtorEq,Yu,qs,qq,qv,qk,qm]<;>rfl)
theorem yV.ev (a0 r:List GRaw)(h:yV a0=some r)(σ:Store):ACalls qi 227 [.ds true (qh encGRaw a0) (qg a0) false] σ (fun r' σ'=>r'=.ds true (qh encGRaw r) (qg r) false∧σ'=σ):=
 (yV.ok a0 r h).pureAt (by simp only[AV.canon,canonL,canon_all,Zs,YU,Zf,qG,qm,uF,qk,Bool.true_or]) (by simp only[AV.canon,canonL,canon_all,Zs,YU,Zf,qG,qm,uF,qk,Bool.true_or]) σ
def ye.l35 (yi:GTree→Option GValueValue)(l14:List GValueEntry)(x16:Int)(rec20:List GValueEntry→Int→Option GValueValue)(y25:GEntry):List GTree→Int→List GValueValue→Option GValueValue
 |[],x31,l29=>(Xj (qg l14+1) 32).bind fun _u37=>(rec20 (l14++[(⟨y25.fTag,l29⟩:GValueEntry)]) (IntKind.i64.wrap (x16+1)))
 |y35::q35,x31,l29=>(yi y35).bind fun r43=>(Xj (qg l29+1) 16).bind fun _u45=>((ye.l35 yi l14 x16 rec20 y25 q35) (x31+1) (l29++[r43]))
def ye.l20 (yi:GTree→Option GValueValue)(a0:GTree)(r12:List GRaw):Nat→List GValueEntry→Int→Option GValueValue
 |0,_,_=>none
 |k20+1,l14,x16=>(if x16<(qg a0.fEntries:Int) then (YD a0.fEntries x16).bind fun y25=>(ye.l35 yi l14 x16 (ye.l20 yi a0 r12 k20) y25 y25.fTrees 0 ([]:List GValueValue)) else some (GValueValue.node l14 r12))
def ye.l62 (yi:GTree→Option GValueValue)(a0:GTree)(r12:List GRaw)(y52:GEntry):List GTree→Int→List GValueValue→Option GValueValue
 |[],x58,l56=>(ye.l20 yi a0 r12 xl [(⟨y52.fTag,l56⟩:GValueEntry)] (IntKind.i64.wrap (0+1)))
 |y62::q62,x58,l56=>(yi y62).bind fun r68=>(Xj (qg l56+1) 16).bind fun _u70=>((ye.l62 yi a0 r12 y52 q62) (x58+1) (l56++[r68]))
def ye.body (yi:GTree→Option GValueValue)(a0:GTree):Option GValueValue:=
 (if a0.fKind=1 then bnd (Zr a0.fN) fun r4=>some r4 else (if a0.fKind=2 then bnd (Zq a0.fS) fun r9=>some r9 else (yV a0.fRest).bind fun r12=>(if 0<(qg a0.fEntries:Int) then (YD a0.fEntries 0).bind fun y52=>(ye.l62 yi a0 r12 y52 y52.fTrees 0 ([]:List GValueValue)) else some (GValueValue.node ([]:List GValueEntry) r12))))
theorem ye.step (yi:GTree→Option GValueValue)(ih_value_made:∀ (a0:GTree) (r:GValueValue),yi a0=some r→ACalls qi 185 [.agg (cellsGTree a0)] [] (fun r' _=>r'=.agg (encGValueValue r)))(a0:GTree)(r:GValueValue)(h:ye.body yi a0=some r):ACalls qi 185 [.agg (cellsGTree a0)] [] (fun r' _=>r'=.agg (encGValueValue r)):=by
 have ev_value_made:=fun a0 r h σ=>(ih_value_made a0 r h).c σ
 refine zj (rs:=[.cell 2 228]) tok Tryz.func185 rfl Tryz.ntmps185 rfl Tryz.call185 (by simp) ?_;refine zm [(0,.agg (cellsGTree a0))] ⟨rfl,trivial⟩ ?_;unfold ye.body at h
 refine rg tok [1,2] fun K hK=>?_
 simp only[go_sem,qf,qb,qa,qc,qe,qd,reduceIte,reduceCtorEq,cellsGTree,zb];apply hK
 refine zd fun Z1 hZ1=>?_
 refine rgN [1,2,10] ?_;apply zg
 refine rg tok [1,2,10,11] fun K hK=>?_
 simp only[go_sem,qf,qb,qa,qc,qe,qd,reduceIte,reduceCtorEq,zn];apply hK
 refine zM rfl (fun hc2=>?_) (fun hc2=>?_)
 · rw[if_pos hc2] at h;have t3:=eq_true hc2
   refine rc [2] fun K hK=>?_
   obtain⟨r4,hr4,h⟩:=zB h;refine za tok 2 ?_;simp only[go_sem,qf,qb,qa,qc,qe,qd,reduceIte,reduceCtorEq,t3];refine clN rfl rfl rfl (Zr.ev a0.fN r4 hr4 _) ?_;have f5:=wk r4;unfold AV.one at f5;refine za tok 1 ?_;simp only[go_sem,qf,qb,qa,qc,qe,qd,reduceIte,reduceCtorEq,encGValueValue,t3,f5];refine nkN hK ?_;cases h;exact rtA
 rw[if_neg hc2] at h;have t6:=eq_false hc2
 refine rg tok [1,2,16] fun K hK=>?_
 simp only[go_sem,qf,qb,qa,qc,qe,qd,reduceIte,reduceCtorEq,zn,t6];apply hK
 refine zM rfl (fun hc7=>?_) (fun hc7=>?_)
 · rw[if_pos hc7] at h;have t8:=eq_true hc7
   refine rc [2] fun K hK=>?_
   obtain⟨r9,hr9,h⟩:=zB h;refine za tok 2 ?_;simp only[go_sem,qf,qb,qa,qc,qe,qd,reduceIte,reduceCtorEq,t6,t8];refine clN rfl rfl rfl (Zq.ev a0.fS r9 hr9 _) ?_;have f10:=wk r9;unfold AV.one at f10;refine za tok 1 ?_;simp only[go_sem,qf,qb,qa,qc,qe,qd,reduceIte,reduceCtorEq,encGValueValue,t6,t8,f10];refine nkN hK ?_;cases h;exact rtA
 rw[if_neg hc7] at h;have t11:=eq_false hc7;apply zf;apply hZ1
 refine rc [1,2,3] fun K hK=>?_
 obtain⟨r12,hr12,h⟩:=bind_some h;refine za tok 2 ?_;simp only[go_sem,qf,qb,qa,qc,qe,qd,reduceIte,reduceCtorEq,t6,t11];refine clN rfl rfl rfl (yV.ev a0.fRest r12 hr12 _) ?_;refine za tok 3 ?_;simp only[go_sem,qf,qb,qa,qc,qe,qd,reduceIte,reduceCtorEq,encGValueNode,t6,t11];refine nkN hK ?_
 refine zd fun Z13 hZ13=>?_
 refine rg tok [2,3,27,28,29] fun K hK=>?_
 simp only[go_sem,qf,qb,qa,qc,qe,qd,reduceIte,reduceCtorEq,t6,t11];apply hK
 apply zg;refine awp_loopS1 (fun m L τ=>∃ (k20:Nat) (l14:List GValueEntry) (x16:Int) (v15:Nat),m=0+k20∧L=[(2,.op 0 0 0),(3,.op 1 0 0),(27,.ds true (qh encGEntry a0.fEntries) (qg a0.fEntries) false),(28,.int .i64 (qg a0.fEntries:Int)),(29,.int .i64 x16)]∧τ=[.cells 0 [.nilI],.cells 0 [.os true 2 2 v15 0 (qg l14) false,.ds true (qh encGRaw r12) (qg r12) false],.cells v15 (qh encGValueEntry l14)]∧ye.l20 yi a0 r12 k20 l14 x16=some r) (xl+1) ?_ ?_
 · refine rg tok [2,3,27,28,29,30] fun K hK=>?_
   simp only[go_sem,qf,qb,qa,qc,qe,qd,reduceIte,reduceCtorEq,zn,t6,t11];apply hK
   refine zd fun Z48 hZ48=>?_
   refine zM rfl (fun hc49=>?_) (fun hc49=>?_)
   · rw[if_pos hc49] at h;have t50:=eq_true hc49;apply zf;apply hZ48
     refine zd fun Z51 hZ51=>?_
     apply zg;obtain⟨y52,hy52,h⟩:=bind_some h;have f53:=E34.idxS hy52;have f54:=E34.loadS rfl rfl hy52
     refine rg tok [2,3,5,27,28,29] fun K hK=>?_
     simp only[go_sem,qf,qb,qa,qc,qe,qd,reduceIte,reduceCtorEq,cellsGEntry,zN,t6,t11,t50,f53,f54];apply hK
     refine rg tok [2,3,5,6,27,28,29] fun K hK=>?_
     simp only[go_sem,qf,qb,qa,qc,qe,qd,reduceIte,reduceCtorEq,cellsGValueEntry,zO,t6,t11,t50];apply hK
     refine wI 4 1 1 rfl (by simp) rfl (L:=[(2,.op 1 0 0),(3,.op 2 0 0),(5,.op 3 0 0),(6,.op 4 0 0),(27,.ds true (qh encGEntry a0.fEntries) (qg a0.fEntries) false),(28,.int .i64 (qg a0.fEntries:Int)),(29,.int .i64 0)]) (τ:=[.cells 0 (cellsGTree a0),.cells 0 [.nilI],.cells 0 [.ds true [] 0 true,.ds true (qh encGRaw r12) (qg r12) false],.cells 0 (cellsGEntry y52),.cells 0 [.int .i64 y52.fTag,.os true 1 5 0 0 (qg ([]:List GValueValue)) false],.cells 0 (qh encGValueValue ([]:List GValueValue))]) .s ?_
     refine zd fun Z55 hZ55=>?_
     refine rg tok [2,3,6,27,28,29,37,38,39] fun K hK=>?_
     simp only[go_sem,qf,qb,qa,qc,qe,qd,reduceIte,reduceCtorEq,t6,t11,t50];apply hK
     apply zg
     refine yq 37 fun hb62=>?_
     replace hb62:qg y52.fTrees≤9223372036854775807:=hb62.1;refine zP (fun m L τ=>∃ (p62 q62:List GTree) (x58:Int) (l56:List GValueValue) (v57:Nat),m=qg q62∧L=[(2,.op 0 0 0),(3,.op 1 0 0),(6,.op 2 0 0),(27,.ds true (qh encGEntry a0.fEntries) (qg a0.fEntries) false),(28,.int .i64 (qg a0.fEntries:Int)),(29,.int .i64 0),(37,.ds true (qh encGTree y52.fTrees) (qg y52.fTrees) false),(38,.int .i64 (qg y52.fTrees:Int)),(39,.int .i64 x58)]∧τ=[.cells 0 [.nilI],.cells 0 [.ds true [] 0 true,.ds true (qh encGRaw r12) (qg r12) false],.cells 0 [.int .i64 y52.fTag,.os true 1 3 v57 0 (qg l56) false],.cells v57 (qh encGValueValue l56)]∧y52.fTrees=p62++q62∧x58=(qg p62:Int)∧ye.l62 yi a0 r12 y52 q62 x58 l56=some r) _ ⟨[],y52.fTrees,0,([]:List GValueValue),0,rfl,rfl,rfl,rfl,rfl,h⟩ (.t [1,2,4,5] false) ?_;rintro m L τ ⟨p62,q62,x58,l56,v57,rfl,rfl,rfl,hE62,hi62,h⟩
     rcases q62 with _|⟨y62,q62⟩
     · have hz62:=yN hE62 hi62;simp only[ye.l62] at h
       refine rg tok [2,3,6,27,28,29,37,38,39,40] fun K hK=>?_
       simp only[go_sem,qf,qb,qa,qc,qe,qd,reduceIte,reduceCtorEq,zn,t6,t11,t50,hz62];apply hK
       refine zd fun Z63 hZ63=>?_
       refine zo rfl ?_;apply zI;apply hZ55
       refine rdE [2,3,27,28,29] fun K hK=>?_
       refine DW.start (T:=tab) [.any,.any,.any,.any,.own 1 [],.at [],.eff,.eff,.any,.any,.eff] [(1,[])] ?_;refine DW.runN tok 8 ?_;simp only[go_sem,qf,qb,qa,qc,qe,qd,reduceIte,reduceCtorEq,zL,zX,qY,qS,qX,true_and,q3,yv,yb,yx,cellsGValueEntry,zO,encGValueNode,t6,t11,t50,hz62,yu,qV,qT,AV.one,qG,qm,gt_iff_lt,zF,qA,qB,qL,qF,qJ,qw,qx,qz,ql,qD,qH];refine DW.runN tok 3 ?_;simp only[go_sem,qf,qb,qa,qc,qe,qd,reduceIte,reduceCtorEq,cellsGValueEntry,zO,encGValueNode,t6,t11,t50,hz62,yu,qV,qT,AV.one,qG,qm,gt_iff_lt,zF,qA,qB,qL,qF,qJ,qw,qx,qz,ql,qD,qH];refine DW.fin tok (by decide +kernel) rfl ?_;simp only[zk,zw,zD,xJ,upd,qa,reduceIte,z1,yA];apply hK
       apply hZ51
       refine rgE tok [2,3,27,28,29] fun K hK=>?_
       simp only[go_sem,qf,qb,qa,qc,qe,qd,reduceIte,reduceCtorEq,zn,t6,t11,t50,hz62];apply hK
       exact⟨_,_,_,(Nat.lt_succ_of_le (Nat.le_of_eq (ql xl))),⟨xl,[(⟨y52.fTag,l56⟩:GValueEntry)],IntKind.i64.wrap (0+1),0,rfl,rfl,rfl,h⟩,(.t [0,1,5] false)⟩
     obtain⟨hz62,hw62,hx62,hE'62,hi'62⟩:=yo hE62 hi62 hb62;simp only[ye.l62] at h
     refine rg tok [2,3,6,27,28,29,37,38,39,40] fun K hK=>?_
     simp only[go_sem,qf,qb,qa,qc,qe,qd,reduceIte,reduceCtorEq,zn,t6,t11,t50,hz62,hw62];apply hK
     refine zd fun Z64 hZ64=>?_
     refine zu rfl ?_;apply zf;apply hZ64
     refine zd fun Z65 hZ65=>?_
     apply zg;have f66:=E38.idxS hx62;have f67:=E38.loadS rfl rfl hx62
     refine rg tok [2,3,6,8,27,28,29,37,38,39] fun K hK=>?_
     simp only[go_sem,qf,qb,qa,qc,qe,qd,reduceIte,reduceCtorEq,cellsGTree,zb,t6,t11,t50,hz62,hw62,f66,f67];apply hK
     obtain⟨r68,hr68,h⟩:=bind_some h;have f69:=wk r68;unfold AV.one at f69;obtain⟨_u70,hu70,h⟩:=bind_some h;have gu70:=yI hu70;have f71:=(zE E282.len l56)
     refine rdE [2,3,6,27,28,29,37,38,39] fun K hK=>?_
     refine DW.start (T:=tab) [.any,.own 2 [],.at [],.eff,.eff,.eff,.any,.eff] [(2,[])] ?_;refine DW.runN tok 3 ?_;simp only[go_sem,qf,qb,qa,qc,qe,qd,reduceIte,reduceCtorEq,cellsGTree,cellsGValueEntry,zb,zO,encGValueValue,t6,t11,t50,hz62,hw62,f69,gu70,f71,yu,qV,qT,AV.one,qG,qm,gt_iff_lt,zF,qA,qB,qL,qF,qJ,qw,qx,qz,ql,qD,qH];refine DW.call rfl rfl rfl (ev_value_made y62 r68 hr68 _) ?_;refine DW.runN tok 4 ?_;simp only[go_sem,qf,qb,qa,qc,qe,qd,reduceIte,reduceCtorEq,zL,zX,qY,qS,qX,true_and,q3,yv,yb,yx,cellsGTree,cellsGValueEntry,zb,zO,encGValueValue,t6,t11,t50,hz62,hw62,f69,gu70,f71,yu,qV,qT,AV.one,qG,qm,gt_iff_lt,zF,qA,qB,qL,qF,qJ,qw,qx,qz,ql,qD,qH];refine DW.fin tok (by decide +kernel) rfl ?_;simp only[zk,zw,zD,xJ,upd,qa,reduceIte,z1,yA];apply hK
     apply hZ65
     refine rgE tok [2,3,6,27,28,29,37,38,39] fun K hK=>?_
     simp only[go_sem,qf,qb,qa,qc,qe,qd,reduceIte,reduceCtorEq,zn,t6,t11,t50,hz62,hw62];apply hK
     exact⟨_,_,_,qE q62.length,⟨p62++[y62],q62,x58+1,l56++[r68],v57+1,rfl,rfl,rfl,hE'62,hi'62,h⟩,(.t [0,1,2,3] false)⟩
   rw[if_neg hc49] at h;have t72:=eq_false hc49;apply zI;apply hZ13
   refine rg tok [2] fun K hK=>?_
   simp only[go_sem,qf,qb,qa,qc,qe,qd,reduceIte,reduceCtorEq,encGValueValue,t6,t11,t72];apply hK
   cases h;exact rtA
 clear h
 rintro m L τ ⟨k20,l14,x16,v15,rfl,rfl,rfl,h⟩
 rcases k20 with _|k20
 · cases h
 simp only[ye.l20] at h
 refine rg tok [2,3,27,28,29,30] fun K hK=>?_
 simp only[go_sem,qf,qb,qa,qc,qe,qd,reduceIte,reduceCtorEq,zn,t6,t11];apply hK
 refine zd fun Z21 hZ21=>?_
 refine zM rfl (fun hc22=>?_) (fun hc22=>?_)
 · rw[if_pos hc22] at h;have t23:=eq_true hc22;apply zf;apply hZ21
   refine zd fun Z24 hZ24=>?_
   apply zg;obtain⟨y25,hy25,h⟩:=bind_some h;have f26:=E34.idxS hy25;have f27:=E34.loadS rfl rfl hy25
   refine rg tok [2,3,5,27,28,29] fun K hK=>?_
   simp only[go_sem,qf,qb,qa,qc,qe,qd,reduceIte,reduceCtorEq,cellsGEntry,zN,t6,t11,t23,f26,f27];apply hK
   refine rg tok [2,3,5,6,27,28,29] fun K hK=>?_
   simp only[go_sem,qf,qb,qa,qc,qe,qd,reduceIte,reduceCtorEq,cellsGValueEntry,zO,t6,t11,t23];apply hK
   refine wI 4 1 1 rfl (by simp) rfl (L:=[(2,.op 0 0 0),(3,.op 1 0 0),(5,.op 3 0 0),(6,.op 4 0 0),(27,.ds true (qh encGEntry a0.fEntries) (qg a0.fEntries) false),(28,.int .i64 (qg a0.fEntries:Int)),(29,.int .i64 x16)]) (τ:=[.cells 0 [.nilI],.cells 0 [.os true 2 2 v15 0 (qg l14) false,.ds true (qh encGRaw r12) (qg r12) false],.cells v15 (qh encGValueEntry l14),.cells 0 (cellsGEntry y25),.cells 0 [.int .i64 y25.fTag,.os true 1 5 0 0 (qg ([]:List GValueValue)) false],.cells 0 (qh encGValueValue ([]:List GValueValue))]) .s ?_
   refine zd fun Z28 hZ28=>?_
   refine rg tok [2,3,6,27,28,29,37,38,39] fun K hK=>?_
   simp only[go_sem,qf,qb,qa,qc,qe,qd,reduceIte,reduceCtorEq,t6,t11,t23];apply hK
   apply zg
   refine yq 37 fun hb35=>?_
   replace hb35:qg y25.fTrees≤9223372036854775807:=hb35.1;refine zP (fun m L τ=>∃ (p35 q35:List GTree) (x31:Int) (l29:List GValueValue) (v30:Nat),m=qg q35∧L=[(2,.op 0 0 0),(3,.op 1 0 0),(6,.op 3 0 0),(27,.ds true (qh encGEntry a0.fEntries) (qg a0.fEntries) false),(28,.int .i64 (qg a0.fEntries:Int)),(29,.int .i64 x16),(37,.ds true (qh encGTree y25.fTrees) (qg y25.fTrees) false),(38,.int .i64 (qg y25.fTrees:Int)),(39,.int .i64 x31)]∧τ=[.cells 0 [.nilI],.cells 0 [.os true 2 2 v15 0 (qg l14) false,.ds true (qh encGRaw r12) (qg r12) false],.cells v15 (qh encGValueEntry l14),.cells 0 [.int .i64 y25.fTag,.os true 1 4 v30 0 (qg l29) false],.cells v30 (qh encGValueValue l29)]∧y25.fTrees=p35++q35∧x31=(qg p35:Int)∧ye.l35 yi l14 x16 (ye.l20 yi a0 r12 k20) y25 q35 x31 l29=some r) _ ⟨[],y25.fTrees,0,([]:List GValueValue),0,rfl,rfl,rfl,rfl,rfl,h⟩ (.t [0,1,2,4,5] false) ?_;rintro m L τ ⟨p35,q35,x31,l29,v30,rfl,rfl,rfl,hE35,hi35,h⟩
   rcases q35 with _|⟨y35,q35⟩
   · have hz35:=yN hE35 hi35;simp only[ye.l35] at h
     refine rg tok [2,3,6,27,28,29,37,38,39,40] fun K hK=>?_
     simp only[go_sem,qf,qb,qa,qc,qe,qd,reduceIte,reduceCtorEq,zn,t6,t11,t23,hz35];apply hK
     refine zd fun Z36 hZ36=>?_
     refine zo rfl ?_;apply zI;apply hZ28;obtain⟨_u37,hu37,h⟩:=bind_some h;have gu37:=yI hu37;have f38:=(zE E324.len l14)
     refine rdE [2,3,27,28,29] fun K hK=>?_
     refine DW.start (T:=tab) [.any,.any,.any,.any,.own 1 [],.at [],.eff,.eff,.any,.any,.eff] [(1,[])] ?_;refine DW.runN tok 8 ?_;simp only[go_sem,qf,qb,qa,qc,qe,qd,reduceIte,reduceCtorEq,zL,zX,qY,qS,qX,true_and,q3,yv,yb,yx,cellsGValueEntry,zO,encGValueNode,t6,t11,t23,hz35,gu37,f38,yu,qV,qT,AV.one,qG,qm,gt_iff_lt,zF,qA,qB,qL,qF,qJ,qw,qx,qz,ql,qD,qH];refine DW.runN tok 3 ?_;simp only[go_sem,qf,qb,qa,qc,qe,qd,reduceIte,reduceCtorEq,cellsGValueEntry,zO,encGValueNode,t6,t11,t23,hz35,gu37,f38,yu,qV,qT,AV.one,qG,qm,gt_iff_lt,zF,qA,qB,qL,qF,qJ,qw,qx,qz,ql,qD,qH];refine DW.fin tok (by decide +kernel) rfl ?_;simp only[zk,zw,zD,xJ,upd,qa,reduceIte,z1,yA];apply hK
     apply hZ24
     refine rgE tok [2,3,27,28,29] fun K hK=>?_
     simp only[go_sem,qf,qb,qa,qc,qe,qd,reduceIte,reduceCtorEq,zn,t6,t11,t23,hz35];apply hK
     exact⟨_,_,_,qE (0+k20),⟨k20,l14++[(⟨y25.fTag,l29⟩:GValueEntry)],IntKind.i64.wrap (x16+1),v15+1,rfl,rfl,rfl,h⟩,(.t [0,1,2] false)⟩
   obtain⟨hz35,hw35,hx35,hE'35,hi'35⟩:=yo hE35 hi35 hb35;simp only[ye.l35] at h
   refine rg tok [2,3,6,27,28,29,37,38,39,40] fun K hK=>?_
   simp only[go_sem,qf,qb,qa,qc,qe,qd,reduceIte,reduceCtorEq,zn,t6,t11,t23,hz35,hw35];apply hK
   refine zd fun Z39 hZ39=>?_
   refine zu rfl ?_;apply zf;apply hZ39
   refine zd fun Z40 hZ40=>?_
   apply zg;have f41:=E38.idxS hx35;have f42:=E38.loadS rfl rfl hx35
   refine rg tok [2,3,6,8,27,28,29,37,38,39] fun K hK=>?_
   simp only[go_sem,qf,qb,qa,qc,qe,qd,reduceIte,reduceCtorEq,cellsGTree,zb,t6,t11,t23,hz35,hw35,f41,f42];apply hK
   obtain⟨r43,hr43,h⟩:=bind_some h;have f44:=wk r43;unfold AV.one at f44;obtain⟨_u45,hu45,h⟩:=bind_some h;have gu45:=yI hu45;have f46:=(zE E282.len l29)
   refine rdE [2,3,6,27,28,29,37,38,39] fun K hK=>?_
   refine DW.start (T:=tab) [.any,.own 2 [],.at [],.eff,.eff,.eff,.any,.eff] [(2,[])] ?_;refine DW.runN tok 3 ?_;simp only[go_sem,qf,qb,qa,qc,qe,qd,reduceIte,reduceCtorEq,cellsGTree,cellsGValueEntry,zb,zO,encGValueValue,t6,t11,t23,hz35,hw35,f44,gu45,f46,yu,qV,qT,AV.one,qG,qm,gt_iff_lt,zF,qA,qB,qL,qF,qJ,qw,qx,qz,ql,qD,qH];refine DW.call rfl rfl rfl (ev_value_made y35 r43 hr43 _) ?_;refine DW.runN tok 4 ?_;simp only[go_sem,qf,qb,qa,qc,qe,qd,reduceIte,reduceCtorEq,zL,zX,qY,qS,qX,true_and,q3,yv,yb,yx,cellsGTree,cellsGValueEntry,zb,zO,encGValueValue,t6,t11,t23,hz35,hw35,f44,gu45,f46,yu,qV,qT,AV.one,qG,qm,gt_iff_lt,zF,qA,qB,qL,qF,qJ,qw,qx,qz,ql,qD,qH];refine DW.fin tok (by decide +kernel) rfl ?_;simp only[zk,zw,zD,xJ,upd,qa,reduceIte,z1,yA];apply hK
   apply hZ40
   refine rgE tok [2,3,6,27,28,29,37,38,39] fun K hK=>?_
   simp only[go_sem,qf,qb,qa,qc,qe,qd,reduceIte,reduceCtorEq,zn,t6,t11,t23,hz35,hw35];apply hK
   exact⟨_,_,_,qE q35.length,⟨p35++[y35],q35,x31+1,l29++[r43],v30+1,rfl,rfl,rfl,hE'35,hi'35,h⟩,(.t [0,1,2,3,4] false)⟩
 rw[if_neg hc22] at h;have t47:=eq_false hc22;apply zI;apply hZ13
 refine rg tok [2] fun K hK=>?_
 simp only[go_sem,qf,qb,qa,qc,qe,qd,reduceIte,reduceCtorEq,encGValueValue,t6,t11,t47];apply hK
 cases h;exact rtA
def ye : Nat→GTree→Option GValueValue
 |0,_=>none
 |k+1,a0=>ye.body (ye k) a0
theorem ye.all (k:Nat):(∀ (a0:GTree) (r:GValueValue),ye k a0=some r→ACalls qi 185 [.agg (cellsGTree a0)] [] (fun r' _=>r'=.agg (encGValueValue r))):=by
 induction k with
 |zero=>exact (fun a0 r h=>by simp only[ye] at h; cases h)
 |succ k ih=>exact (fun a0 r h=>ye.step _ ih a0 r (by simpa only [ye] using h))
theorem ye.ev (k:Nat)(a0:GTree)(r:GValueValue)(h:ye k a0=some r)(σ:Store):ACalls qi 185 [.agg (cellsGTree a0)] σ (fun r' σ'=>r'=.agg (encGValueValue r)∧σ'=σ):=
 ((ye.all k) a0 r h).c σ
def Zm (a0:GTree):Option (GValueValue×Bool):=
 (xW a0).bind fun r2=>(if (!r2)=true then some (GValueValue.nil,false) else (ye xl a0).bind fun r4=>some (r4,true))
theorem Zm.ok (a0:GTree)(r:GValueValue×Bool)(h:Zm a0=some r):ACalls qi 144 [.agg (cellsGTree a0)] [] (fun r' _=>r'=.tup [.agg (encGValueValue r.1),.bool r.2]):=by
 refine zj (rs:=[.cell 2 228,.tmp 3]) tok Tryz.func144 rfl Tryz.ntmps144 rfl Tryz.call144 (by simp) ?_;refine zm [(0,.agg (cellsGTree a0))] ⟨rfl,trivial⟩ ?_;unfold Zm at h
 refine rg tok [1,2] fun K hK=>?_
 simp only[go_sem,qf,qb,qa,qc,qe,qd,reduceIte,reduceCtorEq,cellsGTree,zb];apply hK
 refine zd fun Z1 hZ1=>?_
 refine rc [1,2,6] fun K hK=>?_
 obtain⟨r2,hr2,h⟩:=bind_some h;refine za tok 1 ?_;simp only[go_sem,qf,qb,qa,qc,qe,qd,reduceIte,reduceCtorEq,cellsGTree,zb];refine clN rfl rfl rfl (xW.ev a0 r2 hr2 _) ?_;refine za tok 1 ?_;simp only[go_sem,qf,qb,qa,qc,qe,qd,reduceIte,reduceCtorEq,cellsGTree,zb];refine nkN hK ?_;refine zs (b:=(!r2)) rfl (fun hc3=>?_) (fun hc3=>?_)
 · rw[if_pos hc3] at h
   refine rg tok [2,3] fun K hK=>?_
   simp only[go_sem,qf,qb,qa,qc,qe,qd,reduceIte,reduceCtorEq,encGValueValue];apply hK
   cases h;exact rtA
 rw[xI hc3] at h;apply zf;apply hZ1
 refine rc [2,3] fun K hK=>?_
 obtain⟨r4,hr4,h⟩:=bind_some h;refine za tok 1 ?_;simp only[go_sem,qf,qb,qa,qc,qe,qd,reduceIte,reduceCtorEq,cellsGTree,zb];refine clN rfl rfl rfl (ye.ev xl a0 r4 hr4 _) ?_;have f5:=wk r4;unfold AV.one at f5;refine za tok 2 ?_;simp only[go_sem,qf,qb,qa,qc,qe,qd,reduceIte,reduceCtorEq,cellsGTree,zb,encGValueValue,f5];refine nkN hK ?_;cases h;exact rtA
end
section
set_option maxRecDepth 4000
set_option maxHeartbeats 1000000
open AM
theorem Zm.ev (a0:GTree)(r:GValueValue×Bool)(h:Zm a0=some r)(σ:Store):ACalls qi 144 [.agg (cellsGTree a0)] σ (fun r' σ'=>r'=.tup [.agg (encGValueValue r.1),.bool r.2]∧σ'=σ):=
 (Zm.ok a0 r h).c σ
def yj (a0:GValueValue):Option GValueNode:=
 (match a0 with|.nil=>none|.num n2=>none|.str s2=>none|.node e2 r2=>some (⟨e2,r2⟩:GValueNode))
theorem yj.ok (a0:GValueValue)(r:GValueNode)(h:yj a0=some r):ACalls qi 146 [.agg (encGValueValue a0)] [] (fun r' _=>r'=.dp (encGValueNode r) 0):=by
 refine zj (rs:=[.tmp 2]) tok Tryz.func146 rfl Tryz.ntmps146 rfl Tryz.call146 (by simp) ?_;refine zm [(0,.agg (encGValueValue a0))] ⟨rfl,trivial⟩ ?_;unfold yj at h;have f1:=wk a0;unfold AV.one at f1
 refine rg tok [1] fun K hK=>?_
 simp only[go_sem,qf,qb,qa,qc,qe,qd,reduceIte,reduceCtorEq,encGValueValue,f1];apply hK
 rcases a0 with _|n2|s2|⟨e2,r2⟩
 · dsimp only at h
   try simp only[Zp,ZD,encGValueValue]
   cases h
 · dsimp only at h
   try simp only[Zo,ZC,encGValueValue]
   cases h
 · dsimp only at h
   try simp only[Zn,ZB,encGValueValue]
   cases h
 dsimp only at h
 try simp only[wB,Zh,encGValueValue]
 refine rg tok [2] fun K hK=>?_
 simp only[go_sem,qf,qb,qa,qc,qe,qd,reduceIte,reduceCtorEq,yn,yr,TypeDesc.isIface];apply hK
 cases h;exact rtA
theorem yj.ev (a0:GValueValue)(r:GValueNode)(h:yj a0=some r)(σ:Store):ACalls qi 146 [.agg (encGValueValue a0)] σ (fun r' σ'=>r'=.dp (encGValueNode r) 0∧σ'=σ):=
 (yj.ok a0 r h).c σ
def yO (a0:GValueNode):Option (List GRaw):=
 (yV a0.frest).bind fun r1=>some r1
theorem yO.own (a0:GValueNode)(r:List GRaw)(h:yO a0=some r):ACalls qi 186 [.dp (encGValueNode a0) 0] [] (fun r' σ'=>r'=.os true 4 0 0 0 (qg r) false∧σ'=[.cells 0 (qh encGRaw r)]):=by
 refine ACalls.own0 (by simp only[push_cast]) ?_;refine XW (rs:=[.tmp 2]) tok Tryz.func186 rfl Tryz.ntmps186 rfl Tryz.call186 (by simp) ?_;refine zm [(0,.dp (encGValueNode a0) 0)] ⟨rfl,trivial⟩ ?_;unfold yO at h;refine rgN [0] ?_
 refine rc [2] fun K hK=>?_
 obtain⟨r1,hr1,h⟩:=bind_some h;refine za tok 4 ?_;simp only[go_sem,qf,qb,qa,qc,qe,qd,reduceIte,reduceCtorEq,encGValueNode,Ze];refine clN rfl rfl rfl (@id (ACalls qi 227 [.ds true (qh encGRaw a0.frest) (qg a0.frest) false] [] (fun r' σ'=>r'=.os true 4 0 0 0 (qg r1) false∧σ'=[.cells 0 (qh encGRaw r1)])) ((yV.own a0.frest r1 hr1).ownAt0 (by simp only[push_cast]) (by simp only[push_cast]) _)) ?_;refine za tok 1 ?_;simp only[go_sem,qf,qb,qa,qc,qe,qd,reduceIte,reduceCtorEq,encGValueNode];refine nkN hK ?_;apply zJ;cases h;simp only[wb,ya,yf,yS,exists_eq_left',go_sem,qf,qb,qa,qc,qe,qd,reduceIte,reduceCtorEq,encGRaw];refine⟨0,0,by simp,?_,?_⟩
 · first|rfl|(simp only[go_sem,qf,qb,qa,qc,qe,qd,reduceIte,reduceCtorEq,push_cast,if_true,qn,ql,qp,qs,qo,qq,qv,qm,qt,qr,qk,zh,encGRaw]<;>rfl)
 first|rfl|(simp only[go_sem,qf,qb,qa,qc,qe,qd,reduceIte,reduceCtorEq,push_cast,if_true,qn,ql,qp,qs,qo,qq,qv,qm,qt,qr,qk,zh,encGRaw]<;>rfl)
theorem yO.ok (a0:GValueNode)(r:List GRaw)(h:yO a0=some r):ACalls qi 186 [.dp (encGValueNode a0) 0] [] (fun r' _=>r'=.ds true (qh encGRaw r) (qg r) false):=
 (yO.own a0 r h).ownData (zE E35.len r) (by simp only[push_cast])
theorem yO.ev (a0:GValueNode)(r:List GRaw)(h:yO a0=some r)(σ:Store):ACalls qi 186 [.dp (encGValueNode a0) 0] σ (fun r' σ'=>r'=.ds true (qh encGRaw r) (qg r) false∧σ'=σ):=
 (yO.ok a0 r h).c σ
def yl.l8 : List GValueEntry→Int→List Int→Option (List Int)
 |[],x4,l2=>some l2
 |y8::q8,x4,l2=>(Xj (qg l2+1) 8).bind fun _u14=>((yl.l8 q8) (x4+1) (l2++[y8.ftag]))
def yl (a0:GValueNode):Option (List Int):=
 (yl.l8 a0.fentries 0 ([]:List Int))
theorem yl.own (a0:GValueNode)(r:List Int)(h:yl a0=some r):ACalls qi 187 [.dp (encGValueNode a0) 0] [] (fun r' σ'=>r'=.os true 1 0 0 0 (qg r) false∧σ'=[.cells 0 (qh encI r)]):=by
 refine ACalls.own0 (by simp only[push_cast]) ?_;refine XW (rs:=[.tmp 2]) tok Tryz.func187 rfl Tryz.ntmps187 rfl Tryz.call187 (by simp) ?_;refine zm [(0,.dp (encGValueNode a0) 0)] ⟨rfl,trivial⟩ ?_;unfold yl at h;refine rgN [0] ?_;refine rgN [0,3] ?_;refine Yq 3 1 rfl ?_;refine yB (L:=[(0,.dp (encGValueNode a0) 0),(3,.os true 1 0 0 0 (qg ([]:List Int)) false)]) (τ:=[.cells 0 (qh encI ([]:List Int))]) .s ?_
 refine zd fun Z1 hZ1=>?_
 refine rg tok [3,9,10,11] fun K hK=>?_
 simp only[go_sem,qf,qb,qa,qc,qe,qd,reduceIte,reduceCtorEq,encGValueNode,Ze];apply hK
 apply zg
 refine yq 9 fun hb8=>?_
 replace hb8:qg a0.fentries≤9223372036854775807:=hb8.1;refine zP (fun m L τ=>∃ (p8 q8:List GValueEntry) (x4:Int) (l2:List Int) (v3:Nat),m=qg q8∧L=[(3,.os true 1 0 v3 0 (qg l2) false),(9,.ds true (qh encGValueEntry a0.fentries) (qg a0.fentries) false),(10,.int .i64 (qg a0.fentries:Int)),(11,.int .i64 x4)]∧τ=[.cells v3 (qh encI l2)]∧a0.fentries=p8++q8∧x4=(qg p8:Int)∧yl.l8 q8 x4 l2=some r) _ ⟨[],a0.fentries,0,([]:List Int),0,rfl,rfl,rfl,rfl,rfl,h⟩ .s ?_;rintro m L τ ⟨p8,q8,x4,l2,v3,rfl,rfl,rfl,hE8,hi8,h⟩
 rcases q8 with _|⟨y8,q8⟩
 · have hz8:=yN hE8 hi8;simp only[yl.l8] at h
   refine rg tok [3,9,10,11,12] fun K hK=>?_
   simp only[go_sem,qf,qb,qa,qc,qe,qd,reduceIte,reduceCtorEq,zn,hz8];apply hK
   refine zd fun Z9 hZ9=>?_
   refine zo rfl ?_;apply zI;apply hZ1
   refine rg tok [2] fun K hK=>?_
   simp only[go_sem,qf,qb,qa,qc,qe,qd,reduceIte,reduceCtorEq,hz8];apply hK
   apply zJ;cases h;simp only[wb,ya,yf,yS,exists_eq_left',go_sem,qf,qb,qa,qc,qe,qd,reduceIte,reduceCtorEq];refine⟨0,v3,by simp,?_,?_⟩
   · first|rfl|(simp only[go_sem,qf,qb,qa,qc,qe,qd,reduceIte,reduceCtorEq,push_cast,if_true,qn,ql,qp,qs,qo,qq,qv,qm,qt,qr,qk,zh]<;>rfl)
   first|rfl|(simp only[go_sem,qf,qb,qa,qc,qe,qd,reduceIte,reduceCtorEq,push_cast,if_true,qn,ql,qp,qs,qo,qq,qv,qm,qt,qr,qk,zh]<;>rfl)
 obtain⟨hz8,hw8,hx8,hE'8,hi'8⟩:=yo hE8 hi8 hb8;simp only[yl.l8] at h
 refine rg tok [3,9,10,11,12] fun K hK=>?_
 simp only[go_sem,qf,qb,qa,qc,qe,qd,reduceIte,reduceCtorEq,zn,hz8,hw8];apply hK
 refine zd fun Z10 hZ10=>?_
 refine zu rfl ?_;apply zf;apply hZ10
 refine zd fun Z11 hZ11=>?_
 apply zg;have f12:=E324.idxS hx8;have f13:=E324.loadS rfl rfl hx8
 refine rg tok [3,5,9,10,11] fun K hK=>?_
 simp only[go_sem,qf,qb,qa,qc,qe,qd,reduceIte,reduceCtorEq,cellsGValueEntry,zO,hz8,hw8,f12,f13];apply hK
 obtain⟨_u14,hu14,h⟩:=bind_some h;have gu14:=yI hu14;have f15:=(zE E26.len l2)
 refine rgE tok [3,9,10,11] fun K hK=>?_
 simp only[go_sem,qf,qb,qa,qc,qe,qd,reduceIte,reduceCtorEq,zL,zX,qY,qS,qX,true_and,q3,yv,yb,yx,encI,hz8,hw8,gu14,f15,yu,qV,qT,AV.one,qG,qm,gt_iff_lt,zF,qA,qB,qL,qF,qJ,qw,qx,qz,ql,qD,qH];apply hK
 apply hZ11
 refine rgE tok [3,9,10,11] fun K hK=>?_
 simp only[go_sem,qf,qb,qa,qc,qe,qd,reduceIte,reduceCtorEq,zn,hz8,hw8];apply hK
 exact⟨_,_,_,qE q8.length,⟨p8++[y8],q8,x4+1,l2++[y8.ftag],v3+1,rfl,rfl,rfl,hE'8,hi'8,h⟩,(.t [0] false)⟩
theorem yl.ok (a0:GValueNode)(r:List Int)(h:yl a0=some r):ACalls qi 187 [.dp (encGValueNode a0) 0] [] (fun r' _=>r'=.ds true (qh encI r) (qg r) false):=
 (yl.own a0 r h).ownData (zE E26.len r) (by simp only[push_cast])
theorem yl.ev (a0:GValueNode)(r:List Int)(h:yl a0=some r)(σ:Store):ACalls qi 187 [.dp (encGValueNode a0) 0] σ (fun r' σ'=>r'=.ds true (qh encI r) (qg r) false∧σ'=σ):=
 (yl.ok a0 r h).c σ
def wu (a0:List GValueValue):Option (List GValueValue):=(Xj (qg a0) 16).bind fun _=>some a0
theorem wu.own (a0 r:List GValueValue)(h:wu a0=some r):ACalls qi 228 [.ds true (qh encGValueValue a0) (qg a0) false] [] (fun r' σ'=>r'=.os true 1 0 0 0 (qg r) false∧σ'=[.cells 0 (qh encGValueValue r)]):=by
 obtain⟨_u,hu,h⟩:=bind_some h;have gu:=yI hu;cases h
 have f1:=fun nl tt σ=>wx E282.len a0 nl tt σ
 have f2:=zE E282.len a0;have f3:=YZ encGValueValue a0;refine vaD (rs:=[.tmp 2]) tok Tryz.func228 rfl Tryz.ntmps228 rfl Tryz.call228 (by simp) ?_;refine zm [(0,.ds true (qh encGValueValue a0) (qg a0) false)] ⟨rfl,trivial⟩ ?_;refine rgN [0] ?_
 refine zd fun Z1 hZ1=>?_
 refine rc [0,4] fun K hK=>?_
 refine rnN 1 ?_
 refine XI tok rfl rfl rfl rfl rfl rfl fun b hnil=>?_
 have hb:b=true→a0=[]:=fun hb=>by
  have:=hnil hb;simp only[yx,go_sem,qf,qb,qa,qc,qe,qd,reduceIte,reduceCtorEq] at this;exact uN this
 clear hnil
 refine nkN hK ?_;cases b
 · refine zo rfl ?_;apply zf;apply hZ1
   refine rg tok [2] fun K hK=>?_
   by_cases h0:qg a0=0
   · obtain rfl:=uN h0;simp only[go_sem,qf,qb,qa,qc,qe,qd,reduceIte,reduceCtorEq,zL,zX,qS,qX,yv,yb,yx,yc,qL,qz,ut,qV,gt_iff_lt];apply hK
     apply zJ;simp only[wb,ya,yf,yS,exists_eq_left',go_sem,qf,qb,qa,qc,qe,qd,reduceIte,reduceCtorEq];refine .inl ⟨0,true,by simp,?_,?_⟩
     · first|rfl|(simp only[go_sem,qf,qb,qa,qc,qe,qd,reduceIte,reduceCtorEq,w9,wM,if_true]<;>rfl)
     first|rfl|(simp only[go_sem,qf,qb,qa,qc,qe,qd,reduceIte,reduceCtorEq,Yd,YH,ZG,Yf,Ye,qs]<;>rfl)
   have h1:=eq_false h0;simp only[go_sem,qf,qb,qa,qc,qe,qd,reduceIte,reduceCtorEq,zL,zX,qS,qX,yv,yb,yx,f1,f3,h1,gu,yu,gt_iff_lt,qs,qJ,ut];apply hK
   apply zJ;simp only[wb,ya,yf,yS,exists_eq_left',go_sem,qf,qb,qa,qc,qe,qd,reduceIte,reduceCtorEq];refine .inl ⟨1,false,by simp,?_,?_⟩
   · first|rfl|(simp only[go_sem,qf,qb,qa,qc,qe,qd,reduceIte,reduceCtorEq,w9,wM,if_true]<;>rfl)
   first|rfl|(simp only[go_sem,qf,qb,qa,qc,qe,qd,reduceIte,reduceCtorEq,Yd,YH,ZG,Yf,Ye,zh]<;>rfl)
 obtain rfl:=hb rfl;refine zu rfl ?_;refine rgN [2] ?_;apply zJ;simp only[wb,ya,yf,yS,exists_eq_left',go_sem,qf,qb,qa,qc,qe,qd,reduceIte,reduceCtorEq];refine .inr ?_
 first|rfl|(simp only[go_sem,qf,qb,qa,qc,qe,qd,reduceIte,reduceCtorEq,Yu,qs,qq,qv,qk,qm]<;>rfl)
def yz.l4 (a1:Int):List GValueEntry→Int→Option (List GValueValue)
 |[],x2=>some ([]:List GValueValue)
 |y4::q4,x2=>(if y4.ftag=a1 then (wu y4.fl).bind fun r12=>some r12 else ((yz.l4 a1 q4) (x2+1)))
def yz (a0:GValueNode)(a1:Int):Option (List GValueValue):=
 (yz.l4 a1 a0.fentries 0)
theorem yz.ok (a0:GValueNode)(a1:Int)(r:List GValueValue)(h:yz a0 a1=some r):ACalls qi 188 [.dp (encGValueNode a0) 0,.int .i64 a1] [] (fun r' _=>r'=.ds true (qh encGValueValue r) (qg r) false):=by
 refine zj (rs:=[.tmp 4]) tok Tryz.func188 rfl Tryz.ntmps188 rfl Tryz.call188 (by simp) ?_;refine zm [(0,.dp (encGValueNode a0) 0),(1,.int .i64 a1)] ⟨rfl,rfl,trivial⟩ ?_;unfold yz at h;refine rgN [0,1] ?_
 refine zd fun Z1 hZ1=>?_
 refine rg tok [1,10,11,12] fun K hK=>?_
 simp only[go_sem,qf,qb,qa,qc,qe,qd,reduceIte,reduceCtorEq,encGValueNode,Ze];apply hK
 apply zg
 refine yq 10 fun hb4=>?_
 replace hb4:qg a0.fentries≤9223372036854775807:=hb4.1;refine zP (fun m L τ=>∃ (p4 q4:List GValueEntry) (x2:Int),m=qg q4∧L=[(1,.int .i64 a1),(10,.ds true (qh encGValueEntry a0.fentries) (qg a0.fentries) false),(11,.int .i64 (qg a0.fentries:Int)),(12,.int .i64 x2)]∧τ=[]∧a0.fentries=p4++q4∧x2=(qg p4:Int)∧yz.l4 a1 q4 x2=some r) _ ⟨[],a0.fentries,0,rfl,rfl,rfl,rfl,rfl,h⟩ .s ?_;rintro m L τ ⟨p4,q4,x2,rfl,rfl,rfl,hE4,hi4,h⟩
 rcases q4 with _|⟨y4,q4⟩
 · have hz4:=yN hE4 hi4;simp only[yz.l4] at h
   refine rg tok [1,10,11,12,13] fun K hK=>?_
   simp only[go_sem,qf,qb,qa,qc,qe,qd,reduceIte,reduceCtorEq,zn,hz4];apply hK
   refine zd fun Z5 hZ5=>?_
   refine zo rfl ?_;apply zI;apply hZ1
   refine rg tok [4] fun K hK=>?_
   simp only[go_sem,qf,qb,qa,qc,qe,qd,reduceIte,reduceCtorEq,hz4];apply hK
   cases h;exact rtA
 obtain⟨hz4,hw4,hx4,hE'4,hi'4⟩:=yo hE4 hi4 hb4;simp only[yz.l4] at h
 refine rg tok [1,10,11,12,13] fun K hK=>?_
 simp only[go_sem,qf,qb,qa,qc,qe,qd,reduceIte,reduceCtorEq,zn,hz4,hw4];apply hK
 refine zd fun Z6 hZ6=>?_
 refine zu rfl ?_;apply zf;apply hZ6
 refine zd fun Z7 hZ7=>?_
 apply zg;have f8:=E324.idxS hx4;have f9:=E324.loadS rfl rfl hx4
 refine rg tok [1,6,10,11,12] fun K hK=>?_
 simp only[go_sem,qf,qb,qa,qc,qe,qd,reduceIte,reduceCtorEq,cellsGValueEntry,zO,hz4,hw4,f8,f9];apply hK
 refine rg tok [1,6,10,11,12,19] fun K hK=>?_
 simp only[go_sem,qf,qb,qa,qc,qe,qd,reduceIte,reduceCtorEq,zn,hz4,hw4];apply hK
 refine zM rfl (fun hc10=>?_) (fun hc10=>?_)
 · rw[if_pos hc10] at h;have t11:=eq_true hc10
   refine rc [4] fun K hK=>?_
   obtain⟨r12,hr12,h⟩:=bind_some h;refine za tok 2 ?_;simp only[go_sem,qf,qb,qa,qc,qe,qd,reduceIte,reduceCtorEq,hz4,hw4,t11];refine clN rfl rfl rfl (@id (ACalls qi 228 [.ds true (qh encGValueValue y4.fl) (qg y4.fl) false] [.cells 0 (cellsGValueEntry y4)] (fun r' σ'=>r'=.os true 1 1 0 0 (qg r12) false∧σ'=[.cells 0 (cellsGValueEntry y4),.cells 0 (qh encGValueValue r12)])) ((wu.own y4.fl r12 hr12).ownAt0 (by simp only[push_cast]) (by simp only[push_cast]) _)) ?_;refine za tok 1 ?_;simp only[go_sem,qf,qb,qa,qc,qe,qd,reduceIte,reduceCtorEq,hz4,hw4,t11];refine nkN hK ?_;cases h;exact rtA
 rw[if_neg hc10] at h;have t13:=eq_false hc10;apply zf;apply hZ7
 refine rgE tok [1,10,11,12] fun K hK=>?_
 simp only[go_sem,qf,qb,qa,qc,qe,qd,reduceIte,reduceCtorEq,zn,hz4,hw4,t13];apply hK
 exact⟨_,_,_,qE q4.length,⟨p4++[y4],q4,x2+1,rfl,rfl,rfl,hE'4,hi'4,h⟩,(.t [] false)⟩
theorem yz.ev (a0:GValueNode)(a1:Int)(r:List GValueValue)(h:yz a0 a1=some r)(σ:Store):ACalls qi 188 [.dp (encGValueNode a0) 0,.int .i64 a1] σ (fun r' σ'=>r'=.ds true (qh encGValueValue r) (qg r) false∧σ'=σ):=
 (yz.ok a0 a1 r h).c σ
def yX (a0:GValueValue):Int×Bool:=
 (match a0 with|.nil=>(0,false)|.num n2=>(n2,true)|.str s2=>(0,false)|.node e2 r2=>(0,false))
theorem yX.ok (a0:GValueValue)(r:Int×Bool)(h:yX a0=r):ACalls qi 243 [.agg (encGValueValue a0)] [] (fun r' _=>r'=.tup [.int .i64 r.1,.bool r.2]):=by
 refine zj (rs:=[.tmp 2,.tmp 3]) tok Tryz.func243 rfl Tryz.ntmps243 rfl Tryz.call243 (by simp) ?_;refine zm [(0,.agg (encGValueValue a0))] ⟨rfl,trivial⟩ ?_;unfold yX at h;have f1:=wk a0;unfold AV.one at f1
 refine rg tok [1] fun K hK=>?_
 simp only[go_sem,qf,qb,qa,qc,qe,qd,reduceIte,reduceCtorEq,encGValueValue,f1];apply hK
 rcases a0 with _|n2|s2|⟨e2,r2⟩
 · dsimp only at h
   try simp only[Zp,ZD,encGValueValue]
   refine rg tok [4,5] fun K hK=>?_
   simp only[go_sem,qf,qb,qa,qc,qe,qd,reduceIte,reduceCtorEq,yn,yr,TypeDesc.isIface];apply hK
   refine rgN [2,3] ?_;cases h;exact rtA
 · dsimp only at h
   try simp only[Zo,ZC,encGValueValue]
   refine rg tok [4,5] fun K hK=>?_
   simp only[go_sem,qf,qb,qa,qc,qe,qd,reduceIte,reduceCtorEq,yn,yr,TypeDesc.isIface];apply hK
   refine rgN [2,3] ?_;cases h;exact rtA
 · dsimp only at h
   try simp only[Zn,ZB,encGValueValue]
   refine rg tok [4,5] fun K hK=>?_
   simp only[go_sem,qf,qb,qa,qc,qe,qd,reduceIte,reduceCtorEq,yn,yr,TypeDesc.isIface];apply hK
   refine rgN [2,3] ?_;cases h;exact rtA
 dsimp only at h
 try simp only[wB,Zh,encGValueValue]
 refine rg tok [4,5] fun K hK=>?_
 simp only[go_sem,qf,qb,qa,qc,qe,qd,reduceIte,reduceCtorEq,yn,yr,TypeDesc.isIface];apply hK
 refine rgN [2,3] ?_;cases h;exact rtA
theorem yX.ev (a0:GValueValue)(r:Int×Bool)(h:yX a0=r)(σ:Store):ACalls qi 243 [.agg (encGValueValue a0)] σ (fun r' σ'=>r'=.tup [.int .i64 r.1,.bool r.2]∧σ'=σ):=
 (yX.ok a0 r h).c σ
def xo (a0:GValueValue):List UInt8×Bool:=
 (match a0 with|.nil=>([],false)|.num n2=>([],false)|.str s2=>(s2,true)|.node e2 r2=>([],false))
theorem xo.ok (a0:GValueValue)(r:List UInt8×Bool)(h:xo a0=r):ACalls qi 244 [.agg (encGValueValue a0)] [] (fun r' _=>r'=.tup [.str r.1,.bool r.2]):=by
 refine zj (rs:=[.tmp 2,.tmp 3]) tok Tryz.func244 rfl Tryz.ntmps244 rfl Tryz.call244 (by simp) ?_;refine zm [(0,.agg (encGValueValue a0))] ⟨rfl,trivial⟩ ?_;unfold xo at h;have f1:=wk a0;unfold AV.one at f1
 refine rg tok [1] fun K hK=>?_
 simp only[go_sem,qf,qb,qa,qc,qe,qd,reduceIte,reduceCtorEq,encGValueValue,f1];apply hK
 rcases a0 with _|n2|s2|⟨e2,r2⟩
 · dsimp only at h
   try simp only[Zp,ZD,encGValueValue]
   refine rg tok [4,5] fun K hK=>?_
   simp only[go_sem,qf,qb,qa,qc,qe,qd,reduceIte,reduceCtorEq,yn,yr,TypeDesc.isIface];apply hK
   refine rgN [2,3] ?_;cases h;exact rtA
 · dsimp only at h
   try simp only[Zo,ZC,encGValueValue]
   refine rg tok [4,5] fun K hK=>?_
   simp only[go_sem,qf,qb,qa,qc,qe,qd,reduceIte,reduceCtorEq,yn,yr,TypeDesc.isIface];apply hK
   refine rgN [2,3] ?_;cases h;exact rtA
 · dsimp only at h
   try simp only[Zn,ZB,encGValueValue]
   refine rg tok [4,5] fun K hK=>?_
   simp only[go_sem,qf,qb,qa,qc,qe,qd,reduceIte,reduceCtorEq,yn,yr,TypeDesc.isIface];apply hK
   refine rgN [2,3] ?_;cases h;exact rtA
 dsimp only at h
 try simp only[wB,Zh,encGValueValue]
 refine rg tok [4,5] fun K hK=>?_
 simp only[go_sem,qf,qb,qa,qc,qe,qd,reduceIte,reduceCtorEq,yn,yr,TypeDesc.isIface];apply hK
 refine rgN [2,3] ?_;cases h;exact rtA
theorem xo.ev (a0:GValueValue)(r:List UInt8×Bool)(h:xo a0=r)(σ:Store):ACalls qi 244 [.agg (encGValueValue a0)] σ (fun r' σ'=>r'=.tup [.str r.1,.bool r.2]∧σ'=σ):=
 (xo.ok a0 r h).c σ
def wE (a0:GValueValue):Option GValueValue:=
 bnd (yX a0) fun r3=>(if r3.2=true then some (GValueValue.num r3.1) else bnd (xo a0) fun r6=>(if r6.2=true then some (GValueValue.str r6.1) else (yj a0).bind fun r8=>some (GValueValue.node r8.fentries r8.frest)))
theorem wE.ok (a0:GValueValue)(r:GValueValue)(h:wE a0=some r):ACalls qi 229 [.agg (encGValueValue a0)] [] (fun r' _=>r'=anyV r):=by
 refine zj (rs:=[.tmp 2]) tok Tryz.func229 rfl Tryz.ntmps229 rfl Tryz.call229 (by simp) ?_;refine zm [(0,.agg (encGValueValue a0))] ⟨rfl,trivial⟩ ?_;unfold wE at h;have f1:=wk a0;unfold AV.one at f1
 refine rg tok [1] fun K hK=>?_
 simp only[go_sem,qf,qb,qa,qc,qe,qd,reduceIte,reduceCtorEq,encGValueValue,f1];apply hK
 refine zd fun Z2 hZ2=>?_
 refine rc [1,3,4] fun K hK=>?_
 obtain⟨r3,hr3,h⟩:=zB h;refine za tok 1 ?_;simp only[go_sem,qf,qb,qa,qc,qe,qd,reduceIte,reduceCtorEq,encGValueValue];refine clN rfl rfl rfl (yX.ev a0 r3 hr3 _) ?_;refine za tok 5 ?_;simp only[go_sem,qf,qb,qa,qc,qe,qd,reduceIte,reduceCtorEq,encGValueValue];refine nkN hK ?_;refine rgN [1,3,12] ?_;refine zs (b:=r3.2) rfl (fun hc4=>?_) (fun hc4=>?_)
 · rw[if_pos hc4] at h;refine rgN [2] ?_;cases h;exact rtA
 rw[xI hc4] at h;apply zf;apply hZ2
 refine zd fun Z5 hZ5=>?_
 refine rc [1,5,6] fun K hK=>?_
 obtain⟨r6,hr6,h⟩:=zB h;refine za tok 1 ?_;simp only[go_sem,qf,qb,qa,qc,qe,qd,reduceIte,reduceCtorEq,encGValueValue];refine clN rfl rfl rfl (xo.ev a0 r6 hr6 _) ?_;refine za tok 5 ?_;simp only[go_sem,qf,qb,qa,qc,qe,qd,reduceIte,reduceCtorEq,encGValueValue];refine nkN hK ?_;refine rgN [1,5,20] ?_;refine zs (b:=r6.2) rfl (fun hc7=>?_) (fun hc7=>?_)
 · rw[if_pos hc7] at h;refine rgN [2] ?_;cases h;exact rtA
 rw[xI hc7] at h;apply zf;apply hZ5
 refine rc [2] fun K hK=>?_
 obtain⟨r8,hr8,h⟩:=bind_some h;refine za tok 1 ?_;simp only[go_sem,qf,qb,qa,qc,qe,qd,reduceIte,reduceCtorEq,encGValueValue];refine clN rfl rfl rfl (yj.ev a0 r8 hr8 _) ?_;refine za tok 2 ?_;simp only[go_sem,qf,qb,qa,qc,qe,qd,reduceIte,reduceCtorEq,encGValueValue];refine nkN hK ?_;cases h;exact rtA
theorem wE.ev (a0:GValueValue)(r:GValueValue)(h:wE a0=some r)(σ:Store):ACalls qi 229 [.agg (encGValueValue a0)] σ (fun r' σ'=>r'=anyV r∧σ'=σ):=
 (wE.ok a0 r h).c σ
def xF.l9 : Nat→List UInt8→Int→Option (List UInt8)
 |0,_,_=>none
 |k9+1,l3,x5=>(if 128≤x5 then (Xj (qg l3+1) 1).bind fun _u14=>((xF.l9 k9) (l3++[uo (qP (IntKind.u8.wrap ((uf (qN 8 (IntKind.u8.wrap x5) ||| qN 8 128):Nat):Int)))]) (Int.fdiv x5 (2^(min (qP 7) 64)))) else (Xj (qg l3+1) 1).bind fun _u18=>some (l3++[uo (qP (IntKind.u8.wrap x5))]))
def xF (a0:List UInt8)(a1:Int):Option (List UInt8):=
 (if 128≤a1 then (Xj (qg a0+1) 1).bind fun _u24=>(xF.l9 xl (a0++[uo (qP (IntKind.u8.wrap ((uf (qN 8 (IntKind.u8.wrap a1) ||| qN 8 128):Nat):Int)))]) (Int.fdiv a1 (2^(min (qP 7) 64)))) else (Xj (qg a0+1) 1).bind fun _u28=>some (a0++[uo (qP (IntKind.u8.wrap a1))]))
theorem xF.own (a0:List UInt8)(a1:Int)(r:List UInt8)(h:xF a0 a1=some r):ACalls qi 191 [.ds true (qh encB a0) (qg a0) false,.int .u64 a1] [] (fun r' σ'=>r'=.os true 1 0 0 0 (qg r) false∧σ'=[.cells 0 (qh encB r)]):=by
 refine ACalls.own0 (by simp only[push_cast]) ?_;refine XW (rs:=[.tmp 4]) tok Tryz.func191 rfl Tryz.ntmps191 rfl Tryz.call191 (by simp) ?_;refine zm [(0,.ds true (qh encB a0) (qg a0) false),(1,.int .u64 a1)] ⟨rfl,rfl,trivial⟩ ?_;unfold xF at h;refine rgN [0,1] ?_;have f1:=E48.sl_tight a0 .i64 .i64
 refine rg tok [0,1] fun K hK=>?_
 simp only[go_sem,qf,qb,qa,qc,qe,qd,reduceIte,reduceCtorEq,f1];apply hK
 refine zd fun Z2 hZ2=>?_
 apply zg;refine awp_loopS1 (fun m L τ=>∃ (k9:Nat) (l3:List UInt8) (x5:Int) (v4:Nat),m=0+k9∧L=[(0,.os true 1 0 v4 0 (qg l3) false),(1,.int .u64 x5)]∧τ=[.cells v4 (qh encB l3)]∧xF.l9 k9 l3 x5=some r) (xl+1) ?_ ?_
 · refine zd fun Z20 hZ20=>?_
   refine rg tok [0,1,12] fun K hK=>?_
   simp only[go_sem,qf,qb,qa,qc,qe,qd,reduceIte,reduceCtorEq,zn];apply hK
   refine zM rfl (fun hc21=>?_) (fun hc21=>?_)
   · rw[if_pos hc21] at h;have t22:=eq_true hc21;apply zf;apply hZ20;apply zg;have f23:=xS (T:=tab) (src:=287) (dst:=5) rfl rfl rfl;obtain⟨_u24,hu24,h⟩:=bind_some h;have gu24:=yI hu24;have f25:=app_tight E48.len a0 (m:=1) (by decide)
     refine rg tok [0,1] fun K hK=>?_
     simp only[go_sem,qf,qb,qa,qc,qe,qd,reduceIte,reduceCtorEq,zn,zL,zX,qY,qS,qX,true_and,q3,yv,yx,encB,t22,f23,gu24,f25,yu,qV,qT,AV.one,qG,qm,gt_iff_lt,zF,qA,qB,qL,qF,qJ,qw,qx,qz,ql,qD,qH];apply hK
     refine yB (L:=[(0,.os true 1 1 0 0 (qg (a0++[uo (qP (IntKind.u8.wrap ((uf (qN 8 (IntKind.u8.wrap a1) ||| qN 8 128):Nat):Int)))])) false),(1,.int .u64 a1)]) (τ:=[.cells 0 [.int .u8 (IntKind.u8.wrap ((uf (qN 8 (IntKind.u8.wrap a1) ||| qN 8 128):Nat):Int))],.cells 0 (qh encB (a0++[uo (qP (IntKind.u8.wrap ((uf (qN 8 (IntKind.u8.wrap a1) ||| qN 8 128):Nat):Int)))]))]) (.same (by first|exact⟨rfl,rfl,trivial⟩|rfl|(simp only[go_sem,qf,qb,qa,qc,qe,qd,reduceIte,reduceCtorEq,Fits,encB,encI,encS,encK,zF,qA,qB,qL,qF,qJ,qw,qx,qz,ql,qD,qH,ur,Yt,and_self]<;>rfl)) (by first|exact⟨rfl,rfl,trivial⟩|rfl|(simp only[go_sem,qf,qb,qa,qc,qe,qd,reduceIte,reduceCtorEq,Fits,encB,encI,encS,encK,zF,qA,qB,qL,qF,qJ,qw,qx,qz,ql,qD,qH,ur,Yt,and_self]<;>rfl))) ?_
     refine rgE tok [0,1] fun K hK=>?_
     simp only[go_sem,qf,qb,qa,qc,qe,qd,reduceIte,reduceCtorEq,zn,t22,Ya,Int.reduceLT];apply hK
     exact⟨_,_,_,(Nat.lt_succ_of_le (Nat.le_of_eq (ql xl))),⟨xl,a0++[uo (qP (IntKind.u8.wrap ((uf (qN 8 (IntKind.u8.wrap a1) ||| qN 8 128):Nat):Int)))],Int.fdiv a1 (2^(min (qP 7) 64)),0,rfl,rfl,rfl,h⟩,(.t [1] false)⟩
   rw[if_neg hc21] at h;have t26:=eq_false hc21;apply zI;apply hZ2;have f27:=xS (T:=tab) (src:=287) (dst:=5) rfl rfl rfl;obtain⟨_u28,hu28,h⟩:=bind_some h;have gu28:=yI hu28;have f29:=app_tight E48.len a0 (m:=1) (by decide)
   refine rg tok [4] fun K hK=>?_
   simp only[go_sem,qf,qb,qa,qc,qe,qd,reduceIte,reduceCtorEq,zL,zX,qY,qS,qX,true_and,q3,yv,yx,encB,t26,f27,gu28,f29,yu,qV,qT,AV.one,qG,qm,gt_iff_lt,zF,qA,qB,qL,qF,qJ,qw,qx,qz,ql,qD,qH];apply hK
   refine yB (L:=[(4,.os true 1 1 0 0 (qg (a0++[uo (qP (IntKind.u8.wrap a1))])) false)]) (τ:=[.cells 0 [.int .u8 (IntKind.u8.wrap a1)],.cells 0 (qh encB (a0++[uo (qP (IntKind.u8.wrap a1))]))]) (.same (by first|exact⟨rfl,trivial⟩|rfl|(simp only[go_sem,qf,qb,qa,qc,qe,qd,reduceIte,reduceCtorEq,Fits,encB,encI,encS,encK,zF,qA,qB,qL,qF,qJ,qw,qx,qz,ql,qD,qH,ur,Yt,and_self]<;>rfl)) (by first|exact⟨rfl,trivial⟩|rfl|(simp only[go_sem,qf,qb,qa,qc,qe,qd,reduceIte,reduceCtorEq,Fits,encB,encI,encS,encK,zF,qA,qB,qL,qF,qJ,qw,qx,qz,ql,qD,qH,ur,Yt,and_self]<;>rfl))) ?_;apply zJ;cases h;simp only[wb,ya,yf,yS,exists_eq_left',go_sem,qf,qb,qa,qc,qe,qd,reduceIte,reduceCtorEq];refine⟨1,0,by simp,?_,?_⟩
   · first|rfl|(simp only[go_sem,qf,qb,qa,qc,qe,qd,reduceIte,reduceCtorEq,push_cast,if_true,qn,ql,qp,qs,qo,qq,qv,qm,qt,qr,qk,zh]<;>rfl)
   first|rfl|(simp only[go_sem,qf,qb,qa,qc,qe,qd,reduceIte,reduceCtorEq,push_cast,if_true,qn,ql,qp,qs,qo,qq,qv,qm,qt,qr,qk,zh]<;>rfl)
 clear h
 rintro m L τ ⟨k9,l3,x5,v4,rfl,rfl,rfl,h⟩
 rcases k9 with _|k9
 · cases h
 simp only[xF.l9] at h
 refine zd fun Z10 hZ10=>?_
 refine rg tok [0,1,12] fun K hK=>?_
 simp only[go_sem,qf,qb,qa,qc,qe,qd,reduceIte,reduceCtorEq,zn];apply hK
 refine zM rfl (fun hc11=>?_) (fun hc11=>?_)
 · rw[if_pos hc11] at h;have t12:=eq_true hc11;apply zf;apply hZ10;apply zg;have f13:=xS (T:=tab) (src:=287) (dst:=5) rfl rfl rfl;obtain⟨_u14,hu14,h⟩:=bind_some h;have gu14:=yI hu14;have f15:=(zE E48.len l3)
   refine rg tok [0,1] fun K hK=>?_
   simp only[go_sem,qf,qb,qa,qc,qe,qd,reduceIte,reduceCtorEq,zn,zL,zX,qY,qS,qX,true_and,q3,yv,yb,yx,encB,t12,f13,gu14,f15,yu,qV,qT,AV.one,qG,qm,gt_iff_lt,zF,qA,qB,qL,qF,qJ,qw,qx,qz,ql,qD,qH];apply hK
   refine yB (L:=[(0,.os true 1 0 (v4+1) 0 (qg (l3++[uo (qP (IntKind.u8.wrap ((uf (qN 8 (IntKind.u8.wrap x5) ||| qN 8 128):Nat):Int)))])) false),(1,.int .u64 x5)]) (τ:=[.cells (v4+1) (qh encB (l3++[uo (qP (IntKind.u8.wrap ((uf (qN 8 (IntKind.u8.wrap x5) ||| qN 8 128):Nat):Int)))])),.cells 0 [.int .u8 (IntKind.u8.wrap ((uf (qN 8 (IntKind.u8.wrap x5) ||| qN 8 128):Nat):Int))]]) (.same (by first|exact⟨rfl,rfl,trivial⟩|rfl|(simp only[go_sem,qf,qb,qa,qc,qe,qd,reduceIte,reduceCtorEq,Fits,encB,encI,encS,encK,zF,qA,qB,qL,qF,qJ,qw,qx,qz,ql,qD,qH,ur,Yt,and_self]<;>rfl)) (by first|exact⟨rfl,rfl,trivial⟩|rfl|(simp only[go_sem,qf,qb,qa,qc,qe,qd,reduceIte,reduceCtorEq,Fits,encB,encI,encS,encK,zF,qA,qB,qL,qF,qJ,qw,qx,qz,ql,qD,qH,ur,Yt,and_self]<;>rfl))) ?_
   refine rgE tok [0,1] fun K hK=>?_
   simp only[go_sem,qf,qb,qa,qc,qe,qd,reduceIte,reduceCtorEq,zn,t12,Ya,Int.reduceLT];apply hK
   exact⟨_,_,_,qE (0+k9),⟨k9,l3++[uo (qP (IntKind.u8.wrap ((uf (qN 8 (IntKind.u8.wrap x5) ||| qN 8 128):Nat):Int)))],Int.fdiv x5 (2^(min (qP 7) 64)),v4+1,rfl,rfl,rfl,h⟩,(.t [0] false)⟩
 rw[if_neg hc11] at h;have t16:=eq_false hc11;apply zI;apply hZ2;have f17:=xS (T:=tab) (src:=287) (dst:=5) rfl rfl rfl;obtain⟨_u18,hu18,h⟩:=bind_some h;have gu18:=yI hu18;have f19:=(zE E48.len l3)
 refine rg tok [4] fun K hK=>?_
 simp only[go_sem,qf,qb,qa,qc,qe,qd,reduceIte,reduceCtorEq,zL,zX,qY,qS,qX,true_and,q3,yv,yb,yx,encB,t16,f17,gu18,f19,yu,qV,qT,AV.one,qG,qm,gt_iff_lt,zF,qA,qB,qL,qF,qJ,qw,qx,qz,ql,qD,qH];apply hK
 refine yB (L:=[(4,.os true 1 0 (v4+1) 0 (qg (l3++[uo (qP (IntKind.u8.wrap x5))])) false)]) (τ:=[.cells (v4+1) (qh encB (l3++[uo (qP (IntKind.u8.wrap x5))])),.cells 0 [.int .u8 (IntKind.u8.wrap x5)]]) (.same (by first|exact⟨rfl,trivial⟩|rfl|(simp only[go_sem,qf,qb,qa,qc,qe,qd,reduceIte,reduceCtorEq,Fits,encB,encI,encS,encK,zF,qA,qB,qL,qF,qJ,qw,qx,qz,ql,qD,qH,ur,Yt,and_self]<;>rfl)) (by first|exact⟨rfl,trivial⟩|rfl|(simp only[go_sem,qf,qb,qa,qc,qe,qd,reduceIte,reduceCtorEq,Fits,encB,encI,encS,encK,zF,qA,qB,qL,qF,qJ,qw,qx,qz,ql,qD,qH,ur,Yt,and_self]<;>rfl))) ?_;apply zJ;cases h;simp only[wb,ya,yf,yS,exists_eq_left',go_sem,qf,qb,qa,qc,qe,qd,reduceIte,reduceCtorEq];refine⟨0,v4+1,by simp,?_,?_⟩
 · first|rfl|(simp only[go_sem,qf,qb,qa,qc,qe,qd,reduceIte,reduceCtorEq,push_cast,if_true,qn,ql,qp,qs,qo,qq,qv,qm,qt,qr,qk,zh]<;>rfl)
 first|rfl|(simp only[go_sem,qf,qb,qa,qc,qe,qd,reduceIte,reduceCtorEq,push_cast,if_true,qn,ql,qp,qs,qo,qq,qv,qm,qt,qr,qk,zh]<;>rfl)
theorem xF.ok (a0:List UInt8)(a1:Int)(r:List UInt8)(h:xF a0 a1=some r):ACalls qi 191 [.ds true (qh encB a0) (qg a0) false,.int .u64 a1] [] (fun r' _=>r'=.ds true (qh encB r) (qg r) false):=
 (xF.own a0 a1 r h).ownData (zE E48.len r) (by simp only[push_cast])
theorem xF.ev (a0:List UInt8)(a1:Int)(r:List UInt8)(h:xF a0 a1=some r)(σ:Store):ACalls qi 191 [.ds true (qh encB a0) (qg a0) false,.int .u64 a1] σ (fun r' σ'=>r'=.ds true (qh encB r) (qg r) false∧σ'=σ):=
 (xF.ok a0 a1 r h).c σ
def ZQ (a0:Int):Int:=
 IntKind.u64.wrap ((uf (qN 64 (IntKind.u64.wrap ((IntKind.u64.wrap a0)*2^(min (qP 1) 64))) ^^^ qN 64 (IntKind.u64.wrap (Int.fdiv a0 (2^(min (qP 63) 64))))):Nat):Int)
theorem ZQ.ok (a0:Int)(r:Int)(h:ZQ a0=r):ACalls qi 192 [.int .i64 a0] [] (fun r' _=>r'=.int .u64 r):=by
 refine zj (rs:=[.tmp 2]) tok Tryz.func192 rfl Tryz.ntmps192 rfl Tryz.call192 (by simp) ?_;refine zm [(0,.int .i64 a0)] ⟨rfl,trivial⟩ ?_;unfold ZQ at h;refine rgN [0] ?_;have f1:=xS (T:=tab) (src:=3) (dst:=287) rfl rfl rfl;have f2:=xS (T:=tab) (src:=3) (dst:=287) rfl rfl rfl
 refine rg tok [2] fun K hK=>?_
 simp only[go_sem,qf,qb,qa,qc,qe,qd,reduceIte,reduceCtorEq,zn,f1,f2,Ya,Int.reduceLT];apply hK
 cases h;exact rtA
end
section
set_option maxRecDepth 4000
set_option maxHeartbeats 1000000
open AM
theorem ZQ.ev (a0:Int)(r:Int)(h:ZQ a0=r)(σ:Store):ACalls qi 192 [.int .i64 a0] σ (fun r' σ'=>r'=.int .u64 r∧σ'=σ):=
 (ZQ.ok a0 r h).c σ
def ZP (a0:List UInt8)(a1:GRaw):Option (List UInt8×Bool):=
 bnd (xT a1) fun r2=>(if (!r2)=true then some (a0,false) else (xF a0 (IntKind.u64.wrap (IntKind.i64.wrap ((IntKind.i64.wrap (2*a1.fTag))+a1.fWire)))).bind fun r5=>(if a1.fWire=0 then bnd (ZQ a1.fN) fun r9=>(xF r5 r9).bind fun r10=>some (r10,true) else (xF r5 (IntKind.u64.wrap (qg a1.fB:Int))).bind fun r13=>(Xj (qg r13+qg a1.fB) 1).bind fun _u14=>some (r13++a1.fB,true)))
theorem ZP.ok (a0:List UInt8)(a1:GRaw)(r:List UInt8×Bool)(h:ZP a0 a1=some r):ACalls qi 148 [.ds true (qh encB a0) (qg a0) false,.agg (encGRaw a1)] [] (fun r' _=>r'=.tup [.ds true (qh encB r.1) (qg r.1) false,.bool r.2]):=by
 refine zj (rs:=[.tmp 4,.tmp 5]) tok Tryz.func148 rfl Tryz.ntmps148 rfl Tryz.call148 (by simp) ?_;refine zm [(0,.ds true (qh encB a0) (qg a0) false),(1,.agg (encGRaw a1))] ⟨rfl,rfl,trivial⟩ ?_;unfold ZP at h
 refine rg tok [0,3] fun K hK=>?_
 simp only[go_sem,qf,qb,qa,qc,qe,qd,reduceIte,reduceCtorEq,encGRaw];apply hK
 refine zd fun Z1 hZ1=>?_
 refine rc [0,3,9] fun K hK=>?_
 obtain⟨r2,hr2,h⟩:=zB h;refine za tok 1 ?_;simp only[go_sem,qf,qb,qa,qc,qe,qd,reduceIte,reduceCtorEq,encGRaw];refine clN rfl rfl rfl (xT.ev a1 r2 hr2 _) ?_;refine za tok 1 ?_;simp only[go_sem,qf,qb,qa,qc,qe,qd,reduceIte,reduceCtorEq,encGRaw];refine nkN hK ?_;refine zs (b:=(!r2)) rfl (fun hc3=>?_) (fun hc3=>?_)
 · rw[if_pos hc3] at h;refine rgN [4,5] ?_;cases h;exact rtA
 rw[xI hc3] at h;apply zf;apply hZ1
 refine rc [3,6] fun K hK=>?_
 have f4:=xS (T:=tab) (src:=3) (dst:=287) rfl rfl rfl;obtain⟨r5,hr5,h⟩:=bind_some h;refine za tok 8 ?_;simp only[go_sem,qf,qb,qa,qc,qe,qd,reduceIte,reduceCtorEq,zn,f4];refine clN rfl rfl rfl (xF.ev a0 (IntKind.u64.wrap (IntKind.i64.wrap ((IntKind.i64.wrap (2*a1.fTag))+a1.fWire))) r5 hr5 _) ?_;refine rnN 1 ?_;refine nkN hK ?_
 refine zd fun Z6 hZ6=>?_
 refine rg tok [3,6,22] fun K hK=>?_
 simp only[go_sem,qf,qb,qa,qc,qe,qd,reduceIte,reduceCtorEq,zn];apply hK
 refine zM rfl (fun hc7=>?_) (fun hc7=>?_)
 · rw[if_pos hc7] at h;have t8:=eq_true hc7
   refine rc [4,5] fun K hK=>?_
   obtain⟨r9,hr9,h⟩:=zB h;refine za tok 3 ?_;simp only[go_sem,qf,qb,qa,qc,qe,qd,reduceIte,reduceCtorEq,t8];refine clN rfl rfl rfl (ZQ.ev a1.fN r9 hr9 _) ?_;obtain⟨r10,hr10,h⟩:=bind_some h;refine clN rfl rfl rfl (xF.ev r5 r9 r10 hr10 _) ?_;refine za tok 2 ?_;simp only[go_sem,qf,qb,qa,qc,qe,qd,reduceIte,reduceCtorEq,t8];refine nkN hK ?_;cases h;exact rtA
 rw[if_neg hc7] at h;have t11:=eq_false hc7;apply zf;apply hZ6;have f12:=xS (T:=tab) (src:=3) (dst:=287) rfl rfl rfl;obtain⟨r13,hr13,h⟩:=bind_some h;obtain⟨_u14,hu14,h⟩:=bind_some h;have gu14:=yI hu14;have f15:=(zE E48.len r13)
 refine rd [4,5] fun K hK=>?_
 refine DW.start (T:=tab) [.any,.any,.at [],.at [],.at [],.eff,.any,.own 1 [],.eff,.any,.any] [(1,[])] ?_;refine DW.runN tok 5 ?_;simp only[go_sem,qf,qb,qa,qc,qe,qd,reduceIte,reduceCtorEq,encB,t11,f12,gu14,f15,srcCells_s,ZL,bys_length,YZ,qV,qT,AV.one,qG,qm,gt_iff_lt,zF,qA,qB,qL,qF,qJ,qw,qx,qz,ql,qD,qH];refine DW.callS rfl rfl rfl (@id (ACalls qi 191 [.ds true (qh encB r5) (qg r5) false,.int .u64 (IntKind.u64.wrap (qg a1.fB:Int))] [.cells 0 [.int .i64 a1.fTag,.int .i64 a1.fWire,.int .i64 a1.fN,.str a1.fB]] (fun r' σ'=>r'=.os true 1 1 0 0 (qg r13) false∧σ'=[.cells 0 [.int .i64 a1.fTag,.int .i64 a1.fWire,.int .i64 a1.fN,.str a1.fB],.cells 0 (qh encB r13)])) ((xF.own r5 (IntKind.u64.wrap (qg a1.fB:Int)) r13 hr13).ownAt0 (by simp only[push_cast]) (by simp only[push_cast]) _)) (Zt (by simp only[go_sem,qf,qb,qa,qc,qe,qd,reduceIte,reduceCtorEq])) ?_;refine DW.runN tok 5 ?_;simp only[go_sem,qf,qb,qa,qc,qe,qd,reduceIte,reduceCtorEq,yv,yb,yx,true_and,encB,t11,f12,gu14,f15,srcCells_s,ZL,bys_length,YZ,qV,qT,AV.one,qG,qm,gt_iff_lt,zF,qA,qB,qL,qF,qJ,qw,qx,qz,ql,qD,qH];refine DW.fin tok (by decide +kernel) rfl ?_;simp only[zk,zw,zD,xJ,upd,qa,reduceIte,z1,yA];apply hK
 refine yB (L:=[(4,.os true 1 1 (0+1) 0 (qg (r13++a1.fB)) false),(5,.bool true)]) (τ:=[.cells 0 [.int .i64 a1.fTag,.int .i64 a1.fWire,.int .i64 a1.fN,.str a1.fB],.cells (0+1) (qh encB (r13++a1.fB))]) .s ?_;cases h;exact rtA
theorem ZP.ev (a0:List UInt8)(a1:GRaw)(r:List UInt8×Bool)(h:ZP a0 a1=some r)(σ:Store):ACalls qi 148 [.ds true (qh encB a0) (qg a0) false,.agg (encGRaw a1)] σ (fun r' σ'=>r'=.tup [.ds true (qh encB r.1) (qg r.1) false,.bool r.2]∧σ'=σ):=
 (ZP.ok a0 a1 r h).c σ
def yC.l11 : List GRaw→Int→List UInt8→Option (List UInt8×Int)
 |[],x8,x7=>some (x7,0)
 |y11::q11,x8,x7=>(ZP x7 y11).bind fun r17=>(if 4096<(qg r17.1:Int) then some (([]:List UInt8),4) else ((yC.l11 q11) (x8+1) r17.1))
def yC.l4 (a0:List GRaw):List GRaw→Int→Option (List UInt8×Int)
 |[],x2=>(yC.l11 a0 0 ([]:List UInt8))
 |y4::q4,x2=>bnd (xT y4) fun r25=>(if (!r25)=true then some (([]:List UInt8),1) else ((yC.l4 a0 q4) (x2+1)))
def yC (a0:List GRaw):Option (List UInt8×Int):=
 (yC.l4 a0 a0 0)
theorem yC.ok (a0:List GRaw)(r:List UInt8×Int)(h:yC a0=some r):ACalls qi 96 [.ds true (qh encGRaw a0) (qg a0) false] [] (fun r' _=>r'=.tup [.ds true (qh encB r.1) (qg r.1) false,.int .i64 r.2]):=by
 refine zj (rs:=[.tmp 2,.tmp 3]) tok Tryz.func96 rfl Tryz.ntmps96 rfl Tryz.call96 (by simp) ?_;refine zm [(0,.ds true (qh encGRaw a0) (qg a0) false)] ⟨rfl,trivial⟩ ?_;unfold yC at h;refine rgN [0] ?_
 refine zd fun Z1 hZ1=>?_
 refine rgN [0,9,10,11] ?_;apply zg
 refine yq 0 fun hb4=>?_
 replace hb4:qg a0≤9223372036854775807:=hb4.1;refine zP (fun m L τ=>∃ (p4 q4:List GRaw) (x2:Int),m=qg q4∧L=[(0,.ds true (qh encGRaw a0) (qg a0) false),(9,.ds true (qh encGRaw a0) (qg a0) false),(10,.int .i64 (qg a0:Int)),(11,.int .i64 x2)]∧τ=[]∧a0=p4++q4∧x2=(qg p4:Int)∧yC.l4 a0 q4 x2=some r) _ ⟨[],a0,0,rfl,rfl,rfl,rfl,rfl,h⟩ .s ?_;rintro m L τ ⟨p4,q4,x2,rfl,rfl,rfl,hE4,hi4,h⟩
 rcases q4 with _|⟨y4,q4⟩
 · have hz4:=yN hE4 hi4;simp only[yC.l4] at h
   refine rg tok [0,9,10,11,12] fun K hK=>?_
   simp only[go_sem,qf,qb,qa,qc,qe,qd,reduceIte,reduceCtorEq,zn,hz4];apply hK
   refine zd fun Z5 hZ5=>?_
   refine zo rfl ?_;apply zI;apply hZ1
   refine rg tok [0,6] fun K hK=>?_
   simp only[go_sem,qf,qb,qa,qc,qe,qd,reduceIte,reduceCtorEq,hz4];apply hK
   refine zd fun Z6 hZ6=>?_
   refine rg tok [6,19,20,21] fun K hK=>?_
   simp only[go_sem,qf,qb,qa,qc,qe,qd,reduceIte,reduceCtorEq,hz4];apply hK
   apply zg
   refine yq 19 fun hb11=>?_
   replace hb11:qg a0≤9223372036854775807:=hb11.1;refine zP (fun m L τ=>∃ (p11 q11:List GRaw) (x8:Int) (x7:List UInt8),m=qg q11∧L=[(6,.ds true (qh encB x7) (qg x7) false),(19,.ds true (qh encGRaw a0) (qg a0) false),(20,.int .i64 (qg a0:Int)),(21,.int .i64 x8)]∧τ=[]∧a0=p11++q11∧x8=(qg p11:Int)∧yC.l11 q11 x8 x7=some r) _ ⟨[],a0,0,([]:List UInt8),rfl,rfl,rfl,rfl,rfl,h⟩ (.t [] true) ?_;rintro m L τ ⟨p11,q11,x8,x7,rfl,rfl,rfl,hE11,hi11,h⟩
   rcases q11 with _|⟨y11,q11⟩
   · have hz11:=yN hE11 hi11;simp only[yC.l11] at h
     refine rg tok [6,19,20,21,22] fun K hK=>?_
     simp only[go_sem,qf,qb,qa,qc,qe,qd,reduceIte,reduceCtorEq,zn,hz4,hz11];apply hK
     refine zd fun Z12 hZ12=>?_
     refine zo rfl ?_;apply zI;apply hZ6
     refine rg tok [2,3] fun K hK=>?_
     simp only[go_sem,qf,qb,qa,qc,qe,qd,reduceIte,reduceCtorEq,hz4,hz11];apply hK
     cases h;exact rtA
   obtain⟨hz11,hw11,hx11,hE'11,hi'11⟩:=yo hE11 hi11 hb11;simp only[yC.l11] at h
   refine rg tok [6,19,20,21,22] fun K hK=>?_
   simp only[go_sem,qf,qb,qa,qc,qe,qd,reduceIte,reduceCtorEq,zn,hz4,hz11,hw11];apply hK
   refine zd fun Z13 hZ13=>?_
   refine zu rfl ?_;apply zf;apply hZ13
   refine zd fun Z14 hZ14=>?_
   apply zg;have f15:=E35.idxS hx11;have f16:=E35.loadS rfl rfl hx11
   refine rg tok [6,8,19,20,21] fun K hK=>?_
   simp only[go_sem,qf,qb,qa,qc,qe,qd,reduceIte,reduceCtorEq,encGRaw,hz4,hz11,hw11,f15,f16];apply hK
   refine rc [6,19,20,21] fun K hK=>?_
   obtain⟨r17,hr17,h⟩:=bind_some h;refine za tok 2 ?_;simp only[go_sem,qf,qb,qa,qc,qe,qd,reduceIte,reduceCtorEq,encGRaw,hz4,hz11,hw11];refine clN rfl rfl rfl (ZP.ev x7 y11 r17 hr17 _) ?_;refine za tok 4 ?_;simp only[go_sem,qf,qb,qa,qc,qe,qd,reduceIte,reduceCtorEq,encGRaw,hz4,hz11,hw11];refine nkN hK ?_
   refine rg tok [6,19,20,21,33] fun K hK=>?_
   simp only[go_sem,qf,qb,qa,qc,qe,qd,reduceIte,reduceCtorEq,zn,hz4,hz11,hw11];apply hK
   refine zM rfl (fun hc18=>?_) (fun hc18=>?_)
   · rw[if_pos hc18] at h;have t19:=eq_true hc18
     refine rg tok [2,3] fun K hK=>?_
     simp only[go_sem,qf,qb,qa,qc,qe,qd,reduceIte,reduceCtorEq,hz4,hz11,hw11,t19];apply hK
     cases h;exact rtA
   rw[if_neg hc18] at h;have t20:=eq_false hc18;apply zf;apply hZ14
   refine rgE tok [6,19,20,21] fun K hK=>?_
   simp only[go_sem,qf,qb,qa,qc,qe,qd,reduceIte,reduceCtorEq,zn,hz4,hz11,hw11,t20];apply hK
   exact⟨_,_,_,qE q11.length,⟨p11++[y11],q11,x8+1,r17.1,rfl,rfl,rfl,hE'11,hi'11,h⟩,(.t [] false)⟩
 obtain⟨hz4,hw4,hx4,hE'4,hi'4⟩:=yo hE4 hi4 hb4;simp only[yC.l4] at h
 refine rg tok [0,9,10,11,12] fun K hK=>?_
 simp only[go_sem,qf,qb,qa,qc,qe,qd,reduceIte,reduceCtorEq,zn,hz4,hw4];apply hK
 refine zd fun Z21 hZ21=>?_
 refine zu rfl ?_;apply zf;apply hZ21
 refine zd fun Z22 hZ22=>?_
 apply zg;have f23:=E35.idxS hx4;have f24:=E35.loadS rfl rfl hx4
 refine rg tok [0,5,9,10,11] fun K hK=>?_
 simp only[go_sem,qf,qb,qa,qc,qe,qd,reduceIte,reduceCtorEq,encGRaw,hz4,hw4,f23,f24];apply hK
 refine rc [0,9,10,11,17] fun K hK=>?_
 obtain⟨r25,hr25,h⟩:=zB h;refine za tok 1 ?_;simp only[go_sem,qf,qb,qa,qc,qe,qd,reduceIte,reduceCtorEq,encGRaw,hz4,hw4];refine clN rfl rfl rfl (xT.ev y4 r25 hr25 _) ?_;refine za tok 1 ?_;simp only[go_sem,qf,qb,qa,qc,qe,qd,reduceIte,reduceCtorEq,encGRaw,hz4,hw4];refine nkN hK ?_;refine zs (b:=(!r25)) rfl (fun hc26=>?_) (fun hc26=>?_)
 · rw[if_pos hc26] at h
   refine rg tok [2,3] fun K hK=>?_
   simp only[go_sem,qf,qb,qa,qc,qe,qd,reduceIte,reduceCtorEq,hz4,hw4];apply hK
   cases h;exact rtA
 rw[xI hc26] at h;apply zf;apply hZ22
 refine rgE tok [0,9,10,11] fun K hK=>?_
 simp only[go_sem,qf,qb,qa,qc,qe,qd,reduceIte,reduceCtorEq,zn,hz4,hw4];apply hK
 exact⟨_,_,_,qE q4.length,⟨p4++[y4],q4,x2+1,rfl,rfl,rfl,hE'4,hi'4,h⟩,(.t [] false)⟩
theorem yC.ev (a0:List GRaw)(r:List UInt8×Int)(h:yC a0=some r)(σ:Store):ACalls qi 96 [.ds true (qh encGRaw a0) (qg a0) false] σ (fun r' σ'=>r'=.tup [.ds true (qh encB r.1) (qg r.1) false,.int .i64 r.2]∧σ'=σ):=
 (yC.ok a0 r h).c σ
def xh.body (yD:GValueNode→Option (List UInt8×Int))(zY:Int→GValueValue→Option (GRaw×Int))(yK:GValueNode→Option (List GRaw×Int))(a0:GValueNode):Option (List UInt8×Int):=
 (yK a0).bind fun r1=>(if r1.2=0 then (yC r1.1).bind fun r6=>some (r6.1,r6.2) else some (([]:List UInt8),r1.2))
theorem xh.step (yD:GValueNode→Option (List UInt8×Int))(zY:Int→GValueValue→Option (GRaw×Int))(yK:GValueNode→Option (List GRaw×Int))(wA:∀ (a0:GValueNode) (r:List UInt8×Int),yD a0=some r→ACalls qi 230 [.dp (encGValueNode a0) 0] [] (fun r' _=>r'=.tup [.ds true (qh encB r.1) (qg r.1) false,.int .i64 r.2]))(Zb:∀ (a0:Int) (a1:GValueValue) (r:GRaw×Int),zY a0 a1=some r→ACalls qi 189 [.int .i64 a0,.agg (encGValueValue a1)] [] (fun r' _=>r'=.tup [.agg (encGRaw r.1),.int .i64 r.2]))(wR:∀ (a0:GValueNode) (r:List GRaw×Int),yK a0=some r→ACalls qi 145 [.dp (encGValueNode a0) 0] [] (fun r' _=>r'=.tup [.ds true (qh encGRaw r.1) (qg r.1) false,.int .i64 r.2]))(a0:GValueNode)(r:List UInt8×Int)(h:xh.body yD zY yK a0=some r):ACalls qi 230 [.dp (encGValueNode a0) 0] [] (fun r' _=>r'=.tup [.ds true (qh encB r.1) (qg r.1) false,.int .i64 r.2]):=by
 have ev_encode_bytes:=fun a0 r h σ=>(wA a0 r h).c σ
 have ev_encode_raw:=fun a0 a1 r h σ=>(Zb a0 a1 r h).c σ
 have ev_encode_raws:=fun a0 r h σ=>(wR a0 r h).c σ
 refine zj (rs:=[.tmp 2,.tmp 3]) tok Tryz.func230 rfl Tryz.ntmps230 rfl Tryz.call230 (by simp) ?_;refine zm [(0,.dp (encGValueNode a0) 0)] ⟨rfl,trivial⟩ ?_;unfold xh.body at h;refine rgN [0] ?_
 refine rc [4,5] fun K hK=>?_
 obtain⟨r1,hr1,h⟩:=bind_some h;refine rnN 1 ?_;refine clN rfl rfl rfl (ev_encode_raws a0 r1 hr1 _) ?_;refine rnN 5 ?_;refine nkN hK ?_
 refine zd fun Z2 hZ2=>?_
 refine rg tok [4,5,12] fun K hK=>?_
 simp only[go_sem,qf,qb,qa,qc,qe,qd,reduceIte,reduceCtorEq,zn];apply hK
 refine zM rfl (fun hc3=>?_) (fun hc3=>?_)
 · rw[if_neg hc3] at h;have t4:=eq_false hc3
   refine rg tok [2,3] fun K hK=>?_
   simp only[go_sem,qf,qb,qa,qc,qe,qd,reduceIte,reduceCtorEq,t4];apply hK
   cases h;exact rtA
 rw[if_pos hc3] at h;have t5:=eq_true hc3;apply zf;apply hZ2
 refine rc [2,3] fun K hK=>?_
 obtain⟨r6,hr6,h⟩:=bind_some h;refine za tok 1 ?_;simp only[go_sem,qf,qb,qa,qc,qe,qd,reduceIte,reduceCtorEq,t5];refine clN rfl rfl rfl (yC.ev r1.1 r6 hr6 _) ?_;refine za tok 4 ?_;simp only[go_sem,qf,qb,qa,qc,qe,qd,reduceIte,reduceCtorEq,t5];refine nkN hK ?_;cases h;exact rtA
def xi.j3 (m1_2:GRaw):Option (GRaw×Int):=
 (if 4096<(qg m1_2.fB:Int) then some ((⟨0,0,0,[]⟩:GRaw),4) else some (m1_2,0))
def xi.body (yD:GValueNode→Option (List UInt8×Int))(zY:Int→GValueValue→Option (GRaw×Int))(yK:GValueNode→Option (List GRaw×Int))(a0:Int)(a1:GValueValue):Option (GRaw×Int):=
 (wE a1).bind fun r8=>(match r8 with|.nil=>(xi.j3 (⟨a0,1,0,[]⟩:GRaw))|.num n9=>some ((⟨a0,0,n9,[]⟩:GRaw),0)|.str s9=>(xi.j3 (⟨a0,1,0,s9⟩:GRaw))|.node e9 r9=>(yD (⟨e9,r9⟩:GValueNode)).bind fun r10=>(if r10.2=0 then (xi.j3 (⟨a0,1,0,r10.1⟩:GRaw)) else some ((⟨0,0,0,[]⟩:GRaw),r10.2)))
theorem xi.step (yD:GValueNode→Option (List UInt8×Int))(zY:Int→GValueValue→Option (GRaw×Int))(yK:GValueNode→Option (List GRaw×Int))(wA:∀ (a0:GValueNode) (r:List UInt8×Int),yD a0=some r→ACalls qi 230 [.dp (encGValueNode a0) 0] [] (fun r' _=>r'=.tup [.ds true (qh encB r.1) (qg r.1) false,.int .i64 r.2]))(Zb:∀ (a0:Int) (a1:GValueValue) (r:GRaw×Int),zY a0 a1=some r→ACalls qi 189 [.int .i64 a0,.agg (encGValueValue a1)] [] (fun r' _=>r'=.tup [.agg (encGRaw r.1),.int .i64 r.2]))(wR:∀ (a0:GValueNode) (r:List GRaw×Int),yK a0=some r→ACalls qi 145 [.dp (encGValueNode a0) 0] [] (fun r' _=>r'=.tup [.ds true (qh encGRaw r.1) (qg r.1) false,.int .i64 r.2]))(a0:Int)(a1:GValueValue)(r:GRaw×Int)(h:xi.body yD zY yK a0 a1=some r):ACalls qi 189 [.int .i64 a0,.agg (encGValueValue a1)] [] (fun r' _=>r'=.tup [.agg (encGRaw r.1),.int .i64 r.2]):=by
 have ev_encode_bytes:=fun a0 r h σ=>(wA a0 r h).c σ
 have ev_encode_raw:=fun a0 a1 r h σ=>(Zb a0 a1 r h).c σ
 have ev_encode_raws:=fun a0 r h σ=>(wR a0 r h).c σ
 refine zj (rs:=[.cell 4 139,.tmp 5]) tok Tryz.func189 rfl Tryz.ntmps189 rfl Tryz.call189 (by simp) ?_;refine zm [(0,.int .i64 a0),(1,.agg (encGValueValue a1))] ⟨rfl,rfl,trivial⟩ ?_;unfold xi.body at h;have f1:=wk a1;unfold AV.one at f1
 refine rg tok [0,3,4] fun K hK=>?_
 simp only[go_sem,qf,qb,qa,qc,qe,qd,reduceIte,reduceCtorEq,encGValueValue,f1];apply hK
 refine rg tok [0,3,4,6] fun K hK=>?_
 simp only[go_sem,qf,qb,qa,qc,qe,qd,reduceIte,reduceCtorEq,encGRaw];apply hK
 refine yR (fun L τ=>∃ (m1_2:GRaw),L=[(4,.op 0 0 0),(6,.op 1 0 0)]∧τ=[.cells 0 [.int .i64 0,.int .i64 0,.int .i64 0,.str []],.cells 0 [.int .i64 m1_2.fTag,.int .i64 m1_2.fWire,.int .i64 m1_2.fN,.str m1_2.fB]]∧xi.j3 m1_2=some r) ?_ ?_
 · refine rc [0,4,6,15] fun K hK=>?_
   obtain⟨r8,hr8,h⟩:=bind_some h;refine za tok 1 ?_;simp only[go_sem,qf,qb,qa,qc,qe,qd,reduceIte,reduceCtorEq,encGValueValue];refine clN rfl rfl rfl (wE.ev a1 r8 hr8 _) ?_;refine nkN hK ?_;apply zg
   rcases r8 with _|n9|s9|⟨e9,r9⟩
   · dsimp only at h
     try simp only[Zp,ZD,encGValueValue]
     refine rg tok [0,4,6,15,17,18] fun K hK=>?_
     simp only[go_sem,qf,qb,qa,qc,qe,qd,reduceIte,reduceCtorEq,yn,yr,TypeDesc.isIface];apply hK
     refine zo rfl ?_
     refine rg tok [4,6,15,23,24] fun K hK=>?_
     simp only[go_sem,qf,qb,qa,qc,qe,qd,reduceIte,reduceCtorEq,yn,yr,TypeDesc.isIface];apply hK
     refine zo rfl ?_
     refine rg tok [4,6,28,29] fun K hK=>?_
     simp only[go_sem,qf,qb,qa,qc,qe,qd,reduceIte,reduceCtorEq,yn,yr,TypeDesc.isIface];apply hK
     refine zo rfl ?_;apply zf;exact⟨_,_,⟨(⟨a0,1,0,[]⟩:GRaw),rfl,rfl,h⟩,(.t [1,2] false)⟩
   · dsimp only at h
     try simp only[Zo,ZC,encGValueValue]
     refine rg tok [0,4,6,15,17,18] fun K hK=>?_
     simp only[go_sem,qf,qb,qa,qc,qe,qd,reduceIte,reduceCtorEq,yn,yr,TypeDesc.isIface];apply hK
     refine zu rfl ?_;refine rgN [0,4,7] ?_
     refine rg tok [4,5] fun K hK=>?_
     simp only[go_sem,qf,qb,qa,qc,qe,qd,reduceIte,reduceCtorEq,encGRaw];apply hK
     cases h;exact rtA
   · dsimp only at h
     try simp only[Zn,ZB,encGValueValue]
     refine rg tok [0,4,6,15,17,18] fun K hK=>?_
     simp only[go_sem,qf,qb,qa,qc,qe,qd,reduceIte,reduceCtorEq,yn,yr,TypeDesc.isIface];apply hK
     refine zo rfl ?_
     refine rg tok [4,6,15,23,24] fun K hK=>?_
     simp only[go_sem,qf,qb,qa,qc,qe,qd,reduceIte,reduceCtorEq,yn,yr,TypeDesc.isIface];apply hK
     refine zu rfl ?_;refine rgN [4,6,8] ?_
     refine rgE tok [4,6] fun K hK=>?_
     simp only[go_sem,qf,qb,qa,qc,qe,qd,reduceIte,reduceCtorEq,encGRaw];apply hK
     exact⟨_,_,⟨(⟨a0,1,0,s9⟩:GRaw),rfl,rfl,h⟩,(.t [1,2] false)⟩
   dsimp only at h
   try simp only[wB,Zh,encGValueValue]
   refine rg tok [0,4,6,15,17,18] fun K hK=>?_
   simp only[go_sem,qf,qb,qa,qc,qe,qd,reduceIte,reduceCtorEq,yn,yr,TypeDesc.isIface];apply hK
   refine zo rfl ?_
   refine rg tok [4,6,15,23,24] fun K hK=>?_
   simp only[go_sem,qf,qb,qa,qc,qe,qd,reduceIte,reduceCtorEq,yn,yr,TypeDesc.isIface];apply hK
   refine zo rfl ?_
   refine rg tok [4,6,28,29] fun K hK=>?_
   simp only[go_sem,qf,qb,qa,qc,qe,qd,reduceIte,reduceCtorEq,yn,yr,TypeDesc.isIface];apply hK
   refine zu rfl ?_;refine rgN [4,6,9] ?_
   refine rc [4,6,10,11] fun K hK=>?_
   obtain⟨r10,hr10,h⟩:=bind_some h;refine rnN 1 ?_;refine clN rfl rfl rfl (ev_encode_bytes (⟨e9,r9⟩:GValueNode) r10 hr10 _) ?_;refine rnN 5 ?_;refine nkN hK ?_
   refine zd fun Z11 hZ11=>?_
   refine rg tok [4,6,10,11,36] fun K hK=>?_
   simp only[go_sem,qf,qb,qa,qc,qe,qd,reduceIte,reduceCtorEq,zn];apply hK
   refine zM rfl (fun hc12=>?_) (fun hc12=>?_)
   · rw[if_neg hc12] at h;have t13:=eq_false hc12
     refine rg tok [4,5] fun K hK=>?_
     simp only[go_sem,qf,qb,qa,qc,qe,qd,reduceIte,reduceCtorEq,encGRaw,t13];apply hK
     cases h;exact rtA
   rw[if_pos hc12] at h;have t14:=eq_true hc12;apply zf;apply hZ11;have f15:=conv_b2s (T:=tab) (src:=48) (dst:=9) rfl rfl rfl rfl rfl rfl r10.1
   refine rgE tok [4,6] fun K hK=>?_
   simp only[go_sem,qf,qb,qa,qc,qe,qd,reduceIte,reduceCtorEq,encGRaw,t14,f15];apply hK
   exact⟨_,_,⟨(⟨a0,1,0,r10.1⟩:GRaw),rfl,rfl,h⟩,(.t [1,2] false)⟩
 rintro _ _ ⟨m1_2,rfl,rfl,h⟩;unfold xi.j3 at h
 refine zd fun Z4 hZ4=>?_
 refine rg tok [4,6,45] fun K hK=>?_
 simp only[go_sem,qf,qb,qa,qc,qe,qd,reduceIte,reduceCtorEq,zn];apply hK
 refine zM rfl (fun hc5=>?_) (fun hc5=>?_)
 · rw[if_pos hc5] at h;have t6:=eq_true hc5
   refine rg tok [4,5] fun K hK=>?_
   simp only[go_sem,qf,qb,qa,qc,qe,qd,reduceIte,reduceCtorEq,encGRaw,t6];apply hK
   cases h;exact rtA
 rw[if_neg hc5] at h;have t7:=eq_false hc5;apply zf;apply hZ4
 refine rg tok [4,5] fun K hK=>?_
 simp only[go_sem,qf,qb,qa,qc,qe,qd,reduceIte,reduceCtorEq,encGRaw,t7];apply hK
 cases h;exact rtA
def yg.l24 (zY:Int→GValueValue→Option (GRaw×Int))(x6:Int)(rec10:Int→List GRaw→Option (List GRaw×Int))(y10:Int):List GValueValue→Int→List GRaw→Option (List GRaw×Int)
 |[],x20,l18=>(rec10 (x6+1) l18)
 |y24::q24,x20,l18=>(zY y10 y24).bind fun r31=>(if r31.2=0 then (Xj (qg l18+1) 40).bind fun _u36=>((yg.l24 zY x6 rec10 y10 q24) (x20+1) (l18++[r31.1])) else some (([]:List GRaw),r31.2))
def yg.l10 (zY:Int→GValueValue→Option (GRaw×Int))(a0:GValueNode):List Int→Int→List GRaw→Option (List GRaw×Int)
 |[],x6,l4=>(zZ l4).bind fun r12=>some (r12,0)
 |y10::q10,x6,l4=>(yz a0 y10).bind fun r17=>(yg.l24 zY x6 (yg.l10 zY a0 q10) y10 r17 0 l4)
def yg.body (yD:GValueNode→Option (List UInt8×Int))(zY:Int→GValueValue→Option (GRaw×Int))(yK:GValueNode→Option (List GRaw×Int))(a0:GValueNode):Option (List GRaw×Int):=
 (yO a0).bind fun r1=>(yl a0).bind fun r3=>(yg.l10 zY a0 r3 0 r1)
theorem yg.step (yD:GValueNode→Option (List UInt8×Int))(zY:Int→GValueValue→Option (GRaw×Int))(yK:GValueNode→Option (List GRaw×Int))(wA:∀ (a0:GValueNode) (r:List UInt8×Int),yD a0=some r→ACalls qi 230 [.dp (encGValueNode a0) 0] [] (fun r' _=>r'=.tup [.ds true (qh encB r.1) (qg r.1) false,.int .i64 r.2]))(Zb:∀ (a0:Int) (a1:GValueValue) (r:GRaw×Int),zY a0 a1=some r→ACalls qi 189 [.int .i64 a0,.agg (encGValueValue a1)] [] (fun r' _=>r'=.tup [.agg (encGRaw r.1),.int .i64 r.2]))(wR:∀ (a0:GValueNode) (r:List GRaw×Int),yK a0=some r→ACalls qi 145 [.dp (encGValueNode a0) 0] [] (fun r' _=>r'=.tup [.ds true (qh encGRaw r.1) (qg r.1) false,.int .i64 r.2]))(a0:GValueNode)(r:List GRaw×Int)(h:yg.body yD zY yK a0=some r):ACalls qi 145 [.dp (encGValueNode a0) 0] [] (fun r' _=>r'=.tup [.ds true (qh encGRaw r.1) (qg r.1) false,.int .i64 r.2]):=by
 have ev_encode_bytes:=fun a0 r h σ=>(wA a0 r h).c σ
 have ev_encode_raw:=fun a0 a1 r h σ=>(Zb a0 a1 r h).c σ
 have ev_encode_raws:=fun a0 r h σ=>(wR a0 r h).c σ
 refine zj (rs:=[.tmp 2,.tmp 3]) tok Tryz.func145 rfl Tryz.ntmps145 rfl Tryz.call145 (by simp) ?_;refine zm [(0,.dp (encGValueNode a0) 0)] ⟨rfl,trivial⟩ ?_;unfold yg.body at h;refine rgN [0] ?_
 refine rc [0,4] fun K hK=>?_
 obtain⟨r1,hr1,h⟩:=bind_some h;refine rnN 1 ?_;refine clN rfl rfl rfl (@id (ACalls qi 186 [.dp (encGValueNode a0) 0] [] (fun r' σ'=>r'=.os true 4 0 0 0 (qg r1) false∧σ'=[.cells 0 (qh encGRaw r1)])) ((yO.own a0 r1 hr1).ownAt0 (by simp only[push_cast]) (by simp only[push_cast]) _)) ?_;refine rnN 1 ?_;refine nkN hK ?_
 refine zd fun Z2 hZ2=>?_
 refine rc [0,4,14,15,16] fun K hK=>?_
 obtain⟨r3,hr3,h⟩:=bind_some h;refine rnN 1 ?_;refine clN rfl rfl rfl (yl.ev a0 r3 hr3 _) ?_;refine rnN 2 ?_;refine nkN hK ?_;apply zg
 refine yq 14 fun hb10=>?_
 replace hb10:qg r3≤9223372036854775807:=hb10.1;refine zP (fun m L τ=>∃ (p10 q10:List Int) (x6:Int) (l4:List GRaw) (v5:Nat),m=qg q10∧L=[(0,.dp (encGValueNode a0) 0),(4,.os true 4 0 v5 0 (qg l4) false),(14,.ds true (qh encI r3) (qg r3) false),(15,.int .i64 (qg r3:Int)),(16,.int .i64 x6)]∧τ=[.cells v5 (qh encGRaw l4)]∧r3=p10++q10∧x6=(qg p10:Int)∧yg.l10 zY a0 q10 x6 l4=some r) _ ⟨[],r3,0,r1,0,rfl,rfl,rfl,rfl,rfl,h⟩ .s ?_;rintro m L τ ⟨p10,q10,x6,l4,v5,rfl,rfl,rfl,hE10,hi10,h⟩
 rcases q10 with _|⟨y10,q10⟩
 · have hz10:=yN hE10 hi10;simp only[yg.l10] at h
   refine rg tok [0,4,14,15,16,17] fun K hK=>?_
   simp only[go_sem,qf,qb,qa,qc,qe,qd,reduceIte,reduceCtorEq,zn,hz10];apply hK
   refine zd fun Z11 hZ11=>?_
   refine zo rfl ?_;apply zI;apply hZ2
   refine rc [2,3] fun K hK=>?_
   obtain⟨r12,hr12,h⟩:=bind_some h;refine za tok 1 ?_;simp only[go_sem,qf,qb,qa,qc,qe,qd,reduceIte,reduceCtorEq,hz10];refine YQ (L:=[(43,.ds true (qh encGRaw l4) (qg l4) false)]) (τ:=[]) (.t [] false) ?_;refine clN rfl rfl rfl (zZ.ev l4 r12 hr12 _) ?_;refine za tok 2 ?_;simp only[go_sem,qf,qb,qa,qc,qe,qd,reduceIte,reduceCtorEq,hz10];refine nkN hK ?_;cases h;exact rtA
 obtain⟨hz10,hw10,hx10,hE'10,hi'10⟩:=yo hE10 hi10 hb10;simp only[yg.l10] at h
 refine rg tok [0,4,14,15,16,17] fun K hK=>?_
 simp only[go_sem,qf,qb,qa,qc,qe,qd,reduceIte,reduceCtorEq,zn,hz10,hw10];apply hK
 refine zd fun Z13 hZ13=>?_
 refine zu rfl ?_;apply zf;apply hZ13
 refine zd fun Z14 hZ14=>?_
 apply zg;have f15:=E26.idxS hx10;have f16:=E26.fldS0 (f:=3) rfl rfl hx10
 refine rg tok [0,4,6,14,15,16] fun K hK=>?_
 simp only[go_sem,qf,qb,qa,qc,qe,qd,reduceIte,reduceCtorEq,encI,hz10,hw10,f15,f16];apply hK
 refine rc [0,4,6,14,15,16,22,23,24] fun K hK=>?_
 obtain⟨r17,hr17,h⟩:=bind_some h;refine za tok 2 ?_;simp only[go_sem,qf,qb,qa,qc,qe,qd,reduceIte,reduceCtorEq,hz10,hw10];refine clN rfl rfl rfl (yz.ev a0 y10 r17 hr17 _) ?_;refine za tok 2 ?_;simp only[go_sem,qf,qb,qa,qc,qe,qd,reduceIte,reduceCtorEq,hz10,hw10];refine nkN hK ?_;apply zg
 refine yq 22 fun hb24=>?_
 replace hb24:qg r17≤9223372036854775807:=hb24.1;refine zP (fun m L τ=>∃ (p24 q24:List GValueValue) (x20:Int) (l18:List GRaw) (v19:Nat),m=qg q24∧L=[(0,.dp (encGValueNode a0) 0),(4,.os true 4 0 v19 0 (qg l18) false),(6,.int .i64 y10),(14,.ds true (qh encI r3) (qg r3) false),(15,.int .i64 (qg r3:Int)),(16,.int .i64 x6),(22,.ds true (qh encGValueValue r17) (qg r17) false),(23,.int .i64 (qg r17:Int)),(24,.int .i64 x20)]∧τ=[.cells v19 (qh encGRaw l18)]∧r17=p24++q24∧x20=(qg p24:Int)∧yg.l24 zY x6 (yg.l10 zY a0 q10) y10 q24 x20 l18=some r) _ ⟨[],r17,0,l4,v5,rfl,rfl,rfl,rfl,rfl,h⟩ .s ?_;rintro m L τ ⟨p24,q24,x20,l18,v19,rfl,rfl,rfl,hE24,hi24,h⟩
 rcases q24 with _|⟨y24,q24⟩
 · have hz24:=yN hE24 hi24;simp only[yg.l24] at h
   refine rg tok [0,4,6,14,15,16,22,23,24,25] fun K hK=>?_
   simp only[go_sem,qf,qb,qa,qc,qe,qd,reduceIte,reduceCtorEq,zn,hz10,hw10,hz24];apply hK
   refine zd fun Z25 hZ25=>?_
   refine zo rfl ?_;apply zI;apply hZ14
   refine rgE tok [0,4,14,15,16] fun K hK=>?_
   simp only[go_sem,qf,qb,qa,qc,qe,qd,reduceIte,reduceCtorEq,zn,hz10,hw10,hz24];apply hK
   exact⟨_,_,_,qE q10.length,⟨p10++[y10],q10,x6+1,l18,v19,rfl,rfl,rfl,hE'10,hi'10,h⟩,.s⟩
 obtain⟨hz24,hw24,hx24,hE'24,hi'24⟩:=yo hE24 hi24 hb24;simp only[yg.l24] at h
 refine rg tok [0,4,6,14,15,16,22,23,24,25] fun K hK=>?_
 simp only[go_sem,qf,qb,qa,qc,qe,qd,reduceIte,reduceCtorEq,zn,hz10,hw10,hz24,hw24];apply hK
 refine zd fun Z26 hZ26=>?_
 refine zu rfl ?_;apply zf;apply hZ26
 refine zd fun Z27 hZ27=>?_
 apply zg;have f28:=E282.idxS hx24;have f29:=E282.loadS rfl rfl hx24;have f30:=wk y24;unfold AV.one at f30
 refine rg tok [0,4,6,8,14,15,16,22,23,24] fun K hK=>?_
 simp only[go_sem,qf,qb,qa,qc,qe,qd,reduceIte,reduceCtorEq,encGValueValue,hz10,hw10,hz24,hw24,f28,f29,f30];apply hK
 refine rc [0,4,6,9,10,14,15,16,22,23,24] fun K hK=>?_
 obtain⟨r31,hr31,h⟩:=bind_some h;refine za tok 2 ?_;simp only[go_sem,qf,qb,qa,qc,qe,qd,reduceIte,reduceCtorEq,encGValueValue,hz10,hw10,hz24,hw24];refine clN rfl rfl rfl (ev_encode_raw y10 y24 r31 hr31 _) ?_;refine za tok 6 ?_;simp only[go_sem,qf,qb,qa,qc,qe,qd,reduceIte,reduceCtorEq,encGRaw,encGValueValue,hz10,hw10,hz24,hw24];refine nkN hK ?_
 refine zd fun Z32 hZ32=>?_
 refine rg tok [0,4,6,9,10,14,15,16,22,23,24,35] fun K hK=>?_
 simp only[go_sem,qf,qb,qa,qc,qe,qd,reduceIte,reduceCtorEq,zn,hz10,hw10,hz24,hw24];apply hK
 refine zM rfl (fun hc33=>?_) (fun hc33=>?_)
 · rw[if_neg hc33] at h;have t34:=eq_false hc33
   refine rg tok [2,3] fun K hK=>?_
   simp only[go_sem,qf,qb,qa,qc,qe,qd,reduceIte,reduceCtorEq,hz10,hw10,hz24,hw24,t34];apply hK
   cases h;exact rtA
 rw[if_pos hc33] at h;have t35:=eq_true hc33;apply zf;apply hZ32;obtain⟨_u36,hu36,h⟩:=bind_some h;have gu36:=yI hu36;have f37:=(zE E35.len l18)
 refine rgE tok [0,4,6,14,15,16,22,23,24] fun K hK=>?_
 simp only[go_sem,qf,qb,qa,qc,qe,qd,reduceIte,reduceCtorEq,zL,zX,qY,qS,qX,true_and,q3,yv,yb,yx,encGRaw,hz10,hw10,hz24,hw24,t35,gu36,f37,yu,qV,qT,AV.one,qG,qm,gt_iff_lt,zF,qA,qB,qL,qF,qJ,qw,qx,qz,ql,qD,qH];apply hK
 apply hZ27
 refine rgE tok [0,4,6,14,15,16,22,23,24] fun K hK=>?_
 simp only[go_sem,qf,qb,qa,qc,qe,qd,reduceIte,reduceCtorEq,zn,hz10,hw10,hz24,hw24,t35];apply hK
 exact⟨_,_,_,qE q24.length,⟨p24++[y24],q24,x20+1,l18++[r31.1],v19+1,rfl,rfl,rfl,hE'24,hi'24,h⟩,(.t [0] false)⟩
mutual
def xh : Nat→GValueNode→Option (List UInt8×Int)
 |0,_=>none
 |k+1,a0=>xh.body (xh k) (xi k) (yg k) a0
def xi : Nat→Int→GValueValue→Option (GRaw×Int)
 |0,_,_=>none
 |k+1,a0,a1=>xi.body (xh k) (xi k) (yg k) a0 a1
def yg : Nat→GValueNode→Option (List GRaw×Int)
 |0,_=>none
 |k+1,a0=>yg.body (xh k) (xi k) (yg k) a0
end
theorem xh.all (k:Nat):(∀ (a0:GValueNode) (r:List UInt8×Int),xh k a0=some r→ACalls qi 230 [.dp (encGValueNode a0) 0] [] (fun r' _=>r'=.tup [.ds true (qh encB r.1) (qg r.1) false,.int .i64 r.2]))∧(∀ (a0:Int) (a1:GValueValue) (r:GRaw×Int),xi k a0 a1=some r→ACalls qi 189 [.int .i64 a0,.agg (encGValueValue a1)] [] (fun r' _=>r'=.tup [.agg (encGRaw r.1),.int .i64 r.2]))∧(∀ (a0:GValueNode) (r:List GRaw×Int),yg k a0=some r→ACalls qi 145 [.dp (encGValueNode a0) 0] [] (fun r' _=>r'=.tup [.ds true (qh encGRaw r.1) (qg r.1) false,.int .i64 r.2])):=by
 induction k with
 |zero=>exact⟨(fun a0 r h=>by simp only[xh] at h; cases h),(fun a0 a1 r h=>by simp only[xi] at h; cases h),(fun a0 r h=>by simp only[yg] at h; cases h)⟩
 |succ k ih=>exact⟨(fun a0 r h=>xh.step _ _ _ ih.1 ih.2.1 ih.2.2 a0 r (by simpa only [xh] using h)),(fun a0 a1 r h=>xi.step _ _ _ ih.1 ih.2.1 ih.2.2 a0 a1 r (by simpa only [xi] using h)),(fun a0 r h=>yg.step _ _ _ ih.1 ih.2.1 ih.2.2 a0 r (by simpa only [yg] using h))⟩
theorem yg.ev (k:Nat)(a0:GValueNode)(r:List GRaw×Int)(h:yg k a0=some r)(σ:Store):ACalls qi 145 [.dp (encGValueNode a0) 0] σ (fun r' σ'=>r'=.tup [.ds true (qh encGRaw r.1) (qg r.1) false,.int .i64 r.2]∧σ'=σ):=
 ((xh.all k).2.2 a0 r h).c σ
def wF (a0:GTree):Option (List GRaw×Int):=
 (Zm a0).bind fun r1=>(if ((!r1.2)||(!(decide (a0.fKind=3))))=true then some (([]:List GRaw),1) else (yj r1.1).bind fun r5=>(yg xl r5).bind fun r6=>some (r6.1,r6.2))
theorem wF.ok (a0:GTree)(r:List GRaw×Int)(h:wF a0=some r):ACalls qi 95 [.agg (cellsGTree a0)] [] (fun r' _=>r'=.tup [.ds true (qh encGRaw r.1) (qg r.1) false,.int .i64 r.2]):=by
 refine zj (rs:=[.tmp 2,.tmp 3]) tok Tryz.func95 rfl Tryz.ntmps95 rfl Tryz.call95 (by simp) ?_;refine zm [(0,.agg (cellsGTree a0))] ⟨rfl,trivial⟩ ?_;unfold wF at h
 refine rg tok [1] fun K hK=>?_
 simp only[go_sem,qf,qb,qa,qc,qe,qd,reduceIte,reduceCtorEq,cellsGTree,zb];apply hK
 refine rc [1,4,5] fun K hK=>?_
 obtain⟨r1,hr1,h⟩:=bind_some h;refine za tok 1 ?_;simp only[go_sem,qf,qb,qa,qc,qe,qd,reduceIte,reduceCtorEq,cellsGTree,zb];refine clN rfl rfl rfl (Zm.ev a0 r1 hr1 _) ?_;have f2:=wk r1.1;unfold AV.one at f2;refine za tok 6 ?_;simp only[go_sem,qf,qb,qa,qc,qe,qd,reduceIte,reduceCtorEq,cellsGTree,zb,encGValueValue,f2];refine nkN hK ?_
 refine zd fun Z3 hZ3=>?_
 refine rc [4,17] fun K hK=>?_
 refine rnN 3 ?_;refine zl 4 (fun L τ=>L=[(4,.op 1 0 0),(17,.bool ((!r1.2)||(!(decide (a0.fKind=3)))))]∧τ=[.cells 0 (cellsGTree a0),.cells 0 [ifcV r1.1]]) ?_ ?_
 · refine zR (b:=(!r1.2)) 13 rfl (fun hg13=>?_) (fun hg13=>?_)
   · refine za tok 4 ?_;simp only[go_sem,qf,qb,qa,qc,qe,qd,reduceIte,reduceCtorEq,zn];refine ze ⟨rfl,_,_,⟨rfl,rfl⟩,.b hg13⟩
   refine za tok 4 ?_;simp only[go_sem,qf,qb,qa,qc,qe,qd,reduceIte,reduceCtorEq,zn];refine ze ⟨rfl,_,_,⟨rfl,rfl⟩,.b hg13⟩
 rintro _ _ ⟨rfl,rfl⟩;refine nkN hK ?_;refine zs (b:=((!r1.2)||(!(decide (a0.fKind=3))))) rfl (fun hc4=>?_) (fun hc4=>?_)
 · rw[if_pos hc4] at h;refine rgN [2,3] ?_;cases h;exact rtA
 rw[xI hc4] at h;apply zf;apply hZ3
 refine rc [2,3] fun K hK=>?_
 obtain⟨r5,hr5,h⟩:=bind_some h;refine za tok 1 ?_;simp only[go_sem,qf,qb,qa,qc,qe,qd,reduceIte,reduceCtorEq,encGValueValue];refine clN rfl rfl rfl (yj.ev r1.1 r5 hr5 _) ?_;obtain⟨r6,hr6,h⟩:=bind_some h;refine clN rfl rfl rfl (yg.ev xl r5 r6 hr6 _) ?_;refine za tok 4 ?_;simp only[go_sem,qf,qb,qa,qc,qe,qd,reduceIte,reduceCtorEq,encGValueValue];refine nkN hK ?_;cases h;exact rtA
end
end Go.Proofs.YtaahlckibpiphaaGreatDoor
