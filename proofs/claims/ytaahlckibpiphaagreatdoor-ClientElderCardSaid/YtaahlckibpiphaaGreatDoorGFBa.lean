/- Parts of the proof, cut down to what it needs. -/
import Derived.Test.YtaahlckibpiphaaGreatDoorGFB
set_option linter.constructorNameAsVariable false
set_option linter.unusedSimpArgs false
set_option linter.unusedVariables false
namespace Go.Proofs.YtaahlckibpiphaaGreatDoor
open _root_.List renaming length → qb, flatMap → qd, length_append → qj, length_cons → qk, map_nil → qm, map_cons → qp, length_nil → qr, append_assoc → qv, mem_cons_self → qA, mem_cons_of_mem → qB, drop_zero → qC, map_append → qE, length_eq_zero_iff → qF, getD_eq_getElem?_getD → qG, append_nil → qH, nil_append → qK, cons_append → qM, replicate → qP, length_singleton → qQ, getElem?_append_left → qR, flatMap_cons → qS, range_zero → qT, mem_cons → qU, getElem?_eq_some_iff → qW, all_cons → qZ, range_succ → q1, getElem?_eq_getElem → q3, flatMap_append → q5, all_eq_true → q7, all_nil → uc, getElem?_set_ne → ud, take_of_length_le → uf, length_map → uh, getElem?_append_right → ui, flatMap_nil → uj, getElem?_eq_none → uk, take_length → ul, pairwise_cons → un, take_append_drop → uo, getElem?_set_self → ur, set_cons_zero → uu, mem_map → uw, filter_cons → ux, getElem?_cons_zero → uA, getElem?_cons_succ → uB, range → uC, length_take → uF, set_cons_succ → uG, mem_append_right → uI, mem_append → uM, mem_singleton → uP, mem_of_getElem? → uS, mem_append_left → uT, eq_nil_of_length_eq_zero → uU, drop_drop → uV
open _root_.Option renaming bind_some → qh, map_some → uy, getD_some → uK
open _root_.Nat renaming reduceEqDiff → qa, reduceLT → qc, reduceAdd → qe, reduceLeDiff → qf, reduceMul → ql, zero_add → qn, reduceSub → qs, le_refl → qx, lt_succ_self → qy, mul_le_mul_right → qY, reduceMod → ub, lt_of_lt_of_le → ug, zero_le → ut, zero_mul → uz, sub_self → uD, le_trans → uE, add_mul → uL, sub_zero → uN, add_zero → uO, succ_mul → uR, lt_or_ge → uY
open _root_.Bool renaming or_true → qq, not_true → qt, and_false → qu, not_false → qw, and_eq_true → qz, and_true → qJ, or_false → qN, and_self → qO, false_eq_true → q2, or_eq_true → ua, true_and → uq, false_or → uH, not_eq_true' → uW
open _root_.Int renaming toNat → qI, toNat_natCast → qV
open _root_.BitVec renaming ofInt → qD, toNat → um
open _root_.Array renaming length_toList → ue, getD_eq_getD_getElem? → uv, getElem?_eq_getElem → uJ, getElem?_setIfInBounds_ne → uQ, replicate → uX, getElem?_modify → uZ
open _root_.UInt8 renaming ofNat → qX
open Result renaming andThen_ok → qi
open Sem renaming run_bind → qo, run_pure → qL
open _root_.Go.Proofs.Tryz renaming prog → qg
section
set_option maxRecDepth 4000
set_option maxHeartbeats 1000000
open AM
theorem z6.ev (a0:GSchema)(r:Int)(h:z6 a0=some r)(σ:Store):ACalls qg 82 [.agg (encGSchema a0)] σ (fun r' σ'=>r'=.int .i64 r∧σ'=σ):=
 (z6.ok a0 r h).c σ
def xD.l10 (a2:List GSchema):List Int→Int→Int→Option Bool
 |[],x7,x6=>some true
 |y10::q10,x7,x6=>(if ((decide (y10≤x6))||(decide (12<y10)))=true then some true else (Zb a2 x7).bind fun y19=>(z6 y19).bind fun r22=>some (!(decide (r22=0)))).bind fun c19=>(if c19=true then some false else ((xD.l10 a2 q10) (x7+1) y10))
def xD (a0:Int)(a1:List Int)(a2:List GSchema):Option Bool:=
 (if (((((decide ((qb a1:Int)<1))||(decide (12<(qb a1:Int))))||(!(decide ((qb a2:Int)=(qb a1:Int)))))||(decide (a0<0)))||(decide (255<a0)))=true then some false else (xD.l10 a2 a1 0 0))
theorem xD.ok (a0:Int)(a1:List Int)(a2:List GSchema)(r:Bool)(h:xD a0 a1 a2=some r):ACalls qg 58 [.int .i64 a0,.ds true (qd encI a1) (qb a1) false,.ds true (qd encGSchema a2) (qb a2) false] [] (fun r' _=>r'=.bool r):=by
 refine zh (rs:=[.tmp 6]) tok Tryz.func58 rfl Tryz.ntmps58 rfl Tryz.call58 (by simp) ?_;refine zl [(0,.int .i64 a0),(1,.ds true (qd encI a1) (qb a1) false),(2,.ds true (qd encGSchema a2) (qb a2) false)] ⟨rfl,rfl,rfl,trivial⟩ ?_;unfold xD at h;refine rgN [0,1,2] ?_
 refine za fun Z1 hZ1=>?_
 refine rc [1,2,32] fun K hK=>?_
 refine rnN 4 ?_;refine zq 4 (fun L τ=>L=[(0,.int .i64 a0),(1,.ds true (qd encI a1) (qb a1) false),(2,.ds true (qd encGSchema a2) (qb a2) false),(17,.bool ((decide ((qb a1:Int)<1))||(decide (12<(qb a1:Int)))))]∧τ=[]) ?_ ?_
 · refine yW 13 rfl (fun hg13=>?_) (fun hg13=>?_)
   · have t2:=eq_true hg13;refine rnN 4 ?_;refine zb ⟨rfl,_,_,⟨rfl,rfl⟩,.p t2⟩
   have t3:=eq_false hg13;refine rnN 4 ?_;refine zb ⟨rfl,_,_,⟨rfl,rfl⟩,.p t3⟩
 rintro _ _ ⟨rfl,rfl⟩;refine rnN 1 ?_;refine zq 6 (fun L τ=>L=[(0,.int .i64 a0),(1,.ds true (qd encI a1) (qb a1) false),(2,.ds true (qd encGSchema a2) (qb a2) false),(24,.bool (((decide ((qb a1:Int)<1))||(decide (12<(qb a1:Int))))||(!(decide ((qb a2:Int)=(qb a1:Int))))))]∧τ=[]) ?_ ?_
 · refine yf (b:=((decide ((qb a1:Int)<1))||(decide (12<(qb a1:Int))))) 18 rfl (fun hg18=>?_) (fun hg18=>?_)
   · refine rnN 6 ?_;refine zb ⟨rfl,_,_,⟨rfl,rfl⟩,.b hg18⟩
   refine rnN 6 ?_;refine zb ⟨rfl,_,_,⟨rfl,rfl⟩,.b hg18⟩
 rintro _ _ ⟨rfl,rfl⟩;refine rnN 1 ?_;refine zq 3 (fun L τ=>L=[(0,.int .i64 a0),(1,.ds true (qd encI a1) (qb a1) false),(2,.ds true (qd encGSchema a2) (qb a2) false),(28,.bool ((((decide ((qb a1:Int)<1))||(decide (12<(qb a1:Int))))||(!(decide ((qb a2:Int)=(qb a1:Int)))))||(decide (a0<0))))]∧τ=[]) ?_ ?_
 · refine yf (b:=(((decide ((qb a1:Int)<1))||(decide (12<(qb a1:Int))))||(!(decide ((qb a2:Int)=(qb a1:Int)))))) 25 rfl (fun hg25=>?_) (fun hg25=>?_)
   · refine rnN 3 ?_;refine zb ⟨rfl,_,_,⟨rfl,rfl⟩,.b hg25⟩
   refine rnN 3 ?_;refine zb ⟨rfl,_,_,⟨rfl,rfl⟩,.b hg25⟩
 rintro _ _ ⟨rfl,rfl⟩;refine rnN 1 ?_;refine zq 3 (fun L τ=>L=[(1,.ds true (qd encI a1) (qb a1) false),(2,.ds true (qd encGSchema a2) (qb a2) false),(32,.bool (((((decide ((qb a1:Int)<1))||(decide (12<(qb a1:Int))))||(!(decide ((qb a2:Int)=(qb a1:Int)))))||(decide (a0<0)))||(decide (255<a0))))]∧τ=[]) ?_ ?_
 · refine yf (b:=((((decide ((qb a1:Int)<1))||(decide (12<(qb a1:Int))))||(!(decide ((qb a2:Int)=(qb a1:Int)))))||(decide (a0<0)))) 29 rfl (fun hg29=>?_) (fun hg29=>?_)
   · refine rnN 3 ?_;refine zb ⟨rfl,_,_,⟨rfl,rfl⟩,.b hg29⟩
   refine rnN 3 ?_;refine zb ⟨rfl,_,_,⟨rfl,rfl⟩,.b hg29⟩
 rintro _ _ ⟨rfl,rfl⟩;refine nkN hK ?_;refine zv (b:=(((((decide ((qb a1:Int)<1))||(decide (12<(qb a1:Int))))||(!(decide ((qb a2:Int)=(qb a1:Int)))))||(decide (a0<0)))||(decide (255<a0)))) rfl (fun hc4=>?_) (fun hc4=>?_)
 · rw[if_pos hc4] at h;refine rgN [6] ?_;cases h;exact rtA
 rw[wb hc4] at h;apply zd;apply hZ1;refine rgN [1,2,7] ?_
 refine za fun Z5 hZ5=>?_
 refine rgN [2,7,33,34,35] ?_;apply ze
 refine yD 33 fun hb10=>?_
 replace hb10:qb a1≤9223372036854775807:=hb10.1;refine zF (fun m L τ=>∃ (p10 q10:List Int) (x7:Int) (x6:Int),m=qb q10∧L=[(2,.ds true (qd encGSchema a2) (qb a2) false),(7,.int .i64 x6),(33,.ds true (qd encI a1) (qb a1) false),(34,.int .i64 (qb a1:Int)),(35,.int .i64 x7)]∧τ=[]∧a1=p10++q10∧x7=(qb p10:Int)∧xD.l10 a2 q10 x7 x6=some r) _ ⟨[],a1,0,0,rfl,rfl,rfl,rfl,rfl,h⟩ .s ?_;rintro m L τ ⟨p10,q10,x7,x6,rfl,rfl,rfl,hE10,hi10,h⟩
 rcases q10 with _|⟨y10,q10⟩
 · have hz10:=yH hE10 hi10;simp only[xD.l10] at h
   refine rg tok [2,7,33,34,35,36] fun K hK=>?_
   simp only[go_sem,qc,qa,hz10];apply hK
   refine za fun Z11 hZ11=>?_
   refine zp rfl ?_;apply zA;apply hZ5;refine rgN [6] ?_;cases h;exact rtA
 obtain⟨hz10,hw10,hx10,hE'10,hi'10⟩:=ya hE10 hi10 hb10;simp only[xD.l10] at h
 refine rg tok [2,7,33,34,35,36] fun K hK=>?_
 simp only[go_sem,qc,qa,hz10];apply hK
 refine za fun Z12 hZ12=>?_
 refine zs rfl ?_;apply zd;apply hZ12
 refine za fun Z13 hZ13=>?_
 apply ze;have f14:=E26.idxS hx10;have f15:=E26.fldS0 (f:=3) rfl rfl hx10
 refine rg tok [2,7,8,9,33,34,35] fun K hK=>?_
 simp only[go_sem,qc,qa,encI,f14,f15];apply hK
 refine za fun Z16 hZ16=>?_
 refine rc [2,9,33,34,35,54] fun K hK=>?_
 refine rnN 4 ?_;refine zq 3 (fun L τ=>L=[(2,.ds true (qd encGSchema a2) (qb a2) false),(8,.int .i64 x7),(9,.int .i64 y10),(33,.ds true (qd encI a1) (qb a1) false),(34,.int .i64 (qb a1:Int)),(35,.int .i64 x7),(46,.bool ((decide (y10≤x6))||(decide (12<y10))))]∧τ=[]) ?_ ?_
 · refine yW 43 rfl (fun hg43=>?_) (fun hg43=>?_)
   · have t17:=eq_true hg43;refine rnN 3 ?_;refine zb ⟨rfl,_,_,⟨rfl,rfl⟩,.p t17⟩
   have t18:=eq_false hg43;refine rnN 3 ?_;refine zb ⟨rfl,_,_,⟨rfl,rfl⟩,.p t18⟩
 rintro _ _ ⟨rfl,rfl⟩;refine rnN 1 ?_;obtain⟨c19,hc19,h⟩:=bind_some h;refine zq 7 (fun L τ=>L=[(2,.ds true (qd encGSchema a2) (qb a2) false),(9,.int .i64 y10),(33,.ds true (qd encI a1) (qb a1) false),(34,.int .i64 (qb a1:Int)),(35,.int .i64 x7),(54,.bool c19)]∧τ=[]) ?_ ?_
 · refine yf (b:=((decide (y10≤x6))||(decide (12<y10)))) 47 rfl (fun hg47=>?_) (fun hg47=>?_)
   · rw[if_pos hg47] at hc19;refine rnN 7 ?_;cases hc19;refine zb ⟨rfl,_,_,⟨rfl,rfl⟩,.b hg47⟩
   rw[wb hg47] at hc19;obtain⟨y20,hy20,hc19⟩:=bind_some hc19;have f21:=E33.idxS hy20;have f22:=E33.loadS rfl rfl hy20;obtain⟨r23,hr23,hc19⟩:=bind_some hc19;refine zj tok 4 ?_;simp only[go_sem,qc,qa,encGSchema,f21,f22];refine clN rfl rfl rfl (z6.ev y20 r23 hr23 _) ?_;refine rnN 2 ?_;cases hc19;refine zb ⟨rfl,_,_,⟨rfl,rfl⟩,.b hg47⟩
 rintro _ _ ⟨rfl,rfl⟩;refine nkN hK ?_;refine zv (b:=c19) rfl (fun hc24=>?_) (fun hc24=>?_)
 · rw[if_pos hc24] at h;refine rgN [6] ?_;cases h;exact rtA
 rw[wb hc24] at h;apply zd;apply hZ16
 refine rgE tok [2,7,33,34,35] fun K hK=>?_
 simp only[go_sem,qc,qa];apply hK
 apply hZ13
 refine rgE tok [2,7,33,34,35] fun K hK=>?_
 simp only[go_sem,qc,qa,hw10];apply hK
 exact⟨_,_,_,qy q10.length,⟨p10++[y10],q10,x7+1,y10,rfl,rfl,rfl,hE'10,hi'10,h⟩,.s⟩
theorem xD.ev (a0:Int)(a1:List Int)(a2:List GSchema)(r:Bool)(h:xD a0 a1 a2=some r)(σ:Store):ACalls qg 58 [.int .i64 a0,.ds true (qd encI a1) (qb a1) false,.ds true (qd encGSchema a2) (qb a2) false] σ (fun r' σ'=>r'=.bool r∧σ'=σ):=
 (xD.ok a0 a1 a2 r h).c σ
def yB (a0:GClientClient):Option GSchema:=
 (Zb a0.fschemas (IntKind.i64.wrap ((qb a0.fschemas:Int)-1))).bind fun y1=>some y1
theorem yB.ok (a0:GClientClient)(r:GSchema)(h:yB a0=some r):ACalls qg 60 [.op 0 0 0] [.cells 0 (encGClientClient a0)] (fun r' σ'=>r'=.agg (encGSchema r)∧σ'=[.cells 0 (encGClientClient a0)]):=by
 refine ww [0] (rs:=[.cell 2 31]) tok Tryz.func60 rfl Tryz.ntmps60 rfl Tryz.call60 (by simp) rfl ?_;refine zl [(0,.op 0 0 0)] ⟨rfl,trivial⟩ ?_;unfold yB at h;refine rgN [0,2] ?_;obtain⟨y1,hy1,h⟩:=bind_some h;have f2:=E33.idxS hy1;have f3:=E33.loadS rfl rfl hy1
 refine rd [2] fun K hK=>?_
 refine DW.start (T:=tab) [.any,.any,.any,.at [],.any,.any,.any,.at [],.at [],.any,.any,.at [],.eff] [] ?_;refine DW.runN tok 8 ?_;simp only[go_sem,qc,qa,qe,reduceCtorEq,encGSchema];refine DW.runN tok 5 ?_;simp only[go_sem,qc,qf,qa,qe,reduceCtorEq,encGSchema,f2,f3];refine DW.fin tok (by decide +kernel) rfl ?_;simp only[zf,upd,qa,reduceIte,zV,yz];apply hK
 apply zR;cases h;simp only[wN,ym,yy,xo,exists_eq_left',go_sem,qf,qe,encGSchema];refine⟨by decide,by simp,?_,?_⟩
 · first|rfl|(simp only[go_sem,push_cast,qp,qm,qq,qu,qt,zi]<;>rfl)
 first|rfl|(simp only[go_sem,push_cast,qp,qm,qq,qu,qt,zi]<;>rfl)
def yG.l4 (a1:List UInt8):List GMethod→Int→GMethod×Bool
 |[],x2=>((⟨[],[],[]⟩:GMethod),false)
 |y4::q4,x2=>(if y4.fName=a1 then (y4,true) else ((yG.l4 a1 q4) (x2+1)))
def yG (a0:GSchema)(a1:List UInt8):GMethod×Bool:=
 (yG.l4 a1 a0.fMethods 0)
theorem yG.ok (a0:GSchema)(a1:List UInt8)(r:GMethod×Bool)(h:yG a0 a1=r):ACalls qg 59 [.agg (encGSchema a0),.str a1] [] (fun r' _=>r'=.tup [.agg (encGMethod r.1),.bool r.2]):=by
 refine zh (rs:=[.cell 4 61,.tmp 5]) tok Tryz.func59 rfl Tryz.ntmps59 rfl Tryz.call59 (by simp) ?_;refine zl [(0,.agg (encGSchema a0)),(1,.str a1)] ⟨rfl,rfl,trivial⟩ ?_;unfold yG at h
 refine rg tok [1,2,4] fun K hK=>?_
 simp only[go_sem,qc,qa,qe,reduceCtorEq,encGSchema];apply hK
 refine za fun Z1 hZ1=>?_
 refine rgN [1,4,9,10,11] ?_;apply ze
 refine yD 9 fun hb4=>?_
 replace hb4:qb a0.fMethods≤9223372036854775807:=hb4.1;refine zF (fun m L τ=>∃ (p4 q4:List GMethod) (x2:Int),m=qb q4∧L=[(1,.str a1),(4,.op 0 0 0),(9,.ds true (qd encGMethod a0.fMethods) (qb a0.fMethods) false),(10,.int .i64 (qb a0.fMethods:Int)),(11,.int .i64 x2)]∧τ=[.cells 0 [.str [],.str [],.str []]]∧a0.fMethods=p4++q4∧x2=(qb p4:Int)∧yG.l4 a1 q4 x2=r) _ ⟨[],a0.fMethods,0,rfl,rfl,rfl,rfl,rfl,h⟩ (.t [1] false) ?_;rintro m L τ ⟨p4,q4,x2,rfl,rfl,rfl,hE4,hi4,h⟩
 rcases q4 with _|⟨y4,q4⟩
 · have hz4:=yH hE4 hi4;simp only[yG.l4] at h
   refine rg tok [1,4,9,10,11,12] fun K hK=>?_
   simp only[go_sem,qc,qa,hz4];apply hK
   refine za fun Z5 hZ5=>?_
   refine zp rfl ?_;apply zA;apply hZ1;refine rgN [4,5] ?_;cases h;exact rtA
 obtain⟨hz4,hw4,hx4,hE'4,hi'4⟩:=ya hE4 hi4 hb4;simp only[yG.l4] at h
 refine rg tok [1,4,9,10,11,12] fun K hK=>?_
 simp only[go_sem,qc,qa,hz4];apply hK
 refine za fun Z6 hZ6=>?_
 refine zs rfl ?_;apply zd;apply hZ6
 refine za fun Z7 hZ7=>?_
 apply ze;have f8:=E29.idxS hx4;have f9:=E29.loadS rfl rfl hx4
 refine rg tok [1,4,7,9,10,11] fun K hK=>?_
 simp only[go_sem,qc,qf,qa,qe,encGMethod,f8,f9];apply hK
 refine rgN [1,4,7,9,10,11,18] ?_;refine zL rfl (fun hc10=>?_) (fun hc10=>?_)
 · rw[if_pos hc10] at h;have t11:=eq_true hc10
   refine rg tok [4,5] fun K hK=>?_
   simp only[go_sem,qc,qf,qa,qe,t11];apply hK
   cases h;exact rtA
 rw[if_neg hc10] at h;have t12:=eq_false hc10;apply zd;apply hZ7
 refine rgE tok [1,4,9,10,11] fun K hK=>?_
 simp only[go_sem,qc,qa,hw4,t12];apply hK
 exact⟨_,_,_,qy q4.length,⟨p4++[y4],q4,x2+1,rfl,rfl,rfl,hE'4,hi'4,h⟩,(.t [0] false)⟩
theorem yG.ev (a0:GSchema)(a1:List UInt8)(r:GMethod×Bool)(h:yG a0 a1=r)(σ:Store):ACalls qg 59 [.agg (encGSchema a0),.str a1] σ (fun r' σ'=>r'=.tup [.agg (encGMethod r.1),.bool r.2]∧σ'=σ):=
 (yG.ok a0 a1 r h).c σ
def yb.l20 (xn:GTree→Int→Option Int)(a1:Int)(x7:Int)(rec10:Int→Int→Option Int):List GTree→Int→Int→Option Int
 |[],x17,x16=>(rec10 (x7+1) x16)
 |y20::q20,x17,x16=>(xn y20 (IntKind.i64.wrap (a1-1))).bind fun r26=>((yb.l20 xn a1 x7 rec10 q20) (x17+1) (if x16<r26 then r26 else x16))
def yb.l10 (xn:GTree→Int→Option Int)(a1:Int):List GEntry→Int→Int→Option Int
 |[],x7,x6=>some (IntKind.i64.wrap (x6+1))
 |y10::q10,x7,x6=>(yb.l20 xn a1 x7 (yb.l10 xn a1 q10) y10.fTrees 0 x6)
def yb.body (xn:GTree→Int→Option Int)(a0:GTree)(a1:Int):Option Int:=
 (if ((!(decide (a0.fKind=3)))||(decide (a1=0)))=true then some 0 else (yb.l10 xn a1 a0.fEntries 0 0))
theorem yb.step (xn:GTree→Int→Option Int)(ih_value_deep:∀ (a0:GTree) (a1:Int) (r:Int),xn a0 a1=some r→ACalls qg 179 [.agg (cellsGTree a0),.int .i64 a1] [] (fun r' _=>r'=.int .i64 r))(a0:GTree)(a1:Int)(r:Int)(h:yb.body xn a0 a1=some r):ACalls qg 179 [.agg (cellsGTree a0),.int .i64 a1] [] (fun r' _=>r'=.int .i64 r):=by
 have ev_value_deep:=fun a0 a1 r h σ=>(ih_value_deep a0 a1 r h).c σ
 refine zh (rs:=[.tmp 4]) tok Tryz.func179 rfl Tryz.ntmps179 rfl Tryz.call179 (by simp) ?_;refine zl [(0,.agg (cellsGTree a0)),(1,.int .i64 a1)] ⟨rfl,rfl,trivial⟩ ?_;unfold yb.body at h
 refine rg tok [1,2] fun K hK=>?_
 simp only[go_sem,qc,qa,qe,reduceCtorEq,cellsGTree];apply hK
 refine za fun Z1 hZ1=>?_
 refine rc [1,2,16] fun K hK=>?_
 refine rnN 4 ?_;refine zq 3 (fun L τ=>L=[(1,.int .i64 a1),(2,.op 0 0 0),(16,.bool ((!(decide (a0.fKind=3)))||(decide (a1=0))))]∧τ=[.cells 0 (cellsGTree a0)]) ?_ ?_
 · refine yW 13 rfl (fun hg13=>?_) (fun hg13=>?_)
   · have t2:=eq_false hg13;refine rnN 3 ?_;refine zb ⟨rfl,_,_,⟨rfl,rfl⟩,.p t2⟩
   have t3:=eq_true hg13;refine rnN 3 ?_;refine zb ⟨rfl,_,_,⟨rfl,rfl⟩,.p t3⟩
 rintro _ _ ⟨rfl,rfl⟩;refine nkN hK ?_;refine zv (b:=((!(decide (a0.fKind=3)))||(decide (a1=0)))) rfl (fun hc4=>?_) (fun hc4=>?_)
 · rw[if_pos hc4] at h;refine rgN [4] ?_;cases h;exact rtA
 rw[wb hc4] at h;apply zd;apply hZ1;refine rgN [1,2,5] ?_
 refine za fun Z5 hZ5=>?_
 refine rgN [1,5,18,19,20] ?_;apply ze
 refine yD 18 fun hb10=>?_
 replace hb10:qb a0.fEntries≤9223372036854775807:=hb10.1;refine zF (fun m L τ=>∃ (p10 q10:List GEntry) (x7:Int) (x6:Int),m=qb q10∧L=[(1,.int .i64 a1),(5,.int .i64 x6),(18,.ds true (qd encGEntry a0.fEntries) (qb a0.fEntries) false),(19,.int .i64 (qb a0.fEntries:Int)),(20,.int .i64 x7)]∧τ=[]∧a0.fEntries=p10++q10∧x7=(qb p10:Int)∧yb.l10 xn a1 q10 x7 x6=some r) _ ⟨[],a0.fEntries,0,0,rfl,rfl,rfl,rfl,rfl,h⟩ (.t [] false) ?_;rintro m L τ ⟨p10,q10,x7,x6,rfl,rfl,rfl,hE10,hi10,h⟩
 rcases q10 with _|⟨y10,q10⟩
 · have hz10:=yH hE10 hi10;simp only[yb.l10] at h
   refine rg tok [1,5,18,19,20,21] fun K hK=>?_
   simp only[go_sem,qc,qa,hz10];apply hK
   refine za fun Z11 hZ11=>?_
   refine zp rfl ?_;apply zA;apply hZ5;refine rgN [4] ?_;cases h;exact rtA
 obtain⟨hz10,hw10,hx10,hE'10,hi'10⟩:=ya hE10 hi10 hb10;simp only[yb.l10] at h
 refine rg tok [1,5,18,19,20,21] fun K hK=>?_
 simp only[go_sem,qc,qa,hz10];apply hK
 refine za fun Z12 hZ12=>?_
 refine zs rfl ?_;apply zd;apply hZ12
 refine za fun Z13 hZ13=>?_
 apply ze;have f14:=E34.idxS hx10;have f15:=E34.loadS rfl rfl hx10
 refine rg tok [1,5,7,18,19,20] fun K hK=>?_
 simp only[go_sem,qc,qf,qa,qe,cellsGEntry,zZ,f14,f15];apply hK
 refine rgN [1,5,18,19,20,25,26,27] ?_;apply ze
 refine yD 25 fun hb20=>?_
 replace hb20:qb y10.fTrees≤9223372036854775807:=hb20.1;refine zF (fun m L τ=>∃ (p20 q20:List GTree) (x17:Int) (x16:Int),m=qb q20∧L=[(1,.int .i64 a1),(5,.int .i64 x16),(18,.ds true (qd encGEntry a0.fEntries) (qb a0.fEntries) false),(19,.int .i64 (qb a0.fEntries:Int)),(20,.int .i64 x7),(25,.ds true (qd encGTree y10.fTrees) (qb y10.fTrees) false),(26,.int .i64 (qb y10.fTrees:Int)),(27,.int .i64 x17)]∧τ=[]∧y10.fTrees=p20++q20∧x17=(qb p20:Int)∧yb.l20 xn a1 x7 (yb.l10 xn a1 q10) q20 x17 x16=some r) _ ⟨[],y10.fTrees,0,x6,rfl,rfl,rfl,rfl,rfl,h⟩ (.t [] false) ?_;rintro m L τ ⟨p20,q20,x17,x16,rfl,rfl,rfl,hE20,hi20,h⟩
 rcases q20 with _|⟨y20,q20⟩
 · have hz20:=yH hE20 hi20;simp only[yb.l20] at h
   refine rg tok [1,5,18,19,20,25,26,27,28] fun K hK=>?_
   simp only[go_sem,qc,qa,hz20];apply hK
   refine za fun Z21 hZ21=>?_
   refine zp rfl ?_;apply zA;apply hZ13
   refine rgE tok [1,5,18,19,20] fun K hK=>?_
   simp only[go_sem,qc,qa,hw10];apply hK
   exact⟨_,_,_,qy q10.length,⟨p10++[y10],q10,x7+1,x16,rfl,rfl,rfl,hE'10,hi'10,h⟩,.s⟩
 obtain⟨hz20,hw20,hx20,hE'20,hi'20⟩:=ya hE20 hi20 hb20;simp only[yb.l20] at h
 refine rg tok [1,5,18,19,20,25,26,27,28] fun K hK=>?_
 simp only[go_sem,qc,qa,hz20];apply hK
 refine za fun Z22 hZ22=>?_
 refine zs rfl ?_;apply zd;apply hZ22
 refine za fun Z23 hZ23=>?_
 apply ze;have f24:=E38.idxS hx20;have f25:=E38.loadS rfl rfl hx20
 refine rg tok [1,5,9,18,19,20,25,26,27] fun K hK=>?_
 simp only[go_sem,qc,qf,qa,qe,cellsGTree,zH,f24,f25];apply hK
 refine rcE [1,5,18,19,20,25,26,27] fun K hK=>?_
 obtain⟨r26,hr26,h⟩:=bind_some h;refine rnN 4 ?_;refine clN rfl rfl rfl (ev_value_deep y20 (IntKind.i64.wrap (a1-1)) r26 hr26 _) ?_;refine zj tok 2 ?_;simp only[go_sem,qc,qa,XL,vb7,vay];refine nkN hK ?_;apply hZ23
 refine rgE tok [1,5,18,19,20,25,26,27] fun K hK=>?_
 simp only[go_sem,qc,qa,hw20];apply hK
 exact⟨_,_,_,qy q20.length,⟨p20++[y20],q20,x17+1,(if x16<r26 then r26 else x16),rfl,rfl,rfl,hE'20,hi'20,h⟩,(.t [] false)⟩
def yb : Nat→GTree→Int→Option Int
 |0,_,_=>none
 |k+1,a0,a1=>yb.body (yb k) a0 a1
theorem yb.all (k:Nat):(∀ (a0:GTree) (a1:Int) (r:Int),yb k a0 a1=some r→ACalls qg 179 [.agg (cellsGTree a0),.int .i64 a1] [] (fun r' _=>r'=.int .i64 r)):=by
 induction k with
 |zero=>exact (fun a0 a1 r h=>by simp only[yb] at h; cases h)
 |succ k ih=>exact (fun a0 a1 r h=>yb.step _ ih a0 a1 r (by simpa only [yb] using h))
theorem yb.ev (k:Nat)(a0:GTree)(a1:Int)(r:Int)(h:yb k a0 a1=some r)(σ:Store):ACalls qg 179 [.agg (cellsGTree a0),.int .i64 a1] σ (fun r' σ'=>r'=.int .i64 r∧σ'=σ):=
 ((yb.all k) a0 a1 r h).c σ
def wI (a0:GTree):Option Int:=
 (yb rounds a0 101).bind fun r1=>some r1
theorem wI.ok (a0:GTree)(r:Int)(h:wI a0=some r):ACalls qg 139 [.agg (cellsGTree a0)] [] (fun r' _=>r'=.int .i64 r):=by
 refine zh (rs:=[.tmp 2]) tok Tryz.func139 rfl Tryz.ntmps139 rfl Tryz.call139 (by simp) ?_;refine zl [(0,.agg (cellsGTree a0))] ⟨rfl,trivial⟩ ?_;unfold wI at h
 refine rg tok [1] fun K hK=>?_
 simp only[go_sem,qc,qa,qe,reduceCtorEq,cellsGTree];apply hK
 refine rc [2] fun K hK=>?_
 obtain⟨r1,hr1,h⟩:=bind_some h;refine rnN 1 ?_;refine clN rfl rfl rfl (yb.ev rounds a0 101 r1 hr1 _) ?_;refine rnN 1 ?_;refine nkN hK ?_;cases h;exact rtA
theorem wI.ev (a0:GTree)(r:Int)(h:wI a0=some r)(σ:Store):ACalls qg 139 [.agg (cellsGTree a0)] σ (fun r' σ'=>r'=.int .i64 r∧σ'=σ):=
 (wI.ok a0 r h).c σ
def yw (a0:GRaw):Bool:=
 (if ((decide (a0.fTag<1))||(decide (500<a0.fTag)))=true then false else (if a0.fWire=0 then decide (a0.fB=[]) else (if a0.fWire=1 then ((decide (a0.fN=0))&&(decide ((qb a0.fB:Int)≤4096))) else false)))
theorem yw.ok (a0:GRaw)(r:Bool)(h:yw a0=r):ACalls qg 147 [.agg (encGRaw a0)] [] (fun r' _=>r'=.bool r):=by
 refine zh (rs:=[.tmp 2]) tok Tryz.func147 rfl Tryz.ntmps147 rfl Tryz.call147 (by simp) ?_;refine zl [(0,.agg (encGRaw a0))] ⟨rfl,trivial⟩ ?_;unfold yw at h
 refine rg tok [1] fun K hK=>?_
 simp only[go_sem,qc,qa,qe,reduceCtorEq,encGRaw];apply hK
 refine za fun Z1 hZ1=>?_
 refine rc [1,10] fun K hK=>?_
 refine rnN 4 ?_;refine zq 4 (fun L τ=>L=[(1,.op 0 0 0),(10,.bool ((decide (a0.fTag<1))||(decide (500<a0.fTag))))]∧τ=[.cells 0 [.int .i64 a0.fTag,.int .i64 a0.fWire,.int .i64 a0.fN,.str a0.fB]]) ?_ ?_
 · refine yW 6 rfl (fun hg6=>?_) (fun hg6=>?_)
   · have t2:=eq_true hg6;refine rnN 4 ?_;refine zb ⟨rfl,_,_,⟨rfl,rfl⟩,.p t2⟩
   have t3:=eq_false hg6;refine rnN 4 ?_;refine zb ⟨rfl,_,_,⟨rfl,rfl⟩,.p t3⟩
 rintro _ _ ⟨rfl,rfl⟩;refine nkN hK ?_;refine zv (b:=((decide (a0.fTag<1))||(decide (500<a0.fTag)))) rfl (fun hc4=>?_) (fun hc4=>?_)
 · rw[if_pos hc4] at h;refine rgN [2] ?_;cases h;exact rtA
 rw[wb hc4] at h;apply zd;apply hZ1
 refine za fun Z5 hZ5=>?_
 refine rgN [1,12] ?_;apply ze;refine rgN [1,12,13] ?_;refine zL rfl (fun hc6=>?_) (fun hc6=>?_)
 · rw[if_pos hc6] at h;have t7:=eq_true hc6
   refine rg tok [2] fun K hK=>?_
   simp only[go_sem,qc,qa,qe,t7];apply hK
   cases h;exact rtA
 rw[if_neg hc6] at h;have t8:=eq_false hc6
 refine rg tok [1,18] fun K hK=>?_
 simp only[go_sem,qc,qa,t8];apply hK
 refine zL rfl (fun hc9=>?_) (fun hc9=>?_)
 · rw[if_pos hc9] at h;have t10:=eq_true hc9
   refine rc [2] fun K hK=>?_
   refine zj tok 4 ?_;simp only[go_sem,qc,qa,qe,t10];refine zq 5 (fun L τ=>L=[(28,.bool ((decide (a0.fN=0))&&(decide ((qb a0.fB:Int)≤4096))))]∧τ=[.cells 0 [.int .i64 a0.fTag,.int .i64 a0.fWire,.int .i64 a0.fN,.str a0.fB]]) ?_ ?_
   · refine yW 23 rfl (fun hg23=>?_) (fun hg23=>?_)
     · have t11:=eq_true hg23;refine rnN 5 ?_;refine zb ⟨rfl,_,_,⟨rfl,rfl⟩,.p t11⟩
     have t12:=eq_false hg23;refine rnN 5 ?_;refine zb ⟨rfl,_,_,⟨rfl,rfl⟩,.p t12⟩
   rintro _ _ ⟨rfl,rfl⟩;refine rnN 1 ?_;refine nkN hK ?_;cases h;exact rtA
 rw[if_neg hc9] at h;have t13:=eq_false hc9;apply zd;apply hZ5
 refine rg tok [2] fun K hK=>?_
 simp only[go_sem,qc,qa,t13];apply hK
 cases h;exact rtA
theorem yw.ev (a0:GRaw)(r:Bool)(h:yw a0=r)(σ:Store):ACalls qg 147 [.agg (encGRaw a0)] σ (fun r' σ'=>r'=.bool r∧σ'=σ):=
 (yw.ok a0 r h).c σ
def xj.l4 (a0:List GRaw):Nat→Int→Option Bool
 |0,_=>none
 |k4+1,x2=>(if x2<(qb a0:Int) then (Zb a0 x2).bind fun y9=>(Zb a0 (IntKind.i64.wrap (x2-1))).bind fun y12=>(if y9.fTag<y12.fTag then some false else ((xj.l4 a0 k4) (IntKind.i64.wrap (x2+1)))) else some true)
def xj (a0:List GRaw):Option Bool:=
 (xj.l4 a0 rounds 1)
theorem xj.ok (a0:List GRaw)(r:Bool)(h:xj a0=some r):ACalls qg 223 [.ds true (qd encGRaw a0) (qb a0) false] [] (fun r' _=>r'=.bool r):=by
 refine zh (rs:=[.tmp 2]) tok Tryz.func223 rfl Tryz.ntmps223 rfl Tryz.call223 (by simp) ?_;refine zl [(0,.ds true (qd encGRaw a0) (qb a0) false)] ⟨rfl,trivial⟩ ?_;unfold xj at h;refine rgN [0] ?_
 refine za fun Z1 hZ1=>?_
 refine rgN [0,3] ?_;apply ze;refine zF (fun m L τ=>∃ (k4:Nat) (x2:Int),m=0+k4∧L=[(0,.ds true (qd encGRaw a0) (qb a0) false),(3,.int .i64 x2)]∧τ=[]∧xj.l4 a0 k4 x2=some r) _ ⟨rounds,1,rfl,rfl,rfl,h⟩ .s ?_;rintro m L τ ⟨k4,x2,rfl,rfl,rfl,h⟩
 rcases k4 with _|k4
 · cases h
 simp only[xj.l4] at h
 refine za fun Z5 hZ5=>?_
 refine rgN [0,3,7] ?_;refine zL rfl (fun hc6=>?_) (fun hc6=>?_)
 · rw[if_pos hc6] at h;have t7:=eq_true hc6;apply zd;apply hZ5
   refine za fun Z8 hZ8=>?_
   apply ze;obtain⟨y9,hy9,h⟩:=bind_some h;have f10:=E35.idxS hy9;have f11:=E35.fldS0 (f:=3) rfl rfl hy9;obtain⟨y12,hy12,h⟩:=bind_some h;have f13:=E35.idxS hy12;have f14:=E35.fldS0 (f:=3) rfl rfl hy12
   refine rd [0,3,21] fun K hK=>?_
   refine DW.start (T:=tab) [.any,.any,.any,.any,.at [],.any,.any,.any,.any,.any,.at [],.any] [] ?_;refine DW.runN tok 8 ?_;simp only[go_sem,qc,qa,reduceCtorEq,encGRaw,t7,f10,f11];refine DW.runN tok 4 ?_;simp only[go_sem,qc,qa,reduceCtorEq,encGRaw,f13,f14];refine DW.fin tok (by decide +kernel) rfl ?_;simp only[zf,upd,qa,reduceIte,zV,yz];apply hK
   refine zL rfl (fun hc15=>?_) (fun hc15=>?_)
   · rw[if_pos hc15] at h;have t16:=eq_true hc15
     refine rg tok [2] fun K hK=>?_
     simp only[go_sem,qc,qa,reduceCtorEq,t16];apply hK
     cases h;exact rtA
   rw[if_neg hc15] at h;have t17:=eq_false hc15;apply zd;apply hZ8
   refine rgE tok [0,3] fun K hK=>?_
   simp only[go_sem,qc,qa,reduceCtorEq,t17];apply hK
   exact⟨_,_,_,qy (0+k4),⟨k4,IntKind.i64.wrap (x2+1),rfl,rfl,rfl,h⟩,.s⟩
 rw[if_neg hc6] at h;have t18:=eq_false hc6;apply zA;apply hZ1
 refine rg tok [2] fun K hK=>?_
 simp only[go_sem,qc,qa,reduceCtorEq,t18];apply hK
 cases h;exact rtA
theorem xj.ev (a0:List GRaw)(r:Bool)(h:xj a0=some r)(σ:Store):ACalls qg 223 [.ds true (qd encGRaw a0) (qb a0) false] σ (fun r' σ'=>r'=.bool r∧σ'=σ):=
 (xj.ok a0 r h).c σ
def yM.l16 (x2:Int)(rec4:Int→Option Bool)(y4:GRaw):List GEntry→Int→Option Bool
 |[],x14=>(rec4 (x2+1))
 |y16::q16,x14=>(if y16.fTag=y4.fTag then some false else ((yM.l16 x2 rec4 y4 q16) (x14+1)))
def yM.l4 (a0:GTree):List GRaw→Int→Option Bool
 |[],x2=>(xj a0.fRest).bind fun r6=>some r6
 |y4::q4,x2=>bnd (yw y4) fun r12=>(if (!r12)=true then some false else (yM.l16 x2 (yM.l4 a0 q4) y4 a0.fEntries 0))
def yM (a0:GTree):Option Bool:=
 (yM.l4 a0 a0.fRest 0)
theorem yM.ok (a0:GTree)(r:Bool)(h:yM a0=some r):ACalls qg 181 [.agg (cellsGTree a0)] [] (fun r' _=>r'=.bool r):=by
 refine zh (rs:=[.tmp 2]) tok Tryz.func181 rfl Tryz.ntmps181 rfl Tryz.call181 (by simp) ?_;refine zl [(0,.agg (cellsGTree a0))] ⟨rfl,trivial⟩ ?_;unfold yM at h
 refine rg tok [1] fun K hK=>?_
 simp only[go_sem,qc,qa,qe,reduceCtorEq,cellsGTree];apply hK
 refine za fun Z1 hZ1=>?_
 refine rgN [1,8,9,10] ?_;apply ze
 refine yD 8 fun hb4=>?_
 replace hb4:qb a0.fRest≤9223372036854775807:=hb4.1;refine zF (fun m L τ=>∃ (p4 q4:List GRaw) (x2:Int),m=qb q4∧L=[(1,.op 0 0 0),(8,.ds true (qd encGRaw a0.fRest) (qb a0.fRest) false),(9,.int .i64 (qb a0.fRest:Int)),(10,.int .i64 x2)]∧τ=[.cells 0 (cellsGTree a0)]∧a0.fRest=p4++q4∧x2=(qb p4:Int)∧yM.l4 a0 q4 x2=some r) _ ⟨[],a0.fRest,0,rfl,rfl,rfl,rfl,rfl,h⟩ .s ?_;rintro m L τ ⟨p4,q4,x2,rfl,rfl,rfl,hE4,hi4,h⟩
 rcases q4 with _|⟨y4,q4⟩
 · have hz4:=yH hE4 hi4;simp only[yM.l4] at h
   refine rg tok [1,8,9,10,11] fun K hK=>?_
   simp only[go_sem,qc,qa,hz4];apply hK
   refine za fun Z5 hZ5=>?_
   refine zp rfl ?_;apply zA;apply hZ1
   refine rc [2] fun K hK=>?_
   obtain⟨r6,hr6,h⟩:=bind_some h;refine rnN 2 ?_;refine clN rfl rfl rfl (xj.ev a0.fRest r6 hr6 _) ?_;refine rnN 1 ?_;refine nkN hK ?_;cases h;exact rtA
 obtain⟨hz4,hw4,hx4,hE'4,hi'4⟩:=ya hE4 hi4 hb4;simp only[yM.l4] at h
 refine rg tok [1,8,9,10,11] fun K hK=>?_
 simp only[go_sem,qc,qa,hz4];apply hK
 refine za fun Z7 hZ7=>?_
 refine zs rfl ?_;apply zd;apply hZ7
 refine za fun Z8 hZ8=>?_
 apply ze;have f9:=E35.idxS hx4;have f10:=E35.loadS rfl rfl hx4
 refine rg tok [1,4,8,9,10] fun K hK=>?_
 simp only[go_sem,qc,qf,qa,qe,encGRaw,f9,f10];apply hK
 refine za fun Z11 hZ11=>?_
 refine rc [1,4,8,9,10,16] fun K hK=>?_
 obtain⟨r12,hr12,h⟩:=zD h;refine rnN 1 ?_;refine clN rfl rfl rfl (yw.ev y4 r12 hr12 _) ?_;refine rnN 1 ?_;refine nkN hK ?_;refine zv (b:=(!r12)) rfl (fun hc13=>?_) (fun hc13=>?_)
 · rw[if_pos hc13] at h;refine rgN [2] ?_;cases h;exact rtA
 rw[wb hc13] at h;apply zd;apply hZ11;refine rgN [1,4,8,9,10,18,19,20] ?_;apply ze
 refine yD 18 fun hb16=>?_
 replace hb16:qb a0.fEntries≤9223372036854775807:=hb16.1;refine zF (fun m L τ=>∃ (p16 q16:List GEntry) (x14:Int),m=qb q16∧L=[(1,.op 0 0 0),(4,.op 1 0 0),(8,.ds true (qd encGRaw a0.fRest) (qb a0.fRest) false),(9,.int .i64 (qb a0.fRest:Int)),(10,.int .i64 x2),(18,.ds true (qd encGEntry a0.fEntries) (qb a0.fEntries) false),(19,.int .i64 (qb a0.fEntries:Int)),(20,.int .i64 x14)]∧τ=[.cells 0 (cellsGTree a0),.cells 0 [.int .i64 y4.fTag,.int .i64 y4.fWire,.int .i64 y4.fN,.str y4.fB]]∧a0.fEntries=p16++q16∧x14=(qb p16:Int)∧yM.l16 x2 (yM.l4 a0 q4) y4 q16 x14=some r) _ ⟨[],a0.fEntries,0,rfl,rfl,rfl,rfl,rfl,h⟩ .s ?_;rintro m L τ ⟨p16,q16,x14,rfl,rfl,rfl,hE16,hi16,h⟩
 rcases q16 with _|⟨y16,q16⟩
 · have hz16:=yH hE16 hi16;simp only[yM.l16] at h
   refine rg tok [1,4,8,9,10,18,19,20,21] fun K hK=>?_
   simp only[go_sem,qc,qa,hz16];apply hK
   refine za fun Z17 hZ17=>?_
   refine zp rfl ?_;apply zA;apply hZ8
   refine rgE tok [1,8,9,10] fun K hK=>?_
   simp only[go_sem,qc,qa,hw4];apply hK
   exact⟨_,_,_,qy q4.length,⟨p4++[y4],q4,x2+1,rfl,rfl,rfl,hE'4,hi'4,h⟩,(.t [0] false)⟩
 obtain⟨hz16,hw16,hx16,hE'16,hi'16⟩:=ya hE16 hi16 hb16;simp only[yM.l16] at h
 refine rg tok [1,4,8,9,10,18,19,20,21] fun K hK=>?_
 simp only[go_sem,qc,qa,hz16];apply hK
 refine za fun Z18 hZ18=>?_
 refine zs rfl ?_;apply zd;apply hZ18
 refine za fun Z19 hZ19=>?_
 apply ze;have f20:=E34.idxS hx16;have f21:=E34.loadS rfl rfl hx16
 refine rg tok [1,4,6,8,9,10,18,19,20] fun K hK=>?_
 simp only[go_sem,qc,qf,qa,qe,cellsGEntry,zZ,f20,f21];apply hK
 refine rgN [1,4,8,9,10,18,19,20,28] ?_;refine zL rfl (fun hc22=>?_) (fun hc22=>?_)
 · rw[if_pos hc22] at h;have t23:=eq_true hc22
   refine rg tok [2] fun K hK=>?_
   simp only[go_sem,qc,qa,t23];apply hK
   cases h;exact rtA
 rw[if_neg hc22] at h;have t24:=eq_false hc22;apply zd;apply hZ19
 refine rgE tok [1,4,8,9,10,18,19,20] fun K hK=>?_
 simp only[go_sem,qc,qa,hw16,t24];apply hK
 exact⟨_,_,_,qy q16.length,⟨p16++[y16],q16,x14+1,rfl,rfl,rfl,hE'16,hi'16,h⟩,(.t [0,1] false)⟩
theorem yM.ev (a0:GTree)(r:Bool)(h:yM a0=some r)(σ:Store):ACalls qg 181 [.agg (cellsGTree a0)] σ (fun r' σ'=>r'=.bool r∧σ'=σ):=
 (yM.ok a0 r h).c σ
def zz.j25 (x16:Int)(rec18:Int→Option Bool)(x24:Bool):Option Bool:=
 (if x24=true then some false else (rec18 (x16+1)))
def zz.l18 (yg:GTree→Option Bool)(x3:Int)(rec6:Int→Int→Option Bool)(y6:GEntry):List GTree→Int→Option Bool
 |[],x16=>(rec6 (x3+1) y6.fTag)
 |y18::q18,x16=>(Zb y6.fTrees 0).bind fun y27=>(if y18.fKind=y27.fKind then (yg y18).bind fun r32=>(zz.j25 x16 (zz.l18 yg x3 rec6 y6 q18) (!r32)) else (zz.j25 x16 (zz.l18 yg x3 rec6 y6 q18) true))
def zz.l6 (yg:GTree→Option Bool):List GEntry→Int→Int→Option Bool
 |[],x3,x2=>some true
 |y6::q6,x3,x2=>(if ((((decide (y6.fTag≤x2))||(decide (500<y6.fTag)))||(decide ((qb y6.fTrees:Int)<1)))||(decide (64<(qb y6.fTrees:Int))))=true then some false else (zz.l18 yg x3 (zz.l6 yg q6) y6 y6.fTrees 0))
def zz.body (xI:GTree→Option Bool)(yg:GTree→Option Bool)(a0:GTree):Option Bool:=
 (zz.l6 yg a0.fEntries 0 0)
theorem zz.step (xI:GTree→Option Bool)(yg:GTree→Option Bool)(Yb:∀ (a0:GTree) (r:Bool),xI a0=some r→ACalls qg 180 [.agg (cellsGTree a0)] [] (fun r' _=>r'=.bool r))(YM:∀ (a0:GTree) (r:Bool),yg a0=some r→ACalls qg 140 [.agg (cellsGTree a0)] [] (fun r' _=>r'=.bool r))(a0:GTree)(r:Bool)(h:zz.body xI yg a0=some r):ACalls qg 180 [.agg (cellsGTree a0)] [] (fun r' _=>r'=.bool r):=by
 have ev_value_entries:=fun a0 r h σ=>(Yb a0 r h).c σ
 have ev_value_right:=fun a0 r h σ=>(YM a0 r h).c σ
 refine zh (rs:=[.tmp 2]) tok Tryz.func180 rfl Tryz.ntmps180 rfl Tryz.call180 (by simp) ?_;refine zl [(0,.agg (cellsGTree a0))] ⟨rfl,trivial⟩ ?_;unfold zz.body at h
 refine rg tok [1] fun K hK=>?_
 simp only[go_sem,qc,qa,qe,reduceCtorEq,cellsGTree];apply hK
 refine rgN [1,3] ?_
 refine za fun Z1 hZ1=>?_
 refine rgN [3,9,10,11] ?_;apply ze
 refine yD 9 fun hb6=>?_
 replace hb6:qb a0.fEntries≤9223372036854775807:=hb6.1;refine zF (fun m L τ=>∃ (p6 q6:List GEntry) (x3:Int) (x2:Int),m=qb q6∧L=[(3,.int .i64 x2),(9,.ds true (qd encGEntry a0.fEntries) (qb a0.fEntries) false),(10,.int .i64 (qb a0.fEntries:Int)),(11,.int .i64 x3)]∧τ=[]∧a0.fEntries=p6++q6∧x3=(qb p6:Int)∧zz.l6 yg q6 x3 x2=some r) _ ⟨[],a0.fEntries,0,0,rfl,rfl,rfl,rfl,rfl,h⟩ (.t [] false) ?_;rintro m L τ ⟨p6,q6,x3,x2,rfl,rfl,rfl,hE6,hi6,h⟩
 rcases q6 with _|⟨y6,q6⟩
 · have hz6:=yH hE6 hi6;simp only[zz.l6] at h
   refine rg tok [3,9,10,11,12] fun K hK=>?_
   simp only[go_sem,qc,qa,hz6];apply hK
   refine za fun Z7 hZ7=>?_
   refine zp rfl ?_;apply zA;apply hZ1;refine rgN [2] ?_;cases h;exact rtA
 obtain⟨hz6,hw6,hx6,hE'6,hi'6⟩:=ya hE6 hi6 hb6;simp only[zz.l6] at h
 refine rg tok [3,9,10,11,12] fun K hK=>?_
 simp only[go_sem,qc,qa,hz6];apply hK
 refine za fun Z8 hZ8=>?_
 refine zs rfl ?_;apply zd;apply hZ8
 refine za fun Z9 hZ9=>?_
 apply ze;have f10:=E34.idxS hx6;have f11:=E34.loadS rfl rfl hx6
 refine rg tok [3,5,9,10,11] fun K hK=>?_
 simp only[go_sem,qc,qf,qa,qe,cellsGEntry,zZ,f10,f11];apply hK
 refine za fun Z12 hZ12=>?_
 refine rc [5,9,10,11,35] fun K hK=>?_
 refine rnN 5 ?_;refine zq 4 (fun L τ=>L=[(5,.op 0 0 0),(9,.ds true (qd encGEntry a0.fEntries) (qb a0.fEntries) false),(10,.int .i64 (qb a0.fEntries:Int)),(11,.int .i64 x3),(23,.bool ((decide (y6.fTag≤x2))||(decide (500<y6.fTag))))]∧τ=[.cells 0 (cellsGEntry y6)]) ?_ ?_
 · refine yW 19 rfl (fun hg19=>?_) (fun hg19=>?_)
   · have t13:=eq_true hg19;refine rnN 4 ?_;refine zb ⟨rfl,_,_,⟨rfl,rfl⟩,.p t13⟩
   have t14:=eq_false hg19;refine rnN 4 ?_;refine zb ⟨rfl,_,_,⟨rfl,rfl⟩,.p t14⟩
 rintro _ _ ⟨rfl,rfl⟩;refine rnN 1 ?_;refine zq 5 (fun L τ=>L=[(5,.op 0 0 0),(9,.ds true (qd encGEntry a0.fEntries) (qb a0.fEntries) false),(10,.int .i64 (qb a0.fEntries:Int)),(11,.int .i64 x3),(29,.bool (((decide (y6.fTag≤x2))||(decide (500<y6.fTag)))||(decide ((qb y6.fTrees:Int)<1))))]∧τ=[.cells 0 (cellsGEntry y6)]) ?_ ?_
 · refine yf (b:=((decide (y6.fTag≤x2))||(decide (500<y6.fTag)))) 24 rfl (fun hg24=>?_) (fun hg24=>?_)
   · refine rnN 5 ?_;refine zb ⟨rfl,_,_,⟨rfl,rfl⟩,.b hg24⟩
   refine rnN 5 ?_;refine zb ⟨rfl,_,_,⟨rfl,rfl⟩,.b hg24⟩
 rintro _ _ ⟨rfl,rfl⟩;refine rnN 1 ?_;refine zq 5 (fun L τ=>L=[(5,.op 0 0 0),(9,.ds true (qd encGEntry a0.fEntries) (qb a0.fEntries) false),(10,.int .i64 (qb a0.fEntries:Int)),(11,.int .i64 x3),(35,.bool ((((decide (y6.fTag≤x2))||(decide (500<y6.fTag)))||(decide ((qb y6.fTrees:Int)<1)))||(decide (64<(qb y6.fTrees:Int)))))]∧τ=[.cells 0 (cellsGEntry y6)]) ?_ ?_
 · refine yf (b:=(((decide (y6.fTag≤x2))||(decide (500<y6.fTag)))||(decide ((qb y6.fTrees:Int)<1)))) 30 rfl (fun hg30=>?_) (fun hg30=>?_)
   · refine rnN 5 ?_;refine zb ⟨rfl,_,_,⟨rfl,rfl⟩,.b hg30⟩
   refine rnN 5 ?_;refine zb ⟨rfl,_,_,⟨rfl,rfl⟩,.b hg30⟩
 rintro _ _ ⟨rfl,rfl⟩;refine nkN hK ?_;refine zv (b:=((((decide (y6.fTag≤x2))||(decide (500<y6.fTag)))||(decide ((qb y6.fTrees:Int)<1)))||(decide (64<(qb y6.fTrees:Int))))) rfl (fun hc15=>?_) (fun hc15=>?_)
 · rw[if_pos hc15] at h;refine rgN [2] ?_;cases h;exact rtA
 rw[wb hc15] at h;apply zd;apply hZ12;refine rgN [3,5,9,10,11] ?_;refine rgN [3,5,9,10,11,39,40,41] ?_;apply ze
 refine yD 39 fun hb18=>?_
 replace hb18:qb y6.fTrees≤9223372036854775807:=hb18.1;refine zF (fun m L τ=>∃ (p18 q18:List GTree) (x16:Int),m=qb q18∧L=[(3,.int .i64 y6.fTag),(5,.op 0 0 0),(9,.ds true (qd encGEntry a0.fEntries) (qb a0.fEntries) false),(10,.int .i64 (qb a0.fEntries:Int)),(11,.int .i64 x3),(39,.ds true (qd encGTree y6.fTrees) (qb y6.fTrees) false),(40,.int .i64 (qb y6.fTrees:Int)),(41,.int .i64 x16)]∧τ=[.cells 0 (cellsGEntry y6)]∧y6.fTrees=p18++q18∧x16=(qb p18:Int)∧zz.l18 yg x3 (zz.l6 yg q6) y6 q18 x16=some r) _ ⟨[],y6.fTrees,0,rfl,rfl,rfl,rfl,rfl,h⟩ .s ?_;rintro m L τ ⟨p18,q18,x16,rfl,rfl,rfl,hE18,hi18,h⟩
 rcases q18 with _|⟨y18,q18⟩
 · have hz18:=yH hE18 hi18;simp only[zz.l18] at h
   refine rg tok [3,5,9,10,11,39,40,41,42] fun K hK=>?_
   simp only[go_sem,qc,qa,hz18];apply hK
   refine za fun Z19 hZ19=>?_
   refine zp rfl ?_;apply zA;apply hZ9
   refine rgE tok [3,9,10,11] fun K hK=>?_
   simp only[go_sem,qc,qa,hw6];apply hK
   exact⟨_,_,_,qy q6.length,⟨p6++[y6],q6,x3+1,y6.fTag,rfl,rfl,rfl,hE'6,hi'6,h⟩,(.t [] false)⟩
 obtain⟨hz18,hw18,hx18,hE'18,hi'18⟩:=ya hE18 hi18 hb18;simp only[zz.l18] at h
 refine rg tok [3,5,9,10,11,39,40,41,42] fun K hK=>?_
 simp only[go_sem,qc,qa,hz18];apply hK
 refine za fun Z20 hZ20=>?_
 refine zs rfl ?_;apply zd;apply hZ20
 refine za fun Z21 hZ21=>?_
 apply ze;have f22:=E38.idxS hx18;have f23:=E38.loadS rfl rfl hx18
 refine rg tok [3,5,7,9,10,11,39,40,41] fun K hK=>?_
 simp only[go_sem,qc,qf,qa,qe,cellsGTree,zH,f22,f23];apply hK
 refine yU (fun L τ=>∃ (x24:Bool),L=[(3,.int .i64 y6.fTag),(5,.op 0 0 0),(9,.ds true (qd encGEntry a0.fEntries) (qb a0.fEntries) false),(10,.int .i64 (qb a0.fEntries:Int)),(11,.int .i64 x3),(39,.ds true (qd encGTree y6.fTrees) (qb y6.fTrees) false),(40,.int .i64 (qb y6.fTrees:Int)),(41,.int .i64 x16),(57,.bool x24)]∧τ=[.cells 0 (cellsGEntry y6)]∧zz.j25 x16 (zz.l18 yg x3 (zz.l6 yg q6) y6 q18) x24=some r) ?_ ?_
 · refine rdE [3,5,9,10,11,39,40,41,57] fun K hK=>?_
   refine DW.start (T:=tab) [.any,.at [],.any,.at [],.any,.any,.at [],.any,.any,.at [],.eff,.any,.any] [] ?_;obtain⟨y27,hy27,h⟩:=bind_some h;have f28:=E38.idxS hy27;have f29:=E38.fldS0 (f:=3) rfl rfl hy27;refine DW.runN tok 8 ?_;simp only[go_sem,qc,qa,qe,cellsGTree,zH,f28,f29];refine DW.runN tok 1 ?_;simp only[go_sem,qc,qa]
   refine DW.if 53 rfl (fun hg53=>?_) (fun hg53=>?_)
   · rw[if_neg hg53] at h;have t30:=eq_false hg53;refine DW.runN tok 4 ?_;simp only[go_sem,qc,qa,t30];refine DW.fin tok (by decide +kernel) rfl ?_;simp only[zf,upd,qa,reduceIte,zV,yz];apply hK
     exact⟨_,_,⟨true,rfl,rfl,h⟩,(.t [0] false)⟩
   rw[if_pos hg53] at h;have t31:=eq_true hg53;obtain⟨r32,hr32,h⟩:=bind_some h;refine DW.runN tok 1 ?_;simp only[go_sem,qc,qf,qa,qe,t31];refine DW.call rfl rfl rfl (ev_value_right y18 r32 hr32 _) ?_;refine DW.runN tok 2 ?_;simp only[go_sem,qc,qa];refine DW.fin tok (by decide +kernel) rfl ?_;simp only[zf,upd,qa,reduceIte,zV,yz];apply hK
   exact⟨_,_,⟨!r32,rfl,rfl,h⟩,(.t [0] false)⟩
 rintro _ _ ⟨x24,rfl,rfl,h⟩;unfold zz.j25 at h;refine zv (b:=x24) rfl (fun hc26=>?_) (fun hc26=>?_)
 · rw[if_pos hc26] at h;refine rgN [2] ?_;cases h;exact rtA
 rw[wb hc26] at h;apply zd;apply hZ21
 refine rgE tok [3,5,9,10,11,39,40,41] fun K hK=>?_
 simp only[go_sem,qc,qa,hw18];apply hK
 exact⟨_,_,_,qy q18.length,⟨p18++[y18],q18,x16+1,rfl,rfl,rfl,hE'18,hi'18,h⟩,.s⟩
end
section
set_option maxRecDepth 4000
set_option maxHeartbeats 1000000
open AM
def xl.body (xI:GTree→Option Bool)(yg:GTree→Option Bool)(a0:GTree):Option Bool:=
 (if a0.fKind=1 then some (((decide (a0.fS=[]))&&(decide ((qb a0.fEntries:Int)=0)))&&(decide ((qb a0.fRest:Int)=0))) else (if a0.fKind=2 then some (((decide (a0.fN=0))&&(decide ((qb a0.fEntries:Int)=0)))&&(decide ((qb a0.fRest:Int)=0))) else (if a0.fKind=3 then (if ((decide (a0.fN=0))&&(decide (a0.fS=[])))=true then (xI a0).bind fun r16=>some r16 else some false).bind fun c16=>(if c16=true then (yM a0).bind fun r18=>some r18 else some false).bind fun c18=>some c18 else some false)))
theorem xl.step (xI:GTree→Option Bool)(yg:GTree→Option Bool)(Yb:∀ (a0:GTree) (r:Bool),xI a0=some r→ACalls qg 180 [.agg (cellsGTree a0)] [] (fun r' _=>r'=.bool r))(YM:∀ (a0:GTree) (r:Bool),yg a0=some r→ACalls qg 140 [.agg (cellsGTree a0)] [] (fun r' _=>r'=.bool r))(a0:GTree)(r:Bool)(h:xl.body xI yg a0=some r):ACalls qg 140 [.agg (cellsGTree a0)] [] (fun r' _=>r'=.bool r):=by
 have ev_value_entries:=fun a0 r h σ=>(Yb a0 r h).c σ
 have ev_value_right:=fun a0 r h σ=>(YM a0 r h).c σ
 refine zh (rs:=[.tmp 2]) tok Tryz.func140 rfl Tryz.ntmps140 rfl Tryz.call140 (by simp) ?_;refine zl [(0,.agg (cellsGTree a0))] ⟨rfl,trivial⟩ ?_;unfold xl.body at h
 refine rg tok [1] fun K hK=>?_
 simp only[go_sem,qc,qa,qe,reduceCtorEq,cellsGTree];apply hK
 refine za fun Z1 hZ1=>?_
 refine rgN [1,4] ?_;apply ze;refine rgN [1,4,5] ?_;refine zL rfl (fun hc2=>?_) (fun hc2=>?_)
 · rw[if_pos hc2] at h;have t3:=eq_true hc2
   refine rc [2] fun K hK=>?_
   refine zj tok 4 ?_;simp only[go_sem,qc,qa,qe,t3];refine zq 5 (fun L τ=>L=[(1,.op 0 0 0),(15,.bool ((decide (a0.fS=[]))&&(decide ((qb a0.fEntries:Int)=0))))]∧τ=[.cells 0 (cellsGTree a0)]) ?_ ?_
   · refine yW 10 rfl (fun hg10=>?_) (fun hg10=>?_)
     · have t4:=eq_true hg10;refine rnN 5 ?_;refine zb ⟨rfl,_,_,⟨rfl,rfl⟩,.p t4⟩
     have t5:=eq_false hg10;refine rnN 5 ?_;refine zb ⟨rfl,_,_,⟨rfl,rfl⟩,.p t5⟩
   rintro _ _ ⟨rfl,rfl⟩;refine rnN 1 ?_;refine zq 5 (fun L τ=>L=[(21,.bool (((decide (a0.fS=[]))&&(decide ((qb a0.fEntries:Int)=0)))&&(decide ((qb a0.fRest:Int)=0))))]∧τ=[.cells 0 (cellsGTree a0)]) ?_ ?_
   · refine yf (b:=((decide (a0.fS=[]))&&(decide ((qb a0.fEntries:Int)=0)))) 16 rfl (fun hg16=>?_) (fun hg16=>?_)
     · refine rnN 5 ?_;refine zb ⟨rfl,_,_,⟨rfl,rfl⟩,.b hg16⟩
     refine rnN 5 ?_;refine zb ⟨rfl,_,_,⟨rfl,rfl⟩,.b hg16⟩
   rintro _ _ ⟨rfl,rfl⟩;refine rnN 1 ?_;refine nkN hK ?_;cases h;exact rtA
 rw[if_neg hc2] at h;have t6:=eq_false hc2
 refine rg tok [1,4,22] fun K hK=>?_
 simp only[go_sem,qc,qa,t6];apply hK
 refine zL rfl (fun hc7=>?_) (fun hc7=>?_)
 · rw[if_pos hc7] at h;have t8:=eq_true hc7
   refine rc [2] fun K hK=>?_
   refine zj tok 4 ?_;simp only[go_sem,qc,qa,qe,t8];refine zq 5 (fun L τ=>L=[(1,.op 0 0 0),(32,.bool ((decide (a0.fN=0))&&(decide ((qb a0.fEntries:Int)=0))))]∧τ=[.cells 0 (cellsGTree a0)]) ?_ ?_
   · refine yW 27 rfl (fun hg27=>?_) (fun hg27=>?_)
     · have t9:=eq_true hg27;refine rnN 5 ?_;refine zb ⟨rfl,_,_,⟨rfl,rfl⟩,.p t9⟩
     have t10:=eq_false hg27;refine rnN 5 ?_;refine zb ⟨rfl,_,_,⟨rfl,rfl⟩,.p t10⟩
   rintro _ _ ⟨rfl,rfl⟩;refine rnN 1 ?_;refine zq 5 (fun L τ=>L=[(38,.bool (((decide (a0.fN=0))&&(decide ((qb a0.fEntries:Int)=0)))&&(decide ((qb a0.fRest:Int)=0))))]∧τ=[.cells 0 (cellsGTree a0)]) ?_ ?_
   · refine yf (b:=((decide (a0.fN=0))&&(decide ((qb a0.fEntries:Int)=0)))) 33 rfl (fun hg33=>?_) (fun hg33=>?_)
     · refine rnN 5 ?_;refine zb ⟨rfl,_,_,⟨rfl,rfl⟩,.b hg33⟩
     refine rnN 5 ?_;refine zb ⟨rfl,_,_,⟨rfl,rfl⟩,.b hg33⟩
   rintro _ _ ⟨rfl,rfl⟩;refine rnN 1 ?_;refine nkN hK ?_;cases h;exact rtA
 rw[if_neg hc7] at h;have t11:=eq_false hc7
 refine rg tok [1,39] fun K hK=>?_
 simp only[go_sem,qc,qa,t11];apply hK
 refine zL rfl (fun hc12=>?_) (fun hc12=>?_)
 · rw[if_pos hc12] at h;have t13:=eq_true hc12
   refine rc [2] fun K hK=>?_
   refine zj tok 4 ?_;simp only[go_sem,qc,qa,qe,t13];refine zq 4 (fun L τ=>L=[(1,.op 0 0 0),(48,.bool ((decide (a0.fN=0))&&(decide (a0.fS=[]))))]∧τ=[.cells 0 (cellsGTree a0)]) ?_ ?_
   · refine yW 44 rfl (fun hg44=>?_) (fun hg44=>?_)
     · have t14:=eq_true hg44;refine rnN 4 ?_;refine zb ⟨rfl,_,_,⟨rfl,rfl⟩,.p t14⟩
     have t15:=eq_false hg44;refine rnN 4 ?_;refine zb ⟨rfl,_,_,⟨rfl,rfl⟩,.p t15⟩
   rintro _ _ ⟨rfl,rfl⟩;refine rnN 1 ?_;obtain⟨c16,hc16,h⟩:=bind_some h;refine zq 3 (fun L τ=>L=[(1,.op 0 0 0),(52,.bool c16)]∧τ=[.cells 0 (cellsGTree a0)]) ?_ ?_
   · refine yf (b:=((decide (a0.fN=0))&&(decide (a0.fS=[])))) 49 rfl (fun hg49=>?_) (fun hg49=>?_)
     · rw[if_pos hg49] at hc16;obtain⟨r17,hr17,hc16⟩:=bind_some hc16;refine rnN 1 ?_;refine clN rfl rfl rfl (ev_value_entries a0 r17 hr17 _) ?_;refine rnN 1 ?_;cases hc16;refine zb ⟨rfl,_,_,⟨rfl,rfl⟩,.b hg49⟩
     rw[wb hg49] at hc16;refine rnN 3 ?_;cases hc16;refine zb ⟨rfl,_,_,⟨rfl,rfl⟩,.b hg49⟩
   rintro _ _ ⟨rfl,rfl⟩;refine rnN 1 ?_;obtain⟨c18,hc18,h⟩:=bind_some h;refine zq 3 (fun L τ=>L=[(56,.bool c18)]∧τ=[.cells 0 (cellsGTree a0)]) ?_ ?_
   · refine yf (b:=c16) 53 rfl (fun hg53=>?_) (fun hg53=>?_)
     · rw[if_pos hg53] at hc18;obtain⟨r19,hr19,hc18⟩:=bind_some hc18;refine rnN 1 ?_;refine clN rfl rfl rfl (yM.ev a0 r19 hr19 _) ?_;refine rnN 1 ?_;cases hc18;refine zb ⟨rfl,_,_,⟨rfl,rfl⟩,.b hg53⟩
     rw[wb hg53] at hc18;refine rnN 3 ?_;cases hc18;refine zb ⟨rfl,_,_,⟨rfl,rfl⟩,.b hg53⟩
   rintro _ _ ⟨rfl,rfl⟩;refine rnN 1 ?_;refine nkN hK ?_;cases h;exact rtA
 rw[if_neg hc12] at h;have t20:=eq_false hc12;apply zd;apply hZ1
 refine rg tok [2] fun K hK=>?_
 simp only[go_sem,qc,qa,t20];apply hK
 cases h;exact rtA
mutual
def zz : Nat→GTree→Option Bool
 |0,_=>none
 |k+1,a0=>zz.body (zz k) (xl k) a0
def xl : Nat→GTree→Option Bool
 |0,_=>none
 |k+1,a0=>xl.body (zz k) (xl k) a0
end
theorem zz.all (k:Nat):(∀ (a0:GTree) (r:Bool),zz k a0=some r→ACalls qg 180 [.agg (cellsGTree a0)] [] (fun r' _=>r'=.bool r))∧(∀ (a0:GTree) (r:Bool),xl k a0=some r→ACalls qg 140 [.agg (cellsGTree a0)] [] (fun r' _=>r'=.bool r)):=by
 induction k with
 |zero=>exact⟨(fun a0 r h=>by simp only[zz] at h; cases h),(fun a0 r h=>by simp only[xl] at h; cases h)⟩
 |succ k ih=>exact⟨(fun a0 r h=>zz.step _ _ ih.1 ih.2 a0 r (by simpa only [zz] using h)),(fun a0 r h=>xl.step _ _ ih.1 ih.2 a0 r (by simpa only [xl] using h))⟩
theorem xl.ev (k:Nat)(a0:GTree)(r:Bool)(h:xl k a0=some r)(σ:Store):ACalls qg 140 [.agg (cellsGTree a0)] σ (fun r' σ'=>r'=.bool r∧σ'=σ):=
 ((zz.all k).2 a0 r h).c σ
def wq (a0:GTree):Option Bool:=
 (wI a0).bind fun r1=>(if r1≤10 then (xl rounds a0).bind fun r2=>some r2 else some false).bind fun c2=>some c2
theorem wq.ok (a0:GTree)(r:Bool)(h:wq a0=some r):ACalls qg 93 [.agg (cellsGTree a0)] [] (fun r' _=>r'=.bool r):=by
 refine zh (rs:=[.tmp 2]) tok Tryz.func93 rfl Tryz.ntmps93 rfl Tryz.call93 (by simp) ?_;refine zl [(0,.agg (cellsGTree a0))] ⟨rfl,trivial⟩ ?_;unfold wq at h
 refine rg tok [1] fun K hK=>?_
 simp only[go_sem,qc,qa,qe,reduceCtorEq,cellsGTree];apply hK
 refine rc [2] fun K hK=>?_
 obtain⟨r1,hr1,h⟩:=bind_some h;refine rnN 1 ?_;refine clN rfl rfl rfl (wI.ev a0 r1 hr1 _) ?_;refine rnN 2 ?_;obtain⟨c2,hc2,h⟩:=bind_some h;refine zq 3 (fun L τ=>L=[(9,.bool c2)]∧τ=[.cells 0 (cellsGTree a0)]) ?_ ?_
 · refine yW 6 rfl (fun hg6=>?_) (fun hg6=>?_)
   · have t3:=eq_true hg6;rw[if_pos hg6] at hc2;obtain⟨r4,hr4,hc2⟩:=bind_some hc2;refine rnN 1 ?_;refine clN rfl rfl rfl (xl.ev rounds a0 r4 hr4 _) ?_;refine rnN 1 ?_;cases hc2;refine zb ⟨rfl,_,_,⟨rfl,rfl⟩,.p t3⟩
   have t5:=eq_false hg6;rw[if_neg hg6] at hc2;refine rnN 3 ?_;cases hc2;refine zb ⟨rfl,_,_,⟨rfl,rfl⟩,.p t5⟩
 rintro _ _ ⟨rfl,rfl⟩;refine rnN 1 ?_;refine nkN hK ?_;cases h;exact rtA
theorem wq.ev (a0:GTree)(r:Bool)(h:wq a0=some r)(σ:Store):ACalls qg 93 [.agg (cellsGTree a0)] σ (fun r' σ'=>r'=.bool r∧σ'=σ):=
 (wq.ok a0 r h).c σ
def xz.j2  : Int:=
 2
def xz.j4  : Int:=
 1
def xz (a0:GType):Int:=
 (if a0.fKind=1 then xz.j4 else (if a0.fKind=2 then xz.j4 else (if a0.fKind=3 then xz.j4 else (if a0.fKind=6 then xz.j4 else (if a0.fKind=4 then xz.j2 else (if a0.fKind=5 then xz.j2 else 3))))))
theorem xz.ok (a0:GType)(r:Int)(h:xz a0=r):ACalls qg 182 [.agg (encGType a0)] [] (fun r' _=>r'=.int .i64 r):=by
 refine zh (rs:=[.tmp 2]) tok Tryz.func182 rfl Tryz.ntmps182 rfl Tryz.call182 (by simp) ?_;refine zl [(0,.agg (encGType a0))] ⟨rfl,trivial⟩ ?_;unfold xz at h
 refine rg tok [1] fun K hK=>?_
 simp only[go_sem,qc,qa,qe,reduceCtorEq,encGType];apply hK
 refine za fun Z1 hZ1=>?_
 refine rgN [4] ?_;apply ze;refine yU (fun L τ=>L=[]∧τ=[]∧xz.j2=r) ?_ ?_
 · apply ze;apply ze;refine yU (fun L τ=>L=[]∧τ=[]∧xz.j4=r) ?_ ?_
   · apply ze;apply ze;apply ze;apply ze
     refine za fun Z6 hZ6=>?_
     refine za fun Z7 hZ7=>?_
     refine rgN [4,5] ?_;refine zL rfl (fun hc8=>?_) (fun hc8=>?_)
     · rw[if_pos hc8] at h;have t9:=eq_true hc8;apply zA;exact⟨_,_,⟨rfl,rfl,h⟩,(.t [] false)⟩
     rw[if_neg hc8] at h;have t10:=eq_false hc8;apply zd;apply hZ7
     refine za fun Z11 hZ11=>?_
     refine rg tok [4,7] fun K hK=>?_
     simp only[go_sem,qc,qa,t10];apply hK
     refine zL rfl (fun hc12=>?_) (fun hc12=>?_)
     · rw[if_pos hc12] at h;have t13:=eq_true hc12;apply zA;exact⟨_,_,⟨rfl,rfl,h⟩,(.t [] false)⟩
     rw[if_neg hc12] at h;have t14:=eq_false hc12;apply zd;apply hZ11
     refine za fun Z15 hZ15=>?_
     refine rg tok [4,9] fun K hK=>?_
     simp only[go_sem,qc,qa,t14];apply hK
     refine zL rfl (fun hc16=>?_) (fun hc16=>?_)
     · rw[if_pos hc16] at h;have t17:=eq_true hc16;apply zA;exact⟨_,_,⟨rfl,rfl,h⟩,(.t [] false)⟩
     rw[if_neg hc16] at h;have t18:=eq_false hc16;apply zd;apply hZ15
     refine za fun Z19 hZ19=>?_
     refine rg tok [4,11] fun K hK=>?_
     simp only[go_sem,qc,qa,t18];apply hK
     refine zL rfl (fun hc20=>?_) (fun hc20=>?_)
     · rw[if_pos hc20] at h;have t21:=eq_true hc20;apply zA;exact⟨_,_,⟨rfl,rfl,h⟩,(.t [] false)⟩
     rw[if_neg hc20] at h;have t22:=eq_false hc20;apply zd;apply hZ19
     refine za fun Z23 hZ23=>?_
     refine rg tok [4,13] fun K hK=>?_
     simp only[go_sem,qc,qa,t22];apply hK
     refine zL rfl (fun hc24=>?_) (fun hc24=>?_)
     · rw[if_pos hc24] at h;have t25:=eq_true hc24;apply zA;exact⟨_,_,⟨rfl,rfl,h⟩,(.t [] false)⟩
     rw[if_neg hc24] at h;have t26:=eq_false hc24;apply zd;apply hZ23
     refine rg tok [15] fun K hK=>?_
     simp only[go_sem,qc,qa,t26];apply hK
     refine zL rfl (fun hc27=>?_) (fun hc27=>?_)
     · rw[if_pos hc27] at h;have t28:=eq_true hc27;apply zA;exact⟨_,_,⟨rfl,rfl,h⟩,(.t [] false)⟩
     rw[if_neg hc27] at h;have t29:=eq_false hc27;apply zd;apply hZ6;apply zA;apply hZ1
     refine rg tok [2] fun K hK=>?_
     simp only[go_sem,qc,qa,t29];apply hK
     cases h;exact rtA
   rintro _ _ ⟨rfl,rfl,h⟩;unfold xz.j4 at h
   refine za fun Z5 hZ5=>?_
   refine rgN [2] ?_;cases h;exact rtA
 rintro _ _ ⟨rfl,rfl,h⟩;unfold xz.j2 at h
 refine za fun Z3 hZ3=>?_
 refine rgN [2] ?_;cases h;exact rtA
theorem xz.ev (a0:GType)(r:Int)(h:xz a0=r)(σ:Store):ACalls qg 182 [.agg (encGType a0)] σ (fun r' σ'=>r'=.int .i64 r∧σ'=σ):=
 (xz.ok a0 r h).c σ
def Zj (a0:GType)(a1:GTree):Option Int:=
 bnd (xz a0) fun r2=>(if a1.fKind=r2 then bnd (if a1.fKind=1 then bnd (xH a0 a1.fN) fun r6 => !r6 else false) fun c6=>(if c6=true then some 11 else (if a0.fKind=4 then (yR a1.fS).bind fun r11=>some (!r11) else some false).bind fun c11=>(if c11=true then some 9 else some 0)) else some 8)
theorem Zj.ok (a0:GType)(a1:GTree)(r:Int)(h:Zj a0 a1=some r):ACalls qg 142 [.agg (encGType a0),.agg (cellsGTree a1)] [] (fun r' _=>r'=.int .i64 r):=by
 refine zh (rs:=[.tmp 4]) tok Tryz.func142 rfl Tryz.ntmps142 rfl Tryz.call142 (by simp) ?_;refine zl [(0,.agg (encGType a0)),(1,.agg (cellsGTree a1))] ⟨rfl,rfl,trivial⟩ ?_;unfold Zj at h
 refine rg tok [2,3] fun K hK=>?_
 simp only[go_sem,qc,qa,qe,reduceCtorEq,cellsGTree,encGType];apply hK
 refine za fun Z1 hZ1=>?_
 apply ze;obtain⟨r2,hr2,h⟩:=zD h
 refine rd [2,3,5] fun K hK=>?_
 refine DW.start (T:=tab) [.any,.own 1 [],.at [],.eff,.any,.any] [(1,[])] ?_;refine DW.runN tok 3 ?_;simp only[go_sem,qc,qf,qa,qe];refine DW.call rfl rfl rfl (xz.ev a0 r2 hr2 _) ?_;refine DW.runN tok 2 ?_;simp only[go_sem,qc,qa];refine DW.fin tok (by decide +kernel) rfl ?_;simp only[zf,upd,qa,reduceIte,zV,yz];apply hK
 refine zL rfl (fun hc3=>?_) (fun hc3=>?_)
 · rw[if_neg hc3] at h;have t4:=eq_false hc3
   refine rg tok [4] fun K hK=>?_
   simp only[go_sem,qc,qa,t4];apply hK
   cases h;exact rtA
 rw[if_pos hc3] at h;have t5:=eq_true hc3
 refine rc [2,3,11] fun K hK=>?_
 refine zj tok 4 ?_;simp only[go_sem,qc,qa,qe,t5];obtain⟨c6,hc6,h⟩:=zD h;refine zq 6 (fun L τ=>L=[(2,.op 0 0 0),(3,.op 1 0 0),(21,.bool c6)]∧τ=[.cells 0 [.int .i64 a0.fKind,.str a0.fName],.cells 0 (cellsGTree a1)]) ?_ ?_
 · refine yW 15 rfl (fun hg15=>?_) (fun hg15=>?_)
   · have t7:=eq_true hg15;rw[if_pos hg15] at hc6;obtain⟨r8,hr8,hc6⟩:=zD hc6;refine rnN 3 ?_;refine clN rfl rfl rfl (xH.ev a0 a1.fN r8 hr8 _) ?_;refine rnN 2 ?_;subst hc6;refine zb ⟨rfl,_,_,⟨rfl,rfl⟩,.p t7⟩
   have t9:=eq_false hg15;rw[if_neg hg15] at hc6;refine rnN 6 ?_;subst hc6;refine zb ⟨rfl,_,_,⟨rfl,rfl⟩,.p t9⟩
 rintro _ _ ⟨rfl,rfl⟩;refine rnN 1 ?_;refine nkN hK ?_;refine zv (b:=c6) rfl (fun hc10=>?_) (fun hc10=>?_)
 · rw[if_pos hc10] at h;refine rgN [4] ?_;cases h;exact rtA
 rw[wb hc10] at h
 refine rc [22] fun K hK=>?_
 refine rnN 4 ?_;obtain⟨c11,hc11,h⟩:=bind_some h;refine zq 5 (fun L τ=>L=[(31,.bool c11)]∧τ=[.cells 0 [.int .i64 a0.fKind,.str a0.fName],.cells 0 (cellsGTree a1)]) ?_ ?_
 · refine yW 26 rfl (fun hg26=>?_) (fun hg26=>?_)
   · have t12:=eq_true hg26;rw[if_pos hg26] at hc11;obtain⟨r13,hr13,hc11⟩:=bind_some hc11;refine rnN 2 ?_;refine clN rfl rfl rfl (yR.ev a1.fS r13 hr13 _) ?_;refine rnN 2 ?_;cases hc11;refine zb ⟨rfl,_,_,⟨rfl,rfl⟩,.p t12⟩
   have t14:=eq_false hg26;rw[if_neg hg26] at hc11;refine rnN 5 ?_;cases hc11;refine zb ⟨rfl,_,_,⟨rfl,rfl⟩,.p t14⟩
 rintro _ _ ⟨rfl,rfl⟩;refine rnN 1 ?_;refine nkN hK ?_;refine zv (b:=c11) rfl (fun hc15=>?_) (fun hc15=>?_)
 · rw[if_pos hc15] at h;refine rgN [4] ?_;cases h;exact rtA
 rw[wb hc15] at h;apply zd;apply hZ1;refine rgN [4] ?_;cases h;exact rtA
theorem Zj.ev (a0:GType)(a1:GTree)(r:Int)(h:Zj a0 a1=some r)(σ:Store):ACalls qg 142 [.agg (encGType a0),.agg (cellsGTree a1)] σ (fun r' σ'=>r'=.int .i64 r∧σ'=σ):=
 (Zj.ok a0 a1 r h).c σ
def zr.l9 (a1:GMessage):List GRaw→Int→Option Int
 |[],x7=>some 0
 |y9::q9,x7=>bnd (zk a1 y9.fTag) fun r15=>(if r15.2=true then some 7 else ((zr.l9 a1 q9) (x7+1)))
def zr.j46 (x28:Int)(rec30:Int→Option Int)(x45:Int):Option Int:=
 (if x45=0 then (rec30 (x28+1)) else some x45)
def zr.l30 (yo:GSchema→GMessage→GTree→Option Int)(a0:GSchema)(x2:Int)(rec4:Int→Option Int)(y4:GEntry)(r21:GField×Bool):List GTree→Int→Option Int
 |[],x28=>(if r21.1.fLabel=1 then (Zb y4.fTrees 0).bind fun y32=>bnd (xQ y32) fun r35=>some r35 else some false).bind fun c32=>(if c32=true then some 12 else (rec4 (x2+1)))
 |y30::q30,x28=>(Zj r21.1.fType y30).bind fun r44=>(if ((decide (r44=0))&&(decide (r21.1.fType.fKind=7)))=true then bnd (zG a0 r21.1.fType.fName) fun r53=>(yo a0 r53.1 y30).bind fun r54=>(zr.j46 x28 (zr.l30 yo a0 x2 rec4 y4 r21 q30) r54) else (zr.j46 x28 (zr.l30 yo a0 x2 rec4 y4 r21 q30) r44))
def zr.l4 (yo:GSchema→GMessage→GTree→Option Int)(a0:GSchema)(a1:GMessage)(a2:GTree):List GEntry→Int→Option Int
 |[],x2=>(zr.l9 a1 a2.fRest 0)
 |y4::q4,x2=>bnd (zk a1 y4.fTag) fun r21=>(if (!r21.2)=true then some 7 else (if ((!(decide (r21.1.fLabel=3)))&&(decide (1<(qb y4.fTrees:Int))))=true then some 4 else (zr.l30 yo a0 x2 (zr.l4 yo a0 a1 a2 q4) y4 r21 y4.fTrees 0)))
def zr.body (yo:GSchema→GMessage→GTree→Option Int)(a0:GSchema)(a1:GMessage)(a2:GTree):Option Int:=
 (zr.l4 yo a0 a1 a2 a2.fEntries 0)
theorem zr.step (yo:GSchema→GMessage→GTree→Option Int)(vbn:∀ (a0:GSchema) (a1:GMessage) (a2:GTree) (r:Int),yo a0 a1 a2=some r→ACalls qg 94 [.agg (encGSchema a0),.agg (encGMessage a1),.agg (cellsGTree a2)] [] (fun r' _=>r'=.int .i64 r))(a0:GSchema)(a1:GMessage)(a2:GTree)(r:Int)(h:zr.body yo a0 a1 a2=some r):ACalls qg 94 [.agg (encGSchema a0),.agg (encGMessage a1),.agg (cellsGTree a2)] [] (fun r' _=>r'=.int .i64 r):=by
 have ev_valid_message:=fun a0 a1 a2 r h σ=>(vbn a0 a1 a2 r h).c σ
 refine zh (rs:=[.tmp 6]) tok Tryz.func94 rfl Tryz.ntmps94 rfl Tryz.call94 (by simp) ?_;refine zl [(0,.agg (encGSchema a0)),(1,.agg (encGMessage a1)),(2,.agg (cellsGTree a2))] ⟨rfl,rfl,rfl,trivial⟩ ?_;unfold zr.body at h
 refine rg tok [3,4,5] fun K hK=>?_
 simp only[go_sem,qc,qa,qe,reduceCtorEq,cellsGTree,encGMessage,encGSchema];apply hK
 refine za fun Z1 hZ1=>?_
 refine rgN [3,4,5,21,22,23] ?_;apply ze
 refine yD 21 fun hb4=>?_
 replace hb4:qb a2.fEntries≤9223372036854775807:=hb4.1;refine zF (fun m L τ=>∃ (p4 q4:List GEntry) (x2:Int),m=qb q4∧L=[(3,.op 0 0 0),(4,.op 1 0 0),(5,.op 2 0 0),(21,.ds true (qd encGEntry a2.fEntries) (qb a2.fEntries) false),(22,.int .i64 (qb a2.fEntries:Int)),(23,.int .i64 x2)]∧τ=[.cells 0 (encGSchema a0),.cells 0 (encGMessage a1),.cells 0 (cellsGTree a2)]∧a2.fEntries=p4++q4∧x2=(qb p4:Int)∧zr.l4 yo a0 a1 a2 q4 x2=some r) _ ⟨[],a2.fEntries,0,rfl,rfl,rfl,rfl,rfl,h⟩ .s ?_;rintro m L τ ⟨p4,q4,x2,rfl,rfl,rfl,hE4,hi4,h⟩
 rcases q4 with _|⟨y4,q4⟩
 · have hz4:=yH hE4 hi4;simp only[zr.l4] at h
   refine rg tok [3,4,5,21,22,23,24] fun K hK=>?_
   simp only[go_sem,qc,qa,hz4];apply hK
   refine za fun Z5 hZ5=>?_
   refine zp rfl ?_;apply zA;apply hZ1
   refine za fun Z6 hZ6=>?_
   refine rgN [4,94,95,96] ?_;apply ze
   refine yD 94 fun hb9=>?_
   replace hb9:qb a2.fRest≤9223372036854775807:=hb9.1;refine zF (fun m L τ=>∃ (p9 q9:List GRaw) (x7:Int),m=qb q9∧L=[(4,.op 0 0 0),(94,.ds true (qd encGRaw a2.fRest) (qb a2.fRest) false),(95,.int .i64 (qb a2.fRest:Int)),(96,.int .i64 x7)]∧τ=[.cells 0 (encGMessage a1)]∧a2.fRest=p9++q9∧x7=(qb p9:Int)∧zr.l9 a1 q9 x7=some r) _ ⟨[],a2.fRest,0,rfl,rfl,rfl,rfl,rfl,h⟩ (.t [1] false) ?_;rintro m L τ ⟨p9,q9,x7,rfl,rfl,rfl,hE9,hi9,h⟩
   rcases q9 with _|⟨y9,q9⟩
   · have hz9:=yH hE9 hi9;simp only[zr.l9] at h
     refine rg tok [4,94,95,96,97] fun K hK=>?_
     simp only[go_sem,qc,qa,hz9];apply hK
     refine za fun Z10 hZ10=>?_
     refine zp rfl ?_;apply zA;apply hZ6;refine rgN [6] ?_;cases h;exact rtA
   obtain⟨hz9,hw9,hx9,hE'9,hi'9⟩:=ya hE9 hi9 hb9;simp only[zr.l9] at h
   refine rg tok [4,94,95,96,97] fun K hK=>?_
   simp only[go_sem,qc,qa,hz9];apply hK
   refine za fun Z11 hZ11=>?_
   refine zs rfl ?_;apply zd;apply hZ11
   refine za fun Z12 hZ12=>?_
   apply ze;have f13:=E35.idxS hx9;have f14:=E35.loadS rfl rfl hx9
   refine rg tok [4,17,94,95,96] fun K hK=>?_
   simp only[go_sem,qc,qf,qa,qe,encGRaw,f13,f14];apply hK
   refine rc [4,19,94,95,96] fun K hK=>?_
   obtain⟨r15,hr15,h⟩:=zD h;refine rnN 3 ?_;refine clN rfl rfl rfl (zk.ev a1 y9.fTag r15 hr15 _) ?_;refine zj tok 6 ?_;simp only[go_sem,qc,qf,qa,qe,encGField];refine nkN hK ?_;refine rgN [4,94,95,96,107] ?_;refine zv (b:=r15.2) rfl (fun hc16=>?_) (fun hc16=>?_)
   · rw[if_pos hc16] at h;refine rgN [6] ?_;cases h;exact rtA
   rw[wb hc16] at h;apply zd;apply hZ12
   refine rgE tok [4,94,95,96] fun K hK=>?_
   simp only[go_sem,qc,qa,hw9];apply hK
   exact⟨_,_,_,qy q9.length,⟨p9++[y9],q9,x7+1,rfl,rfl,rfl,hE'9,hi'9,h⟩,(.t [0] false)⟩
 obtain⟨hz4,hw4,hx4,hE'4,hi'4⟩:=ya hE4 hi4 hb4;simp only[zr.l4] at h
 refine rg tok [3,4,5,21,22,23,24] fun K hK=>?_
 simp only[go_sem,qc,qa,hz4];apply hK
 refine za fun Z17 hZ17=>?_
 refine zs rfl ?_;apply zd;apply hZ17
 refine za fun Z18 hZ18=>?_
 apply ze;have f19:=E34.idxS hx4;have f20:=E34.loadS rfl rfl hx4
 refine rg tok [3,4,5,8,21,22,23] fun K hK=>?_
 simp only[go_sem,qc,qf,qa,qe,cellsGEntry,zZ,f19,f20];apply hK
 refine rc [3,4,5,8,9,10,21,22,23] fun K hK=>?_
 obtain⟨r21,hr21,h⟩:=zD h;refine rnN 3 ?_;refine clN rfl rfl rfl (zk.ev a1 y4.fTag r21 hr21 _) ?_;refine zj tok 6 ?_;simp only[go_sem,qc,qf,qa,qe,encGField];refine nkN hK ?_
 refine za fun Z22 hZ22=>?_
 apply ze;refine rgN [3,4,5,8,9,21,22,23,34] ?_;refine zv (b:=(!r21.2)) rfl (fun hc23=>?_) (fun hc23=>?_)
 · rw[if_pos hc23] at h;refine rgN [6] ?_;cases h;exact rtA
 rw[wb hc23] at h
 refine rc [3,4,5,8,9,21,22,23,37] fun K hK=>?_
 refine rnN 4 ?_;refine zq 5 (fun L τ=>L=[(3,.op 0 0 0),(4,.op 1 0 0),(5,.op 2 0 0),(8,.op 3 0 0),(9,.op 4 0 0),(21,.ds true (qd encGEntry a2.fEntries) (qb a2.fEntries) false),(22,.int .i64 (qb a2.fEntries:Int)),(23,.int .i64 x2),(46,.bool ((!(decide (r21.1.fLabel=3)))&&(decide (1<(qb y4.fTrees:Int)))))]∧τ=[.cells 0 (encGSchema a0),.cells 0 (encGMessage a1),.cells 0 (cellsGTree a2),.cells 0 (cellsGEntry y4),.cells 0 (encGField r21.1)]) ?_ ?_
 · refine yW 41 rfl (fun hg41=>?_) (fun hg41=>?_)
   · have t24:=eq_false hg41;refine rnN 5 ?_;refine zb ⟨rfl,_,_,⟨rfl,rfl⟩,.p t24⟩
   have t25:=eq_true hg41;refine rnN 5 ?_;refine zb ⟨rfl,_,_,⟨rfl,rfl⟩,.p t25⟩
 rintro _ _ ⟨rfl,rfl⟩;refine rnN 1 ?_;refine nkN hK ?_;refine zv (b:=((!(decide (r21.1.fLabel=3)))&&(decide (1<(qb y4.fTrees:Int))))) rfl (fun hc26=>?_) (fun hc26=>?_)
 · rw[if_pos hc26] at h;refine rgN [6] ?_;cases h;exact rtA
 rw[wb hc26] at h;apply zd;apply hZ22
 refine za fun Z27 hZ27=>?_
 refine rgN [3,4,5,8,9,21,22,23,48,49,50] ?_;apply ze
 refine yD 48 fun hb30=>?_
 replace hb30:qb y4.fTrees≤9223372036854775807:=hb30.1;refine zF (fun m L τ=>∃ (p30 q30:List GTree) (x28:Int),m=qb q30∧L=[(3,.op 0 0 0),(4,.op 1 0 0),(5,.op 2 0 0),(8,.op 3 0 0),(9,.op 4 0 0),(21,.ds true (qd encGEntry a2.fEntries) (qb a2.fEntries) false),(22,.int .i64 (qb a2.fEntries:Int)),(23,.int .i64 x2),(48,.ds true (qd encGTree y4.fTrees) (qb y4.fTrees) false),(49,.int .i64 (qb y4.fTrees:Int)),(50,.int .i64 x28)]∧τ=[.cells 0 (encGSchema a0),.cells 0 (encGMessage a1),.cells 0 (cellsGTree a2),.cells 0 (cellsGEntry y4),.cells 0 (encGField r21.1)]∧y4.fTrees=p30++q30∧x28=(qb p30:Int)∧zr.l30 yo a0 x2 (zr.l4 yo a0 a1 a2 q4) y4 r21 q30 x28=some r) _ ⟨[],y4.fTrees,0,rfl,rfl,rfl,rfl,rfl,h⟩ .s ?_;rintro m L τ ⟨p30,q30,x28,rfl,rfl,rfl,hE30,hi30,h⟩
 rcases q30 with _|⟨y30,q30⟩
 · have hz30:=yH hE30 hi30;simp only[zr.l30] at h
   refine rg tok [3,4,5,8,9,21,22,23,48,49,50,51] fun K hK=>?_
   simp only[go_sem,qc,qa,hz30];apply hK
   refine za fun Z31 hZ31=>?_
   refine zp rfl ?_;apply zA;apply hZ27
   refine rc [3,4,5,21,22,23,91] fun K hK=>?_
   refine rnN 4 ?_;obtain⟨c32,hc32,h⟩:=bind_some h;refine zq 6 (fun L τ=>L=[(3,.op 0 0 0),(4,.op 1 0 0),(5,.op 2 0 0),(21,.ds true (qd encGEntry a2.fEntries) (qb a2.fEntries) false),(22,.int .i64 (qb a2.fEntries:Int)),(23,.int .i64 x2),(91,.bool c32)]∧τ=[.cells 0 (encGSchema a0),.cells 0 (encGMessage a1),.cells 0 (cellsGTree a2),.cells 0 (cellsGEntry y4),.cells 0 (encGField r21.1)]) ?_ ?_
   · refine yW 85 rfl (fun hg85=>?_) (fun hg85=>?_)
     · have t33:=eq_true hg85;rw[if_pos hg85] at hc32;obtain⟨y34,hy34,hc32⟩:=bind_some hc32;have f35:=E38.idxS hy34;have f36:=E38.loadS rfl rfl hy34;obtain⟨r37,hr37,hc32⟩:=zD hc32;refine zj tok 4 ?_;simp only[go_sem,qc,qa,qe,cellsGTree,zH,f35,f36];refine clN rfl rfl rfl (xQ.ev y34 r37 hr37 _) ?_;refine rnN 1 ?_;cases hc32;refine zb ⟨rfl,_,_,⟨rfl,rfl⟩,.p t33⟩
     have t38:=eq_false hg85;rw[if_neg hg85] at hc32;refine rnN 6 ?_;cases hc32;refine zb ⟨rfl,_,_,⟨rfl,rfl⟩,.p t38⟩
   rintro _ _ ⟨rfl,rfl⟩;refine nkN hK ?_;refine zv (b:=c32) rfl (fun hc39=>?_) (fun hc39=>?_)
   · rw[if_pos hc39] at h;refine rgN [6] ?_;cases h;exact rtA
   rw[wb hc39] at h;apply zd;apply hZ18
   refine rgE tok [3,4,5,21,22,23] fun K hK=>?_
   simp only[go_sem,qc,qa,hw4];apply hK
   exact⟨_,_,_,qy q4.length,⟨p4++[y4],q4,x2+1,rfl,rfl,rfl,hE'4,hi'4,h⟩,(.t [0,1,2] false)⟩
 obtain⟨hz30,hw30,hx30,hE'30,hi'30⟩:=ya hE30 hi30 hb30;simp only[zr.l30] at h
 refine rg tok [3,4,5,8,9,21,22,23,48,49,50,51] fun K hK=>?_
 simp only[go_sem,qc,qa,hz30];apply hK
 refine za fun Z40 hZ40=>?_
 refine zs rfl ?_;apply zd;apply hZ40
 refine za fun Z41 hZ41=>?_
 apply ze;have f42:=E38.idxS hx30;have f43:=E38.loadS rfl rfl hx30
 refine rg tok [3,4,5,8,9,12,21,22,23,48,49,50] fun K hK=>?_
 simp only[go_sem,qc,qf,qa,qe,cellsGTree,zH,f42,f43];apply hK
 refine rc [3,4,5,8,9,12,13,21,22,23,48,49,50] fun K hK=>?_
 obtain⟨r44,hr44,h⟩:=bind_some h;refine rnN 3 ?_;refine clN rfl rfl rfl (Zj.ev r21.1.fType y30 r44 hr44 _) ?_;refine rnN 1 ?_;refine nkN hK ?_;refine yU (fun L τ=>∃ (x45:Int),L=[(3,.op 0 0 0),(4,.op 1 0 0),(5,.op 2 0 0),(8,.op 3 0 0),(9,.op 4 0 0),(13,.int .i64 x45),(21,.ds true (qd encGEntry a2.fEntries) (qb a2.fEntries) false),(22,.int .i64 (qb a2.fEntries:Int)),(23,.int .i64 x2),(48,.ds true (qd encGTree y4.fTrees) (qb y4.fTrees) false),(49,.int .i64 (qb y4.fTrees:Int)),(50,.int .i64 x28)]∧τ=[.cells 0 (encGSchema a0),.cells 0 (encGMessage a1),.cells 0 (cellsGTree a2),.cells 0 (cellsGEntry y4),.cells 0 (encGField r21.1)]∧zr.j46 x28 (zr.l30 yo a0 x2 (zr.l4 yo a0 a1 a2 q4) y4 r21 q30) x45=some r) ?_ ?_
 · refine rc [3,4,5,8,9,12,13,21,22,23,48,49,50,65] fun K hK=>?_
   refine rnN 3 ?_;refine zq 5 (fun L τ=>L=[(3,.op 0 0 0),(4,.op 1 0 0),(5,.op 2 0 0),(8,.op 3 0 0),(9,.op 4 0 0),(12,.op 5 0 0),(13,.int .i64 r44),(21,.ds true (qd encGEntry a2.fEntries) (qb a2.fEntries) false),(22,.int .i64 (qb a2.fEntries:Int)),(23,.int .i64 x2),(48,.ds true (qd encGTree y4.fTrees) (qb y4.fTrees) false),(49,.int .i64 (qb y4.fTrees:Int)),(50,.int .i64 x28),(65,.bool ((decide (r44=0))&&(decide (r21.1.fType.fKind=7))))]∧τ=[.cells 0 (encGSchema a0),.cells 0 (encGMessage a1),.cells 0 (cellsGTree a2),.cells 0 (cellsGEntry y4),.cells 0 (encGField r21.1),.cells 0 (cellsGTree y30)]) ?_ ?_
   · refine yW 60 rfl (fun hg60=>?_) (fun hg60=>?_)
     · have t50:=eq_true hg60;refine rnN 5 ?_;refine zb ⟨rfl,_,_,⟨rfl,rfl⟩,.p t50⟩
     have t51:=eq_false hg60;refine rnN 5 ?_;refine zb ⟨rfl,_,_,⟨rfl,rfl⟩,.p t51⟩
   rintro _ _ ⟨rfl,rfl⟩;refine nkN hK ?_;refine zv (b:=((decide (r44=0))&&(decide (r21.1.fType.fKind=7)))) rfl (fun hc52=>?_) (fun hc52=>?_)
   · rw[if_pos hc52] at h
     refine rc [3,4,5,8,9,12,14,21,22,23,48,49,50] fun K hK=>?_
     obtain⟨r53,hr53,h⟩:=zD h;refine rnN 4 ?_;refine clN rfl rfl rfl (zG.ev a0 r21.1.fType.fName r53 hr53 _) ?_;refine zj tok 6 ?_;simp only[go_sem,qc,qf,qa,qe,encGMessage];refine nkN hK ?_
     refine rcE [3,4,5,8,9,13,21,22,23,48,49,50] fun K hK=>?_
     obtain⟨r54,hr54,h⟩:=bind_some h;refine rnN 3 ?_;refine clN rfl rfl rfl (ev_valid_message a0 r53.1 y30 r54 hr54 _) ?_;refine rnN 1 ?_;refine nkN hK ?_;exact⟨_,_,⟨r54,rfl,rfl,h⟩,(.t [0,1,2,3,4] false)⟩
   rw[wb hc52] at h;apply zd;exact⟨_,_,⟨r44,rfl,rfl,h⟩,(.t [0,1,2,3,4] false)⟩
 rintro _ _ ⟨x45,rfl,rfl,h⟩;unfold zr.j46 at h;refine rgN [3,4,5,8,9,13,21,22,23,48,49,50,79] ?_;refine zL rfl (fun hc47=>?_) (fun hc47=>?_)
 · rw[if_neg hc47] at h;have t48:=eq_false hc47
   refine rg tok [6] fun K hK=>?_
   simp only[go_sem,qc,qa,t48];apply hK
   cases h;exact rtA
 rw[if_pos hc47] at h;have t49:=eq_true hc47;apply zd;apply hZ41
 refine rgE tok [3,4,5,8,9,21,22,23,48,49,50] fun K hK=>?_
 simp only[go_sem,qc,qa,hw30,t49];apply hK
 exact⟨_,_,_,qy q30.length,⟨p30++[y30],q30,x28+1,rfl,rfl,rfl,hE'30,hi'30,h⟩,.s⟩
def zr : Nat→GSchema→GMessage→GTree→Option Int
 |0,_,_,_=>none
 |k+1,a0,a1,a2=>zr.body (zr k) a0 a1 a2
theorem zr.all (k:Nat):(∀ (a0:GSchema) (a1:GMessage) (a2:GTree) (r:Int),zr k a0 a1 a2=some r→ACalls qg 94 [.agg (encGSchema a0),.agg (encGMessage a1),.agg (cellsGTree a2)] [] (fun r' _=>r'=.int .i64 r)):=by
 induction k with
 |zero=>exact (fun a0 a1 a2 r h=>by simp only[zr] at h; cases h)
 |succ k ih=>exact (fun a0 a1 a2 r h=>zr.step _ ih a0 a1 a2 r (by simpa only [zr] using h))
theorem zr.ev (k:Nat)(a0:GSchema)(a1:GMessage)(a2:GTree)(r:Int)(h:zr k a0 a1 a2=some r)(σ:Store):ACalls qg 94 [.agg (encGSchema a0),.agg (encGMessage a1),.agg (cellsGTree a2)] σ (fun r' σ'=>r'=.int .i64 r∧σ'=σ):=
 ((zr.all k) a0 a1 a2 r h).c σ
def wB (a0:GSchema)(a1:List UInt8)(a2:GTree):Option Int:=
 (z6 a0).bind fun r2=>(if r2=0 then bnd (zG a0 a1) fun r6=>(if (!r6.2)=true then some 14 else (if a2.fKind=3 then (wq a2).bind fun r9=>some (!r9) else some true).bind fun c9=>(if c9=true then some 1 else (zr rounds a0 r6.1 a2).bind fun r14=>some r14)) else some 1)
theorem wB.ok (a0:GSchema)(a1:List UInt8)(a2:GTree)(r:Int)(h:wB a0 a1 a2=some r):ACalls qg 61 [.agg (encGSchema a0),.str a1,.agg (cellsGTree a2)] [] (fun r' _=>r'=.int .i64 r):=by
 refine zh (rs:=[.tmp 6]) tok Tryz.func61 rfl Tryz.ntmps61 rfl Tryz.call61 (by simp) ?_;refine zl [(0,.agg (encGSchema a0)),(1,.str a1),(2,.agg (cellsGTree a2))] ⟨rfl,rfl,rfl,trivial⟩ ?_;unfold wB at h
 refine rg tok [1,3,5] fun K hK=>?_
 simp only[go_sem,qc,qa,qe,reduceCtorEq,cellsGTree,encGSchema];apply hK
 refine za fun Z1 hZ1=>?_
 refine rc [1,3,5,11] fun K hK=>?_
 obtain⟨r2,hr2,h⟩:=bind_some h;refine rnN 1 ?_;refine clN rfl rfl rfl (z6.ev a0 r2 hr2 _) ?_;refine rnN 1 ?_;refine nkN hK ?_;refine zL rfl (fun hc3=>?_) (fun hc3=>?_)
 · rw[if_neg hc3] at h;have t4:=eq_false hc3
   refine rg tok [6] fun K hK=>?_
   simp only[go_sem,qc,qa,t4];apply hK
   cases h;exact rtA
 rw[if_pos hc3] at h;have t5:=eq_true hc3;apply zd;apply hZ1
 refine rc [3,5,7,8] fun K hK=>?_
 obtain⟨r6,hr6,h⟩:=zD h;refine zj tok 2 ?_;simp only[go_sem,qc,qf,qa,qe,t5];refine clN rfl rfl rfl (zG.ev a0 a1 r6 hr6 _) ?_;refine zj tok 6 ?_;simp only[go_sem,qc,qf,qa,qe,encGMessage];refine nkN hK ?_
 refine za fun Z7 hZ7=>?_
 apply ze;refine rgN [3,5,7,18] ?_;refine zv (b:=(!r6.2)) rfl (fun hc8=>?_) (fun hc8=>?_)
 · rw[if_pos hc8] at h;refine rgN [6] ?_;cases h;exact rtA
 rw[wb hc8] at h
 refine rc [3,5,7,21] fun K hK=>?_
 refine rnN 4 ?_;obtain⟨c9,hc9,h⟩:=bind_some h;refine zq 4 (fun L τ=>L=[(3,.op 0 0 0),(5,.op 1 0 0),(7,.op 2 0 0),(29,.bool c9)]∧τ=[.cells 0 (encGSchema a0),.cells 0 (cellsGTree a2),.cells 0 (encGMessage r6.1)]) ?_ ?_
 · refine yW 25 rfl (fun hg25=>?_) (fun hg25=>?_)
   · have t10:=eq_false hg25;rw[if_neg hg25] at hc9;refine rnN 4 ?_;cases hc9;refine zb ⟨rfl,_,_,⟨rfl,rfl⟩,.p t10⟩
   have t11:=eq_true hg25;rw[if_pos hg25] at hc9;obtain⟨r12,hr12,hc9⟩:=bind_some hc9;refine rnN 1 ?_;refine clN rfl rfl rfl (wq.ev a2 r12 hr12 _) ?_;refine rnN 2 ?_;cases hc9;refine zb ⟨rfl,_,_,⟨rfl,rfl⟩,.p t11⟩
 rintro _ _ ⟨rfl,rfl⟩;refine rnN 1 ?_;refine nkN hK ?_;refine zv (b:=c9) rfl (fun hc13=>?_) (fun hc13=>?_)
 · rw[if_pos hc13] at h;refine rgN [6] ?_;cases h;exact rtA
 rw[wb hc13] at h;apply zd;apply hZ7
 refine rc [6] fun K hK=>?_
 obtain⟨r14,hr14,h⟩:=bind_some h;refine rnN 3 ?_;refine clN rfl rfl rfl (zr.ev rounds a0 r6.1 a2 r14 hr14 _) ?_;refine rnN 1 ?_;refine nkN hK ?_;cases h;exact rtA
theorem wB.ev (a0:GSchema)(a1:List UInt8)(a2:GTree)(r:Int)(h:wB a0 a1 a2=some r)(σ:Store):ACalls qg 61 [.agg (encGSchema a0),.str a1,.agg (cellsGTree a2)] σ (fun r' σ'=>r'=.int .i64 r∧σ'=σ):=
 (wB.ok a0 a1 a2 r h).c σ
def ZX (a0:Int):GValueValue:=
 (GValueValue.num a0)
theorem ZX.ok (a0:Int)(r:GValueValue)(h:ZX a0=r):ACalls qg 225 [.int .i64 a0] [] (fun r' _=>r'=.agg (encGValueValue r)):=by
 refine zh (rs:=[.cell 2 228]) tok Tryz.func225 rfl Tryz.ntmps225 rfl Tryz.call225 (by simp) ?_;refine zl [(0,.int .i64 a0)] ⟨rfl,trivial⟩ ?_;unfold ZX at h;refine rgN [0,2] ?_;refine rgN [2] ?_;cases h;exact rtA
end
section
set_option maxRecDepth 4000
set_option maxHeartbeats 1000000
open AM
theorem ZX.ev (a0:Int)(r:GValueValue)(h:ZX a0=r)(σ:Store):ACalls qg 225 [.int .i64 a0] σ (fun r' σ'=>r'=.agg (encGValueValue r)∧σ'=σ):=
 (ZX.ok a0 r h).c σ
def ZW (a0:List UInt8):GValueValue:=
 (GValueValue.str a0)
theorem ZW.ok (a0:List UInt8)(r:GValueValue)(h:ZW a0=r):ACalls qg 226 [.str a0] [] (fun r' _=>r'=.agg (encGValueValue r)):=by
 refine zh (rs:=[.cell 2 228]) tok Tryz.func226 rfl Tryz.ntmps226 rfl Tryz.call226 (by simp) ?_;refine zl [(0,.str a0)] ⟨rfl,trivial⟩ ?_;unfold ZW at h;refine rgN [0,2] ?_;refine rgN [2] ?_;cases h;exact rtA
theorem ZW.ev (a0:List UInt8)(r:GValueValue)(h:ZW a0=r)(σ:Store):ACalls qg 226 [.str a0] σ (fun r' σ'=>r'=.agg (encGValueValue r)∧σ'=σ):=
 (ZW.ok a0 r h).c σ
def yX (a0:List GRaw):Option (List GRaw):=(YJ (qb a0) 40).bind fun _=>some a0
theorem yX.ok (a0 r:List GRaw)(h:yX a0=some r):ACalls qg 227 [.ds true (qd encGRaw a0) (qb a0) false] [] (fun r' _=>r'=.ds true (qd encGRaw r) (qb r) false):=by
 obtain⟨_u,hu,h⟩:=bind_some h;have gu:=yF hu;cases h
 have f1:=fun nl tt σ=>wj E35.len a0 nl tt σ
 have f2:=zy E35.len a0;have f3:=ZU encGRaw a0
 have fin:∀ σ id ver tt,Store.at σ id ver=some (qd encGRaw a0)→tell σ [] true 12 (.os true 4 id ver 0 (qb a0) tt)=.ds true (qd encGRaw a0) (qb a0) false:=by
  intro σ id ver tt hs
  simp only[ZD,Za,hs,qC,qn];rw[if_pos (by rw[f2]; exact qx _),← f2,ul,zi]
 refine zh (rs:=[.tmp 2]) tok Tryz.func227 rfl Tryz.ntmps227 rfl Tryz.call227 (by simp) ?_;refine zl [(0,.ds true (qd encGRaw a0) (qb a0) false)] ⟨rfl,trivial⟩ ?_;refine rgN [0] ?_
 refine za fun Z1 hZ1=>?_
 refine rc [0,4] fun K hK=>?_
 refine rnN 1 ?_
 refine vaU tok rfl rfl rfl rfl rfl rfl fun b hnil=>?_
 have hb:b=true→a0=[]:=fun hb=>by
  have:=hnil hb;simp only[yC,go_sem,reduceCtorEq] at this;exact uU this
 clear hnil
 refine nkN hK ?_;cases b
 · refine zp rfl ?_;apply zd;apply hZ1
   refine rg tok [2] fun K hK=>?_
   by_cases h0:qb a0=0
   · obtain rfl:=uU h0;simp only[go_sem,qc,qa,qe,reduceCtorEq,zM,z8,qT,ut,yx,zY,yC,yu,uj,qr,uz,uc];apply hK
     apply zR;simp only[wN,ym,yy,xo,exists_eq_left',go_sem]
     first|rfl|(simp only[go_sem,qc,qf,qa,qe,ql,qs,reduceIte,reduceCtorEq,ZD,Za,qm]<;>rfl)
   have h1:=eq_false h0;simp only[go_sem,qc,qa,qe,reduceCtorEq,zM,z8,qT,ut,yx,zY,yC,f1,f3,h1,gu,yS,qm,qK,uz];apply hK
   apply zR;simp only[wN,ym,yy,xo,exists_eq_left',go_sem];exact fin _ _ _ _ (by simp only[Store.at_hd,Store.at_tl,if_true])
 obtain rfl:=hb rfl;refine zs rfl ?_;refine rgN [2] ?_;apply zR;simp only[wN,ym,yy,xo,exists_eq_left',go_sem]
 first|rfl|(simp only[go_sem,qc,qf,qa,qe,ql,qs,reduceIte,reduceCtorEq,Xf,qm,qq,qt,qu]<;>rfl)
theorem yX.own (a0 r:List GRaw)(h:yX a0=some r):ACalls qg 227 [.ds true (qd encGRaw a0) (qb a0) false] [] (fun r' σ'=>r'=.os true 4 0 0 0 (qb r) false∧σ'=[.cells 0 (qd encGRaw r)]):=by
 obtain⟨_u,hu,h⟩:=bind_some h;have gu:=yF hu;cases h
 have f1:=fun nl tt σ=>wj E35.len a0 nl tt σ
 have f2:=zy E35.len a0;have f3:=ZU encGRaw a0;refine vcj (rs:=[.tmp 2]) tok Tryz.func227 rfl Tryz.ntmps227 rfl Tryz.call227 (by simp) ?_;refine zl [(0,.ds true (qd encGRaw a0) (qb a0) false)] ⟨rfl,trivial⟩ ?_;refine rgN [0] ?_
 refine za fun Z1 hZ1=>?_
 refine rc [0,4] fun K hK=>?_
 refine rnN 1 ?_
 refine vaU tok rfl rfl rfl rfl rfl rfl fun b hnil=>?_
 have hb:b=true→a0=[]:=fun hb=>by
  have:=hnil hb;simp only[yC,go_sem,reduceCtorEq] at this;exact uU this
 clear hnil
 refine nkN hK ?_;cases b
 · refine zp rfl ?_;apply zd;apply hZ1
   refine rg tok [2] fun K hK=>?_
   by_cases h0:qb a0=0
   · obtain rfl:=uU h0;simp only[go_sem,qc,qa,qe,reduceCtorEq,zM,z8,qT,ut,yx,zY,yC,yu,uj,qr,uz,uc];apply hK
     apply zR;simp only[wN,ym,yy,xo,exists_eq_left',go_sem];refine .inl ⟨0,true,by simp,?_,?_⟩
     · first|rfl|(simp only[go_sem,qc,qf,qa,qe,ql,qs,reduceIte,reduceCtorEq,ZD,Zl,if_true]<;>rfl)
     first|rfl|(simp only[go_sem,qc,qf,qa,qe,ql,qs,reduceIte,reduceCtorEq,YS,vbK,Yp,YU,YT,qm]<;>rfl)
   have h1:=eq_false h0;simp only[go_sem,qc,qa,qe,reduceCtorEq,zM,z8,qT,ut,yx,zY,yC,f1,f3,h1,gu,yS,qm,qK,uz];apply hK
   apply zR;simp only[wN,ym,yy,xo,exists_eq_left',go_sem,qe];refine .inl ⟨1,false,by simp,?_,?_⟩
   · first|rfl|(simp only[go_sem,qc,qf,qa,qe,ql,qs,reduceIte,reduceCtorEq,ZD,Zl,if_true]<;>rfl)
   first|rfl|(simp only[go_sem,YS,Yp,YU,YT,zi]<;>rfl)
 obtain rfl:=hb rfl;refine zs rfl ?_;refine rgN [2] ?_;apply zR;simp only[wN,ym,yy,xo,exists_eq_left',go_sem];refine .inr ?_
 first|rfl|(simp only[go_sem,qc,qf,qa,qe,ql,qs,reduceIte,reduceCtorEq,Xf,qm,qq,qN,qw,qJ]<;>rfl)
theorem yX.ev (a0 r:List GRaw)(h:yX a0=some r)(σ:Store):ACalls qg 227 [.ds true (qd encGRaw a0) (qb a0) false] σ (fun r' σ'=>r'=.ds true (qd encGRaw r) (qb r) false∧σ'=σ):=
 (yX.ok a0 r h).pureAt (by simp only[AV.canon,canonL,canon_all,qO,qw,Bool.true_or]) (by simp only[AV.canon,canon_all,qO,qw,Bool.true_or]) σ
def zO.l35 (yE:GTree→Option GValueValue)(l14:List GValueEntry)(x16:Int)(rec20:List GValueEntry→Int→Option GValueValue)(y25:GEntry):List GTree→Int→List GValueValue→Option GValueValue
 |[],x31,l29=>(YJ (qb l14+1) 32).bind fun _u37=>(rec20 (l14++[(⟨y25.fTag,l29⟩:GValueEntry)]) (IntKind.i64.wrap (x16+1)))
 |y35::q35,x31,l29=>(yE y35).bind fun r43=>(YJ (qb l29+1) 16).bind fun _u45=>((zO.l35 yE l14 x16 rec20 y25 q35) (x31+1) (l29++[r43]))
def zO.l20 (yE:GTree→Option GValueValue)(a0:GTree)(r12:List GRaw):Nat→List GValueEntry→Int→Option GValueValue
 |0,_,_=>none
 |k20+1,l14,x16=>(if x16<(qb a0.fEntries:Int) then (Zb a0.fEntries x16).bind fun y25=>(zO.l35 yE l14 x16 (zO.l20 yE a0 r12 k20) y25 y25.fTrees 0 ([]:List GValueValue)) else some (GValueValue.node l14 r12))
def zO.l62 (yE:GTree→Option GValueValue)(a0:GTree)(r12:List GRaw)(y52:GEntry):List GTree→Int→List GValueValue→Option GValueValue
 |[],x58,l56=>(zO.l20 yE a0 r12 rounds [(⟨y52.fTag,l56⟩:GValueEntry)] (IntKind.i64.wrap (0+1)))
 |y62::q62,x58,l56=>(yE y62).bind fun r68=>(YJ (qb l56+1) 16).bind fun _u70=>((zO.l62 yE a0 r12 y52 q62) (x58+1) (l56++[r68]))
def zO.body (yE:GTree→Option GValueValue)(a0:GTree):Option GValueValue:=
 (if a0.fKind=1 then bnd (ZX a0.fN) fun r4=>some r4 else (if a0.fKind=2 then bnd (ZW a0.fS) fun r9=>some r9 else (yX a0.fRest).bind fun r12=>(if 0<(qb a0.fEntries:Int) then (Zb a0.fEntries 0).bind fun y52=>(zO.l62 yE a0 r12 y52 y52.fTrees 0 ([]:List GValueValue)) else some (GValueValue.node ([]:List GValueEntry) r12))))
theorem zO.step (yE:GTree→Option GValueValue)(ih_value_made:∀ (a0:GTree) (r:GValueValue),yE a0=some r→ACalls qg 185 [.agg (cellsGTree a0)] [] (fun r' _=>r'=.agg (encGValueValue r)))(a0:GTree)(r:GValueValue)(h:zO.body yE a0=some r):ACalls qg 185 [.agg (cellsGTree a0)] [] (fun r' _=>r'=.agg (encGValueValue r)):=by
 have ev_value_made:=fun a0 r h σ=>(ih_value_made a0 r h).c σ
 refine zh (rs:=[.cell 2 228]) tok Tryz.func185 rfl Tryz.ntmps185 rfl Tryz.call185 (by simp) ?_;refine zl [(0,.agg (cellsGTree a0))] ⟨rfl,trivial⟩ ?_;unfold zO.body at h
 refine rg tok [1,2] fun K hK=>?_
 simp only[go_sem,qc,qa,qe,reduceCtorEq,cellsGTree];apply hK
 refine za fun Z1 hZ1=>?_
 refine rgN [1,2,10] ?_;apply ze;refine rgN [1,2,10,11] ?_;refine zL rfl (fun hc2=>?_) (fun hc2=>?_)
 · rw[if_pos hc2] at h;have t3:=eq_true hc2
   refine rc [2] fun K hK=>?_
   obtain⟨r4,hr4,h⟩:=zD h;refine zj tok 2 ?_;simp only[go_sem,qc,qa,qe,t3];refine clN rfl rfl rfl (ZX.ev a0.fN r4 hr4 _) ?_;have f5:=wW r4;unfold AV.one at f5;refine zj tok 1 ?_;simp only[go_sem,qf,qa,encGValueValue,f5];refine nkN hK ?_;cases h;exact rtA
 rw[if_neg hc2] at h;have t6:=eq_false hc2
 refine rg tok [1,2,16] fun K hK=>?_
 simp only[go_sem,qc,qa,t6];apply hK
 refine zL rfl (fun hc7=>?_) (fun hc7=>?_)
 · rw[if_pos hc7] at h;have t8:=eq_true hc7
   refine rc [2] fun K hK=>?_
   obtain⟨r9,hr9,h⟩:=zD h;refine zj tok 2 ?_;simp only[go_sem,qc,qa,qe,t8];refine clN rfl rfl rfl (ZW.ev a0.fS r9 hr9 _) ?_;have f10:=wW r9;unfold AV.one at f10;refine zj tok 1 ?_;simp only[go_sem,qf,qa,encGValueValue,f10];refine nkN hK ?_;cases h;exact rtA
 rw[if_neg hc7] at h;have t11:=eq_false hc7;apply zd;apply hZ1
 refine rc [1,2,3] fun K hK=>?_
 obtain⟨r12,hr12,h⟩:=bind_some h;refine zj tok 2 ?_;simp only[go_sem,qc,qa,qe,t11];refine clN rfl rfl rfl (yX.ev a0.fRest r12 hr12 _) ?_;refine rnN 3 ?_;refine nkN hK ?_
 refine za fun Z13 hZ13=>?_
 refine rgN [2,3,27,28,29] ?_;apply ze;refine awp_loopS1 (fun m L τ=>∃ (k20:Nat) (l14:List GValueEntry) (x16:Int) (v15:Nat),m=0+k20∧L=[(2,.op 0 0 0),(3,.op 1 0 0),(27,.ds true (qd encGEntry a0.fEntries) (qb a0.fEntries) false),(28,.int .i64 (qb a0.fEntries:Int)),(29,.int .i64 x16)]∧τ=[.cells 0 [.nilI],.cells 0 [.os true 2 2 v15 0 (qb l14) false,.ds true (qd encGRaw r12) (qb r12) false],.cells v15 (qd encGValueEntry l14)]∧zO.l20 yE a0 r12 k20 l14 x16=some r) (rounds+1) ?_ ?_
 · refine rgN [2,3,27,28,29,30] ?_
   refine za fun Z48 hZ48=>?_
   refine zL rfl (fun hc49=>?_) (fun hc49=>?_)
   · rw[if_pos hc49] at h;have t50:=eq_true hc49;apply zd;apply hZ48
     refine za fun Z51 hZ51=>?_
     apply ze;obtain⟨y52,hy52,h⟩:=bind_some h;have f53:=E34.idxS hy52;have f54:=E34.loadS rfl rfl hy52
     refine rg tok [2,3,5,27,28,29] fun K hK=>?_
     simp only[go_sem,qc,qf,qa,qe,cellsGEntry,zZ,t50,f53,f54];apply hK
     refine rgN [2,3,5,6,27,28,29] ?_;refine Zg 4 1 1 rfl (by simp) rfl (L:=[(2,.op 1 0 0),(3,.op 2 0 0),(5,.op 3 0 0),(6,.op 4 0 0),(27,.ds true (qd encGEntry a0.fEntries) (qb a0.fEntries) false),(28,.int .i64 (qb a0.fEntries:Int)),(29,.int .i64 0)]) (τ:=[.cells 0 (cellsGTree a0),.cells 0 [.nilI],.cells 0 [.ds true [] 0 true,.ds true (qd encGRaw r12) (qb r12) false],.cells 0 (cellsGEntry y52),.cells 0 [.int .i64 y52.fTag,.os true 1 5 0 0 (qb ([]:List GValueValue)) false],.cells 0 (qd encGValueValue ([]:List GValueValue))]) .s ?_
     refine za fun Z55 hZ55=>?_
     refine rgN [2,3,6,27,28,29,37,38,39] ?_;apply ze
     refine yD 37 fun hb62=>?_
     replace hb62:qb y52.fTrees≤9223372036854775807:=hb62.1;refine zF (fun m L τ=>∃ (p62 q62:List GTree) (x58:Int) (l56:List GValueValue) (v57:Nat),m=qb q62∧L=[(2,.op 0 0 0),(3,.op 1 0 0),(6,.op 2 0 0),(27,.ds true (qd encGEntry a0.fEntries) (qb a0.fEntries) false),(28,.int .i64 (qb a0.fEntries:Int)),(29,.int .i64 0),(37,.ds true (qd encGTree y52.fTrees) (qb y52.fTrees) false),(38,.int .i64 (qb y52.fTrees:Int)),(39,.int .i64 x58)]∧τ=[.cells 0 [.nilI],.cells 0 [.ds true [] 0 true,.ds true (qd encGRaw r12) (qb r12) false],.cells 0 [.int .i64 y52.fTag,.os true 1 3 v57 0 (qb l56) false],.cells v57 (qd encGValueValue l56)]∧y52.fTrees=p62++q62∧x58=(qb p62:Int)∧zO.l62 yE a0 r12 y52 q62 x58 l56=some r) _ ⟨[],y52.fTrees,0,([]:List GValueValue),0,rfl,rfl,rfl,rfl,rfl,h⟩ (.t [1,2,4,5] false) ?_;rintro m L τ ⟨p62,q62,x58,l56,v57,rfl,rfl,rfl,hE62,hi62,h⟩
     rcases q62 with _|⟨y62,q62⟩
     · have hz62:=yH hE62 hi62;simp only[zO.l62] at h
       refine rg tok [2,3,6,27,28,29,37,38,39,40] fun K hK=>?_
       simp only[go_sem,qc,qa,hz62];apply hK
       refine za fun Z63 hZ63=>?_
       refine zp rfl ?_;apply zA;apply hZ55
       refine rdE [2,3,27,28,29] fun K hK=>?_
       refine DW.start (T:=tab) [.any,.any,.any,.any,.own 1 [],.at [],.eff,.eff,.any,.any,.eff] [(1,[])] ?_;refine DW.runN tok 8 ?_;simp only[go_sem,qc,qf,qa,qe,ql,reduceCtorEq,zM,z8,q1,qT,true_and,ub,yx,zY,yC,yS,uc,qZ,AV.one,qO,qK,qk,qr,qn,qM];refine DW.runN tok 3 ?_;simp only[go_sem,qc,qf,qa,qe,qk,qr,qn];refine DW.fin tok (by decide +kernel) rfl ?_;simp only[zf,upd,qa,reduceIte,zV,yz];apply hK
       apply hZ51
       refine rgE tok [2,3,27,28,29] fun K hK=>?_
       simp only[go_sem,qc,qa];apply hK
       exact⟨_,_,_,(Nat.lt_succ_of_le (Nat.le_of_eq (qn rounds))),⟨rounds,[(⟨y52.fTag,l56⟩:GValueEntry)],IntKind.i64.wrap (0+1),0,rfl,rfl,rfl,h⟩,(.t [0,1,5] false)⟩
     obtain⟨hz62,hw62,hx62,hE'62,hi'62⟩:=ya hE62 hi62 hb62;simp only[zO.l62] at h
     refine rg tok [2,3,6,27,28,29,37,38,39,40] fun K hK=>?_
     simp only[go_sem,qc,qa,hz62];apply hK
     refine za fun Z64 hZ64=>?_
     refine zs rfl ?_;apply zd;apply hZ64
     refine za fun Z65 hZ65=>?_
     apply ze;have f66:=E38.idxS hx62;have f67:=E38.loadS rfl rfl hx62
     refine rg tok [2,3,6,8,27,28,29,37,38,39] fun K hK=>?_
     simp only[go_sem,qc,qf,qa,qe,cellsGTree,zH,f66,f67];apply hK
     obtain⟨r68,hr68,h⟩:=bind_some h;have f69:=wW r68;unfold AV.one at f69;obtain⟨_u70,hu70,h⟩:=bind_some h;have gu70:=yF hu70;have f71:=(zy E282.len l56)
     refine rdE [2,3,6,27,28,29,37,38,39] fun K hK=>?_
     refine DW.start (T:=tab) [.any,.own 2 [],.at [],.eff,.eff,.eff,.any,.eff] [(2,[])] ?_;refine DW.runN tok 3 ?_;simp only[go_sem,qc,qf,qa,qe,encGValueValue,qk,qr,qn];refine DW.call rfl rfl rfl (ev_value_made y62 r68 hr68 _) ?_;refine DW.runN tok 4 ?_;simp only[go_sem,qc,qf,qa,qe,ql,zM,z8,q1,qT,true_and,ub,yx,zY,yC,encGValueValue,f69,gu70,f71,yS,uc,qZ,AV.one,qO,qK,qk,qr,qn,qM];refine DW.fin tok (by decide +kernel) rfl ?_;simp only[zf,upd,qa,reduceIte,zV,yz];apply hK
     apply hZ65
     refine rgE tok [2,3,6,27,28,29,37,38,39] fun K hK=>?_
     simp only[go_sem,qc,qa,hw62];apply hK
     exact⟨_,_,_,qy q62.length,⟨p62++[y62],q62,x58+1,l56++[r68],v57+1,rfl,rfl,rfl,hE'62,hi'62,h⟩,(.t [0,1,2,3] false)⟩
   rw[if_neg hc49] at h;have t72:=eq_false hc49;apply zA;apply hZ13
   refine rg tok [2] fun K hK=>?_
   simp only[go_sem,qc,qf,qa,t72];apply hK
   cases h;exact rtA
 clear h
 rintro m L τ ⟨k20,l14,x16,v15,rfl,rfl,rfl,h⟩
 rcases k20 with _|k20
 · cases h
 simp only[zO.l20] at h;refine rgN [2,3,27,28,29,30] ?_
 refine za fun Z21 hZ21=>?_
 refine zL rfl (fun hc22=>?_) (fun hc22=>?_)
 · rw[if_pos hc22] at h;have t23:=eq_true hc22;apply zd;apply hZ21
   refine za fun Z24 hZ24=>?_
   apply ze;obtain⟨y25,hy25,h⟩:=bind_some h;have f26:=E34.idxS hy25;have f27:=E34.loadS rfl rfl hy25
   refine rg tok [2,3,5,27,28,29] fun K hK=>?_
   simp only[go_sem,qc,qf,qa,qe,cellsGEntry,zZ,t23,f26,f27];apply hK
   refine rgN [2,3,5,6,27,28,29] ?_;refine Zg 4 1 1 rfl (by simp) rfl (L:=[(2,.op 0 0 0),(3,.op 1 0 0),(5,.op 3 0 0),(6,.op 4 0 0),(27,.ds true (qd encGEntry a0.fEntries) (qb a0.fEntries) false),(28,.int .i64 (qb a0.fEntries:Int)),(29,.int .i64 x16)]) (τ:=[.cells 0 [.nilI],.cells 0 [.os true 2 2 v15 0 (qb l14) false,.ds true (qd encGRaw r12) (qb r12) false],.cells v15 (qd encGValueEntry l14),.cells 0 (cellsGEntry y25),.cells 0 [.int .i64 y25.fTag,.os true 1 5 0 0 (qb ([]:List GValueValue)) false],.cells 0 (qd encGValueValue ([]:List GValueValue))]) .s ?_
   refine za fun Z28 hZ28=>?_
   refine rgN [2,3,6,27,28,29,37,38,39] ?_;apply ze
   refine yD 37 fun hb35=>?_
   replace hb35:qb y25.fTrees≤9223372036854775807:=hb35.1;refine zF (fun m L τ=>∃ (p35 q35:List GTree) (x31:Int) (l29:List GValueValue) (v30:Nat),m=qb q35∧L=[(2,.op 0 0 0),(3,.op 1 0 0),(6,.op 3 0 0),(27,.ds true (qd encGEntry a0.fEntries) (qb a0.fEntries) false),(28,.int .i64 (qb a0.fEntries:Int)),(29,.int .i64 x16),(37,.ds true (qd encGTree y25.fTrees) (qb y25.fTrees) false),(38,.int .i64 (qb y25.fTrees:Int)),(39,.int .i64 x31)]∧τ=[.cells 0 [.nilI],.cells 0 [.os true 2 2 v15 0 (qb l14) false,.ds true (qd encGRaw r12) (qb r12) false],.cells v15 (qd encGValueEntry l14),.cells 0 [.int .i64 y25.fTag,.os true 1 4 v30 0 (qb l29) false],.cells v30 (qd encGValueValue l29)]∧y25.fTrees=p35++q35∧x31=(qb p35:Int)∧zO.l35 yE l14 x16 (zO.l20 yE a0 r12 k20) y25 q35 x31 l29=some r) _ ⟨[],y25.fTrees,0,([]:List GValueValue),0,rfl,rfl,rfl,rfl,rfl,h⟩ (.t [0,1,2,4,5] false) ?_;rintro m L τ ⟨p35,q35,x31,l29,v30,rfl,rfl,rfl,hE35,hi35,h⟩
   rcases q35 with _|⟨y35,q35⟩
   · have hz35:=yH hE35 hi35;simp only[zO.l35] at h
     refine rg tok [2,3,6,27,28,29,37,38,39,40] fun K hK=>?_
     simp only[go_sem,qc,qa,hz35];apply hK
     refine za fun Z36 hZ36=>?_
     refine zp rfl ?_;apply zA;apply hZ28;obtain⟨_u37,hu37,h⟩:=bind_some h;have gu37:=yF hu37;have f38:=(zy E324.len l14)
     refine rdE [2,3,27,28,29] fun K hK=>?_
     refine DW.start (T:=tab) [.any,.any,.any,.any,.own 1 [],.at [],.eff,.eff,.any,.any,.eff] [(1,[])] ?_;refine DW.runN tok 8 ?_;simp only[go_sem,qc,qf,qa,qe,ql,zM,z8,q1,qT,true_and,ub,yx,zY,yC,gu37,f38,yS,uc,qZ,AV.one,qO,qK,qk,qr,qn,qM];refine DW.runN tok 3 ?_;simp only[go_sem,qc,qf,qa,qe,qk,qr,qn];refine DW.fin tok (by decide +kernel) rfl ?_;simp only[zf,upd,qa,reduceIte,zV,yz];apply hK
     apply hZ24
     refine rgE tok [2,3,27,28,29] fun K hK=>?_
     simp only[go_sem,qc,qa];apply hK
     exact⟨_,_,_,qy (0+k20),⟨k20,l14++[(⟨y25.fTag,l29⟩:GValueEntry)],IntKind.i64.wrap (x16+1),v15+1,rfl,rfl,rfl,h⟩,(.t [0,1,2] false)⟩
   obtain⟨hz35,hw35,hx35,hE'35,hi'35⟩:=ya hE35 hi35 hb35;simp only[zO.l35] at h
   refine rg tok [2,3,6,27,28,29,37,38,39,40] fun K hK=>?_
   simp only[go_sem,qc,qa,hz35];apply hK
   refine za fun Z39 hZ39=>?_
   refine zs rfl ?_;apply zd;apply hZ39
   refine za fun Z40 hZ40=>?_
   apply ze;have f41:=E38.idxS hx35;have f42:=E38.loadS rfl rfl hx35
   refine rg tok [2,3,6,8,27,28,29,37,38,39] fun K hK=>?_
   simp only[go_sem,qc,qf,qa,qe,cellsGTree,zH,f41,f42];apply hK
   obtain⟨r43,hr43,h⟩:=bind_some h;have f44:=wW r43;unfold AV.one at f44;obtain⟨_u45,hu45,h⟩:=bind_some h;have gu45:=yF hu45;have f46:=(zy E282.len l29)
   refine rdE [2,3,6,27,28,29,37,38,39] fun K hK=>?_
   refine DW.start (T:=tab) [.any,.own 2 [],.at [],.eff,.eff,.eff,.any,.eff] [(2,[])] ?_;refine DW.runN tok 3 ?_;simp only[go_sem,qc,qf,qa,qe,encGValueValue,qk,qr,qn];refine DW.call rfl rfl rfl (ev_value_made y35 r43 hr43 _) ?_;refine DW.runN tok 4 ?_;simp only[go_sem,qc,qf,qa,qe,ql,zM,z8,q1,qT,true_and,ub,yx,zY,yC,encGValueValue,f44,gu45,f46,yS,uc,qZ,AV.one,qO,qK,qk,qr,qn,qM];refine DW.fin tok (by decide +kernel) rfl ?_;simp only[zf,upd,qa,reduceIte,zV,yz];apply hK
   apply hZ40
   refine rgE tok [2,3,6,27,28,29,37,38,39] fun K hK=>?_
   simp only[go_sem,qc,qa,hw35];apply hK
   exact⟨_,_,_,qy q35.length,⟨p35++[y35],q35,x31+1,l29++[r43],v30+1,rfl,rfl,rfl,hE'35,hi'35,h⟩,(.t [0,1,2,3,4] false)⟩
 rw[if_neg hc22] at h;have t47:=eq_false hc22;apply zA;apply hZ13
 refine rg tok [2] fun K hK=>?_
 simp only[go_sem,qc,qf,qa,t47];apply hK
 cases h;exact rtA
def zO : Nat→GTree→Option GValueValue
 |0,_=>none
 |k+1,a0=>zO.body (zO k) a0
theorem zO.all (k:Nat):(∀ (a0:GTree) (r:GValueValue),zO k a0=some r→ACalls qg 185 [.agg (cellsGTree a0)] [] (fun r' _=>r'=.agg (encGValueValue r))):=by
 induction k with
 |zero=>exact (fun a0 r h=>by simp only[zO] at h; cases h)
 |succ k ih=>exact (fun a0 r h=>zO.step _ ih a0 r (by simpa only [zO] using h))
theorem zO.ev (k:Nat)(a0:GTree)(r:GValueValue)(h:zO k a0=some r)(σ:Store):ACalls qg 185 [.agg (cellsGTree a0)] σ (fun r' σ'=>r'=.agg (encGValueValue r)∧σ'=σ):=
 ((zO.all k) a0 r h).c σ
def Zi (a0:GTree):Option (GValueValue×Bool):=
 (wq a0).bind fun r2=>(if (!r2)=true then some (GValueValue.nil,false) else (zO rounds a0).bind fun r4=>some (r4,true))
theorem Zi.ok (a0:GTree)(r:GValueValue×Bool)(h:Zi a0=some r):ACalls qg 144 [.agg (cellsGTree a0)] [] (fun r' _=>r'=.tup [.agg (encGValueValue r.1),.bool r.2]):=by
 refine zh (rs:=[.cell 2 228,.tmp 3]) tok Tryz.func144 rfl Tryz.ntmps144 rfl Tryz.call144 (by simp) ?_;refine zl [(0,.agg (cellsGTree a0))] ⟨rfl,trivial⟩ ?_;unfold Zi at h
 refine rg tok [1,2] fun K hK=>?_
 simp only[go_sem,qc,qa,qe,reduceCtorEq,cellsGTree];apply hK
 refine za fun Z1 hZ1=>?_
 refine rc [1,2,6] fun K hK=>?_
 obtain⟨r2,hr2,h⟩:=bind_some h;refine rnN 1 ?_;refine clN rfl rfl rfl (wq.ev a0 r2 hr2 _) ?_;refine rnN 1 ?_;refine nkN hK ?_;refine zv (b:=(!r2)) rfl (fun hc3=>?_) (fun hc3=>?_)
 · rw[if_pos hc3] at h;refine rgN [2,3] ?_;cases h;exact rtA
 rw[wb hc3] at h;apply zd;apply hZ1
 refine rc [2,3] fun K hK=>?_
 obtain⟨r4,hr4,h⟩:=bind_some h;refine rnN 1 ?_;refine clN rfl rfl rfl (zO.ev rounds a0 r4 hr4 _) ?_;have f5:=wW r4;unfold AV.one at f5;refine zj tok 2 ?_;simp only[go_sem,qc,qf,qa,encGValueValue,f5];refine nkN hK ?_;cases h;exact rtA
theorem Zi.ev (a0:GTree)(r:GValueValue×Bool)(h:Zi a0=some r)(σ:Store):ACalls qg 144 [.agg (cellsGTree a0)] σ (fun r' σ'=>r'=.tup [.agg (encGValueValue r.1),.bool r.2]∧σ'=σ):=
 (Zi.ok a0 r h).c σ
def yA (a0:GValueValue):Option GValueNode:=
 (match a0 with|.nil=>none|.num n2=>none|.str s2=>none|.node e2 r2=>some (⟨e2,r2⟩:GValueNode))
theorem yA.ok (a0:GValueValue)(r:GValueNode)(h:yA a0=some r):ACalls qg 146 [.agg (encGValueValue a0)] [] (fun r' _=>r'=.dp (encGValueNode r) 0):=by
 refine zh (rs:=[.tmp 2]) tok Tryz.func146 rfl Tryz.ntmps146 rfl Tryz.call146 (by simp) ?_;refine zl [(0,.agg (encGValueValue a0))] ⟨rfl,trivial⟩ ?_;unfold yA at h;have f1:=wW a0;unfold AV.one at f1
 refine rg tok [1] fun K hK=>?_
 simp only[go_sem,qc,qa,reduceCtorEq,encGValueValue,f1];apply hK
 rcases a0 with _|n2|s2|⟨e2,r2⟩
 · dsimp only at h
   try simp only[Xn]
   cases h
 · dsimp only at h
   try simp only[Xm]
   cases h
 · dsimp only at h
   try simp only[Xl]
   cases h
 dsimp only at h
 try simp only[ZZ]
 refine rg tok [2] fun K hK=>?_
 simp only[go_sem,qc,qa,yK,yL,TypeDesc.isIface];apply hK
 cases h;exact rtA
theorem yA.ev (a0:GValueValue)(r:GValueNode)(h:yA a0=some r)(σ:Store):ACalls qg 146 [.agg (encGValueValue a0)] σ (fun r' σ'=>r'=.dp (encGValueNode r) 0∧σ'=σ):=
 (yA.ok a0 r h).c σ
def y5 (a0:GValueNode):Option (List GRaw):=
 (yX a0.frest).bind fun r1=>some r1
theorem y5.own (a0:GValueNode)(r:List GRaw)(h:y5 a0=some r):ACalls qg 186 [.dp (encGValueNode a0) 0] [] (fun r' σ'=>r'=.os true 4 0 0 0 (qb r) false∧σ'=[.cells 0 (qd encGRaw r)]):=by
 refine ACalls.own0 (by simp only[push_cast]) ?_;refine Yn (rs:=[.tmp 2]) tok Tryz.func186 rfl Tryz.ntmps186 rfl Tryz.call186 (by simp) ?_;refine zl [(0,.dp (encGValueNode a0) 0)] ⟨rfl,trivial⟩ ?_;unfold y5 at h;refine rgN [0] ?_
 refine rc [2] fun K hK=>?_
 obtain⟨r1,hr1,h⟩:=bind_some h;refine zj tok 4 ?_;simp only[go_sem,qc,qa,qe,reduceCtorEq,encGValueNode,Z0];refine clN rfl rfl rfl (@id (ACalls qg 227 [.ds true (qd encGRaw a0.frest) (qb a0.frest) false] [] (fun r' σ'=>r'=.os true 4 0 0 0 (qb r1) false∧σ'=[.cells 0 (qd encGRaw r1)])) ((yX.own a0.frest r1 hr1).ownAt0 (by simp only[push_cast]) (by simp only[push_cast]) _)) ?_;refine rnN 1 ?_;refine nkN hK ?_;apply zR;cases h;simp only[wN,ym,yy,xo,exists_eq_left',go_sem];refine⟨0,0,by simp,?_,?_⟩
 · first|rfl|(simp only[go_sem,qc,qf,qa,qe,ql,qs,reduceIte,reduceCtorEq,push_cast,if_true,qC,qn,qp,qm,qE,qq,qN,qJ,qu,qt,qw,zi,encGRaw]<;>rfl)
 first|rfl|(simp only[go_sem,push_cast,qm,zi]<;>rfl)
theorem y5.ok (a0:GValueNode)(r:List GRaw)(h:y5 a0=some r):ACalls qg 186 [.dp (encGValueNode a0) 0] [] (fun r' _=>r'=.ds true (qd encGRaw r) (qb r) false):=
 (y5.own a0 r h).ownData (zy E35.len r) (by simp only[push_cast])
theorem y5.ev (a0:GValueNode)(r:List GRaw)(h:y5 a0=some r)(σ:Store):ACalls qg 186 [.dp (encGValueNode a0) 0] σ (fun r' σ'=>r'=.ds true (qd encGRaw r) (qb r) false∧σ'=σ):=
 (y5.ok a0 r h).c σ
def yd.l8 : List GValueEntry→Int→List Int→Option (List Int)
 |[],x4,l2=>some l2
 |y8::q8,x4,l2=>(YJ (qb l2+1) 8).bind fun _u14=>((yd.l8 q8) (x4+1) (l2++[y8.ftag]))
def yd (a0:GValueNode):Option (List Int):=
 (yd.l8 a0.fentries 0 ([]:List Int))
theorem yd.own (a0:GValueNode)(r:List Int)(h:yd a0=some r):ACalls qg 187 [.dp (encGValueNode a0) 0] [] (fun r' σ'=>r'=.os true 1 0 0 0 (qb r) false∧σ'=[.cells 0 (qd encI r)]):=by
 refine ACalls.own0 (by simp only[push_cast]) ?_;refine Yn (rs:=[.tmp 2]) tok Tryz.func187 rfl Tryz.ntmps187 rfl Tryz.call187 (by simp) ?_;refine zl [(0,.dp (encGValueNode a0) 0)] ⟨rfl,trivial⟩ ?_;unfold yd at h;refine rgN [0] ?_;refine rgN [0,3] ?_;refine Zt 3 1 rfl ?_;refine yn (L:=[(0,.dp (encGValueNode a0) 0),(3,.os true 1 0 0 0 (qb ([]:List Int)) false)]) (τ:=[.cells 0 (qd encI ([]:List Int))]) .s ?_
 refine za fun Z1 hZ1=>?_
 refine rg tok [3,9,10,11] fun K hK=>?_
 simp only[go_sem,qc,qa,qe,reduceCtorEq,encGValueNode,Z0];apply hK
 apply ze
 refine yD 9 fun hb8=>?_
 replace hb8:qb a0.fentries≤9223372036854775807:=hb8.1;refine zF (fun m L τ=>∃ (p8 q8:List GValueEntry) (x4:Int) (l2:List Int) (v3:Nat),m=qb q8∧L=[(3,.os true 1 0 v3 0 (qb l2) false),(9,.ds true (qd encGValueEntry a0.fentries) (qb a0.fentries) false),(10,.int .i64 (qb a0.fentries:Int)),(11,.int .i64 x4)]∧τ=[.cells v3 (qd encI l2)]∧a0.fentries=p8++q8∧x4=(qb p8:Int)∧yd.l8 q8 x4 l2=some r) _ ⟨[],a0.fentries,0,([]:List Int),0,rfl,rfl,rfl,rfl,rfl,h⟩ .s ?_;rintro m L τ ⟨p8,q8,x4,l2,v3,rfl,rfl,rfl,hE8,hi8,h⟩
 rcases q8 with _|⟨y8,q8⟩
 · have hz8:=yH hE8 hi8;simp only[yd.l8] at h
   refine rg tok [3,9,10,11,12] fun K hK=>?_
   simp only[go_sem,qc,qa,hz8];apply hK
   refine za fun Z9 hZ9=>?_
   refine zp rfl ?_;apply zA;apply hZ1;refine rgN [2] ?_;apply zR;cases h;simp only[wN,ym,yy,xo,exists_eq_left',go_sem];refine⟨0,v3,by simp,?_,?_⟩
   · first|rfl|(simp only[go_sem,qc,qf,qa,qe,ql,qs,reduceIte,reduceCtorEq,push_cast,if_true,qC,qn,qp,qm,qE,qq,qN,qJ,qu,qt,qw,zi]<;>rfl)
   first|rfl|(simp only[go_sem,push_cast,qm,zi]<;>rfl)
 obtain⟨hz8,hw8,hx8,hE'8,hi'8⟩:=ya hE8 hi8 hb8;simp only[yd.l8] at h
 refine rg tok [3,9,10,11,12] fun K hK=>?_
 simp only[go_sem,qc,qa,hz8];apply hK
 refine za fun Z10 hZ10=>?_
 refine zs rfl ?_;apply zd;apply hZ10
 refine za fun Z11 hZ11=>?_
 apply ze;have f12:=E324.idxS hx8;have f13:=E324.loadS rfl rfl hx8
 refine rg tok [3,5,9,10,11] fun K hK=>?_
 simp only[go_sem,qc,qf,qa,qe,cellsGValueEntry,y0,f12,f13];apply hK
 obtain⟨_u14,hu14,h⟩:=bind_some h;have gu14:=yF hu14;have f15:=(zy E26.len l2)
 refine rgE tok [3,9,10,11] fun K hK=>?_
 simp only[go_sem,qc,qf,qa,qe,ql,zM,z8,q1,qT,true_and,ub,yx,zY,yC,gu14,f15,yS,uc,qZ,AV.one,qO,qK,qk,qr,qn,qM];apply hK
 apply hZ11
 refine rgE tok [3,9,10,11] fun K hK=>?_
 simp only[go_sem,qc,qa,hw8];apply hK
 exact⟨_,_,_,qy q8.length,⟨p8++[y8],q8,x4+1,l2++[y8.ftag],v3+1,rfl,rfl,rfl,hE'8,hi'8,h⟩,(.t [0] false)⟩
theorem yd.ok (a0:GValueNode)(r:List Int)(h:yd a0=some r):ACalls qg 187 [.dp (encGValueNode a0) 0] [] (fun r' _=>r'=.ds true (qd encI r) (qb r) false):=
 (yd.own a0 r h).ownData (zy E26.len r) (by simp only[push_cast])
theorem yd.ev (a0:GValueNode)(r:List Int)(h:yd a0=some r)(σ:Store):ACalls qg 187 [.dp (encGValueNode a0) 0] σ (fun r' σ'=>r'=.ds true (qd encI r) (qb r) false∧σ'=σ):=
 (yd.ok a0 r h).c σ
def xV (a0:List GValueValue):Option (List GValueValue):=(YJ (qb a0) 16).bind fun _=>some a0
theorem xV.own (a0 r:List GValueValue)(h:xV a0=some r):ACalls qg 228 [.ds true (qd encGValueValue a0) (qb a0) false] [] (fun r' σ'=>r'=.os true 1 0 0 0 (qb r) false∧σ'=[.cells 0 (qd encGValueValue r)]):=by
 obtain⟨_u,hu,h⟩:=bind_some h;have gu:=yF hu;cases h
 have f1:=fun nl tt σ=>wj E282.len a0 nl tt σ
 have f2:=zy E282.len a0;have f3:=ZU encGValueValue a0;refine vcj (rs:=[.tmp 2]) tok Tryz.func228 rfl Tryz.ntmps228 rfl Tryz.call228 (by simp) ?_;refine zl [(0,.ds true (qd encGValueValue a0) (qb a0) false)] ⟨rfl,trivial⟩ ?_;refine rgN [0] ?_
 refine za fun Z1 hZ1=>?_
 refine rc [0,4] fun K hK=>?_
 refine rnN 1 ?_
 refine vaU tok rfl rfl rfl rfl rfl rfl fun b hnil=>?_
 have hb:b=true→a0=[]:=fun hb=>by
  have:=hnil hb;simp only[yC,go_sem,reduceCtorEq] at this;exact uU this
 clear hnil
 refine nkN hK ?_;cases b
 · refine zp rfl ?_;apply zd;apply hZ1
   refine rg tok [2] fun K hK=>?_
   by_cases h0:qb a0=0
   · obtain rfl:=uU h0;simp only[go_sem,qc,qa,reduceCtorEq,zM,z8,qT,ut,yx,zY,yC,yu,uj,qr,uz,uc];apply hK
     apply zR;simp only[wN,ym,yy,xo,exists_eq_left',go_sem];refine .inl ⟨0,true,by simp,?_,?_⟩
     · first|rfl|(simp only[go_sem,qc,qf,qa,qe,ql,qs,reduceIte,reduceCtorEq,ZD,Zl,if_true]<;>rfl)
     first|rfl|(simp only[go_sem,qc,qf,qa,qe,ql,qs,reduceIte,reduceCtorEq,YS,vbK,Yp,YU,YT,qm]<;>rfl)
   have h1:=eq_false h0;simp only[go_sem,qc,qa,reduceCtorEq,zM,z8,qT,ut,yx,zY,yC,f1,f3,h1,gu,yS,qm,qK,uz];apply hK
   apply zR;simp only[wN,ym,yy,xo,exists_eq_left',go_sem,qe];refine .inl ⟨1,false,by simp,?_,?_⟩
   · first|rfl|(simp only[go_sem,qc,qf,qa,qe,ql,qs,reduceIte,reduceCtorEq,ZD,Zl,if_true]<;>rfl)
   first|rfl|(simp only[go_sem,YS,Yp,YU,YT,zi]<;>rfl)
 obtain rfl:=hb rfl;refine zs rfl ?_;refine rgN [2] ?_;apply zR;simp only[wN,ym,yy,xo,exists_eq_left',go_sem];refine .inr ?_
 first|rfl|(simp only[go_sem,qc,qf,qa,qe,ql,qs,reduceIte,reduceCtorEq,Xf,qm,qq,qN,qw,qJ]<;>rfl)
def ye.l4 (a1:Int):List GValueEntry→Int→Option (List GValueValue)
 |[],x2=>some ([]:List GValueValue)
 |y4::q4,x2=>(if y4.ftag=a1 then (xV y4.fl).bind fun r12=>some r12 else ((ye.l4 a1 q4) (x2+1)))
def ye (a0:GValueNode)(a1:Int):Option (List GValueValue):=
 (ye.l4 a1 a0.fentries 0)
theorem ye.ok (a0:GValueNode)(a1:Int)(r:List GValueValue)(h:ye a0 a1=some r):ACalls qg 188 [.dp (encGValueNode a0) 0,.int .i64 a1] [] (fun r' _=>r'=.ds true (qd encGValueValue r) (qb r) false):=by
 refine zh (rs:=[.tmp 4]) tok Tryz.func188 rfl Tryz.ntmps188 rfl Tryz.call188 (by simp) ?_;refine zl [(0,.dp (encGValueNode a0) 0),(1,.int .i64 a1)] ⟨rfl,rfl,trivial⟩ ?_;unfold ye at h;refine rgN [0,1] ?_
 refine za fun Z1 hZ1=>?_
 refine rg tok [1,10,11,12] fun K hK=>?_
 simp only[go_sem,qc,qa,qe,reduceCtorEq,encGValueNode,Z0];apply hK
 apply ze
 refine yD 10 fun hb4=>?_
 replace hb4:qb a0.fentries≤9223372036854775807:=hb4.1;refine zF (fun m L τ=>∃ (p4 q4:List GValueEntry) (x2:Int),m=qb q4∧L=[(1,.int .i64 a1),(10,.ds true (qd encGValueEntry a0.fentries) (qb a0.fentries) false),(11,.int .i64 (qb a0.fentries:Int)),(12,.int .i64 x2)]∧τ=[]∧a0.fentries=p4++q4∧x2=(qb p4:Int)∧ye.l4 a1 q4 x2=some r) _ ⟨[],a0.fentries,0,rfl,rfl,rfl,rfl,rfl,h⟩ .s ?_;rintro m L τ ⟨p4,q4,x2,rfl,rfl,rfl,hE4,hi4,h⟩
 rcases q4 with _|⟨y4,q4⟩
 · have hz4:=yH hE4 hi4;simp only[ye.l4] at h
   refine rg tok [1,10,11,12,13] fun K hK=>?_
   simp only[go_sem,qc,qa,hz4];apply hK
   refine za fun Z5 hZ5=>?_
   refine zp rfl ?_;apply zA;apply hZ1;refine rgN [4] ?_;cases h;exact rtA
 obtain⟨hz4,hw4,hx4,hE'4,hi'4⟩:=ya hE4 hi4 hb4;simp only[ye.l4] at h
 refine rg tok [1,10,11,12,13] fun K hK=>?_
 simp only[go_sem,qc,qa,hz4];apply hK
 refine za fun Z6 hZ6=>?_
 refine zs rfl ?_;apply zd;apply hZ6
 refine za fun Z7 hZ7=>?_
 apply ze;have f8:=E324.idxS hx4;have f9:=E324.loadS rfl rfl hx4
 refine rg tok [1,6,10,11,12] fun K hK=>?_
 simp only[go_sem,qc,qf,qa,qe,cellsGValueEntry,y0,f8,f9];apply hK
 refine rgN [1,6,10,11,12,19] ?_;refine zL rfl (fun hc10=>?_) (fun hc10=>?_)
 · rw[if_pos hc10] at h;have t11:=eq_true hc10
   refine rc [4] fun K hK=>?_
   obtain⟨r12,hr12,h⟩:=bind_some h;refine zj tok 2 ?_;simp only[go_sem,qc,qa,qe,t11];refine clN rfl rfl rfl (@id (ACalls qg 228 [.ds true (qd encGValueValue y4.fl) (qb y4.fl) false] [.cells 0 (cellsGValueEntry y4)] (fun r' σ'=>r'=.os true 1 1 0 0 (qb r12) false∧σ'=[.cells 0 (cellsGValueEntry y4),.cells 0 (qd encGValueValue r12)])) ((xV.own y4.fl r12 hr12).ownAt0 (by simp only[push_cast]) (by simp only[push_cast]) _)) ?_;refine rnN 1 ?_;refine nkN hK ?_;cases h;exact rtA
 rw[if_neg hc10] at h;have t13:=eq_false hc10;apply zd;apply hZ7
 refine rgE tok [1,10,11,12] fun K hK=>?_
 simp only[go_sem,qc,qa,hw4,t13];apply hK
 exact⟨_,_,_,qy q4.length,⟨p4++[y4],q4,x2+1,rfl,rfl,rfl,hE'4,hi'4,h⟩,(.t [] false)⟩
end
section
set_option maxRecDepth 4000
set_option maxHeartbeats 1000000
open AM
theorem ye.ev (a0:GValueNode)(a1:Int)(r:List GValueValue)(h:ye a0 a1=some r)(σ:Store):ACalls qg 188 [.dp (encGValueNode a0) 0,.int .i64 a1] σ (fun r' σ'=>r'=.ds true (qd encGValueValue r) (qb r) false∧σ'=σ):=
 (ye.ok a0 a1 r h).c σ
def xu (a0:GValueValue):Int×Bool:=
 (match a0 with|.nil=>(0,false)|.num n2=>(n2,true)|.str s2=>(0,false)|.node e2 r2=>(0,false))
theorem xu.ok (a0:GValueValue)(r:Int×Bool)(h:xu a0=r):ACalls qg 243 [.agg (encGValueValue a0)] [] (fun r' _=>r'=.tup [.int .i64 r.1,.bool r.2]):=by
 refine zh (rs:=[.tmp 2,.tmp 3]) tok Tryz.func243 rfl Tryz.ntmps243 rfl Tryz.call243 (by simp) ?_;refine zl [(0,.agg (encGValueValue a0))] ⟨rfl,trivial⟩ ?_;unfold xu at h;have f1:=wW a0;unfold AV.one at f1
 refine rg tok [1] fun K hK=>?_
 simp only[go_sem,qc,qa,reduceCtorEq,encGValueValue,f1];apply hK
 rcases a0 with _|n2|s2|⟨e2,r2⟩
 · dsimp only at h
   try simp only[Xn]
   refine rg tok [4,5] fun K hK=>?_
   simp only[go_sem,qc,qa,qe,yK,yL,TypeDesc.isIface];apply hK
   refine rgN [2,3] ?_;cases h;exact rtA
 · dsimp only at h
   try simp only[Xm]
   refine rg tok [4,5] fun K hK=>?_
   simp only[go_sem,qc,qa,qe,yK,yL,TypeDesc.isIface];apply hK
   refine rgN [2,3] ?_;cases h;exact rtA
 · dsimp only at h
   try simp only[Xl]
   refine rg tok [4,5] fun K hK=>?_
   simp only[go_sem,qc,qa,qe,yK,yL,TypeDesc.isIface];apply hK
   refine rgN [2,3] ?_;cases h;exact rtA
 dsimp only at h
 try simp only[ZZ]
 refine rg tok [4,5] fun K hK=>?_
 simp only[go_sem,qc,qa,qe,yK,yL,TypeDesc.isIface];apply hK
 refine rgN [2,3] ?_;cases h;exact rtA
theorem xu.ev (a0:GValueValue)(r:Int×Bool)(h:xu a0=r)(σ:Store):ACalls qg 243 [.agg (encGValueValue a0)] σ (fun r' σ'=>r'=.tup [.int .i64 r.1,.bool r.2]∧σ'=σ):=
 (xu.ok a0 r h).c σ
def xP (a0:GValueValue):List UInt8×Bool:=
 (match a0 with|.nil=>([],false)|.num n2=>([],false)|.str s2=>(s2,true)|.node e2 r2=>([],false))
theorem xP.ok (a0:GValueValue)(r:List UInt8×Bool)(h:xP a0=r):ACalls qg 244 [.agg (encGValueValue a0)] [] (fun r' _=>r'=.tup [.str r.1,.bool r.2]):=by
 refine zh (rs:=[.tmp 2,.tmp 3]) tok Tryz.func244 rfl Tryz.ntmps244 rfl Tryz.call244 (by simp) ?_;refine zl [(0,.agg (encGValueValue a0))] ⟨rfl,trivial⟩ ?_;unfold xP at h;have f1:=wW a0;unfold AV.one at f1
 refine rg tok [1] fun K hK=>?_
 simp only[go_sem,qc,qa,reduceCtorEq,encGValueValue,f1];apply hK
 rcases a0 with _|n2|s2|⟨e2,r2⟩
 · dsimp only at h
   try simp only[Xn]
   refine rg tok [4,5] fun K hK=>?_
   simp only[go_sem,qc,qa,qe,yK,yL,TypeDesc.isIface];apply hK
   refine rgN [2,3] ?_;cases h;exact rtA
 · dsimp only at h
   try simp only[Xm]
   refine rg tok [4,5] fun K hK=>?_
   simp only[go_sem,qc,qa,qe,yK,yL,TypeDesc.isIface];apply hK
   refine rgN [2,3] ?_;cases h;exact rtA
 · dsimp only at h
   try simp only[Xl]
   refine rg tok [4,5] fun K hK=>?_
   simp only[go_sem,qc,qa,qe,yK,yL,TypeDesc.isIface];apply hK
   refine rgN [2,3] ?_;cases h;exact rtA
 dsimp only at h
 try simp only[ZZ]
 refine rg tok [4,5] fun K hK=>?_
 simp only[go_sem,qc,qa,qe,yK,yL,TypeDesc.isIface];apply hK
 refine rgN [2,3] ?_;cases h;exact rtA
theorem xP.ev (a0:GValueValue)(r:List UInt8×Bool)(h:xP a0=r)(σ:Store):ACalls qg 244 [.agg (encGValueValue a0)] σ (fun r' σ'=>r'=.tup [.str r.1,.bool r.2]∧σ'=σ):=
 (xP.ok a0 r h).c σ
def wt (a0:GValueValue):Option GValueValue:=
 bnd (xu a0) fun r3=>(if r3.2=true then some (GValueValue.num r3.1) else bnd (xP a0) fun r6=>(if r6.2=true then some (GValueValue.str r6.1) else (yA a0).bind fun r8=>some (GValueValue.node r8.fentries r8.frest)))
theorem wt.ok (a0:GValueValue)(r:GValueValue)(h:wt a0=some r):ACalls qg 229 [.agg (encGValueValue a0)] [] (fun r' _=>r'=anyV r):=by
 refine zh (rs:=[.tmp 2]) tok Tryz.func229 rfl Tryz.ntmps229 rfl Tryz.call229 (by simp) ?_;refine zl [(0,.agg (encGValueValue a0))] ⟨rfl,trivial⟩ ?_;unfold wt at h;have f1:=wW a0;unfold AV.one at f1
 refine rg tok [1] fun K hK=>?_
 simp only[go_sem,qc,qa,reduceCtorEq,encGValueValue,f1];apply hK
 refine za fun Z2 hZ2=>?_
 refine rc [1,3,4] fun K hK=>?_
 obtain⟨r3,hr3,h⟩:=zD h;refine rnN 1 ?_;refine clN rfl rfl rfl (xu.ev a0 r3 hr3 _) ?_;refine rnN 5 ?_;refine nkN hK ?_;refine rgN [1,3,12] ?_;refine zv (b:=r3.2) rfl (fun hc4=>?_) (fun hc4=>?_)
 · rw[if_pos hc4] at h;refine rgN [2] ?_;cases h;exact rtA
 rw[wb hc4] at h;apply zd;apply hZ2
 refine za fun Z5 hZ5=>?_
 refine rc [1,5,6] fun K hK=>?_
 obtain⟨r6,hr6,h⟩:=zD h;refine rnN 1 ?_;refine clN rfl rfl rfl (xP.ev a0 r6 hr6 _) ?_;refine rnN 5 ?_;refine nkN hK ?_;refine rgN [1,5,20] ?_;refine zv (b:=r6.2) rfl (fun hc7=>?_) (fun hc7=>?_)
 · rw[if_pos hc7] at h;refine rgN [2] ?_;cases h;exact rtA
 rw[wb hc7] at h;apply zd;apply hZ5
 refine rc [2] fun K hK=>?_
 obtain⟨r8,hr8,h⟩:=bind_some h;refine rnN 1 ?_;refine clN rfl rfl rfl (yA.ev a0 r8 hr8 _) ?_;refine rnN 2 ?_;refine nkN hK ?_;cases h;exact rtA
theorem wt.ev (a0:GValueValue)(r:GValueValue)(h:wt a0=some r)(σ:Store):ACalls qg 229 [.agg (encGValueValue a0)] σ (fun r' σ'=>r'=anyV r∧σ'=σ):=
 (wt.ok a0 r h).c σ
def xr.l9 : Nat→List UInt8→Int→Option (List UInt8)
 |0,_,_=>none
 |k9+1,l3,x5=>(if 128≤x5 then (YJ (qb l3+1) 1).bind fun _u14=>((xr.l9 k9) (l3++[qX (qI (IntKind.u8.wrap ((um (qD 8 (IntKind.u8.wrap x5) ||| qD 8 128):Nat):Int)))]) (Int.fdiv x5 (2^(min (qI 7) 64)))) else (YJ (qb l3+1) 1).bind fun _u18=>some (l3++[qX (qI (IntKind.u8.wrap x5))]))
def xr (a0:List UInt8)(a1:Int):Option (List UInt8):=
 (if 128≤a1 then (YJ (qb a0+1) 1).bind fun _u24=>(xr.l9 rounds (a0++[qX (qI (IntKind.u8.wrap ((um (qD 8 (IntKind.u8.wrap a1) ||| qD 8 128):Nat):Int)))]) (Int.fdiv a1 (2^(min (qI 7) 64)))) else (YJ (qb a0+1) 1).bind fun _u28=>some (a0++[qX (qI (IntKind.u8.wrap a1))]))
theorem xr.own (a0:List UInt8)(a1:Int)(r:List UInt8)(h:xr a0 a1=some r):ACalls qg 191 [.ds true (qd encB a0) (qb a0) false,.int .u64 a1] [] (fun r' σ'=>r'=.os true 1 0 0 0 (qb r) false∧σ'=[.cells 0 (qd encB r)]):=by
 refine ACalls.own0 (by simp only[push_cast]) ?_;refine Yn (rs:=[.tmp 4]) tok Tryz.func191 rfl Tryz.ntmps191 rfl Tryz.call191 (by simp) ?_;refine zl [(0,.ds true (qd encB a0) (qb a0) false),(1,.int .u64 a1)] ⟨rfl,rfl,trivial⟩ ?_;unfold xr at h;refine rgN [0,1] ?_;have f1:=E48.sl_tight a0 .i64 .i64
 refine rg tok [0,1] fun K hK=>?_
 simp only[go_sem,qc,qa,reduceCtorEq,f1];apply hK
 refine za fun Z2 hZ2=>?_
 apply ze;refine awp_loopS1 (fun m L τ=>∃ (k9:Nat) (l3:List UInt8) (x5:Int) (v4:Nat),m=0+k9∧L=[(0,.os true 1 0 v4 0 (qb l3) false),(1,.int .u64 x5)]∧τ=[.cells v4 (qd encB l3)]∧xr.l9 k9 l3 x5=some r) (rounds+1) ?_ ?_
 · refine za fun Z20 hZ20=>?_
   refine rgN [0,1,12] ?_;refine zL rfl (fun hc21=>?_) (fun hc21=>?_)
   · rw[if_pos hc21] at h;have t22:=eq_true hc21;apply zd;apply hZ20;apply ze;have f23:=xU (T:=tab) (src:=287) (dst:=5) rfl rfl rfl;obtain⟨_u24,hu24,h⟩:=bind_some h;have gu24:=yF hu24;have f25:=app_tight E48.len a0 (m:=1) (by decide)
     refine rg tok [0,1] fun K hK=>?_
     simp only[go_sem,qc,qf,qa,ql,reduceCtorEq,zM,z8,q1,qT,true_and,ub,yx,yC,t22,f23,gu24,f25,yS,uc,qZ,AV.one,qO,qK,qk,qr,qn,qM];apply hK
     refine yn (L:=[(0,.os true 1 1 0 0 (qb (a0++[qX (qI (IntKind.u8.wrap ((um (qD 8 (IntKind.u8.wrap a1) ||| qD 8 128):Nat):Int)))])) false),(1,.int .u64 a1)]) (τ:=[.cells 0 [.int .u8 (IntKind.u8.wrap ((um (qD 8 (IntKind.u8.wrap a1) ||| qD 8 128):Nat):Int))],.cells 0 (qd encB (a0++[qX (qI (IntKind.u8.wrap ((um (qD 8 (IntKind.u8.wrap a1) ||| qD 8 128):Nat):Int)))]))]) (.same (by first|exact⟨rfl,rfl,trivial⟩|rfl|(simp only[go_sem,reduceCtorEq,Fits,qj,qk,qr,qn,and_self]<;>rfl)) (by first|exact⟨rfl,rfl,trivial⟩|rfl|(simp only[go_sem,encB,q5,qS,uj,qH,vaa]<;>rfl))) ?_
     refine rgE tok [0,1] fun K hK=>?_
     simp only[go_sem,qc,qa,reduceCtorEq,YP,Int.reduceLT];apply hK
     exact⟨_,_,_,(Nat.lt_succ_of_le (Nat.le_of_eq (qn rounds))),⟨rounds,a0++[qX (qI (IntKind.u8.wrap ((um (qD 8 (IntKind.u8.wrap a1) ||| qD 8 128):Nat):Int)))],Int.fdiv a1 (2^(min (qI 7) 64)),0,rfl,rfl,rfl,h⟩,(.t [1] false)⟩
   rw[if_neg hc21] at h;have t26:=eq_false hc21;apply zA;apply hZ2;have f27:=xU (T:=tab) (src:=287) (dst:=5) rfl rfl rfl;obtain⟨_u28,hu28,h⟩:=bind_some h;have gu28:=yF hu28;have f29:=app_tight E48.len a0 (m:=1) (by decide)
   refine rg tok [4] fun K hK=>?_
   simp only[go_sem,qc,qf,qa,ql,reduceCtorEq,zM,z8,q1,qT,true_and,ub,yx,yC,t26,f27,gu28,f29,yS,uc,qZ,AV.one,qO,qK,qk,qr,qn,qM];apply hK
   refine yn (L:=[(4,.os true 1 1 0 0 (qb (a0++[qX (qI (IntKind.u8.wrap a1))])) false)]) (τ:=[.cells 0 [.int .u8 (IntKind.u8.wrap a1)],.cells 0 (qd encB (a0++[qX (qI (IntKind.u8.wrap a1))]))]) (.same (by first|exact⟨rfl,trivial⟩|rfl|(simp only[go_sem,Fits,qj,qk,qr,qn,and_self]<;>rfl)) (by first|exact⟨rfl,trivial⟩|rfl|(simp only[go_sem,encB,q5,qS,uj,qH,vaa]<;>rfl))) ?_;apply zR;cases h;simp only[wN,ym,yy,xo,exists_eq_left',go_sem,qe];refine⟨1,0,by simp,?_,?_⟩
   · first|rfl|(simp only[go_sem,qc,qf,qa,qe,ql,qs,reduceIte,reduceCtorEq,push_cast,if_true,qC,qn,qp,qm,qE,qq,qN,qJ,qu,qt,qw,zi]<;>rfl)
   first|rfl|(simp only[go_sem,push_cast,qm,zi]<;>rfl)
 clear h
 rintro m L τ ⟨k9,l3,x5,v4,rfl,rfl,rfl,h⟩
 rcases k9 with _|k9
 · cases h
 simp only[xr.l9] at h
 refine za fun Z10 hZ10=>?_
 refine rgN [0,1,12] ?_;refine zL rfl (fun hc11=>?_) (fun hc11=>?_)
 · rw[if_pos hc11] at h;have t12:=eq_true hc11;apply zd;apply hZ10;apply ze;have f13:=xU (T:=tab) (src:=287) (dst:=5) rfl rfl rfl;obtain⟨_u14,hu14,h⟩:=bind_some h;have gu14:=yF hu14;have f15:=(zy E48.len l3)
   refine rg tok [0,1] fun K hK=>?_
   simp only[go_sem,qc,qf,qa,ql,reduceCtorEq,zM,z8,q1,qT,true_and,ub,yx,zY,yC,t12,f13,gu14,f15,yS,uc,qZ,AV.one,qO,qK,qk,qr,qn,qM];apply hK
   refine yn (L:=[(0,.os true 1 0 (v4+1) 0 (qb (l3++[qX (qI (IntKind.u8.wrap ((um (qD 8 (IntKind.u8.wrap x5) ||| qD 8 128):Nat):Int)))])) false),(1,.int .u64 x5)]) (τ:=[.cells (v4+1) (qd encB (l3++[qX (qI (IntKind.u8.wrap ((um (qD 8 (IntKind.u8.wrap x5) ||| qD 8 128):Nat):Int)))])),.cells 0 [.int .u8 (IntKind.u8.wrap ((um (qD 8 (IntKind.u8.wrap x5) ||| qD 8 128):Nat):Int))]]) (.same (by first|exact⟨rfl,rfl,trivial⟩|rfl|(simp only[go_sem,reduceCtorEq,Fits,qj,qk,qr,qn,and_self]<;>rfl)) (by first|exact⟨rfl,rfl,trivial⟩|rfl|(simp only[go_sem,encB,q5,qS,uj,qH,vaa]<;>rfl))) ?_
   refine rgE tok [0,1] fun K hK=>?_
   simp only[go_sem,qc,qa,reduceCtorEq,YP,Int.reduceLT];apply hK
   exact⟨_,_,_,qy (0+k9),⟨k9,l3++[qX (qI (IntKind.u8.wrap ((um (qD 8 (IntKind.u8.wrap x5) ||| qD 8 128):Nat):Int)))],Int.fdiv x5 (2^(min (qI 7) 64)),v4+1,rfl,rfl,rfl,h⟩,(.t [0] false)⟩
 rw[if_neg hc11] at h;have t16:=eq_false hc11;apply zA;apply hZ2;have f17:=xU (T:=tab) (src:=287) (dst:=5) rfl rfl rfl;obtain⟨_u18,hu18,h⟩:=bind_some h;have gu18:=yF hu18;have f19:=(zy E48.len l3)
 refine rg tok [4] fun K hK=>?_
 simp only[go_sem,qc,qf,qa,ql,reduceCtorEq,zM,z8,q1,qT,true_and,ub,yx,zY,yC,t16,f17,gu18,f19,yS,uc,qZ,AV.one,qO,qK,qk,qr,qn,qM];apply hK
 refine yn (L:=[(4,.os true 1 0 (v4+1) 0 (qb (l3++[qX (qI (IntKind.u8.wrap x5))])) false)]) (τ:=[.cells (v4+1) (qd encB (l3++[qX (qI (IntKind.u8.wrap x5))])),.cells 0 [.int .u8 (IntKind.u8.wrap x5)]]) (.same (by first|exact⟨rfl,trivial⟩|rfl|(simp only[go_sem,Fits,qj,qk,qr,qn,and_self]<;>rfl)) (by first|exact⟨rfl,trivial⟩|rfl|(simp only[go_sem,encB,q5,qS,uj,qH,vaa]<;>rfl))) ?_;apply zR;cases h;simp only[wN,ym,yy,xo,exists_eq_left',go_sem,qe];refine⟨0,v4+1,by simp,?_,?_⟩
 · first|rfl|(simp only[go_sem,qc,qf,qa,qe,ql,qs,reduceIte,reduceCtorEq,push_cast,if_true,qC,qn,qp,qm,qE,qq,qN,qJ,qu,qt,qw,zi]<;>rfl)
 first|rfl|(simp only[go_sem,push_cast,qm,zi]<;>rfl)
theorem xr.ok (a0:List UInt8)(a1:Int)(r:List UInt8)(h:xr a0 a1=some r):ACalls qg 191 [.ds true (qd encB a0) (qb a0) false,.int .u64 a1] [] (fun r' _=>r'=.ds true (qd encB r) (qb r) false):=
 (xr.own a0 a1 r h).ownData (zy E48.len r) (by simp only[push_cast])
theorem xr.ev (a0:List UInt8)(a1:Int)(r:List UInt8)(h:xr a0 a1=some r)(σ:Store):ACalls qg 191 [.ds true (qd encB a0) (qb a0) false,.int .u64 a1] σ (fun r' σ'=>r'=.ds true (qd encB r) (qb r) false∧σ'=σ):=
 (xr.ok a0 a1 r h).c σ
def ZS (a0:Int):Int:=
 IntKind.u64.wrap ((um (qD 64 (IntKind.u64.wrap ((IntKind.u64.wrap a0)*2^(min (qI 1) 64))) ^^^ qD 64 (IntKind.u64.wrap (Int.fdiv a0 (2^(min (qI 63) 64))))):Nat):Int)
theorem ZS.ok (a0:Int)(r:Int)(h:ZS a0=r):ACalls qg 192 [.int .i64 a0] [] (fun r' _=>r'=.int .u64 r):=by
 refine zh (rs:=[.tmp 2]) tok Tryz.func192 rfl Tryz.ntmps192 rfl Tryz.call192 (by simp) ?_;refine zl [(0,.int .i64 a0)] ⟨rfl,trivial⟩ ?_;unfold ZS at h;refine rgN [0] ?_;have f1:=xU (T:=tab) (src:=3) (dst:=287) rfl rfl rfl;have f2:=xU (T:=tab) (src:=3) (dst:=287) rfl rfl rfl
 refine rg tok [2] fun K hK=>?_
 simp only[go_sem,qc,qa,reduceCtorEq,f1,YP,Int.reduceLT];apply hK
 cases h;exact rtA
theorem ZS.ev (a0:Int)(r:Int)(h:ZS a0=r)(σ:Store):ACalls qg 192 [.int .i64 a0] σ (fun r' σ'=>r'=.int .u64 r∧σ'=σ):=
 (ZS.ok a0 r h).c σ
def ZR (a0:List UInt8)(a1:GRaw):Option (List UInt8×Bool):=
 bnd (yw a1) fun r2=>(if (!r2)=true then some (a0,false) else (xr a0 (IntKind.u64.wrap (IntKind.i64.wrap ((IntKind.i64.wrap (2*a1.fTag))+a1.fWire)))).bind fun r5=>(if a1.fWire=0 then bnd (ZS a1.fN) fun r9=>(xr r5 r9).bind fun r10=>some (r10,true) else (xr r5 (IntKind.u64.wrap (qb a1.fB:Int))).bind fun r13=>(YJ (qb r13+qb a1.fB) 1).bind fun _u14=>some (r13++a1.fB,true)))
theorem ZR.ok (a0:List UInt8)(a1:GRaw)(r:List UInt8×Bool)(h:ZR a0 a1=some r):ACalls qg 148 [.ds true (qd encB a0) (qb a0) false,.agg (encGRaw a1)] [] (fun r' _=>r'=.tup [.ds true (qd encB r.1) (qb r.1) false,.bool r.2]):=by
 refine zh (rs:=[.tmp 4,.tmp 5]) tok Tryz.func148 rfl Tryz.ntmps148 rfl Tryz.call148 (by simp) ?_;refine zl [(0,.ds true (qd encB a0) (qb a0) false),(1,.agg (encGRaw a1))] ⟨rfl,rfl,trivial⟩ ?_;unfold ZR at h
 refine rg tok [0,3] fun K hK=>?_
 simp only[go_sem,qc,qa,qe,reduceCtorEq,encGRaw];apply hK
 refine za fun Z1 hZ1=>?_
 refine rc [0,3,9] fun K hK=>?_
 obtain⟨r2,hr2,h⟩:=zD h;refine rnN 1 ?_;refine clN rfl rfl rfl (yw.ev a1 r2 hr2 _) ?_;refine rnN 1 ?_;refine nkN hK ?_;refine zv (b:=(!r2)) rfl (fun hc3=>?_) (fun hc3=>?_)
 · rw[if_pos hc3] at h;refine rgN [4,5] ?_;cases h;exact rtA
 rw[wb hc3] at h;apply zd;apply hZ1
 refine rc [3,6] fun K hK=>?_
 have f4:=xU (T:=tab) (src:=3) (dst:=287) rfl rfl rfl;obtain⟨r5,hr5,h⟩:=bind_some h;refine zj tok 8 ?_;simp only[go_sem,qc,qa,qe,reduceCtorEq,f4];refine clN rfl rfl rfl (xr.ev a0 (IntKind.u64.wrap (IntKind.i64.wrap ((IntKind.i64.wrap (2*a1.fTag))+a1.fWire))) r5 hr5 _) ?_;refine rnN 1 ?_;refine nkN hK ?_
 refine za fun Z6 hZ6=>?_
 refine rgN [3,6,22] ?_;refine zL rfl (fun hc7=>?_) (fun hc7=>?_)
 · rw[if_pos hc7] at h;have t8:=eq_true hc7
   refine rc [4,5] fun K hK=>?_
   obtain⟨r9,hr9,h⟩:=zD h;refine zj tok 3 ?_;simp only[go_sem,qc,qa,qe,t8];refine clN rfl rfl rfl (ZS.ev a1.fN r9 hr9 _) ?_;obtain⟨r10,hr10,h⟩:=bind_some h;refine clN rfl rfl rfl (xr.ev r5 r9 r10 hr10 _) ?_;refine rnN 2 ?_;refine nkN hK ?_;cases h;exact rtA
 rw[if_neg hc7] at h;have t11:=eq_false hc7;apply zd;apply hZ6;have f12:=xU (T:=tab) (src:=3) (dst:=287) rfl rfl rfl;obtain⟨r13,hr13,h⟩:=bind_some h;obtain⟨_u14,hu14,h⟩:=bind_some h;have gu14:=yF hu14;have f15:=(zy E48.len r13)
 refine rd [4,5] fun K hK=>?_
 refine DW.start (T:=tab) [.any,.any,.at [],.at [],.at [],.eff,.any,.own 1 [],.eff,.any,.any] [(1,[])] ?_;refine DW.runN tok 5 ?_;simp only[go_sem,qc,qa,qe,t11,f12,qk,qr,qn];refine DW.callS rfl rfl rfl (@id (ACalls qg 191 [.ds true (qd encB r5) (qb r5) false,.int .u64 (IntKind.u64.wrap (qb a1.fB:Int))] [.cells 0 [.int .i64 a1.fTag,.int .i64 a1.fWire,.int .i64 a1.fN,.str a1.fB]] (fun r' σ'=>r'=.os true 1 1 0 0 (qb r13) false∧σ'=[.cells 0 [.int .i64 a1.fTag,.int .i64 a1.fWire,.int .i64 a1.fN,.str a1.fB],.cells 0 (qd encB r13)])) ((xr.own r5 (IntKind.u64.wrap (qb a1.fB:Int)) r13 hr13).ownAt0 (by simp only[push_cast]) (by simp only[push_cast]) _)) (Ya (by simp only[go_sem,qf])) ?_;refine DW.runN tok 5 ?_;simp only[go_sem,qc,qf,qa,qe,yx,zY,yC,true_and,gu14,f15,srcCells_s,Yw,ZU,qk,qr,qn];refine DW.fin tok (by decide +kernel) rfl ?_;simp only[zf,upd,qa,reduceIte,zV,yz];apply hK
 refine yn (L:=[(4,.os true 1 1 (0+1) 0 (qb (r13++a1.fB)) false),(5,.bool true)]) (τ:=[.cells 0 [.int .i64 a1.fTag,.int .i64 a1.fWire,.int .i64 a1.fN,.str a1.fB],.cells (0+1) (qd encB (r13++a1.fB))]) .s ?_;cases h;exact rtA
theorem ZR.ev (a0:List UInt8)(a1:GRaw)(r:List UInt8×Bool)(h:ZR a0 a1=some r)(σ:Store):ACalls qg 148 [.ds true (qd encB a0) (qb a0) false,.agg (encGRaw a1)] σ (fun r' σ'=>r'=.tup [.ds true (qd encB r.1) (qb r.1) false,.bool r.2]∧σ'=σ):=
 (ZR.ok a0 a1 r h).c σ
def yi.l11 : List GRaw→Int→List UInt8→Option (List UInt8×Int)
 |[],x8,x7=>some (x7,0)
 |y11::q11,x8,x7=>(ZR x7 y11).bind fun r17=>(if 4096<(qb r17.1:Int) then some (([]:List UInt8),4) else ((yi.l11 q11) (x8+1) r17.1))
def yi.l4 (a0:List GRaw):List GRaw→Int→Option (List UInt8×Int)
 |[],x2=>(yi.l11 a0 0 ([]:List UInt8))
 |y4::q4,x2=>bnd (yw y4) fun r25=>(if (!r25)=true then some (([]:List UInt8),1) else ((yi.l4 a0 q4) (x2+1)))
def yi (a0:List GRaw):Option (List UInt8×Int):=
 (yi.l4 a0 a0 0)
theorem yi.ok (a0:List GRaw)(r:List UInt8×Int)(h:yi a0=some r):ACalls qg 96 [.ds true (qd encGRaw a0) (qb a0) false] [] (fun r' _=>r'=.tup [.ds true (qd encB r.1) (qb r.1) false,.int .i64 r.2]):=by
 refine zh (rs:=[.tmp 2,.tmp 3]) tok Tryz.func96 rfl Tryz.ntmps96 rfl Tryz.call96 (by simp) ?_;refine zl [(0,.ds true (qd encGRaw a0) (qb a0) false)] ⟨rfl,trivial⟩ ?_;unfold yi at h;refine rgN [0] ?_
 refine za fun Z1 hZ1=>?_
 refine rgN [0,9,10,11] ?_;apply ze
 refine yD 0 fun hb4=>?_
 replace hb4:qb a0≤9223372036854775807:=hb4.1;refine zF (fun m L τ=>∃ (p4 q4:List GRaw) (x2:Int),m=qb q4∧L=[(0,.ds true (qd encGRaw a0) (qb a0) false),(9,.ds true (qd encGRaw a0) (qb a0) false),(10,.int .i64 (qb a0:Int)),(11,.int .i64 x2)]∧τ=[]∧a0=p4++q4∧x2=(qb p4:Int)∧yi.l4 a0 q4 x2=some r) _ ⟨[],a0,0,rfl,rfl,rfl,rfl,rfl,h⟩ .s ?_;rintro m L τ ⟨p4,q4,x2,rfl,rfl,rfl,hE4,hi4,h⟩
 rcases q4 with _|⟨y4,q4⟩
 · have hz4:=yH hE4 hi4;simp only[yi.l4] at h
   refine rg tok [0,9,10,11,12] fun K hK=>?_
   simp only[go_sem,qc,qa,reduceCtorEq,hz4];apply hK
   refine za fun Z5 hZ5=>?_
   refine zp rfl ?_;apply zA;apply hZ1;refine rgN [0,6] ?_
   refine za fun Z6 hZ6=>?_
   refine rgN [6,19,20,21] ?_;apply ze
   refine yD 19 fun hb11=>?_
   replace hb11:qb a0≤9223372036854775807:=hb11.1;refine zF (fun m L τ=>∃ (p11 q11:List GRaw) (x8:Int) (x7:List UInt8),m=qb q11∧L=[(6,.ds true (qd encB x7) (qb x7) false),(19,.ds true (qd encGRaw a0) (qb a0) false),(20,.int .i64 (qb a0:Int)),(21,.int .i64 x8)]∧τ=[]∧a0=p11++q11∧x8=(qb p11:Int)∧yi.l11 q11 x8 x7=some r) _ ⟨[],a0,0,([]:List UInt8),rfl,rfl,rfl,rfl,rfl,h⟩ (.t [] true) ?_;rintro m L τ ⟨p11,q11,x8,x7,rfl,rfl,rfl,hE11,hi11,h⟩
   rcases q11 with _|⟨y11,q11⟩
   · have hz11:=yH hE11 hi11;simp only[yi.l11] at h
     refine rg tok [6,19,20,21,22] fun K hK=>?_
     simp only[go_sem,qc,qa,hz11];apply hK
     refine za fun Z12 hZ12=>?_
     refine zp rfl ?_;apply zA;apply hZ6;refine rgN [2,3] ?_;cases h;exact rtA
   obtain⟨hz11,hw11,hx11,hE'11,hi'11⟩:=ya hE11 hi11 hb11;simp only[yi.l11] at h
   refine rg tok [6,19,20,21,22] fun K hK=>?_
   simp only[go_sem,qc,qa,hz11];apply hK
   refine za fun Z13 hZ13=>?_
   refine zs rfl ?_;apply zd;apply hZ13
   refine za fun Z14 hZ14=>?_
   apply ze;have f15:=E35.idxS hx11;have f16:=E35.loadS rfl rfl hx11
   refine rg tok [6,8,19,20,21] fun K hK=>?_
   simp only[go_sem,qc,qf,qa,qe,encGRaw,f15,f16];apply hK
   refine rc [6,19,20,21] fun K hK=>?_
   obtain⟨r17,hr17,h⟩:=bind_some h;refine rnN 2 ?_;refine clN rfl rfl rfl (ZR.ev x7 y11 r17 hr17 _) ?_;refine rnN 4 ?_;refine nkN hK ?_;refine rgN [6,19,20,21,33] ?_;refine zL rfl (fun hc18=>?_) (fun hc18=>?_)
   · rw[if_pos hc18] at h;have t19:=eq_true hc18
     refine rg tok [2,3] fun K hK=>?_
     simp only[go_sem,qc,qa,t19];apply hK
     cases h;exact rtA
   rw[if_neg hc18] at h;have t20:=eq_false hc18;apply zd;apply hZ14
   refine rgE tok [6,19,20,21] fun K hK=>?_
   simp only[go_sem,qc,qa,hw11,t20];apply hK
   exact⟨_,_,_,qy q11.length,⟨p11++[y11],q11,x8+1,r17.1,rfl,rfl,rfl,hE'11,hi'11,h⟩,(.t [] false)⟩
 obtain⟨hz4,hw4,hx4,hE'4,hi'4⟩:=ya hE4 hi4 hb4;simp only[yi.l4] at h
 refine rg tok [0,9,10,11,12] fun K hK=>?_
 simp only[go_sem,qc,qa,reduceCtorEq,hz4];apply hK
 refine za fun Z21 hZ21=>?_
 refine zs rfl ?_;apply zd;apply hZ21
 refine za fun Z22 hZ22=>?_
 apply ze;have f23:=E35.idxS hx4;have f24:=E35.loadS rfl rfl hx4
 refine rg tok [0,5,9,10,11] fun K hK=>?_
 simp only[go_sem,qc,qf,qa,qe,reduceCtorEq,encGRaw,f23,f24];apply hK
 refine rc [0,9,10,11,17] fun K hK=>?_
 obtain⟨r25,hr25,h⟩:=zD h;refine rnN 1 ?_;refine clN rfl rfl rfl (yw.ev y4 r25 hr25 _) ?_;refine rnN 1 ?_;refine nkN hK ?_;refine zv (b:=(!r25)) rfl (fun hc26=>?_) (fun hc26=>?_)
 · rw[if_pos hc26] at h;refine rgN [2,3] ?_;cases h;exact rtA
 rw[wb hc26] at h;apply zd;apply hZ22
 refine rgE tok [0,9,10,11] fun K hK=>?_
 simp only[go_sem,qc,qa,reduceCtorEq,hw4];apply hK
 exact⟨_,_,_,qy q4.length,⟨p4++[y4],q4,x2+1,rfl,rfl,rfl,hE'4,hi'4,h⟩,(.t [] false)⟩
theorem yi.ev (a0:List GRaw)(r:List UInt8×Int)(h:yi a0=some r)(σ:Store):ACalls qg 96 [.ds true (qd encGRaw a0) (qb a0) false] σ (fun r' σ'=>r'=.tup [.ds true (qd encB r.1) (qb r.1) false,.int .i64 r.2]∧σ'=σ):=
 (yi.ok a0 r h).c σ
def xp.body (yZ:GValueNode→Option (List UInt8×Int))(yl:Int→GValueValue→Option (GRaw×Int))(xg:GValueNode→Option (List GRaw×Int))(a0:GValueNode):Option (List UInt8×Int):=
 (xg a0).bind fun r1=>(if r1.2=0 then (yi r1.1).bind fun r6=>some (r6.1,r6.2) else some (([]:List UInt8),r1.2))
theorem xp.step (yZ:GValueNode→Option (List UInt8×Int))(yl:Int→GValueValue→Option (GRaw×Int))(xg:GValueNode→Option (List GRaw×Int))(w9:∀ (a0:GValueNode) (r:List UInt8×Int),yZ a0=some r→ACalls qg 230 [.dp (encGValueNode a0) 0] [] (fun r' _=>r'=.tup [.ds true (qd encB r.1) (qb r.1) false,.int .i64 r.2]))(ZG:∀ (a0:Int) (a1:GValueValue) (r:GRaw×Int),yl a0 a1=some r→ACalls qg 189 [.int .i64 a0,.agg (encGValueValue a1)] [] (fun r' _=>r'=.tup [.agg (encGRaw r.1),.int .i64 r.2]))(Zq:∀ (a0:GValueNode) (r:List GRaw×Int),xg a0=some r→ACalls qg 145 [.dp (encGValueNode a0) 0] [] (fun r' _=>r'=.tup [.ds true (qd encGRaw r.1) (qb r.1) false,.int .i64 r.2]))(a0:GValueNode)(r:List UInt8×Int)(h:xp.body yZ yl xg a0=some r):ACalls qg 230 [.dp (encGValueNode a0) 0] [] (fun r' _=>r'=.tup [.ds true (qd encB r.1) (qb r.1) false,.int .i64 r.2]):=by
 have ev_encode_bytes:=fun a0 r h σ=>(w9 a0 r h).c σ
 have ev_encode_raw:=fun a0 a1 r h σ=>(ZG a0 a1 r h).c σ
 have ev_encode_raws:=fun a0 r h σ=>(Zq a0 r h).c σ
 refine zh (rs:=[.tmp 2,.tmp 3]) tok Tryz.func230 rfl Tryz.ntmps230 rfl Tryz.call230 (by simp) ?_;refine zl [(0,.dp (encGValueNode a0) 0)] ⟨rfl,trivial⟩ ?_;unfold xp.body at h;refine rgN [0] ?_
 refine rc [4,5] fun K hK=>?_
 obtain⟨r1,hr1,h⟩:=bind_some h;refine rnN 1 ?_;refine clN rfl rfl rfl (ev_encode_raws a0 r1 hr1 _) ?_;refine rnN 5 ?_;refine nkN hK ?_
 refine za fun Z2 hZ2=>?_
 refine rgN [4,5,12] ?_;refine zL rfl (fun hc3=>?_) (fun hc3=>?_)
 · rw[if_neg hc3] at h;have t4:=eq_false hc3
   refine rg tok [2,3] fun K hK=>?_
   simp only[go_sem,qc,qa,t4];apply hK
   cases h;exact rtA
 rw[if_pos hc3] at h;have t5:=eq_true hc3;apply zd;apply hZ2
 refine rc [2,3] fun K hK=>?_
 obtain⟨r6,hr6,h⟩:=bind_some h;refine zj tok 1 ?_;simp only[go_sem,qc,qa,t5];refine clN rfl rfl rfl (yi.ev r1.1 r6 hr6 _) ?_;refine rnN 4 ?_;refine nkN hK ?_;cases h;exact rtA
def yP.j3 (m1_2:GRaw):Option (GRaw×Int):=
 (if 4096<(qb m1_2.fB:Int) then some ((⟨0,0,0,[]⟩:GRaw),4) else some (m1_2,0))
def yP.body (yZ:GValueNode→Option (List UInt8×Int))(yl:Int→GValueValue→Option (GRaw×Int))(xg:GValueNode→Option (List GRaw×Int))(a0:Int)(a1:GValueValue):Option (GRaw×Int):=
 (wt a1).bind fun r8=>(match r8 with|.nil=>(yP.j3 (⟨a0,1,0,[]⟩:GRaw))|.num n9=>some ((⟨a0,0,n9,[]⟩:GRaw),0)|.str s9=>(yP.j3 (⟨a0,1,0,s9⟩:GRaw))|.node e9 r9=>(yZ (⟨e9,r9⟩:GValueNode)).bind fun r10=>(if r10.2=0 then (yP.j3 (⟨a0,1,0,r10.1⟩:GRaw)) else some ((⟨0,0,0,[]⟩:GRaw),r10.2)))
theorem yP.step (yZ:GValueNode→Option (List UInt8×Int))(yl:Int→GValueValue→Option (GRaw×Int))(xg:GValueNode→Option (List GRaw×Int))(w9:∀ (a0:GValueNode) (r:List UInt8×Int),yZ a0=some r→ACalls qg 230 [.dp (encGValueNode a0) 0] [] (fun r' _=>r'=.tup [.ds true (qd encB r.1) (qb r.1) false,.int .i64 r.2]))(ZG:∀ (a0:Int) (a1:GValueValue) (r:GRaw×Int),yl a0 a1=some r→ACalls qg 189 [.int .i64 a0,.agg (encGValueValue a1)] [] (fun r' _=>r'=.tup [.agg (encGRaw r.1),.int .i64 r.2]))(Zq:∀ (a0:GValueNode) (r:List GRaw×Int),xg a0=some r→ACalls qg 145 [.dp (encGValueNode a0) 0] [] (fun r' _=>r'=.tup [.ds true (qd encGRaw r.1) (qb r.1) false,.int .i64 r.2]))(a0:Int)(a1:GValueValue)(r:GRaw×Int)(h:yP.body yZ yl xg a0 a1=some r):ACalls qg 189 [.int .i64 a0,.agg (encGValueValue a1)] [] (fun r' _=>r'=.tup [.agg (encGRaw r.1),.int .i64 r.2]):=by
 have ev_encode_bytes:=fun a0 r h σ=>(w9 a0 r h).c σ
 have ev_encode_raw:=fun a0 a1 r h σ=>(ZG a0 a1 r h).c σ
 have ev_encode_raws:=fun a0 r h σ=>(Zq a0 r h).c σ
 refine zh (rs:=[.cell 4 139,.tmp 5]) tok Tryz.func189 rfl Tryz.ntmps189 rfl Tryz.call189 (by simp) ?_;refine zl [(0,.int .i64 a0),(1,.agg (encGValueValue a1))] ⟨rfl,rfl,trivial⟩ ?_;unfold yP.body at h;have f1:=wW a1;unfold AV.one at f1
 refine rg tok [0,3,4] fun K hK=>?_
 simp only[go_sem,qc,qa,reduceCtorEq,encGValueValue,f1];apply hK
 refine rgN [0,3,4,6] ?_;refine yU (fun L τ=>∃ (m1_2:GRaw),L=[(4,.op 0 0 0),(6,.op 1 0 0)]∧τ=[.cells 0 [.int .i64 0,.int .i64 0,.int .i64 0,.str []],.cells 0 [.int .i64 m1_2.fTag,.int .i64 m1_2.fWire,.int .i64 m1_2.fN,.str m1_2.fB]]∧yP.j3 m1_2=some r) ?_ ?_
 · refine rc [0,4,6,15] fun K hK=>?_
   obtain⟨r8,hr8,h⟩:=bind_some h;refine rnN 1 ?_;refine clN rfl rfl rfl (wt.ev a1 r8 hr8 _) ?_;refine nkN hK ?_;apply ze
   rcases r8 with _|n9|s9|⟨e9,r9⟩
   · dsimp only at h
     try simp only[vbC]
     refine rg tok [0,4,6,15,17,18] fun K hK=>?_
     simp only[go_sem,qc,qa,qe,reduceCtorEq,yK,yL,TypeDesc.isIface];apply hK
     refine zp rfl ?_
     refine rg tok [4,6,15,23,24] fun K hK=>?_
     simp only[go_sem,qc,qa,qe,reduceCtorEq,yK,yL,TypeDesc.isIface];apply hK
     refine zp rfl ?_
     refine rg tok [4,6,28,29] fun K hK=>?_
     simp only[go_sem,qc,qa,qe,yK,yL,TypeDesc.isIface];apply hK
     refine zp rfl ?_;apply zd;exact⟨_,_,⟨(⟨a0,1,0,[]⟩:GRaw),rfl,rfl,h⟩,(.t [1,2] false)⟩
   · dsimp only at h
     try simp only[vbB]
     refine rg tok [0,4,6,15,17,18] fun K hK=>?_
     simp only[go_sem,qc,qa,qe,reduceCtorEq,yK,yL,TypeDesc.isIface];apply hK
     refine zs rfl ?_;refine rgN [0,4,7] ?_;refine rgN [4,5] ?_;cases h;exact rtA
   · dsimp only at h
     try simp only[vbA]
     refine rg tok [0,4,6,15,17,18] fun K hK=>?_
     simp only[go_sem,qc,qa,qe,reduceCtorEq,yK,yL,TypeDesc.isIface];apply hK
     refine zp rfl ?_
     refine rg tok [4,6,15,23,24] fun K hK=>?_
     simp only[go_sem,qc,qa,qe,reduceCtorEq,yK,yL,TypeDesc.isIface];apply hK
     refine zs rfl ?_;refine rgN [4,6,8] ?_
     refine rgE tok [4,6] fun K hK=>?_
     simp only[go_sem,qc,qf,qa,qe];apply hK
     exact⟨_,_,⟨(⟨a0,1,0,s9⟩:GRaw),rfl,rfl,h⟩,(.t [1,2] false)⟩
   dsimp only at h
   try simp only[vaH]
   refine rg tok [0,4,6,15,17,18] fun K hK=>?_
   simp only[go_sem,qc,qa,qe,reduceCtorEq,yK,yL,TypeDesc.isIface];apply hK
   refine zp rfl ?_
   refine rg tok [4,6,15,23,24] fun K hK=>?_
   simp only[go_sem,qc,qa,qe,reduceCtorEq,yK,yL,TypeDesc.isIface];apply hK
   refine zp rfl ?_
   refine rg tok [4,6,28,29] fun K hK=>?_
   simp only[go_sem,qc,qa,qe,yK,yL,TypeDesc.isIface];apply hK
   refine zs rfl ?_;refine rgN [4,6,9] ?_
   refine rc [4,6,10,11] fun K hK=>?_
   obtain⟨r10,hr10,h⟩:=bind_some h;refine rnN 1 ?_;refine clN rfl rfl rfl (ev_encode_bytes (⟨e9,r9⟩:GValueNode) r10 hr10 _) ?_;refine rnN 5 ?_;refine nkN hK ?_
   refine za fun Z11 hZ11=>?_
   refine rgN [4,6,10,11,36] ?_;refine zL rfl (fun hc12=>?_) (fun hc12=>?_)
   · rw[if_neg hc12] at h;have t13:=eq_false hc12
     refine rg tok [4,5] fun K hK=>?_
     simp only[go_sem,qc,qf,qa,qe,t13];apply hK
     cases h;exact rtA
   rw[if_pos hc12] at h;have t14:=eq_true hc12;apply zd;apply hZ11;have f15:=XW (T:=tab) (src:=48) (dst:=9) rfl rfl rfl rfl rfl rfl r10.1
   refine rgE tok [4,6] fun K hK=>?_
   simp only[go_sem,qc,qf,qa,qe,t14,f15];apply hK
   exact⟨_,_,⟨(⟨a0,1,0,r10.1⟩:GRaw),rfl,rfl,h⟩,(.t [1,2] false)⟩
 rintro _ _ ⟨m1_2,rfl,rfl,h⟩;unfold yP.j3 at h
 refine za fun Z4 hZ4=>?_
 refine rgN [4,6,45] ?_;refine zL rfl (fun hc5=>?_) (fun hc5=>?_)
 · rw[if_pos hc5] at h;have t6:=eq_true hc5
   refine rg tok [4,5] fun K hK=>?_
   simp only[go_sem,qc,qf,qa,qe,t6];apply hK
   cases h;exact rtA
 rw[if_neg hc5] at h;have t7:=eq_false hc5;apply zd;apply hZ4
 refine rg tok [4,5] fun K hK=>?_
 simp only[go_sem,qc,qf,qa,qe,t7];apply hK
 cases h;exact rtA
def zT.l24 (yl:Int→GValueValue→Option (GRaw×Int))(x6:Int)(rec10:Int→List GRaw→Option (List GRaw×Int))(y10:Int):List GValueValue→Int→List GRaw→Option (List GRaw×Int)
 |[],x20,l18=>(rec10 (x6+1) l18)
 |y24::q24,x20,l18=>(yl y10 y24).bind fun r31=>(if r31.2=0 then (YJ (qb l18+1) 40).bind fun _u36=>((zT.l24 yl x6 rec10 y10 q24) (x20+1) (l18++[r31.1])) else some (([]:List GRaw),r31.2))
def zT.l10 (yl:Int→GValueValue→Option (GRaw×Int))(a0:GValueNode):List Int→Int→List GRaw→Option (List GRaw×Int)
 |[],x6,l4=>(zP l4).bind fun r12=>some (r12,0)
 |y10::q10,x6,l4=>(ye a0 y10).bind fun r17=>(zT.l24 yl x6 (zT.l10 yl a0 q10) y10 r17 0 l4)
def zT.body (yZ:GValueNode→Option (List UInt8×Int))(yl:Int→GValueValue→Option (GRaw×Int))(xg:GValueNode→Option (List GRaw×Int))(a0:GValueNode):Option (List GRaw×Int):=
 (y5 a0).bind fun r1=>(yd a0).bind fun r3=>(zT.l10 yl a0 r3 0 r1)
theorem zT.step (yZ:GValueNode→Option (List UInt8×Int))(yl:Int→GValueValue→Option (GRaw×Int))(xg:GValueNode→Option (List GRaw×Int))(w9:∀ (a0:GValueNode) (r:List UInt8×Int),yZ a0=some r→ACalls qg 230 [.dp (encGValueNode a0) 0] [] (fun r' _=>r'=.tup [.ds true (qd encB r.1) (qb r.1) false,.int .i64 r.2]))(ZG:∀ (a0:Int) (a1:GValueValue) (r:GRaw×Int),yl a0 a1=some r→ACalls qg 189 [.int .i64 a0,.agg (encGValueValue a1)] [] (fun r' _=>r'=.tup [.agg (encGRaw r.1),.int .i64 r.2]))(Zq:∀ (a0:GValueNode) (r:List GRaw×Int),xg a0=some r→ACalls qg 145 [.dp (encGValueNode a0) 0] [] (fun r' _=>r'=.tup [.ds true (qd encGRaw r.1) (qb r.1) false,.int .i64 r.2]))(a0:GValueNode)(r:List GRaw×Int)(h:zT.body yZ yl xg a0=some r):ACalls qg 145 [.dp (encGValueNode a0) 0] [] (fun r' _=>r'=.tup [.ds true (qd encGRaw r.1) (qb r.1) false,.int .i64 r.2]):=by
 have ev_encode_bytes:=fun a0 r h σ=>(w9 a0 r h).c σ
 have ev_encode_raw:=fun a0 a1 r h σ=>(ZG a0 a1 r h).c σ
 have ev_encode_raws:=fun a0 r h σ=>(Zq a0 r h).c σ
 refine zh (rs:=[.tmp 2,.tmp 3]) tok Tryz.func145 rfl Tryz.ntmps145 rfl Tryz.call145 (by simp) ?_;refine zl [(0,.dp (encGValueNode a0) 0)] ⟨rfl,trivial⟩ ?_;unfold zT.body at h;refine rgN [0] ?_
 refine rc [0,4] fun K hK=>?_
 obtain⟨r1,hr1,h⟩:=bind_some h;refine rnN 1 ?_;refine clN rfl rfl rfl (@id (ACalls qg 186 [.dp (encGValueNode a0) 0] [] (fun r' σ'=>r'=.os true 4 0 0 0 (qb r1) false∧σ'=[.cells 0 (qd encGRaw r1)])) ((y5.own a0 r1 hr1).ownAt0 (by simp only[push_cast]) (by simp only[push_cast]) _)) ?_;refine rnN 1 ?_;refine nkN hK ?_
 refine za fun Z2 hZ2=>?_
 refine rc [0,4,14,15,16] fun K hK=>?_
 obtain⟨r3,hr3,h⟩:=bind_some h;refine rnN 1 ?_;refine clN rfl rfl rfl (yd.ev a0 r3 hr3 _) ?_;refine rnN 2 ?_;refine nkN hK ?_;apply ze
 refine yD 14 fun hb10=>?_
 replace hb10:qb r3≤9223372036854775807:=hb10.1;refine zF (fun m L τ=>∃ (p10 q10:List Int) (x6:Int) (l4:List GRaw) (v5:Nat),m=qb q10∧L=[(0,.dp (encGValueNode a0) 0),(4,.os true 4 0 v5 0 (qb l4) false),(14,.ds true (qd encI r3) (qb r3) false),(15,.int .i64 (qb r3:Int)),(16,.int .i64 x6)]∧τ=[.cells v5 (qd encGRaw l4)]∧r3=p10++q10∧x6=(qb p10:Int)∧zT.l10 yl a0 q10 x6 l4=some r) _ ⟨[],r3,0,r1,0,rfl,rfl,rfl,rfl,rfl,h⟩ .s ?_;rintro m L τ ⟨p10,q10,x6,l4,v5,rfl,rfl,rfl,hE10,hi10,h⟩
 rcases q10 with _|⟨y10,q10⟩
 · have hz10:=yH hE10 hi10;simp only[zT.l10] at h
   refine rg tok [0,4,14,15,16,17] fun K hK=>?_
   simp only[go_sem,qc,qa,reduceCtorEq,hz10];apply hK
   refine za fun Z11 hZ11=>?_
   refine zp rfl ?_;apply zA;apply hZ2
   refine rc [2,3] fun K hK=>?_
   obtain⟨r12,hr12,h⟩:=bind_some h;refine rnN 1 ?_;refine YZ (L:=[(43,.ds true (qd encGRaw l4) (qb l4) false)]) (τ:=[]) (.t [] false) ?_;refine clN rfl rfl rfl (zP.ev l4 r12 hr12 _) ?_;refine rnN 2 ?_;refine nkN hK ?_;cases h;exact rtA
 obtain⟨hz10,hw10,hx10,hE'10,hi'10⟩:=ya hE10 hi10 hb10;simp only[zT.l10] at h
 refine rg tok [0,4,14,15,16,17] fun K hK=>?_
 simp only[go_sem,qc,qa,reduceCtorEq,hz10];apply hK
 refine za fun Z13 hZ13=>?_
 refine zs rfl ?_;apply zd;apply hZ13
 refine za fun Z14 hZ14=>?_
 apply ze;have f15:=E26.idxS hx10;have f16:=E26.fldS0 (f:=3) rfl rfl hx10
 refine rg tok [0,4,6,14,15,16] fun K hK=>?_
 simp only[go_sem,qc,qa,reduceCtorEq,encI,f15,f16];apply hK
 refine rc [0,4,6,14,15,16,22,23,24] fun K hK=>?_
 obtain⟨r17,hr17,h⟩:=bind_some h;refine rnN 2 ?_;refine clN rfl rfl rfl (ye.ev a0 y10 r17 hr17 _) ?_;refine rnN 2 ?_;refine nkN hK ?_;apply ze
 refine yD 22 fun hb24=>?_
 replace hb24:qb r17≤9223372036854775807:=hb24.1;refine zF (fun m L τ=>∃ (p24 q24:List GValueValue) (x20:Int) (l18:List GRaw) (v19:Nat),m=qb q24∧L=[(0,.dp (encGValueNode a0) 0),(4,.os true 4 0 v19 0 (qb l18) false),(6,.int .i64 y10),(14,.ds true (qd encI r3) (qb r3) false),(15,.int .i64 (qb r3:Int)),(16,.int .i64 x6),(22,.ds true (qd encGValueValue r17) (qb r17) false),(23,.int .i64 (qb r17:Int)),(24,.int .i64 x20)]∧τ=[.cells v19 (qd encGRaw l18)]∧r17=p24++q24∧x20=(qb p24:Int)∧zT.l24 yl x6 (zT.l10 yl a0 q10) y10 q24 x20 l18=some r) _ ⟨[],r17,0,l4,v5,rfl,rfl,rfl,rfl,rfl,h⟩ .s ?_;rintro m L τ ⟨p24,q24,x20,l18,v19,rfl,rfl,rfl,hE24,hi24,h⟩
 rcases q24 with _|⟨y24,q24⟩
 · have hz24:=yH hE24 hi24;simp only[zT.l24] at h
   refine rg tok [0,4,6,14,15,16,22,23,24,25] fun K hK=>?_
   simp only[go_sem,qc,qa,reduceCtorEq,hz24];apply hK
   refine za fun Z25 hZ25=>?_
   refine zp rfl ?_;apply zA;apply hZ14
   refine rgE tok [0,4,14,15,16] fun K hK=>?_
   simp only[go_sem,qc,qa,reduceCtorEq,hw10];apply hK
   exact⟨_,_,_,qy q10.length,⟨p10++[y10],q10,x6+1,l18,v19,rfl,rfl,rfl,hE'10,hi'10,h⟩,.s⟩
 obtain⟨hz24,hw24,hx24,hE'24,hi'24⟩:=ya hE24 hi24 hb24;simp only[zT.l24] at h
 refine rg tok [0,4,6,14,15,16,22,23,24,25] fun K hK=>?_
 simp only[go_sem,qc,qa,reduceCtorEq,hz24];apply hK
 refine za fun Z26 hZ26=>?_
 refine zs rfl ?_;apply zd;apply hZ26
 refine za fun Z27 hZ27=>?_
 apply ze;have f28:=E282.idxS hx24;have f29:=E282.loadS rfl rfl hx24;have f30:=wW y24;unfold AV.one at f30
 refine rg tok [0,4,6,8,14,15,16,22,23,24] fun K hK=>?_
 simp only[go_sem,qc,qf,qa,reduceCtorEq,encGValueValue,f28,f29,f30];apply hK
 refine rc [0,4,6,9,10,14,15,16,22,23,24] fun K hK=>?_
 obtain⟨r31,hr31,h⟩:=bind_some h;refine rnN 2 ?_;refine clN rfl rfl rfl (ev_encode_raw y10 y24 r31 hr31 _) ?_;refine zj tok 6 ?_;simp only[go_sem,qc,qf,qa,qe,reduceCtorEq,encGRaw];refine nkN hK ?_
 refine za fun Z32 hZ32=>?_
 refine rgN [0,4,6,9,10,14,15,16,22,23,24,35] ?_;refine zL rfl (fun hc33=>?_) (fun hc33=>?_)
 · rw[if_neg hc33] at h;have t34:=eq_false hc33
   refine rg tok [2,3] fun K hK=>?_
   simp only[go_sem,qc,qa,reduceCtorEq,t34];apply hK
   cases h;exact rtA
 rw[if_pos hc33] at h;have t35:=eq_true hc33;apply zd;apply hZ32;obtain⟨_u36,hu36,h⟩:=bind_some h;have gu36:=yF hu36;have f37:=(zy E35.len l18)
 refine rgE tok [0,4,6,14,15,16,22,23,24] fun K hK=>?_
 simp only[go_sem,qc,qf,qa,qe,ql,reduceCtorEq,zM,z8,q1,qT,true_and,ub,yx,zY,yC,t35,gu36,f37,yS,uc,qZ,AV.one,qO,qK,qk,qr,qn,qM];apply hK
 apply hZ27
 refine rgE tok [0,4,6,14,15,16,22,23,24] fun K hK=>?_
 simp only[go_sem,qc,qa,reduceCtorEq,hw24];apply hK
 exact⟨_,_,_,qy q24.length,⟨p24++[y24],q24,x20+1,l18++[r31.1],v19+1,rfl,rfl,rfl,hE'24,hi'24,h⟩,(.t [0] false)⟩
end
section
set_option maxRecDepth 4000
set_option maxHeartbeats 1000000
open AM
mutual
def xp : Nat→GValueNode→Option (List UInt8×Int)
 |0,_=>none
 |k+1,a0=>xp.body (xp k) (yP k) (zT k) a0
def yP : Nat→Int→GValueValue→Option (GRaw×Int)
 |0,_,_=>none
 |k+1,a0,a1=>yP.body (xp k) (yP k) (zT k) a0 a1
def zT : Nat→GValueNode→Option (List GRaw×Int)
 |0,_=>none
 |k+1,a0=>zT.body (xp k) (yP k) (zT k) a0
end
theorem xp.all (k:Nat):(∀ (a0:GValueNode) (r:List UInt8×Int),xp k a0=some r→ACalls qg 230 [.dp (encGValueNode a0) 0] [] (fun r' _=>r'=.tup [.ds true (qd encB r.1) (qb r.1) false,.int .i64 r.2]))∧(∀ (a0:Int) (a1:GValueValue) (r:GRaw×Int),yP k a0 a1=some r→ACalls qg 189 [.int .i64 a0,.agg (encGValueValue a1)] [] (fun r' _=>r'=.tup [.agg (encGRaw r.1),.int .i64 r.2]))∧(∀ (a0:GValueNode) (r:List GRaw×Int),zT k a0=some r→ACalls qg 145 [.dp (encGValueNode a0) 0] [] (fun r' _=>r'=.tup [.ds true (qd encGRaw r.1) (qb r.1) false,.int .i64 r.2])):=by
 induction k with
 |zero=>exact⟨(fun a0 r h=>by simp only[xp] at h; cases h),(fun a0 a1 r h=>by simp only[yP] at h; cases h),(fun a0 r h=>by simp only[zT] at h; cases h)⟩
 |succ k ih=>exact⟨(fun a0 r h=>xp.step _ _ _ ih.1 ih.2.1 ih.2.2 a0 r (by simpa only [xp] using h)),(fun a0 a1 r h=>yP.step _ _ _ ih.1 ih.2.1 ih.2.2 a0 a1 r (by simpa only [yP] using h)),(fun a0 r h=>zT.step _ _ _ ih.1 ih.2.1 ih.2.2 a0 r (by simpa only [zT] using h))⟩
theorem zT.ev (k:Nat)(a0:GValueNode)(r:List GRaw×Int)(h:zT k a0=some r)(σ:Store):ACalls qg 145 [.dp (encGValueNode a0) 0] σ (fun r' σ'=>r'=.tup [.ds true (qd encGRaw r.1) (qb r.1) false,.int .i64 r.2]∧σ'=σ):=
 ((xp.all k).2.2 a0 r h).c σ
def wM (a0:GTree):Option (List GRaw×Int):=
 (Zi a0).bind fun r1=>(if ((!r1.2)||(!(decide (a0.fKind=3))))=true then some (([]:List GRaw),1) else (yA r1.1).bind fun r5=>(zT rounds r5).bind fun r6=>some (r6.1,r6.2))
theorem wM.ok (a0:GTree)(r:List GRaw×Int)(h:wM a0=some r):ACalls qg 95 [.agg (cellsGTree a0)] [] (fun r' _=>r'=.tup [.ds true (qd encGRaw r.1) (qb r.1) false,.int .i64 r.2]):=by
 refine zh (rs:=[.tmp 2,.tmp 3]) tok Tryz.func95 rfl Tryz.ntmps95 rfl Tryz.call95 (by simp) ?_;refine zl [(0,.agg (cellsGTree a0))] ⟨rfl,trivial⟩ ?_;unfold wM at h
 refine rg tok [1] fun K hK=>?_
 simp only[go_sem,qc,qa,qe,reduceCtorEq,cellsGTree];apply hK
 refine rc [1,4,5] fun K hK=>?_
 obtain⟨r1,hr1,h⟩:=bind_some h;refine rnN 1 ?_;refine clN rfl rfl rfl (Zi.ev a0 r1 hr1 _) ?_;have f2:=wW r1.1;unfold AV.one at f2;refine zj tok 6 ?_;simp only[go_sem,qc,qf,qa,qe,encGValueValue,f2];refine nkN hK ?_
 refine za fun Z3 hZ3=>?_
 refine rc [4,17] fun K hK=>?_
 refine rnN 3 ?_;refine zq 4 (fun L τ=>L=[(4,.op 1 0 0),(17,.bool ((!r1.2)||(!(decide (a0.fKind=3)))))]∧τ=[.cells 0 (cellsGTree a0),.cells 0 [ifcV r1.1]]) ?_ ?_
 · refine yf (b:=(!r1.2)) 13 rfl (fun hg13=>?_) (fun hg13=>?_)
   · refine rnN 4 ?_;refine zb ⟨rfl,_,_,⟨rfl,rfl⟩,.b hg13⟩
   refine rnN 4 ?_;refine zb ⟨rfl,_,_,⟨rfl,rfl⟩,.b hg13⟩
 rintro _ _ ⟨rfl,rfl⟩;refine nkN hK ?_;refine zv (b:=((!r1.2)||(!(decide (a0.fKind=3))))) rfl (fun hc4=>?_) (fun hc4=>?_)
 · rw[if_pos hc4] at h;refine rgN [2,3] ?_;cases h;exact rtA
 rw[wb hc4] at h;apply zd;apply hZ3
 refine rc [2,3] fun K hK=>?_
 obtain⟨r5,hr5,h⟩:=bind_some h;refine rnN 1 ?_;refine clN rfl rfl rfl (yA.ev r1.1 r5 hr5 _) ?_;obtain⟨r6,hr6,h⟩:=bind_some h;refine clN rfl rfl rfl (zT.ev rounds r5 r6 hr6 _) ?_;refine rnN 4 ?_;refine nkN hK ?_;cases h;exact rtA
theorem wM.ev (a0:GTree)(r:List GRaw×Int)(h:wM a0=some r)(σ:Store):ACalls qg 95 [.agg (cellsGTree a0)] σ (fun r' σ'=>r'=.tup [.ds true (qd encGRaw r.1) (qb r.1) false,.int .i64 r.2]∧σ'=σ):=
 (wM.ok a0 r h).c σ
def xF (a0:GTree):Option (List UInt8×Int):=
 (wM a0).bind fun r1=>(if r1.2=0 then (yi r1.1).bind fun r6=>some (r6.1,r6.2) else some (([]:List UInt8),r1.2))
theorem xF.ok (a0:GTree)(r:List UInt8×Int)(h:xF a0=some r):ACalls qg 62 [.agg (cellsGTree a0)] [] (fun r' _=>r'=.tup [.ds true (qd encB r.1) (qb r.1) false,.int .i64 r.2]):=by
 refine zh (rs:=[.tmp 2,.tmp 3]) tok Tryz.func62 rfl Tryz.ntmps62 rfl Tryz.call62 (by simp) ?_;refine zl [(0,.agg (cellsGTree a0))] ⟨rfl,trivial⟩ ?_;unfold xF at h
 refine rg tok [1] fun K hK=>?_
 simp only[go_sem,qc,qa,qe,reduceCtorEq,cellsGTree];apply hK
 refine rc [4,5] fun K hK=>?_
 obtain⟨r1,hr1,h⟩:=bind_some h;refine rnN 1 ?_;refine clN rfl rfl rfl (wM.ev a0 r1 hr1 _) ?_;refine rnN 5 ?_;refine nkN hK ?_
 refine za fun Z2 hZ2=>?_
 refine rgN [4,5,12] ?_;refine zL rfl (fun hc3=>?_) (fun hc3=>?_)
 · rw[if_neg hc3] at h;have t4:=eq_false hc3
   refine rg tok [2,3] fun K hK=>?_
   simp only[go_sem,qc,qa,t4];apply hK
   cases h;exact rtA
 rw[if_pos hc3] at h;have t5:=eq_true hc3;apply zd;apply hZ2
 refine rc [2,3] fun K hK=>?_
 obtain⟨r6,hr6,h⟩:=bind_some h;refine zj tok 1 ?_;simp only[go_sem,qc,qa,t5];refine clN rfl rfl rfl (yi.ev r1.1 r6 hr6 _) ?_;refine rnN 4 ?_;refine nkN hK ?_;cases h;exact rtA
theorem xF.ev (a0:GTree)(r:List UInt8×Int)(h:xF a0=some r)(σ:Store):ACalls qg 62 [.agg (cellsGTree a0)] σ (fun r' σ'=>r'=.tup [.ds true (qd encB r.1) (qb r.1) false,.int .i64 r.2]∧σ'=σ):=
 (xF.ok a0 r h).c σ
def yq.l26 (a0:GClientClient)(a1:List UInt8)(a2:GTree):List Int→Int→List UInt8→Option (GPacket×Int×GClientClient)
 |[],x22,l20=>some ((⟨1,a0.fself,a0.fserver,IntKind.i64.wrap (a0.fid+1),0,[],0,l20⟩:GPacket),0,(⟨a0.fself,a0.fserver,a0.fnumbers,a0.fschemas,IntKind.i64.wrap (a0.fid+1),1,a1,a2,a0.fagreed,(⟨1,a0.fself,a0.fserver,IntKind.i64.wrap (a0.fid+1),0,[],0,l20⟩:GPacket),(none:Option GClientResult)⟩:GClientClient))
 |y26::q26,x22,l20=>(YJ (qb l20+1) 1).bind fun _u34=>((yq.l26 a0 a1 a2 q26) (x22+1) (l20++[qX (qI (IntKind.u8.wrap y26))]))
def yq (a0:GClientClient)(a1:List UInt8)(a2:GTree):Option (GPacket×Int×GClientClient):=
 (yB a0).bind fun r1=>bnd (yG r1 a1) fun r2=>(if a0.fwaits=0 then (if (!r2.2)=true then some ((⟨0,0,0,0,0,[],0,[]⟩:GPacket),21,a0) else (yB a0).bind fun r9=>(wB r9 r2.1.fIn a2).bind fun r10=>(if r10=0 then (xF a2).bind fun r15=>(if r15.2=0 then (yq.l26 a0 a1 a2 a0.fnumbers 0 ([]:List UInt8)) else some ((⟨0,0,0,0,0,[],0,[]⟩:GPacket),r15.2,a0)) else some ((⟨0,0,0,0,0,[],0,[]⟩:GPacket),r10,a0))) else some ((⟨0,0,0,0,0,[],0,[]⟩:GPacket),19,a0))
theorem yq.ok (a0:GClientClient)(a1:List UInt8)(a2:GTree)(r:GPacket×Int×GClientClient)(h:yq a0 a1 a2=some r):ACalls qg 18 [.op 0 0 0,.str a1,.agg (cellsGTree a2)] [.cells 0 (encGClientClient a0)] (fun r' σ'=>r'=.tup [.agg (encGPacket r.1),.int .i64 r.2.1]∧σ'=[.cells 0 (encGClientClient r.2.2)]):=by
 refine ww [0] (rs:=[.cell 6 43,.tmp 7]) tok Tryz.func18 rfl Tryz.ntmps18 rfl Tryz.call18 (by simp) rfl ?_;refine zl [(0,.op 0 0 0),(1,.str a1),(2,.agg (cellsGTree a2))] ⟨rfl,rfl,rfl,trivial⟩ ?_;unfold yq at h
 refine rg tok [0,1,5,6] fun K hK=>?_
 simp only[go_sem,qc,qa,qe,reduceCtorEq,cellsGTree];apply hK
 refine rc [0,1,5,6,8,9] fun K hK=>?_
 obtain⟨r1,hr1,h⟩:=bind_some h;refine rnN 1 ?_;refine clN rfl rfl rfl (@id (ACalls qg 60 [.op 0 0 0] [.cells 0 (encGClientClient a0),.cells 0 (cellsGTree a2),.cells 0 [.int .i64 0,.int .i64 0,.int .i64 0,.int .i64 0,.int .i64 0,.str [],.int .i64 0,.str []]] (fun r' σ'=>r'=.agg (encGSchema r1)∧σ'=[.cells 0 (encGClientClient a0),.cells 0 (cellsGTree a2),.cells 0 [.int .i64 0,.int .i64 0,.int .i64 0,.int .i64 0,.int .i64 0,.str [],.int .i64 0,.str []]])) ((yB.ok a0 r1 hr1).i [0])) ?_;obtain⟨r2,hr2,h⟩:=zD h;refine rnN 1 ?_;refine clN rfl rfl rfl (yG.ev r1 a1 r2 hr2 _) ?_;refine zj tok 6 ?_;simp only[go_sem,qc,qf,qa,qe,reduceCtorEq,encGMethod];refine nkN hK ?_
 refine za fun Z3 hZ3=>?_
 apply ze;refine rgN [0,1,5,6,8,9,23] ?_;refine zL rfl (fun hc4=>?_) (fun hc4=>?_)
 · rw[if_neg hc4] at h;have t5:=eq_false hc4
   refine rg tok [6,7] fun K hK=>?_
   simp only[go_sem,qc,qf,qa,qe,reduceCtorEq,t5];apply hK
   apply zR;cases h;simp only[wN,ym,yy,xo,exists_eq_left',go_sem,qf,qa,qe,encGPacket];refine⟨by decide,by simp,?_,?_⟩
   · first|rfl|(simp only[go_sem,qc,qf,qa,qe,ql,qs,reduceIte,reduceCtorEq,push_cast,if_true,qC,qn,qp,qm,qE,qq,qN,qJ,qu,qt,qw,zi,cellsGTree,encGClientClient,encGPacket,zH]<;>rfl)
   first|rfl|(simp only[go_sem,push_cast,qp,qm,qq,qu,qt,zi]<;>rfl)
 rw[if_pos hc4] at h;have t6:=eq_true hc4
 refine rg tok [0,1,5,6,8,30] fun K hK=>?_
 simp only[go_sem,qc,qa,reduceCtorEq,t6];apply hK
 refine zv (b:=(!r2.2)) rfl (fun hc7=>?_) (fun hc7=>?_)
 · rw[if_pos hc7] at h;refine rgN [6,7] ?_;apply zR;cases h;simp only[wN,ym,yy,xo,exists_eq_left',go_sem,qf,qa,qe,encGPacket];refine⟨by decide,by simp,?_,?_⟩
   · first|rfl|(simp only[go_sem,qc,qf,qa,qe,ql,qs,reduceIte,reduceCtorEq,push_cast,if_true,qC,qn,qp,qm,qE,qq,qN,qJ,qu,qt,qw,zi,cellsGTree,encGClientClient,encGPacket,zH]<;>rfl)
   first|rfl|(simp only[go_sem,push_cast,qp,qm,qq,qu,qt,zi]<;>rfl)
 rw[wb hc7] at h;apply zd;apply hZ3
 refine za fun Z8 hZ8=>?_
 obtain⟨r9,hr9,h⟩:=bind_some h;obtain⟨r10,hr10,h⟩:=bind_some h
 refine rd [0,1,5,6,10] fun K hK=>?_
 refine DW.start (T:=tab) [.any,.eff,.any,.own 1 [],.own 1 [],.eff,.any] [(1,[])] ?_;refine DW.runN tok 1 ?_;simp only[go_sem,qc,reduceCtorEq];refine DW.callS rfl rfl rfl (@id (ACalls qg 60 [.op 0 0 0] [.cells 0 (encGClientClient a0),.cells 0 (cellsGTree a2),.cells 0 [.int .i64 0,.int .i64 0,.int .i64 0,.int .i64 0,.int .i64 0,.str [],.int .i64 0,.str []],.cells 0 [.str r2.1.fName,.str r2.1.fIn,.str r2.1.fOut]] (fun r' σ'=>r'=.agg (encGSchema r9)∧σ'=[.cells 0 (encGClientClient a0),.cells 0 (cellsGTree a2),.cells 0 [.int .i64 0,.int .i64 0,.int .i64 0,.int .i64 0,.int .i64 0,.str [],.int .i64 0,.str []],.cells 0 [.str r2.1.fName,.str r2.1.fIn,.str r2.1.fOut]])) ((yB.ok a0 r9 hr9).i [0])) (Ya (by simp only[go_sem,qf])) ?_;refine DW.runN tok 3 ?_;simp only[go_sem,qc,qf,qa,qe,reduceCtorEq];refine DW.call rfl rfl rfl (wB.ev r9 r2.1.fIn a2 r10 hr10 _) ?_;refine DW.runN tok 1 ?_;simp only[go_sem,qc,qa,reduceCtorEq];refine DW.fin tok (by decide +kernel) rfl ?_;simp only[zf,upd,qa,reduceIte,zV,yz];apply hK
 refine rgN [0,1,5,6,10,41] ?_;refine zL rfl (fun hc11=>?_) (fun hc11=>?_)
 · rw[if_neg hc11] at h;have t12:=eq_false hc11
   refine rg tok [6,7] fun K hK=>?_
   simp only[go_sem,qc,qf,qa,qe,reduceCtorEq,t12];apply hK
   apply zR;cases h;simp only[wN,ym,yy,xo,exists_eq_left',go_sem,qf,qa,qe,encGPacket];refine⟨by decide,by simp,?_,?_⟩
   · first|rfl|(simp only[go_sem,qc,qf,qa,qe,ql,qs,reduceIte,reduceCtorEq,push_cast,if_true,qC,qn,qp,qm,qE,qq,qN,qJ,qu,qt,qw,zi,cellsGTree,encGClientClient,encGPacket,zH]<;>rfl)
   first|rfl|(simp only[go_sem,push_cast,qp,qm,qq,qu,qt,zi]<;>rfl)
 rw[if_pos hc11] at h;have t13:=eq_true hc11;apply zd;apply hZ8
 refine za fun Z14 hZ14=>?_
 refine rc [0,1,5,6,12] fun K hK=>?_
 obtain⟨r15,hr15,h⟩:=bind_some h;refine zj tok 1 ?_;simp only[go_sem,qc,qf,qa,qe,reduceCtorEq,t13];refine clN rfl rfl rfl (xF.ev a2 r15 hr15 _) ?_;refine rnN 5 ?_;refine nkN hK ?_;refine rgN [0,1,5,6,12,50] ?_;refine zL rfl (fun hc16=>?_) (fun hc16=>?_)
 · rw[if_neg hc16] at h;have t17:=eq_false hc16
   refine rg tok [6,7] fun K hK=>?_
   simp only[go_sem,qc,qf,qa,qe,reduceCtorEq,t17];apply hK
   apply zR;cases h;simp only[wN,ym,yy,xo,exists_eq_left',go_sem,qf,qa,qe,encGPacket];refine⟨by decide,by simp,?_,?_⟩
   · first|rfl|(simp only[go_sem,qc,qf,qa,qe,ql,qs,reduceIte,reduceCtorEq,push_cast,if_true,qC,qn,qp,qm,qE,qq,qN,qJ,qu,qt,qw,zi,cellsGTree,encGClientClient,encGPacket,zH]<;>rfl)
   first|rfl|(simp only[go_sem,push_cast,qp,qm,qq,qu,qt,zi]<;>rfl)
 rw[if_pos hc16] at h;have t18:=eq_true hc16;apply zd;apply hZ14
 refine rg tok [0,1,5,6,13] fun K hK=>?_
 simp only[go_sem,qc,qa,reduceCtorEq,t18];apply hK
 refine Zt 13 1 rfl ?_;refine yn (L:=[(0,.op 0 0 0),(1,.str a1),(5,.op 1 0 0),(6,.op 2 0 0),(13,.os true 1 4 0 0 (qb ([]:List UInt8)) false)]) (τ:=[.cells 0 (encGClientClient a0),.cells 0 (cellsGTree a2),.cells 0 [.int .i64 0,.int .i64 0,.int .i64 0,.int .i64 0,.int .i64 0,.str [],.int .i64 0,.str []],.cells 0 [.str r2.1.fName,.str r2.1.fIn,.str r2.1.fOut],.cells 0 (qd encB ([]:List UInt8))]) .s ?_
 refine za fun Z19 hZ19=>?_
 refine rgN [0,1,5,6,13,56,57,58] ?_;apply ze
 refine yD 56 fun hb26=>?_
 replace hb26:qb a0.fnumbers≤9223372036854775807:=hb26.1;refine zF (fun m L τ=>∃ (p26 q26:List Int) (x22:Int) (l20:List UInt8) (v21:Nat),m=qb q26∧L=[(0,.op 0 0 0),(1,.str a1),(5,.op 1 0 0),(6,.op 2 0 0),(13,.os true 1 3 v21 0 (qb l20) false),(56,.ds true (qd encI a0.fnumbers) (qb a0.fnumbers) false),(57,.int .i64 (qb a0.fnumbers:Int)),(58,.int .i64 x22)]∧τ=[.cells 0 (encGClientClient a0),.cells 0 (cellsGTree a2),.cells 0 [.int .i64 0,.int .i64 0,.int .i64 0,.int .i64 0,.int .i64 0,.str [],.int .i64 0,.str []],.cells v21 (qd encB l20)]∧a0.fnumbers=p26++q26∧x22=(qb p26:Int)∧yq.l26 a0 a1 a2 q26 x22 l20=some r) _ ⟨[],a0.fnumbers,0,([]:List UInt8),0,rfl,rfl,rfl,rfl,rfl,h⟩ (.t [0,1,2,4] false) ?_;rintro m L τ ⟨p26,q26,x22,l20,v21,rfl,rfl,rfl,hE26,hi26,h⟩
 rcases q26 with _|⟨y26,q26⟩
 · have hz26:=yH hE26 hi26;simp only[yq.l26] at h
   refine rg tok [0,1,5,6,13,56,57,58,59] fun K hK=>?_
   simp only[go_sem,qc,qa,reduceCtorEq,hz26];apply hK
   refine za fun Z27 hZ27=>?_
   refine zp rfl ?_;apply zA;apply hZ19;refine rgN [0,1,5,6,13] ?_
   refine rd [0,6,13] fun K hK=>?_
   refine DW.start (T:=tab) [.any,.any,.any,.any,.any,.own 2 [0],.any,.any,.eff,.any,.any,.eff,.any,.any,.eff,.any,.any,.eff] [(2,[0])] ?_;refine DW.runN tok 8 ?_;simp only[go_sem,qc,qf,qa,qe,reduceCtorEq,encGPacket];refine DW.runN tok 8 ?_;simp only[go_sem,qc,qf,qa,qe,reduceCtorEq];refine DW.runN tok 2 ?_;simp only[go_sem,qc,qf,qa,qe,reduceCtorEq];refine DW.fin tok (by decide +kernel) rfl ?_;simp only[zf,upd,qa,reduceIte,zV,yz];apply hK
   have f28:=conv_b2so (T:=tab) (src:=48) (dst:=9) rfl rfl rfl rfl rfl rfl l20 (σ:=[.cells 0 [.int .i64 a0.fself,.int .i64 a0.fserver,.ds true (qd encI a0.fnumbers) (qb a0.fnumbers) false,.ds true (qd encGSchema a0.fschemas) (qb a0.fschemas) false,.int .i64 (IntKind.i64.wrap (a0.fid+1)),.int .i64 1,.str a1,.int .i64 a2.fKind,.int .i64 a2.fN,.str a2.fS,.ds true (qd encGEntry a2.fEntries) (qb a2.fEntries) false,.ds true (qd encGRaw a2.fRest) (qb a2.fRest) false,.int .i64 a0.fagreed,.int .i64 a0.fsent.fKind,.int .i64 a0.fsent.fFrom,.int .i64 a0.fsent.fTo,.int .i64 a0.fsent.fID,.int .i64 a0.fsent.fVersion,.str a0.fsent.fMethod,.int .i64 a0.fsent.fErr,.str a0.fsent.fBody,.nilp],.cells 0 (cellsGTree a2),.cells 0 [.int .i64 0,.int .i64 0,.int .i64 0,.int .i64 0,.int .i64 0,.str [],.int .i64 0,.str []],.cells v21 (qd encB l20)]) (id:=3) (ver:=v21) (by simp only[Store.at_hd,Store.at_tl,if_true]) true false
   refine rd [0,6] fun K hK=>?_
   refine DW.start (T:=tab) [.any,.any,.any,.any,.at [],.any,.any,.any,.at [],.any,.any,.any,.at [],.any,.at [],.any,.any,.any,.eff] [] ?_;refine DW.runN tok 8 ?_;simp only[go_sem,qc,qa,qe,reduceCtorEq,encGPacket,Store.at_hd,if_true];refine DW.runN tok 8 ?_;simp only[go_sem,qc,qf,qa,qe,reduceCtorEq,f28,Store.at_hd,if_true];refine DW.runN tok 3 ?_;simp only[go_sem,qc,qf,qa,qe,reduceCtorEq,Store.at_hd,if_true];refine DW.fin tok (by decide +kernel) rfl ?_;simp only[zf,upd,qa,reduceIte,zV,yz];apply hK
   refine rgN [6,7] ?_;apply zR;cases h;simp only[wN,ym,yy,xo,exists_eq_left',go_sem,qf,qa,qe,encGPacket];refine⟨by decide,by simp,?_,?_⟩
   · first|rfl|(simp only[go_sem,qc,qf,qa,qe,ql,qs,reduceIte,reduceCtorEq,push_cast,if_true,qC,qn,qp,qm,qE,qq,qN,qJ,qu,qt,qw,zi,cellsGTree,encGClientClient,encGPacket,zH]<;>rfl)
   first|rfl|(simp only[go_sem,push_cast,qp,qm,qq,qu,qt,zi]<;>rfl)
 obtain⟨hz26,hw26,hx26,hE'26,hi'26⟩:=ya hE26 hi26 hb26;simp only[yq.l26] at h
 refine rg tok [0,1,5,6,13,56,57,58,59] fun K hK=>?_
 simp only[go_sem,qc,qa,reduceCtorEq,hz26];apply hK
 refine za fun Z29 hZ29=>?_
 refine zs rfl ?_;apply zd;apply hZ29
 refine za fun Z30 hZ30=>?_
 apply ze;have f31:=E26.idxS hx26;have f32:=E26.fldS0 (f:=3) rfl rfl hx26
 refine rg tok [0,1,5,6,13,15,56,57,58] fun K hK=>?_
 simp only[go_sem,qc,qa,reduceCtorEq,encI,f31,f32];apply hK
 have f33:=xU (T:=tab) (src:=3) (dst:=5) rfl rfl rfl;obtain⟨_u34,hu34,h⟩:=bind_some h;have gu34:=yF hu34;have f35:=(zy E48.len l20)
 refine rgE tok [0,1,5,6,13,56,57,58] fun K hK=>?_
 simp only[go_sem,qc,qf,qa,qe,ql,reduceCtorEq,zM,z8,q1,qT,true_and,ub,yx,zY,yC,f33,gu34,f35,yS,uc,qZ,AV.one,qO,qK,qk,qr,qn,qM];apply hK
 apply hZ30
 refine rgE tok [0,1,5,6,13,56,57,58] fun K hK=>?_
 simp only[go_sem,qc,qa,reduceCtorEq,hw26];apply hK
 exact⟨_,_,_,qy q26.length,⟨p26++[y26],q26,x22+1,l20++[qX (qI (IntKind.u8.wrap y26))],v21+1,rfl,rfl,rfl,hE'26,hi'26,h⟩,(.t [0,1,2,3] false)⟩
def yp.j2 (a0:GClientClient)(a2:Int)(m1_1:GTree):GClientClient:=
 (⟨a0.fself,a0.fserver,a0.fnumbers,a0.fschemas,a0.fid,0,a0.fmethod,a0.ft,a0.fagreed,a0.fsent,(some (⟨a0.fid,m1_1,a2⟩:GClientResult))⟩:GClientClient)
def yp (a0:GClientClient)(a1:GTree)(a2:Int):GClientClient:=
 (if a2=0 then (yp.j2 a0 a2 a1) else (yp.j2 a0 a2 (⟨0,0,[],([]:List GEntry),([]:List GRaw)⟩:GTree)))
theorem yp.ok (a0:GClientClient)(a1:GTree)(a2:Int)(r:GClientClient)(h:yp a0 a1 a2=r):ACalls qg 64 [.op 0 0 0,.agg (cellsGTree a1),.int .i64 a2] [.cells 0 (encGClientClient a0)] (fun r' σ'=>r'=.tup []∧σ'=[.cells 0 (encGClientClient r)]):=by
 refine ww [0] (rs:=[]) tok Tryz.func64 rfl Tryz.ntmps64 rfl Tryz.call64 (by simp) rfl ?_;refine zl [(0,.op 0 0 0),(1,.agg (cellsGTree a1)),(2,.int .i64 a2)] ⟨rfl,rfl,rfl,trivial⟩ ?_;unfold yp at h
 refine rg tok [0,2,4] fun K hK=>?_
 simp only[go_sem,qc,qa,qe,reduceCtorEq,cellsGTree];apply hK
 refine yU (fun L τ=>∃ (m1_1:GTree),L=[(0,.op 0 0 0),(2,.int .i64 a2),(4,.op 1 0 0)]∧τ=[.cells 0 (encGClientClient a0),.cells 0 (cellsGTree m1_1)]∧yp.j2 a0 a2 m1_1=r) ?_ ?_
 · refine rgN [0,2,4,7] ?_;refine zL rfl (fun hc3=>?_) (fun hc3=>?_)
   · rw[if_neg hc3] at h;have t4:=eq_false hc3
     refine rgE tok [0,2,4] fun K hK=>?_
     simp only[go_sem,qc,qf,qa,qe,reduceCtorEq,t4];apply hK
     exact⟨_,_,⟨(⟨0,0,[],([]:List GEntry),([]:List GRaw)⟩:GTree),rfl,rfl,h⟩,(.t [0,1] true)⟩
   rw[if_pos hc3] at h;have t5:=eq_true hc3;apply zd;exact⟨_,_,⟨a1,rfl,rfl,h⟩,.s⟩
 rintro _ _ ⟨m1_1,rfl,rfl,h⟩;unfold yp.j2 at h
 refine rdE [] fun K hK=>?_
 refine DW.startP (T:=tab) [0,1,2,3,4,5,6,7,8,10,11,12,9,13,14,15] (by decide +kernel) [.any,.any,.any,.any,.any,.at [],.own 1 [0],.any,.any,.any,.any,.eff,.flt,.any,.any,.eff] [(1,[0])] ?_;simp only[vad,qp,qm,List.getD_cons_zero,List.getD_cons_succ,renumb];refine DW.runN tok 8 ?_;simp only[go_sem,qc,qf,qa,qe,reduceCtorEq];refine DW.runN tok 8 ?_;simp only[go_sem,qc,qf,qa,qe,reduceCtorEq];refine DW.fin tok (by decide +kernel) rfl ?_;simp only[zf];apply hK
 -- end
 obtain rfl:=h;simp only[wN,ym,xo,exists_eq_left',go_sem,qe];refine⟨by decide,by simp,?_,?_⟩
 · first|rfl|(simp only[go_sem,qc,qf,qa,qe,ql,qs,reduceIte,reduceCtorEq,push_cast,if_true,qC,qn,qp,qm,qE,qq,qN,qJ,qu,qt,qw,zi,cellsGTree,encGClientClient,encGPacket,zH]<;>rfl)
 first|rfl|(simp only[go_sem,reduceCtorEq,push_cast,if_true,qn,qp,qm,qq,qu,qt,zi]<;>rfl)
def xi.j6 (a0:xd)(l2:List GAdaptPair)(v3:Nat)(l4:List (GAdaptPair×Int))(x5:Int):Option (Int×xd):=
 some (x5,(⟨a0.ffrom,a0.fto,l2,v3,l4⟩:xd))
def xi (a0:xd)(a1:GAdaptPair):Option (Int×xd):=
 (if (!((vb5 a0.fplace a1).isSome))=true then (YJ (qb a0.fl+1) 32).bind fun _u9=>(xi.j6 a0 (a0.fl++[a1]) (a0.vl+1) (setM a0.fplace a1 (qb a0.fl:Int)) (qb a0.fl:Int)) else (xi.j6 a0 a0.fl a0.vl a0.fplace ((vb5 a0.fplace a1).getD 0)))
theorem xi.ok (a0:xd)(a1:GAdaptPair)(r:Int×xd)(h:xi a0 a1=some r):ACalls qg 150 [.op 0 0 0,.agg (encGAdaptPair a1)] [.cells 0 [.str a0.ffrom.fName,.ds true (qd encGMessage a0.ffrom.fMessages) (qb a0.ffrom.fMessages) false,.ds true (qd encGEnumeration a0.ffrom.fEnums) (qb a0.ffrom.fEnums) false,.ds true (qd encGMethod a0.ffrom.fMethods) (qb a0.ffrom.fMethods) false,.str a0.fto.fName,.ds true (qd encGMessage a0.fto.fMessages) (qb a0.fto.fMessages) false,.ds true (qd encGEnumeration a0.fto.fEnums) (qb a0.fto.fEnums) false,.ds true (qd encGMethod a0.fto.fMethods) (qb a0.fto.fMethods) false,.os true 2 1 (a0.vl) 0 (qb a0.fl) false,.mp 2],.cells (a0.vl) (qd encGAdaptPair a0.fl),.map (xW kvGAdaptPair (AV.int .i64) a0.fplace)] (fun r' σ'=>r'=.int .i64 r.1∧σ'=[.cells 0 [.str r.2.ffrom.fName,.ds true (qd encGMessage r.2.ffrom.fMessages) (qb r.2.ffrom.fMessages) false,.ds true (qd encGEnumeration r.2.ffrom.fEnums) (qb r.2.ffrom.fEnums) false,.ds true (qd encGMethod r.2.ffrom.fMethods) (qb r.2.ffrom.fMethods) false,.str r.2.fto.fName,.ds true (qd encGMessage r.2.fto.fMessages) (qb r.2.fto.fMessages) false,.ds true (qd encGEnumeration r.2.fto.fEnums) (qb r.2.fto.fEnums) false,.ds true (qd encGMethod r.2.fto.fMethods) (qb r.2.fto.fMethods) false,.os true 2 1 (r.2.vl) 0 (qb r.2.fl) false,.mp 2],.cells (r.2.vl) (qd encGAdaptPair r.2.fl),.map (xW kvGAdaptPair (AV.int .i64) r.2.fplace)]):=by
 refine ww [0,1,2] (rs:=[.tmp 4]) tok Tryz.func150 rfl Tryz.ntmps150 rfl Tryz.call150 (by simp) rfl ?_;refine zl [(0,.op 0 0 0),(1,.agg (encGAdaptPair a1))] ⟨rfl,rfl,trivial⟩ ?_;unfold xi at h
 refine rg tok [0,3] fun K hK=>?_
 simp only[go_sem,qc,qa,qe,reduceCtorEq,encGAdaptPair];apply hK
 have f1:=fun (o0:AObj) (o1:AObj) (x:Store)=>vat (T:=tab) (t:=239) (ek:=kvGAdaptPair) (ev:=(AV.int .i64)) (z:=0) KA245 rfl rfl rfl rfl a0.fplace a1 true (o0::o1::.map (xW kvGAdaptPair (AV.int .i64) a0.fplace)::x) 2 rfl
 simp only[kvGAdaptPair,encGAdaptPair] at f1
 refine rd [0,3,5,6] fun K hK=>?_
 refine DW.start (T:=tab) [.any,.any,.any,.at [],.at [],.at [],.any,.any,.any,.any,.any] [] ?_;refine DW.runN tok 8 ?_;simp only[go_sem,qc,qf,qa,qe,reduceCtorEq,XH,if_false,if_true,f1];refine DW.runN tok 3 ?_;simp only[go_sem,qc,qa,qe,reduceCtorEq];refine DW.fin tok (by decide +kernel) rfl ?_;simp only[zf,upd,qa,reduceIte,zV,yz];apply hK
 refine yU (fun L τ=>∃ (l2:List GAdaptPair) (v3:Nat) (l4:List (GAdaptPair×Int)) (x5:Int),L=[(5,.int .i64 x5)]∧τ=[.cells 0 [.str a0.ffrom.fName,.ds true (qd encGMessage a0.ffrom.fMessages) (qb a0.ffrom.fMessages) false,.ds true (qd encGEnumeration a0.ffrom.fEnums) (qb a0.ffrom.fEnums) false,.ds true (qd encGMethod a0.ffrom.fMethods) (qb a0.ffrom.fMethods) false,.str a0.fto.fName,.ds true (qd encGMessage a0.fto.fMessages) (qb a0.fto.fMessages) false,.ds true (qd encGEnumeration a0.fto.fEnums) (qb a0.fto.fEnums) false,.ds true (qd encGMethod a0.fto.fMethods) (qb a0.fto.fMethods) false,.os true 2 1 v3 0 (qb l2) false,.mp 2],.cells v3 (qd encGAdaptPair l2),.map (xW kvGAdaptPair (AV.int .i64) l4)]∧xi.j6 a0 l2 v3 l4 x5=some r) ?_ ?_
 · refine rgN [0,3,5,17] ?_;refine zv (b:=(!((vb5 a0.fplace a1).isSome))) rfl (fun hc7=>?_) (fun hc7=>?_)
   · rw[if_pos hc7] at h;refine rgN [0,3,5] ?_
     have f8:=fun (o0:AObj) (o1:AObj) (x:Store)=>vam (T:=tab) (t:=239) (ek:=kvGAdaptPair) (ev:=(AV.int .i64)) KA245 rfl rfl a0.fplace a1 (qb a0.fl:Int) (o0::o1::.map (xW kvGAdaptPair (AV.int .i64) a0.fplace)::x) 2 rfl
     simp only[kvGAdaptPair,encGAdaptPair] at f8
     refine rd [0,3,5] fun K hK=>?_
     refine DW.start (T:=tab) [.any,.any,.any,.at [],.at [],.any,.eff] [] ?_;refine DW.runN tok 7 ?_;simp only[go_sem,qc,qf,qa,qe,reduceCtorEq,f8];refine DW.fin tok (by decide +kernel) rfl ?_;simp only[zf,upd,qa,reduceIte,zV,yz];apply hK
     obtain⟨_u9,hu9,h⟩:=bind_some h;have gu9:=yF hu9;have f10:=(zy E240.len a0.fl)
     refine rdE [5] fun K hK=>?_
     refine DW.start (T:=tab) [.any,.any,.any,.any,.own 1 [],.at [],.eff,.eff,.any,.any,.eff] [(1,[])] ?_;refine DW.runN tok 8 ?_;simp only[go_sem,qc,qf,qa,qe,ql,reduceCtorEq,zM,z8,q1,qT,true_and,ub,yx,zY,yC,gu9,f10,yS,uc,qZ,AV.one,qO,qK,qk,qr,qn,qM];refine DW.runN tok 3 ?_;simp only[go_sem,qc,qf,qa,qe,reduceCtorEq,qk,qr,qn];refine DW.fin tok (by decide +kernel) rfl ?_;simp only[zf,upd,qa,reduceIte,zV,yz];apply hK
     exact⟨_,_,⟨a0.fl++[a1],a0.vl+1,setM a0.fplace a1 (qb a0.fl:Int),(qb a0.fl:Int),rfl,rfl,h⟩,(.t [0,1,2] false)⟩
   rw[wb hc7] at h;apply zd;exact⟨_,_,⟨a0.fl,a0.vl,a0.fplace,(vb5 a0.fplace a1).getD 0,rfl,rfl,h⟩,(.t [0,1,2] false)⟩
 rintro _ _ ⟨l2,v3,l4,x5,rfl,rfl,h⟩;unfold xi.j6 at h;refine rgN [4] ?_;apply zR;cases h;simp only[wN,ym,yy,xo,exists_eq_left',go_sem,qe];refine⟨by decide,by simp,?_,?_⟩
 · first|rfl|(simp only[go_sem,qc,qf,qa,qe,ql,qs,reduceIte,reduceCtorEq,push_cast,if_true,qC,qn,qp,qm,qE,qq,qN,qJ,qu,qt,qw,zi,encGAdaptPair,encGSchema]<;>rfl)
 first|rfl|(simp only[go_sem,qa,qe,reduceCtorEq,push_cast,if_true,qn,qp,qm,qq,qu,qt,zi]<;>rfl)
def xh.j9 (m0__03:GSchema)(m0__14:GSchema)(l5:List GAdaptPair)(v6:Nat)(l7:List (GAdaptPair×Int))(m4_8:GStep):Option (GStep×Bool×xd):=
 some (m4_8,true,(⟨m0__03,m0__14,l5,v6,l7⟩:xd))
def xh (a0:xd)(a1:GMessage)(a2:GMessage)(a3:Int):Option (GStep×Bool×xd):=
 bnd (zk a1 a3) fun r1=>bnd (zk a2 a3) fun r2=>(if (((!r1.2)||(!r2.2))||(!(decide (r1.1.fLabel=r2.1.fLabel))))=true then some ((⟨0,0,0⟩:GStep),false,(⟨a0.ffrom,a0.fto,a0.fl,a0.vl,a0.fplace⟩:xd)) else (if ((decide (r1.1.fType.fKind=7))&&(decide (r2.1.fType.fKind=7)))=true then (xi (⟨a0.ffrom,a0.fto,a0.fl,a0.vl,a0.fplace⟩:xd) (⟨r1.1.fType.fName,r2.1.fType.fName⟩:GAdaptPair)).bind fun r14=>(if r1.1.fLabel=1 then (xh.j9 r14.2.ffrom r14.2.fto r14.2.fl r14.2.vl r14.2.fplace (⟨4,a3,r14.1⟩:GStep)) else (xh.j9 r14.2.ffrom r14.2.fto r14.2.fl r14.2.vl r14.2.fplace (⟨3,a3,r14.1⟩:GStep))) else (if ((decide (r1.1.fType.fKind=2))&&(decide (r2.1.fType.fKind=1)))=true then (xh.j9 a0.ffrom a0.fto a0.fl a0.vl a0.fplace (⟨2,a3,0⟩:GStep)) else (if ((!(decide (r1.1.fType.fKind=r2.1.fType.fKind)))&&((!(decide (r1.1.fType.fKind=1)))||(!(decide (r2.1.fType.fKind=2)))))=true then some ((⟨0,0,0⟩:GStep),false,(⟨a0.ffrom,a0.fto,a0.fl,a0.vl,a0.fplace⟩:xd)) else (xh.j9 a0.ffrom a0.fto a0.fl a0.vl a0.fplace (⟨1,a3,0⟩:GStep))))))
theorem xh.ok (a0:xd)(a1:GMessage)(a2:GMessage)(a3:Int)(r:GStep×Bool×xd)(h:xh a0 a1 a2 a3=some r):ACalls qg 151 [.op 0 0 0,.agg (encGMessage a1),.agg (encGMessage a2),.int .i64 a3] [.cells 0 [.str a0.ffrom.fName,.ds true (qd encGMessage a0.ffrom.fMessages) (qb a0.ffrom.fMessages) false,.ds true (qd encGEnumeration a0.ffrom.fEnums) (qb a0.ffrom.fEnums) false,.ds true (qd encGMethod a0.ffrom.fMethods) (qb a0.ffrom.fMethods) false,.str a0.fto.fName,.ds true (qd encGMessage a0.fto.fMessages) (qb a0.fto.fMessages) false,.ds true (qd encGEnumeration a0.fto.fEnums) (qb a0.fto.fEnums) false,.ds true (qd encGMethod a0.fto.fMethods) (qb a0.fto.fMethods) false,.os true 2 1 (a0.vl) 0 (qb a0.fl) false,.mp 2],.cells (a0.vl) (qd encGAdaptPair a0.fl),.map (xW kvGAdaptPair (AV.int .i64) a0.fplace)] (fun r' σ'=>r'=.tup [.agg (encGStep r.1),.bool r.2.1]∧σ'=[.cells 0 [.str r.2.2.ffrom.fName,.ds true (qd encGMessage r.2.2.ffrom.fMessages) (qb r.2.2.ffrom.fMessages) false,.ds true (qd encGEnumeration r.2.2.ffrom.fEnums) (qb r.2.2.ffrom.fEnums) false,.ds true (qd encGMethod r.2.2.ffrom.fMethods) (qb r.2.2.ffrom.fMethods) false,.str r.2.2.fto.fName,.ds true (qd encGMessage r.2.2.fto.fMessages) (qb r.2.2.fto.fMessages) false,.ds true (qd encGEnumeration r.2.2.fto.fEnums) (qb r.2.2.fto.fEnums) false,.ds true (qd encGMethod r.2.2.fto.fMethods) (qb r.2.2.fto.fMethods) false,.os true 2 1 (r.2.2.vl) 0 (qb r.2.2.fl) false,.mp 2],.cells (r.2.2.vl) (qd encGAdaptPair r.2.2.fl),.map (xW kvGAdaptPair (AV.int .i64) r.2.2.fplace)]):=by
 refine ww [0,1,2] (rs:=[.cell 8 248,.tmp 9]) tok Tryz.func151 rfl Tryz.ntmps151 rfl Tryz.call151 (by simp) rfl ?_;refine zl [(0,.op 0 0 0),(1,.agg (encGMessage a1)),(2,.agg (encGMessage a2)),(3,.int .i64 a3)] ⟨rfl,rfl,rfl,rfl,trivial⟩ ?_;unfold xh at h
 refine rg tok [0,3,5,6,8] fun K hK=>?_
 simp only[go_sem,qc,qa,qe,reduceCtorEq,encGMessage];apply hK
 refine rc [0,3,6,8,10,11] fun K hK=>?_
 obtain⟨r1,hr1,h⟩:=zD h;refine rnN 2 ?_;refine clN rfl rfl rfl (zk.ev a1 a3 r1 hr1 _) ?_;refine zj tok 6 ?_;simp only[go_sem,qc,qf,qa,qe,reduceCtorEq,encGField];refine nkN hK ?_
 refine rc [0,3,8,10,11,12,13] fun K hK=>?_
 obtain⟨r2,hr2,h⟩:=zD h;refine rnN 2 ?_;refine clN rfl rfl rfl (zk.ev a2 a3 r2 hr2 _) ?_;refine zj tok 6 ?_;simp only[go_sem,qc,qf,qa,qe,reduceCtorEq,encGField];refine nkN hK ?_;refine rgN [0,8,10,11,12,13,14] ?_;refine yU (fun L τ=>∃ (m0__03:GSchema) (m0__14:GSchema) (l5:List GAdaptPair) (v6:Nat) (l7:List (GAdaptPair×Int)) (m4_8:GStep),L=[(8,.op 3 0 0),(14,.op 4 0 0)]∧τ=[.cells 0 [.str m0__03.fName,.ds true (qd encGMessage m0__03.fMessages) (qb m0__03.fMessages) false,.ds true (qd encGEnumeration m0__03.fEnums) (qb m0__03.fEnums) false,.ds true (qd encGMethod m0__03.fMethods) (qb m0__03.fMethods) false,.str m0__14.fName,.ds true (qd encGMessage m0__14.fMessages) (qb m0__14.fMessages) false,.ds true (qd encGEnumeration m0__14.fEnums) (qb m0__14.fEnums) false,.ds true (qd encGMethod m0__14.fMethods) (qb m0__14.fMethods) false,.os true 2 1 v6 0 (qb l5) false,.mp 2],.cells v6 (qd encGAdaptPair l5),.map (xW kvGAdaptPair (AV.int .i64) l7),.cells 0 [.int .i64 0,.int .i64 0,.int .i64 0],.cells 0 [.int .i64 m4_8.fOp,.int .i64 m4_8.fTag,.int .i64 m4_8.fSub]]∧xh.j9 m0__03 m0__14 l5 v6 l7 m4_8=some r) ?_ ?_
 · refine rd [0,8,10,11,12,13,14,15,16] fun K hK=>?_
   refine DW.start (T:=tab) [.any,.any,.at [],.any,.any,.at [],.any,.any] [] ?_;refine DW.runN tok 8 ?_;simp only[go_sem,qc,qa,qe,reduceCtorEq];refine DW.fin tok (by decide +kernel) rfl ?_;simp only[zf,upd,qa,reduceIte,zV,yz];apply hK
   apply ze
   refine rc [0,8,10,12,14,15,16,37] fun K hK=>?_
   refine rnN 3 ?_;refine zq 3 (fun L τ=>L=[(0,.op 0 0 0),(8,.op 5 0 0),(10,.op 6 0 0),(12,.op 7 0 0),(14,.op 8 0 0),(15,.int .i64 r1.1.fType.fKind),(16,.int .i64 r2.1.fType.fKind),(43,.bool ((!r1.2)||(!r2.2)))]∧τ=[.cells 0 [.str a0.ffrom.fName,.ds true (qd encGMessage a0.ffrom.fMessages) (qb a0.ffrom.fMessages) false,.ds true (qd encGEnumeration a0.ffrom.fEnums) (qb a0.ffrom.fEnums) false,.ds true (qd encGMethod a0.ffrom.fMethods) (qb a0.ffrom.fMethods) false,.str a0.fto.fName,.ds true (qd encGMessage a0.fto.fMessages) (qb a0.fto.fMessages) false,.ds true (qd encGEnumeration a0.fto.fEnums) (qb a0.fto.fEnums) false,.ds true (qd encGMethod a0.fto.fMethods) (qb a0.fto.fMethods) false,.os true 2 1 (a0.vl) 0 (qb a0.fl) false,.mp 2],.cells (a0.vl) (qd encGAdaptPair a0.fl),.map (xW kvGAdaptPair (AV.int .i64) a0.fplace),.cells 0 (encGMessage a1),.cells 0 (encGMessage a2),.cells 0 [.int .i64 0,.int .i64 0,.int .i64 0],.cells 0 (encGField r1.1),.cells 0 (encGField r2.1),.cells 0 [.int .i64 1,.int .i64 a3,.int .i64 0]]) ?_ ?_
   · refine yf (b:=(!r1.2)) 40 rfl (fun hg40=>?_) (fun hg40=>?_)
     · refine rnN 3 ?_;refine zb ⟨rfl,_,_,⟨rfl,rfl⟩,.b hg40⟩
     refine rnN 3 ?_;refine zb ⟨rfl,_,_,⟨rfl,rfl⟩,.b hg40⟩
   rintro _ _ ⟨rfl,rfl⟩;refine rnN 1 ?_;refine zq 6 (fun L τ=>L=[(0,.op 0 0 0),(8,.op 5 0 0),(10,.op 6 0 0),(12,.op 7 0 0),(14,.op 8 0 0),(15,.int .i64 r1.1.fType.fKind),(16,.int .i64 r2.1.fType.fKind),(50,.bool (((!r1.2)||(!r2.2))||(!(decide (r1.1.fLabel=r2.1.fLabel)))))]∧τ=[.cells 0 [.str a0.ffrom.fName,.ds true (qd encGMessage a0.ffrom.fMessages) (qb a0.ffrom.fMessages) false,.ds true (qd encGEnumeration a0.ffrom.fEnums) (qb a0.ffrom.fEnums) false,.ds true (qd encGMethod a0.ffrom.fMethods) (qb a0.ffrom.fMethods) false,.str a0.fto.fName,.ds true (qd encGMessage a0.fto.fMessages) (qb a0.fto.fMessages) false,.ds true (qd encGEnumeration a0.fto.fEnums) (qb a0.fto.fEnums) false,.ds true (qd encGMethod a0.fto.fMethods) (qb a0.fto.fMethods) false,.os true 2 1 (a0.vl) 0 (qb a0.fl) false,.mp 2],.cells (a0.vl) (qd encGAdaptPair a0.fl),.map (xW kvGAdaptPair (AV.int .i64) a0.fplace),.cells 0 (encGMessage a1),.cells 0 (encGMessage a2),.cells 0 [.int .i64 0,.int .i64 0,.int .i64 0],.cells 0 (encGField r1.1),.cells 0 (encGField r2.1),.cells 0 [.int .i64 1,.int .i64 a3,.int .i64 0]]) ?_ ?_
   · refine yf (b:=((!r1.2)||(!r2.2))) 44 rfl (fun hg44=>?_) (fun hg44=>?_)
     · refine rnN 6 ?_;refine zb ⟨rfl,_,_,⟨rfl,rfl⟩,.b hg44⟩
     refine rnN 6 ?_;refine zb ⟨rfl,_,_,⟨rfl,rfl⟩,.b hg44⟩
   rintro _ _ ⟨rfl,rfl⟩;refine rnN 1 ?_;refine nkN hK ?_;refine zv (b:=(((!r1.2)||(!r2.2))||(!(decide (r1.1.fLabel=r2.1.fLabel))))) rfl (fun hc10=>?_) (fun hc10=>?_)
   · rw[if_pos hc10] at h;refine rgN [8,9] ?_;apply zR;cases h;simp only[wN,ym,yy,xo,exists_eq_left',go_sem,qf,qa,qe,encGStep];refine⟨by decide,by simp,?_,?_⟩
     · first|rfl|(simp only[go_sem,qc,qf,qa,qe,ql,qs,reduceIte,reduceCtorEq,push_cast,if_true,qC,qn,qp,qm,qE,qq,qN,qJ,qu,qt,qw,zi,encGAdaptPair,encGSchema,encGStep]<;>rfl)
     first|rfl|(simp only[go_sem,qa,qe,reduceCtorEq,push_cast,if_true,qn,qp,qm,qq,qu,qt,zi]<;>rfl)
   rw[wb hc10] at h
   refine rc [0,8,10,12,14,15,16,52] fun K hK=>?_
   refine rnN 3 ?_;refine zq 3 (fun L τ=>L=[(0,.op 0 0 0),(8,.op 5 0 0),(10,.op 6 0 0),(12,.op 7 0 0),(14,.op 8 0 0),(15,.int .i64 r1.1.fType.fKind),(16,.int .i64 r2.1.fType.fKind),(58,.bool ((decide (r1.1.fType.fKind=7))&&(decide (r2.1.fType.fKind=7))))]∧τ=[.cells 0 [.str a0.ffrom.fName,.ds true (qd encGMessage a0.ffrom.fMessages) (qb a0.ffrom.fMessages) false,.ds true (qd encGEnumeration a0.ffrom.fEnums) (qb a0.ffrom.fEnums) false,.ds true (qd encGMethod a0.ffrom.fMethods) (qb a0.ffrom.fMethods) false,.str a0.fto.fName,.ds true (qd encGMessage a0.fto.fMessages) (qb a0.fto.fMessages) false,.ds true (qd encGEnumeration a0.fto.fEnums) (qb a0.fto.fEnums) false,.ds true (qd encGMethod a0.fto.fMethods) (qb a0.fto.fMethods) false,.os true 2 1 (a0.vl) 0 (qb a0.fl) false,.mp 2],.cells (a0.vl) (qd encGAdaptPair a0.fl),.map (xW kvGAdaptPair (AV.int .i64) a0.fplace),.cells 0 (encGMessage a1),.cells 0 (encGMessage a2),.cells 0 [.int .i64 0,.int .i64 0,.int .i64 0],.cells 0 (encGField r1.1),.cells 0 (encGField r2.1),.cells 0 [.int .i64 1,.int .i64 a3,.int .i64 0]]) ?_ ?_
   · refine yW 55 rfl (fun hg55=>?_) (fun hg55=>?_)
     · have t11:=eq_true hg55;refine rnN 3 ?_;refine zb ⟨rfl,_,_,⟨rfl,rfl⟩,.p t11⟩
     have t12:=eq_false hg55;refine rnN 3 ?_;refine zb ⟨rfl,_,_,⟨rfl,rfl⟩,.p t12⟩
   rintro _ _ ⟨rfl,rfl⟩;refine rnN 1 ?_;refine nkN hK ?_;refine zv (b:=((decide (r1.1.fType.fKind=7))&&(decide (r2.1.fType.fKind=7)))) rfl (fun hc13=>?_) (fun hc13=>?_)
   · rw[if_pos hc13] at h
     refine rc [8,10,14] fun K hK=>?_
     obtain⟨r14,hr14,h⟩:=bind_some h;refine rnN 8 ?_;refine clN rfl rfl rfl (@id (ACalls qg 150 [.op 0 0 0,.agg [.str r1.1.fType.fName,.str r2.1.fType.fName]] [.cells 0 [.str a0.ffrom.fName,.ds true (qd encGMessage a0.ffrom.fMessages) (qb a0.ffrom.fMessages) false,.ds true (qd encGEnumeration a0.ffrom.fEnums) (qb a0.ffrom.fEnums) false,.ds true (qd encGMethod a0.ffrom.fMethods) (qb a0.ffrom.fMethods) false,.str a0.fto.fName,.ds true (qd encGMessage a0.fto.fMessages) (qb a0.fto.fMessages) false,.ds true (qd encGEnumeration a0.fto.fEnums) (qb a0.fto.fEnums) false,.ds true (qd encGMethod a0.fto.fMethods) (qb a0.fto.fMethods) false,.os true 2 1 (a0.vl) 0 (qb a0.fl) false,.mp 2],.cells (a0.vl) (qd encGAdaptPair a0.fl),.map (xW kvGAdaptPair (AV.int .i64) a0.fplace),.cells 0 (encGMessage a1),.cells 0 (encGMessage a2),.cells 0 [.int .i64 0,.int .i64 0,.int .i64 0],.cells 0 (encGField r1.1),.cells 0 (encGField r2.1),.cells 0 [.int .i64 1,.int .i64 a3,.int .i64 0]] (fun r' σ'=>r'=.int .i64 r14.1∧σ'=[.cells 0 [.str r14.2.ffrom.fName,.ds true (qd encGMessage r14.2.ffrom.fMessages) (qb r14.2.ffrom.fMessages) false,.ds true (qd encGEnumeration r14.2.ffrom.fEnums) (qb r14.2.ffrom.fEnums) false,.ds true (qd encGMethod r14.2.ffrom.fMethods) (qb r14.2.ffrom.fMethods) false,.str r14.2.fto.fName,.ds true (qd encGMessage r14.2.fto.fMessages) (qb r14.2.fto.fMessages) false,.ds true (qd encGEnumeration r14.2.fto.fEnums) (qb r14.2.fto.fEnums) false,.ds true (qd encGMethod r14.2.fto.fMethods) (qb r14.2.fto.fMethods) false,.os true 2 1 (r14.2.vl) 0 (qb r14.2.fl) false,.mp 2],.cells (r14.2.vl) (qd encGAdaptPair r14.2.fl),.map (xW kvGAdaptPair (AV.int .i64) r14.2.fplace),.cells 0 (encGMessage a1),.cells 0 (encGMessage a2),.cells 0 [.int .i64 0,.int .i64 0,.int .i64 0],.cells 0 (encGField r1.1),.cells 0 (encGField r2.1),.cells 0 [.int .i64 1,.int .i64 a3,.int .i64 0]])) ((xi.ok (⟨a0.ffrom,a0.fto,a0.fl,a0.vl,a0.fplace⟩:xd) (⟨r1.1.fType.fName,r2.1.fType.fName⟩:GAdaptPair) r14 hr14).ix [0,1,2])) ?_;refine zj tok 4 ?_;simp only[go_sem,qc,qf,qa,qe,reduceCtorEq,encGStep];refine nkN hK ?_;refine rgN [8,14,72] ?_;refine zL rfl (fun hc15=>?_) (fun hc15=>?_)
     · rw[if_pos hc15] at h;have t16:=eq_true hc15
       refine rgE tok [8,14] fun K hK=>?_
       simp only[go_sem,qc,qf,qa,qe,t16];apply hK
       exact⟨_,_,⟨r14.2.ffrom,r14.2.fto,r14.2.fl,r14.2.vl,r14.2.fplace,(⟨4,a3,r14.1⟩:GStep),rfl,rfl,h⟩,(.t [0,1,2,5,8] false)⟩
     rw[if_neg hc15] at h;have t17:=eq_false hc15;apply zd;exact⟨_,_,⟨r14.2.ffrom,r14.2.fto,r14.2.fl,r14.2.vl,r14.2.fplace,(⟨3,a3,r14.1⟩:GStep),rfl,rfl,h⟩,(.t [0,1,2,5,8] false)⟩
   rw[wb hc13] at h
   refine rc [8,14,15,16,74] fun K hK=>?_
   refine rnN 3 ?_;refine zq 3 (fun L τ=>L=[(8,.op 5 0 0),(14,.op 8 0 0),(15,.int .i64 r1.1.fType.fKind),(16,.int .i64 r2.1.fType.fKind),(80,.bool ((decide (r1.1.fType.fKind=2))&&(decide (r2.1.fType.fKind=1))))]∧τ=[.cells 0 [.str a0.ffrom.fName,.ds true (qd encGMessage a0.ffrom.fMessages) (qb a0.ffrom.fMessages) false,.ds true (qd encGEnumeration a0.ffrom.fEnums) (qb a0.ffrom.fEnums) false,.ds true (qd encGMethod a0.ffrom.fMethods) (qb a0.ffrom.fMethods) false,.str a0.fto.fName,.ds true (qd encGMessage a0.fto.fMessages) (qb a0.fto.fMessages) false,.ds true (qd encGEnumeration a0.fto.fEnums) (qb a0.fto.fEnums) false,.ds true (qd encGMethod a0.fto.fMethods) (qb a0.fto.fMethods) false,.os true 2 1 (a0.vl) 0 (qb a0.fl) false,.mp 2],.cells (a0.vl) (qd encGAdaptPair a0.fl),.map (xW kvGAdaptPair (AV.int .i64) a0.fplace),.cells 0 (encGMessage a1),.cells 0 (encGMessage a2),.cells 0 [.int .i64 0,.int .i64 0,.int .i64 0],.cells 0 (encGField r1.1),.cells 0 (encGField r2.1),.cells 0 [.int .i64 1,.int .i64 a3,.int .i64 0]]) ?_ ?_
   · refine yW 77 rfl (fun hg77=>?_) (fun hg77=>?_)
     · have t18:=eq_true hg77;refine rnN 3 ?_;refine zb ⟨rfl,_,_,⟨rfl,rfl⟩,.p t18⟩
     have t19:=eq_false hg77;refine rnN 3 ?_;refine zb ⟨rfl,_,_,⟨rfl,rfl⟩,.p t19⟩
   rintro _ _ ⟨rfl,rfl⟩;refine rnN 1 ?_;refine nkN hK ?_;refine zv (b:=((decide (r1.1.fType.fKind=2))&&(decide (r2.1.fType.fKind=1)))) rfl (fun hc20=>?_) (fun hc20=>?_)
   · rw[if_pos hc20] at h
     refine rgE tok [8,14] fun K hK=>?_
     simp only[go_sem,qc,qf,qa,qe];apply hK
     exact⟨_,_,⟨a0.ffrom,a0.fto,a0.fl,a0.vl,a0.fplace,(⟨2,a3,0⟩:GStep),rfl,rfl,h⟩,(.t [0,1,2,5,8] false)⟩
   rw[wb hc20] at h
   refine rc [8,14,82] fun K hK=>?_
   refine rnN 4 ?_;refine zq 7 (fun L τ=>L=[(8,.op 5 0 0),(14,.op 8 0 0),(93,.bool ((!(decide (r1.1.fType.fKind=r2.1.fType.fKind)))&&((!(decide (r1.1.fType.fKind=1)))||(!(decide (r2.1.fType.fKind=2))))))]∧τ=[.cells 0 [.str a0.ffrom.fName,.ds true (qd encGMessage a0.ffrom.fMessages) (qb a0.ffrom.fMessages) false,.ds true (qd encGEnumeration a0.ffrom.fEnums) (qb a0.ffrom.fEnums) false,.ds true (qd encGMethod a0.ffrom.fMethods) (qb a0.ffrom.fMethods) false,.str a0.fto.fName,.ds true (qd encGMessage a0.fto.fMessages) (qb a0.fto.fMessages) false,.ds true (qd encGEnumeration a0.fto.fEnums) (qb a0.fto.fEnums) false,.ds true (qd encGMethod a0.fto.fMethods) (qb a0.fto.fMethods) false,.os true 2 1 (a0.vl) 0 (qb a0.fl) false,.mp 2],.cells (a0.vl) (qd encGAdaptPair a0.fl),.map (xW kvGAdaptPair (AV.int .i64) a0.fplace),.cells 0 (encGMessage a1),.cells 0 (encGMessage a2),.cells 0 [.int .i64 0,.int .i64 0,.int .i64 0],.cells 0 (encGField r1.1),.cells 0 (encGField r2.1),.cells 0 [.int .i64 1,.int .i64 a3,.int .i64 0]]) ?_ ?_
   · refine yW 86 rfl (fun hg86=>?_) (fun hg86=>?_)
     · have t21:=eq_false hg86;refine rnN 3 ?_;refine zq 3 (fun L τ=>L=[(8,.op 5 0 0),(14,.op 8 0 0),(86,.bool true),(92,.bool ((!(decide (r1.1.fType.fKind=1)))||(!(decide (r2.1.fType.fKind=2)))))]∧τ=[.cells 0 [.str a0.ffrom.fName,.ds true (qd encGMessage a0.ffrom.fMessages) (qb a0.ffrom.fMessages) false,.ds true (qd encGEnumeration a0.ffrom.fEnums) (qb a0.ffrom.fEnums) false,.ds true (qd encGMethod a0.ffrom.fMethods) (qb a0.ffrom.fMethods) false,.str a0.fto.fName,.ds true (qd encGMessage a0.fto.fMessages) (qb a0.fto.fMessages) false,.ds true (qd encGEnumeration a0.fto.fEnums) (qb a0.fto.fEnums) false,.ds true (qd encGMethod a0.fto.fMethods) (qb a0.fto.fMethods) false,.os true 2 1 (a0.vl) 0 (qb a0.fl) false,.mp 2],.cells (a0.vl) (qd encGAdaptPair a0.fl),.map (xW kvGAdaptPair (AV.int .i64) a0.fplace),.cells 0 (encGMessage a1),.cells 0 (encGMessage a2),.cells 0 [.int .i64 0,.int .i64 0,.int .i64 0],.cells 0 (encGField r1.1),.cells 0 (encGField r2.1),.cells 0 [.int .i64 1,.int .i64 a3,.int .i64 0]]) ?_ ?_
       · refine yW 89 rfl (fun hg89=>?_) (fun hg89=>?_)
         · have t22:=eq_false hg89;refine rnN 3 ?_;refine zb ⟨rfl,_,_,⟨rfl,rfl⟩,.p t22⟩
         have t23:=eq_true hg89;refine rnN 3 ?_;refine zb ⟨rfl,_,_,⟨rfl,rfl⟩,.p t23⟩
       rintro _ _ ⟨rfl,rfl⟩;refine rnN 1 ?_;refine zb ⟨rfl,_,_,⟨rfl,rfl⟩,.p t21⟩
     have t24:=eq_true hg86;refine rnN 7 ?_;refine zb ⟨rfl,_,_,⟨rfl,rfl⟩,.p t24⟩
   rintro _ _ ⟨rfl,rfl⟩;refine rnN 1 ?_;refine nkN hK ?_;refine zv (b:=((!(decide (r1.1.fType.fKind=r2.1.fType.fKind)))&&((!(decide (r1.1.fType.fKind=1)))||(!(decide (r2.1.fType.fKind=2)))))) rfl (fun hc25=>?_) (fun hc25=>?_)
   · rw[if_pos hc25] at h;refine rgN [8,9] ?_;apply zR;cases h;simp only[wN,ym,yy,xo,exists_eq_left',go_sem,qf,qa,qe,encGStep];refine⟨by decide,by simp,?_,?_⟩
     · first|rfl|(simp only[go_sem,qc,qf,qa,qe,ql,qs,reduceIte,reduceCtorEq,push_cast,if_true,qC,qn,qp,qm,qE,qq,qN,qJ,qu,qt,qw,zi,encGAdaptPair,encGSchema,encGStep]<;>rfl)
     first|rfl|(simp only[go_sem,qa,qe,reduceCtorEq,push_cast,if_true,qn,qp,qm,qq,qu,qt,zi]<;>rfl)
   rw[wb hc25] at h;apply zd;exact⟨_,_,⟨a0.ffrom,a0.fto,a0.fl,a0.vl,a0.fplace,(⟨1,a3,0⟩:GStep),rfl,rfl,h⟩,(.t [0,1,2,5,8] false)⟩
 rintro _ _ ⟨m0__03,m0__14,l5,v6,l7,m4_8,rfl,rfl,h⟩;unfold xh.j9 at h;refine rgN [8,9] ?_;apply zR;cases h;simp only[wN,ym,yy,xo,exists_eq_left',go_sem,qf,qa,qe,encGStep];refine⟨by decide,by simp,?_,?_⟩
 · first|rfl|(simp only[go_sem,qc,qf,qa,qe,ql,qs,reduceIte,reduceCtorEq,push_cast,if_true,qC,qn,qp,qm,qE,qq,qN,qJ,qu,qt,qw,zi,encGAdaptPair,encGSchema,encGStep]<;>rfl)
 first|rfl|(simp only[go_sem,qa,qe,reduceCtorEq,push_cast,if_true,qn,qp,qm,qq,qu,qt,zi]<;>rfl)
end
section
set_option maxRecDepth 4000
set_option maxHeartbeats 1000000
open AM
def yI.j70 (x50:Int)(rec59:List (GAdaptPair×Int)→GSchema→GSchema→List GAdaptPair→Nat→List GStep→Int→Option (GAdaptProgram×Int))(l63:List (GAdaptPair×Int))(m4__064:GSchema)(m4__165:GSchema)(l66:List GAdaptPair)(v67:Nat)(l68:List GStep):Option (GAdaptProgram×Int):=
 (rec59 l63 m4__064 m4__165 l66 v67 l68 (IntKind.i64.wrap (x50+1)))
def yI.l59 (l19:List (List GStep))(x21:Int)(rec30:List (GAdaptPair×Int)→GSchema→GSchema→List GAdaptPair→Nat→List (List GStep)→Int→Option (GAdaptProgram×Int))(r38:GMessage×Bool)(r41:GMessage×Bool):Nat→List (GAdaptPair×Int)→GSchema→GSchema→List GAdaptPair→Nat→List GStep→Int→Option (GAdaptProgram×Int)
 |0,_,_,_,_,_,_,_=>none
 |k59+1,l43,m4__044,m4__145,l46,v47,l48,x50=>(if x50≤500 then (xh (⟨m4__044,m4__145,l46,v47,l43⟩:xd) r38.1 r41.1 x50).bind fun r71=>(if r71.2.1=true then (YJ (qb l48+1) 24).bind fun _u73=>(yI.j70 x50 (yI.l59 l19 x21 rec30 r38 r41 k59) r71.2.2.fplace r71.2.2.ffrom r71.2.2.fto r71.2.2.fl r71.2.2.vl (l48++[r71.1])) else (yI.j70 x50 (yI.l59 l19 x21 rec30 r38 r41 k59) r71.2.2.fplace r71.2.2.ffrom r71.2.2.fto r71.2.2.fl r71.2.2.vl l48)) else (YJ (qb l19+1) 24).bind fun _u76=>(rec30 l43 m4__044 m4__145 l46 v47 (l19++[l48]) (IntKind.i64.wrap (x21+1))))
def yI.l30 (a0:GSchema)(a1:GSchema):Nat→List (GAdaptPair×Int)→GSchema→GSchema→List GAdaptPair→Nat→List (List GStep)→Int→Option (GAdaptProgram×Int)
 |0,_,_,_,_,_,_,_=>none
 |k30+1,l14,m4__015,m4__116,l17,v18,l19,x21=>(if x21<(qb l17:Int) then (Zb l17 x21).bind fun y35=>bnd (zG a0 y35.ffrom) fun r38=>bnd (zG a1 y35.fto) fun r41=>(yI.l59 l19 x21 (yI.l30 a0 a1 k30) r38 r41 rounds l14 m4__015 m4__116 l17 v18 ([]:List GStep) 1) else some ((⟨l19⟩:GAdaptProgram),0))
def yI (a0:GSchema)(a1:GSchema)(a2:List UInt8)(a3:List UInt8):Option (GAdaptProgram×Int):=
 (z6 a0).bind fun r2=>(if r2=0 then (z6 a1).bind fun r3=>some (!(decide (r3=0))) else some true).bind fun c3=>(if c3=true then some ((⟨([]:List (List GStep))⟩:GAdaptProgram),1) else bnd (zG a0 a2) fun r8=>bnd (zG a1 a3) fun r9=>(if ((!r8.2)||(!r9.2))=true then some ((⟨([]:List (List GStep))⟩:GAdaptProgram),14) else (xi (⟨a0,a1,([]:List GAdaptPair),0,([]:List (GAdaptPair×Int))⟩:xd) (⟨a2,a3⟩:GAdaptPair)).bind fun r12=>(yI.l30 a0 a1 rounds r12.2.fplace r12.2.ffrom r12.2.fto r12.2.fl r12.2.vl ([]:List (List GStep)) 0)))
theorem yI.ok (a0:GSchema)(a1:GSchema)(a2:List UInt8)(a3:List UInt8)(r:GAdaptProgram×Int)(h:yI a0 a1 a2 a3=some r):ACalls qg 99 [.agg (encGSchema a0),.agg (encGSchema a1),.str a2,.str a3] [] (fun r' _=>r'=.tup [.agg (encGAdaptProgram r.1),.int .i64 r.2]):=by
 refine zh (rs:=[.cell 8 178,.tmp 9]) tok Tryz.func99 rfl Tryz.ntmps99 rfl Tryz.call99 (by simp) ?_;refine zl [(0,.agg (encGSchema a0)),(1,.agg (encGSchema a1)),(2,.str a2),(3,.str a3)] ⟨rfl,rfl,rfl,rfl,trivial⟩ ?_;unfold yI at h
 refine rg tok [2,3,4,5,8] fun K hK=>?_
 simp only[go_sem,qc,qa,qe,reduceCtorEq,encGSchema];apply hK
 refine za fun Z1 hZ1=>?_
 refine rc [2,3,4,5,8,32] fun K hK=>?_
 obtain⟨r2,hr2,h⟩:=bind_some h;refine rnN 1 ?_;refine clN rfl rfl rfl (z6.ev a0 r2 hr2 _) ?_;refine rnN 2 ?_;obtain⟨c3,hc3,h⟩:=bind_some h;refine zq 4 (fun L τ=>L=[(2,.str a2),(3,.str a3),(4,.op 0 0 0),(5,.op 1 0 0),(8,.op 2 0 0),(32,.bool c3)]∧τ=[.cells 0 (encGSchema a0),.cells 0 (encGSchema a1),.cells 0 [.ds true [] 0 true]]) ?_ ?_
 · refine yW 28 rfl (fun hg28=>?_) (fun hg28=>?_)
   · have t4:=eq_false hg28;rw[if_neg hg28] at hc3;refine rnN 4 ?_;cases hc3;refine zb ⟨rfl,_,_,⟨rfl,rfl⟩,.p t4⟩
   have t5:=eq_true hg28;rw[if_pos hg28] at hc3;obtain⟨r6,hr6,hc3⟩:=bind_some hc3;refine rnN 1 ?_;refine clN rfl rfl rfl (z6.ev a1 r6 hr6 _) ?_;refine rnN 2 ?_;cases hc3;refine zb ⟨rfl,_,_,⟨rfl,rfl⟩,.p t5⟩
 rintro _ _ ⟨rfl,rfl⟩;refine nkN hK ?_;refine zv (b:=c3) rfl (fun hc7=>?_) (fun hc7=>?_)
 · rw[if_pos hc7] at h;refine rgN [8,9] ?_;cases h;exact rtA
 rw[wb hc7] at h;apply zd;apply hZ1
 refine rc [2,3,4,5,8,11] fun K hK=>?_
 obtain⟨r8,hr8,h⟩:=zD h;refine rnN 2 ?_;refine clN rfl rfl rfl (zG.ev a0 a2 r8 hr8 _) ?_;refine zj tok 6 ?_;simp only[go_sem,qc,qf,qa,qe,encGMessage];refine nkN hK ?_
 refine rc [2,3,4,5,8,11,13] fun K hK=>?_
 obtain⟨r9,hr9,h⟩:=zD h;refine rnN 2 ?_;refine clN rfl rfl rfl (zG.ev a1 a3 r9 hr9 _) ?_;refine zj tok 6 ?_;simp only[go_sem,qc,qf,qa,qe,encGMessage];refine nkN hK ?_
 refine za fun Z10 hZ10=>?_
 refine rc [2,3,4,5,8,51] fun K hK=>?_
 refine rnN 3 ?_;refine zq 3 (fun L τ=>L=[(2,.str a2),(3,.str a3),(4,.op 0 0 0),(5,.op 1 0 0),(8,.op 2 0 0),(51,.bool ((!r8.2)||(!r9.2)))]∧τ=[.cells 0 (encGSchema a0),.cells 0 (encGSchema a1),.cells 0 [.ds true [] 0 true],.cells 0 (encGMessage r8.1),.cells 0 (encGMessage r9.1)]) ?_ ?_
 · refine yf (b:=(!r8.2)) 48 rfl (fun hg48=>?_) (fun hg48=>?_)
   · refine rnN 3 ?_;refine zb ⟨rfl,_,_,⟨rfl,rfl⟩,.b hg48⟩
   refine rnN 3 ?_;refine zb ⟨rfl,_,_,⟨rfl,rfl⟩,.b hg48⟩
 rintro _ _ ⟨rfl,rfl⟩;refine nkN hK ?_;refine zv (b:=((!r8.2)||(!r9.2))) rfl (fun hc11=>?_) (fun hc11=>?_)
 · rw[if_pos hc11] at h;refine rgN [8,9] ?_;cases h;exact rtA
 rw[wb hc11] at h;apply zd;apply hZ10;refine rgN [2,3,4,5,8,14] ?_;refine Zg 6 8 2 rfl (by simp) rfl (L:=[(2,.str a2),(3,.str a3),(4,.op 0 0 0),(5,.op 1 0 0),(8,.op 2 0 0),(14,.op 6 0 0)]) (τ:=[.cells 0 (encGSchema a0),.cells 0 (encGSchema a1),.cells 0 [.ds true [] 0 true],.cells 0 (encGMessage r8.1),.cells 0 (encGMessage r9.1),.map (xW kvGAdaptPair (AV.int .i64) []),.cells 0 [.str a0.fName,.ds true (qd encGMessage a0.fMessages) (qb a0.fMessages) false,.ds true (qd encGEnumeration a0.fEnums) (qb a0.fEnums) false,.ds true (qd encGMethod a0.fMethods) (qb a0.fMethods) false,.str a1.fName,.ds true (qd encGMessage a1.fMessages) (qb a1.fMessages) false,.ds true (qd encGEnumeration a1.fEnums) (qb a1.fEnums) false,.ds true (qd encGMethod a1.fMethods) (qb a1.fMethods) false,.os true 2 7 0 0 (qb ([]:List GAdaptPair)) false,.mp 5],.cells 0 (qd encGAdaptPair ([]:List GAdaptPair))]) .s ?_;refine yn (L:=[(2,.str a2),(3,.str a3),(4,.op 0 0 0),(5,.op 1 0 0),(8,.op 2 0 0),(14,.op 6 0 0)]) (τ:=[.cells 0 (encGSchema a0),.cells 0 (encGSchema a1),.cells 0 [.ds true [] 0 true],.cells 0 (encGMessage r8.1),.cells 0 (encGMessage r9.1),.map (xW kvGAdaptPair (AV.int .i64) []),.cells 0 [.str a0.fName,.ds true (qd encGMessage a0.fMessages) (qb a0.fMessages) false,.ds true (qd encGEnumeration a0.fEnums) (qb a0.fEnums) false,.ds true (qd encGMethod a0.fMethods) (qb a0.fMethods) false,.str a1.fName,.ds true (qd encGMessage a1.fMessages) (qb a1.fMessages) false,.ds true (qd encGEnumeration a1.fEnums) (qb a1.fEnums) false,.ds true (qd encGMethod a1.fMethods) (qb a1.fMethods) false,.os true 2 7 0 0 (qb ([]:List GAdaptPair)) false,.mp 5],.cells 0 (qd encGAdaptPair ([]:List GAdaptPair))]) .s ?_
 refine rc [4,5,8,14] fun K hK=>?_
 obtain⟨r12,hr12,h⟩:=bind_some h;refine rnN 4 ?_;refine clN rfl rfl rfl (@id (ACalls qg 150 [.op 6 0 0,.agg [.str a2,.str a3]] [.cells 0 (encGSchema a0),.cells 0 (encGSchema a1),.cells 0 [.ds true [] 0 true],.cells 0 (encGMessage r8.1),.cells 0 (encGMessage r9.1),.map (xW kvGAdaptPair (AV.int .i64) []),.cells 0 [.str a0.fName,.ds true (qd encGMessage a0.fMessages) (qb a0.fMessages) false,.ds true (qd encGEnumeration a0.fEnums) (qb a0.fEnums) false,.ds true (qd encGMethod a0.fMethods) (qb a0.fMethods) false,.str a1.fName,.ds true (qd encGMessage a1.fMessages) (qb a1.fMessages) false,.ds true (qd encGEnumeration a1.fEnums) (qb a1.fEnums) false,.ds true (qd encGMethod a1.fMethods) (qb a1.fMethods) false,.os true 2 7 0 0 (qb ([]:List GAdaptPair)) false,.mp 5],.cells 0 (qd encGAdaptPair ([]:List GAdaptPair))] (fun r' σ'=>r'=.int .i64 r12.1∧σ'=[.cells 0 (encGSchema a0),.cells 0 (encGSchema a1),.cells 0 [.ds true [] 0 true],.cells 0 (encGMessage r8.1),.cells 0 (encGMessage r9.1),.map (xW kvGAdaptPair (AV.int .i64) r12.2.fplace),.cells 0 [.str r12.2.ffrom.fName,.ds true (qd encGMessage r12.2.ffrom.fMessages) (qb r12.2.ffrom.fMessages) false,.ds true (qd encGEnumeration r12.2.ffrom.fEnums) (qb r12.2.ffrom.fEnums) false,.ds true (qd encGMethod r12.2.ffrom.fMethods) (qb r12.2.ffrom.fMethods) false,.str r12.2.fto.fName,.ds true (qd encGMessage r12.2.fto.fMessages) (qb r12.2.fto.fMessages) false,.ds true (qd encGEnumeration r12.2.fto.fEnums) (qb r12.2.fto.fEnums) false,.ds true (qd encGMethod r12.2.fto.fMethods) (qb r12.2.fto.fMethods) false,.os true 2 7 (r12.2.vl) 0 (qb r12.2.fl) false,.mp 5],.cells (r12.2.vl) (qd encGAdaptPair r12.2.fl)])) ((xi.ok (⟨a0,a1,([]:List GAdaptPair),0,([]:List (GAdaptPair×Int))⟩:xd) (⟨a2,a3⟩:GAdaptPair) r12 hr12).ix [6,7,5])) ?_;refine nkN hK ?_;refine rgN [4,5,8,14,15] ?_;refine Zg 8 0 1 rfl (by simp) rfl (L:=[(4,.op 0 0 0),(5,.op 1 0 0),(8,.op 2 0 0),(14,.op 6 0 0),(15,.op 8 0 0)]) (τ:=[.cells 0 (encGSchema a0),.cells 0 (encGSchema a1),.cells 0 [.ds true [] 0 true],.cells 0 (encGMessage r8.1),.cells 0 (encGMessage r9.1),.map (xW kvGAdaptPair (AV.int .i64) r12.2.fplace),.cells 0 [.str r12.2.ffrom.fName,.ds true (qd encGMessage r12.2.ffrom.fMessages) (qb r12.2.ffrom.fMessages) false,.ds true (qd encGEnumeration r12.2.ffrom.fEnums) (qb r12.2.ffrom.fEnums) false,.ds true (qd encGMethod r12.2.ffrom.fMethods) (qb r12.2.ffrom.fMethods) false,.str r12.2.fto.fName,.ds true (qd encGMessage r12.2.fto.fMessages) (qb r12.2.fto.fMessages) false,.ds true (qd encGEnumeration r12.2.fto.fEnums) (qb r12.2.fto.fEnums) false,.ds true (qd encGMethod r12.2.fto.fMethods) (qb r12.2.fto.fMethods) false,.os true 2 7 (r12.2.vl) 0 (qb r12.2.fl) false,.mp 5],.cells (r12.2.vl) (qd encGAdaptPair r12.2.fl),.cells 0 [.os true 1 9 0 0 (qb ([]:List (List GStep))) false],.cells 0 (qd (Yt encGStep) ([]:List (List GStep)))]) .s ?_
 refine za fun Z13 hZ13=>?_
 refine rgN [4,5,8,14,15,16] ?_;apply ze;refine zF (fun m L τ=>∃ (k30:Nat) (l14:List (GAdaptPair×Int)) (m4__015:GSchema) (m4__116:GSchema) (l17:List GAdaptPair) (v18:Nat) (l19:List (List GStep)) (x21:Int) (v20:Nat),m=0+k30∧L=[(4,.op 0 0 0),(5,.op 1 0 0),(8,.op 2 0 0),(14,.op 4 0 0),(15,.op 6 0 0),(16,.int .i64 x21)]∧τ=[.cells 0 (encGSchema a0),.cells 0 (encGSchema a1),.cells 0 [.ds true [] 0 true],.map (xW kvGAdaptPair (AV.int .i64) l14),.cells 0 [.str m4__015.fName,.ds true (qd encGMessage m4__015.fMessages) (qb m4__015.fMessages) false,.ds true (qd encGEnumeration m4__015.fEnums) (qb m4__015.fEnums) false,.ds true (qd encGMethod m4__015.fMethods) (qb m4__015.fMethods) false,.str m4__116.fName,.ds true (qd encGMessage m4__116.fMessages) (qb m4__116.fMessages) false,.ds true (qd encGEnumeration m4__116.fEnums) (qb m4__116.fEnums) false,.ds true (qd encGMethod m4__116.fMethods) (qb m4__116.fMethods) false,.os true 2 5 v18 0 (qb l17) false,.mp 3],.cells v18 (qd encGAdaptPair l17),.cells 0 [.os true 1 7 v20 0 (qb l19) false],.cells v20 (qd (Yt encGStep) l19)]∧yI.l30 a0 a1 k30 l14 m4__015 m4__116 l17 v18 l19 x21=some r) _ ⟨rounds,r12.2.fplace,r12.2.ffrom,r12.2.fto,r12.2.fl,r12.2.vl,([]:List (List GStep)),0,0,rfl,rfl,rfl,h⟩ (.t [0,1,2,5,6,7,8,9] false) ?_;rintro m L τ ⟨k30,l14,m4__015,m4__116,l17,v18,l19,x21,v20,rfl,rfl,rfl,h⟩
 rcases k30 with _|k30
 · cases h
 simp only[yI.l30] at h
 refine za fun Z31 hZ31=>?_
 refine rgN [4,5,8,14,15,16,69] ?_;refine zL rfl (fun hc32=>?_) (fun hc32=>?_)
 · rw[if_pos hc32] at h;have t33:=eq_true hc32;apply zd;apply hZ31
   refine za fun Z34 hZ34=>?_
   apply ze;obtain⟨y35,hy35,h⟩:=bind_some h;have f36:=E240.idxO hy35;have f37:=E240.rdfO0 hy35;obtain⟨r38,hr38,h⟩:=zD h
   refine rd [4,5,8,14,15,16,17] fun K hK=>?_
   refine DW.start (T:=tab) [.at [],.any,.any,.any,.at [],.any,.any,.any,.at [],.eff,.any,.any,.any,.flt,.eff,.any] [] ?_;refine DW.runN tok 8 ?_;simp only[go_sem,qc,qf,qa,qe,t33,f36];refine DW.runN tok 1 ?_;simp only[go_sem,qc,qa,encGAdaptPair,f37];refine DW.call rfl rfl rfl (zG.ev a0 y35.ffrom r38 hr38 _) ?_;refine DW.runN tok 6 ?_;simp only[go_sem,qc,qf,qa,qe,encGMessage];refine DW.fin tok (by decide +kernel) rfl ?_;simp only[zf,upd,qa,reduceIte,zV,yz];apply hK
   have f39:=E240.idxO hy35;have f40:=E240.rdfO hy35 (o:=1) (by decide);obtain⟨r41,hr41,h⟩:=zD h
   refine rd [4,5,8,14,15,16,17,19] fun K hK=>?_
   refine DW.start (T:=tab) [.at [],.any,.any,.any,.at [],.any,.any,.any,.at [],.eff,.any,.any,.any,.flt,.eff,.any] [] ?_;refine DW.runN tok 8 ?_;simp only[go_sem,qc,qf,qa,qe,f39];refine DW.runN tok 1 ?_;simp only[go_sem,qc,qa,encGAdaptPair,f40];refine DW.call rfl rfl rfl (zG.ev a1 y35.fto r41 hr41 _) ?_;refine DW.runN tok 6 ?_;simp only[go_sem,qc,qf,qa,qe,encGMessage];refine DW.fin tok (by decide +kernel) rfl ?_;simp only[zf,upd,qa,reduceIte,zV,yz];apply hK
   refine rgN [4,5,8,14,15,16,17,19,21] ?_;refine Zt 21 3 rfl ?_;refine yn (L:=[(4,.op 0 0 0),(5,.op 1 0 0),(8,.op 2 0 0),(14,.op 4 0 0),(15,.op 6 0 0),(16,.int .i64 x21),(17,.op 8 0 0),(19,.op 9 0 0),(21,.os true 3 10 0 0 (qb ([]:List GStep)) false)]) (τ:=[.cells 0 (encGSchema a0),.cells 0 (encGSchema a1),.cells 0 [.ds true [] 0 true],.map (xW kvGAdaptPair (AV.int .i64) l14),.cells 0 [.str m4__015.fName,.ds true (qd encGMessage m4__015.fMessages) (qb m4__015.fMessages) false,.ds true (qd encGEnumeration m4__015.fEnums) (qb m4__015.fEnums) false,.ds true (qd encGMethod m4__015.fMethods) (qb m4__015.fMethods) false,.str m4__116.fName,.ds true (qd encGMessage m4__116.fMessages) (qb m4__116.fMessages) false,.ds true (qd encGEnumeration m4__116.fEnums) (qb m4__116.fEnums) false,.ds true (qd encGMethod m4__116.fMethods) (qb m4__116.fMethods) false,.os true 2 5 v18 0 (qb l17) false,.mp 3],.cells v18 (qd encGAdaptPair l17),.cells 0 [.os true 1 7 v20 0 (qb l19) false],.cells v20 (qd (Yt encGStep) l19),.cells 0 (encGMessage r38.1),.cells 0 (encGMessage r41.1),.cells 0 (qd encGStep ([]:List GStep))]) .s ?_
   refine za fun Z42 hZ42=>?_
   refine rgN [4,5,8,14,15,16,17,19,21,22] ?_;apply ze;refine zF (fun m L τ=>∃ (k59:Nat) (l43:List (GAdaptPair×Int)) (m4__044:GSchema) (m4__145:GSchema) (l46:List GAdaptPair) (v47:Nat) (l48:List GStep) (x50:Int) (v49:Nat),m=0+k59∧L=[(4,.op 0 0 0),(5,.op 1 0 0),(8,.op 2 0 0),(14,.op 4 0 0),(15,.op 6 0 0),(16,.int .i64 x21),(17,.op 8 0 0),(19,.op 9 0 0),(21,.os true 3 10 v49 0 (qb l48) false),(22,.int .i64 x50)]∧τ=[.cells 0 (encGSchema a0),.cells 0 (encGSchema a1),.cells 0 [.ds true [] 0 true],.map (xW kvGAdaptPair (AV.int .i64) l43),.cells 0 [.str m4__044.fName,.ds true (qd encGMessage m4__044.fMessages) (qb m4__044.fMessages) false,.ds true (qd encGEnumeration m4__044.fEnums) (qb m4__044.fEnums) false,.ds true (qd encGMethod m4__044.fMethods) (qb m4__044.fMethods) false,.str m4__145.fName,.ds true (qd encGMessage m4__145.fMessages) (qb m4__145.fMessages) false,.ds true (qd encGEnumeration m4__145.fEnums) (qb m4__145.fEnums) false,.ds true (qd encGMethod m4__145.fMethods) (qb m4__145.fMethods) false,.os true 2 5 v47 0 (qb l46) false,.mp 3],.cells v47 (qd encGAdaptPair l46),.cells 0 [.os true 1 7 v20 0 (qb l19) false],.cells v20 (qd (Yt encGStep) l19),.cells 0 (encGMessage r38.1),.cells 0 (encGMessage r41.1),.cells v49 (qd encGStep l48)]∧yI.l59 l19 x21 (yI.l30 a0 a1 k30) r38 r41 k59 l43 m4__044 m4__145 l46 v47 l48 x50=some r) _ ⟨rounds,l14,m4__015,m4__116,l17,v18,([]:List GStep),1,0,rfl,rfl,rfl,h⟩ .s ?_;rintro m L τ ⟨k59,l43,m4__044,m4__145,l46,v47,l48,x50,v49,rfl,rfl,rfl,h⟩
   rcases k59 with _|k59
   · cases h
   simp only[yI.l59] at h
   refine za fun Z60 hZ60=>?_
   refine rgN [4,5,8,14,15,16,17,19,21,22,99] ?_;refine zL rfl (fun hc61=>?_) (fun hc61=>?_)
   · rw[if_pos hc61] at h;have t62:=eq_true hc61;apply zd;apply hZ60;refine yU (fun L τ=>∃ (l63:List (GAdaptPair×Int)) (m4__064:GSchema) (m4__165:GSchema) (l66:List GAdaptPair) (v67:Nat) (l68:List GStep) (v69:Nat),L=[(4,.op 0 0 0),(5,.op 1 0 0),(8,.op 2 0 0),(14,.op 4 0 0),(15,.op 6 0 0),(16,.int .i64 x21),(17,.op 8 0 0),(19,.op 9 0 0),(21,.os true 3 10 v69 0 (qb l68) false),(22,.int .i64 x50)]∧τ=[.cells 0 (encGSchema a0),.cells 0 (encGSchema a1),.cells 0 [.ds true [] 0 true],.map (xW kvGAdaptPair (AV.int .i64) l63),.cells 0 [.str m4__064.fName,.ds true (qd encGMessage m4__064.fMessages) (qb m4__064.fMessages) false,.ds true (qd encGEnumeration m4__064.fEnums) (qb m4__064.fEnums) false,.ds true (qd encGMethod m4__064.fMethods) (qb m4__064.fMethods) false,.str m4__165.fName,.ds true (qd encGMessage m4__165.fMessages) (qb m4__165.fMessages) false,.ds true (qd encGEnumeration m4__165.fEnums) (qb m4__165.fEnums) false,.ds true (qd encGMethod m4__165.fMethods) (qb m4__165.fMethods) false,.os true 2 5 v67 0 (qb l66) false,.mp 3],.cells v67 (qd encGAdaptPair l66),.cells 0 [.os true 1 7 v20 0 (qb l19) false],.cells v20 (qd (Yt encGStep) l19),.cells 0 (encGMessage r38.1),.cells 0 (encGMessage r41.1),.cells v69 (qd encGStep l68)]∧yI.j70 x50 (yI.l59 l19 x21 (yI.l30 a0 a1 k30) r38 r41 k59) l63 m4__064 m4__165 l66 v67 l68=some r) ?_ ?_
     · apply ze
       refine rc [4,5,8,14,15,16,17,19,21,22,23,24] fun K hK=>?_
       obtain⟨r71,hr71,h⟩:=bind_some h;refine zj tok 4 ?_;simp only[go_sem,qc,qf,qa,qe,t62];refine clN rfl rfl rfl (@id (ACalls qg 151 [.op 4 0 0,.agg (encGMessage r38.1),.agg (encGMessage r41.1),.int .i64 x50] [.cells 0 (encGSchema a0),.cells 0 (encGSchema a1),.cells 0 [.ds true [] 0 true],.map (xW kvGAdaptPair (AV.int .i64) l43),.cells 0 [.str m4__044.fName,.ds true (qd encGMessage m4__044.fMessages) (qb m4__044.fMessages) false,.ds true (qd encGEnumeration m4__044.fEnums) (qb m4__044.fEnums) false,.ds true (qd encGMethod m4__044.fMethods) (qb m4__044.fMethods) false,.str m4__145.fName,.ds true (qd encGMessage m4__145.fMessages) (qb m4__145.fMessages) false,.ds true (qd encGEnumeration m4__145.fEnums) (qb m4__145.fEnums) false,.ds true (qd encGMethod m4__145.fMethods) (qb m4__145.fMethods) false,.os true 2 5 v47 0 (qb l46) false,.mp 3],.cells v47 (qd encGAdaptPair l46),.cells 0 [.os true 1 7 v20 0 (qb l19) false],.cells v20 (qd (Yt encGStep) l19),.cells 0 (encGMessage r38.1),.cells 0 (encGMessage r41.1),.cells v49 (qd encGStep l48)] (fun r' σ'=>r'=.tup [.agg (encGStep r71.1),.bool r71.2.1]∧σ'=[.cells 0 (encGSchema a0),.cells 0 (encGSchema a1),.cells 0 [.ds true [] 0 true],.map (xW kvGAdaptPair (AV.int .i64) r71.2.2.fplace),.cells 0 [.str r71.2.2.ffrom.fName,.ds true (qd encGMessage r71.2.2.ffrom.fMessages) (qb r71.2.2.ffrom.fMessages) false,.ds true (qd encGEnumeration r71.2.2.ffrom.fEnums) (qb r71.2.2.ffrom.fEnums) false,.ds true (qd encGMethod r71.2.2.ffrom.fMethods) (qb r71.2.2.ffrom.fMethods) false,.str r71.2.2.fto.fName,.ds true (qd encGMessage r71.2.2.fto.fMessages) (qb r71.2.2.fto.fMessages) false,.ds true (qd encGEnumeration r71.2.2.fto.fEnums) (qb r71.2.2.fto.fEnums) false,.ds true (qd encGMethod r71.2.2.fto.fMethods) (qb r71.2.2.fto.fMethods) false,.os true 2 5 (r71.2.2.vl) 0 (qb r71.2.2.fl) false,.mp 3],.cells (r71.2.2.vl) (qd encGAdaptPair r71.2.2.fl),.cells 0 [.os true 1 7 v20 0 (qb l19) false],.cells v20 (qd (Yt encGStep) l19),.cells 0 (encGMessage r38.1),.cells 0 (encGMessage r41.1),.cells v49 (qd encGStep l48)])) ((xh.ok (⟨m4__044,m4__145,l46,v47,l43⟩:xd) r38.1 r41.1 x50 r71 hr71).ix [4,5,3])) ?_;refine zj tok 6 ?_;simp only[go_sem,qc,qf,qa,qe,encGStep];refine nkN hK ?_;refine rgN [4,5,8,14,15,16,17,19,21,22,23,110] ?_;refine zv (b:=r71.2.1) rfl (fun hc72=>?_) (fun hc72=>?_)
       · rw[if_pos hc72] at h;obtain⟨_u73,hu73,h⟩:=bind_some h;have gu73:=yF hu73;have f74:=(zy E246.len l48)
         refine rgE tok [4,5,8,14,15,16,17,19,21,22] fun K hK=>?_
         simp only[go_sem,qc,qf,qa,qe,ql,zM,z8,q1,qT,true_and,ub,yx,zY,yC,gu73,f74,yS,uc,qZ,AV.one,qO,qK,qk,qr,qn,qM];apply hK
         exact⟨_,_,⟨r71.2.2.fplace,r71.2.2.ffrom,r71.2.2.fto,r71.2.2.fl,r71.2.2.vl,l48++[r71.1],v49+1,rfl,rfl,h⟩,(.t [0,1,2,3,4,5,6,7,8,9,10] false)⟩
       rw[wb hc72] at h;apply zd;exact⟨_,_,⟨r71.2.2.fplace,r71.2.2.ffrom,r71.2.2.fto,r71.2.2.fl,r71.2.2.vl,l48,v49,rfl,rfl,h⟩,(.t [0,1,2,3,4,5,6,7,8,9,10] false)⟩
     rintro _ _ ⟨l63,m4__064,m4__165,l66,v67,l68,v69,rfl,rfl,h⟩;unfold yI.j70 at h
     refine rgE tok [4,5,8,14,15,16,17,19,21,22] fun K hK=>?_
     simp only[go_sem,qc,qa];apply hK
     exact⟨_,_,_,qy (0+k59),⟨k59,l63,m4__064,m4__165,l66,v67,l68,IntKind.i64.wrap (x50+1),v69,rfl,rfl,rfl,h⟩,.s⟩
   rw[if_neg hc61] at h;have t75:=eq_false hc61;apply zA;apply hZ42;obtain⟨_u76,hu76,h⟩:=bind_some h;have gu76:=yF hu76;have f77:=(zy E176.len l19)
   refine rgE tok [4,5,8,14,15,16] fun K hK=>?_
   simp only[go_sem,qc,qf,qa,qe,ql,zM,z8,q1,qT,true_and,ub,yx,zY,yC,t75,gu76,f77,yS,uc,qZ,AV.one,qO,qK,qk,qr,qn,qM];apply hK
   apply hZ34
   refine rgE tok [4,5,8,14,15,16] fun K hK=>?_
   simp only[go_sem,qc,qa];apply hK
   exact⟨_,_,_,qy (0+k30),⟨k30,l43,m4__044,m4__145,l46,v47,l19++[l48],IntKind.i64.wrap (x21+1),v20+1,rfl,rfl,rfl,h⟩,(.t [0,1,2,3,4,5,6,7] false)⟩
 rw[if_neg hc32] at h;have t78:=eq_false hc32;apply zA;apply hZ13
 refine rg tok [8,9] fun K hK=>?_
 simp only[go_sem,qc,qf,qa,t78];apply hK
 cases h;exact rtA
theorem yI.ev (a0:GSchema)(a1:GSchema)(a2:List UInt8)(a3:List UInt8)(r:GAdaptProgram×Int)(h:yI a0 a1 a2 a3=some r)(σ:Store):ACalls qg 99 [.agg (encGSchema a0),.agg (encGSchema a1),.str a2,.str a3] σ (fun r' σ'=>r'=.tup [.agg (encGAdaptProgram r.1),.int .i64 r.2]∧σ'=σ):=
 (yI.ok a0 a1 a2 a3 r h).c σ
def xL.j6 (a0:GStep)(a1:Int)(x5:Bool):Bool:=
 (if x5=true then ((decide (0≤a0.fSub))&&(decide (a0.fSub<a1))) else false)
def xL.j3 (a0:GStep)(a1:Int)(x2:Bool):Bool:=
 (if x2=true then decide (a0.fSub=0) else (if a0.fOp=3 then (xL.j6 a0 a1 (decide (a0.fOp=3))) else (xL.j6 a0 a1 (decide (a0.fOp=4)))))
def xL (a0:GStep)(a1:Int):Bool:=
 (if a0.fOp=1 then (xL.j3 a0 a1 (decide (a0.fOp=1))) else (xL.j3 a0 a1 (decide (a0.fOp=2))))
theorem xL.ok (a0:GStep)(a1:Int)(r:Bool)(h:xL a0 a1=r):ACalls qg 236 [.agg (encGStep a0),.int .i64 a1] [] (fun r' _=>r'=.bool r):=by
 refine zh (rs:=[.tmp 4]) tok Tryz.func236 rfl Tryz.ntmps236 rfl Tryz.call236 (by simp) ?_;refine zl [(0,.agg (encGStep a0)),(1,.int .i64 a1)] ⟨rfl,rfl,trivial⟩ ?_;unfold xL at h
 refine rg tok [1,2] fun K hK=>?_
 simp only[go_sem,qc,qa,qe,reduceCtorEq,encGStep];apply hK
 refine za fun Z1 hZ1=>?_
 refine rgN [1,2,6] ?_;apply ze;refine yU (fun L τ=>∃ (x2:Bool),L=[(1,.int .i64 a1),(2,.op 0 0 0),(6,.int .i64 a0.fOp),(7,.bool x2)]∧τ=[.cells 0 [.int .i64 a0.fOp,.int .i64 a0.fTag,.int .i64 a0.fSub]]∧xL.j3 a0 a1 x2=r) ?_ ?_
 · refine rgN [1,2,6,7] ?_;refine zL rfl (fun hc13=>?_) (fun hc13=>?_)
   · rw[if_pos hc13] at h;have t14:=eq_true hc13;apply zd;exact⟨_,_,⟨decide (a0.fOp=1),rfl,rfl,h⟩,.s⟩
   rw[if_neg hc13] at h;have t15:=eq_false hc13
   refine rgE tok [1,2,6,7] fun K hK=>?_
   simp only[go_sem,qc,qa,t15];apply hK
   exact⟨_,_,⟨decide (a0.fOp=2),rfl,rfl,h⟩,.s⟩
 rintro _ _ ⟨x2,rfl,rfl,h⟩;unfold xL.j3 at h;refine zv (b:=x2) rfl (fun hc4=>?_) (fun hc4=>?_)
 · rw[if_pos hc4] at h;refine rgN [4] ?_;cases h;exact rtA
 rw[wb hc4] at h;refine yU (fun L τ=>∃ (x5:Bool),L=[(1,.int .i64 a1),(2,.op 0 0 0),(13,.bool x5)]∧τ=[.cells 0 [.int .i64 a0.fOp,.int .i64 a0.fTag,.int .i64 a0.fSub]]∧xL.j6 a0 a1 x5=r) ?_ ?_
 · refine rgN [1,2,6,13] ?_;refine zL rfl (fun hc10=>?_) (fun hc10=>?_)
   · rw[if_pos hc10] at h;have t11:=eq_true hc10;apply zd;exact⟨_,_,⟨decide (a0.fOp=3),rfl,rfl,h⟩,.s⟩
   rw[if_neg hc10] at h;have t12:=eq_false hc10
   refine rgE tok [1,2,13] fun K hK=>?_
   simp only[go_sem,qc,qa,t12];apply hK
   exact⟨_,_,⟨decide (a0.fOp=4),rfl,rfl,h⟩,.s⟩
 rintro _ _ ⟨x5,rfl,rfl,h⟩;unfold xL.j6 at h;refine zv (b:=x5) rfl (fun hc7=>?_) (fun hc7=>?_)
 · rw[if_pos hc7] at h
   refine rc [4] fun K hK=>?_
   refine rnN 4 ?_;refine zq 5 (fun L τ=>L=[(24,.bool ((decide (0≤a0.fSub))&&(decide (a0.fSub<a1))))]∧τ=[.cells 0 [.int .i64 a0.fOp,.int .i64 a0.fTag,.int .i64 a0.fSub]]) ?_ ?_
   · refine yW 19 rfl (fun hg19=>?_) (fun hg19=>?_)
     · have t8:=eq_true hg19;refine rnN 5 ?_;refine zb ⟨rfl,_,_,⟨rfl,rfl⟩,.p t8⟩
     have t9:=eq_false hg19;refine rnN 5 ?_;refine zb ⟨rfl,_,_,⟨rfl,rfl⟩,.p t9⟩
   rintro _ _ ⟨rfl,rfl⟩;refine rnN 1 ?_;refine nkN hK ?_;cases h;exact rtA
 rw[wb hc7] at h;apply zd;apply hZ1;refine rgN [4] ?_;cases h;exact rtA
theorem xL.ev (a0:GStep)(a1:Int)(r:Bool)(h:xL a0 a1=r)(σ:Store):ACalls qg 236 [.agg (encGStep a0),.int .i64 a1] σ (fun r' σ'=>r'=.bool r∧σ'=σ):=
 (xL.ok a0 a1 r h).c σ
def yN.l18 (a0:GAdaptProgram)(x6:Int)(rec8:Int→Bool):List GStep→Int→Int→Bool
 |[],x15,x14=>(rec8 (x6+1))
 |y18::q18,x15,x14=>bnd (if ((decide (y18.fTag≤x14))||(decide (500<y18.fTag)))=true then true else bnd (xL y18 (qb a0.fParts:Int)) fun r27 => !r27) fun c27=>(if c27=true then false else ((yN.l18 a0 x6 rec8 q18) (x15+1) y18.fTag))
def yN.l8 (a0:GAdaptProgram):List (List GStep)→Int→Bool
 |[],x6=>true
 |y8::q8,x6=>(yN.l18 a0 x6 (yN.l8 a0 q8) y8 0 0)
def yN (a0:GAdaptProgram):Bool:=
 (if ((decide ((qb a0.fParts:Int)<1))||(decide (100<(qb a0.fParts:Int))))=true then false else (yN.l8 a0 a0.fParts 0))
theorem yN.ok (a0:GAdaptProgram)(r:Bool)(h:yN a0=r):ACalls qg 198 [.agg (encGAdaptProgram a0)] [] (fun r' _=>r'=.bool r):=by
 refine zh (rs:=[.tmp 2]) tok Tryz.func198 rfl Tryz.ntmps198 rfl Tryz.call198 (by simp) ?_;refine zl [(0,.agg (encGAdaptProgram a0))] ⟨rfl,trivial⟩ ?_;unfold yN at h
 refine rg tok [1] fun K hK=>?_
 simp only[go_sem,qc,qa,reduceCtorEq,encGAdaptProgram];apply hK
 refine za fun Z1 hZ1=>?_
 refine rc [1,17] fun K hK=>?_
 refine rnN 5 ?_;refine zq 5 (fun L τ=>L=[(1,.op 0 0 0),(17,.bool ((decide ((qb a0.fParts:Int)<1))||(decide (100<(qb a0.fParts:Int)))))]∧τ=[.cells 0 (encGAdaptProgram a0)]) ?_ ?_
 · refine yW 12 rfl (fun hg12=>?_) (fun hg12=>?_)
   · have t2:=eq_true hg12;refine rnN 5 ?_;refine zb ⟨rfl,_,_,⟨rfl,rfl⟩,.p t2⟩
   have t3:=eq_false hg12;refine rnN 5 ?_;refine zb ⟨rfl,_,_,⟨rfl,rfl⟩,.p t3⟩
 rintro _ _ ⟨rfl,rfl⟩;refine nkN hK ?_;refine zv (b:=((decide ((qb a0.fParts:Int)<1))||(decide (100<(qb a0.fParts:Int))))) rfl (fun hc4=>?_) (fun hc4=>?_)
 · rw[if_pos hc4] at h;refine rgN [2] ?_;cases h;exact rtA
 rw[wb hc4] at h;apply zd;apply hZ1
 refine za fun Z5 hZ5=>?_
 refine rgN [1,19,20,21] ?_;apply ze
 refine yD 19 fun hb8=>?_
 replace hb8:qb a0.fParts≤9223372036854775807:=hb8.1;refine zF (fun m L τ=>∃ (p8 q8:List (List GStep)) (x6:Int),m=qb q8∧L=[(1,.op 0 0 0),(19,.ds true (qd (Yt encGStep) a0.fParts) (qb a0.fParts) false),(20,.int .i64 (qb a0.fParts:Int)),(21,.int .i64 x6)]∧τ=[.cells 0 (encGAdaptProgram a0)]∧a0.fParts=p8++q8∧x6=(qb p8:Int)∧yN.l8 a0 q8 x6=r) _ ⟨[],a0.fParts,0,rfl,rfl,rfl,rfl,rfl,h⟩ .s ?_;rintro m L τ ⟨p8,q8,x6,rfl,rfl,rfl,hE8,hi8,h⟩
 rcases q8 with _|⟨y8,q8⟩
 · have hz8:=yH hE8 hi8;simp only[yN.l8] at h
   refine rg tok [1,19,20,21,22] fun K hK=>?_
   simp only[go_sem,qc,qa,hz8];apply hK
   refine za fun Z9 hZ9=>?_
   refine zp rfl ?_;apply zA;apply hZ5;refine rgN [2] ?_;cases h;exact rtA
 obtain⟨hz8,hw8,hx8,hE'8,hi'8⟩:=ya hE8 hi8 hb8;simp only[yN.l8] at h
 refine rg tok [1,19,20,21,22] fun K hK=>?_
 simp only[go_sem,qc,qa,hz8];apply hK
 refine za fun Z10 hZ10=>?_
 refine zs rfl ?_;apply zd;apply hZ10
 refine za fun Z11 hZ11=>?_
 apply ze;have f12:=E176.idxS hx8;have f13:=E176.fldS0 (f:=246) rfl rfl hx8
 refine rg tok [1,4,19,20,21] fun K hK=>?_
 simp only[go_sem,qc,qa,Yt,f12,f13];apply hK
 refine rgN [1,4,5,19,20,21] ?_;refine rgN [1,5,19,20,21,25,26,27] ?_;apply ze
 refine yD 25 fun hb18=>?_
 replace hb18:qb y8≤9223372036854775807:=hb18.1;refine zF (fun m L τ=>∃ (p18 q18:List GStep) (x15:Int) (x14:Int),m=qb q18∧L=[(1,.op 0 0 0),(5,.int .i64 x14),(19,.ds true (qd (Yt encGStep) a0.fParts) (qb a0.fParts) false),(20,.int .i64 (qb a0.fParts:Int)),(21,.int .i64 x6),(25,.ds true (qd encGStep y8) (qb y8) false),(26,.int .i64 (qb y8:Int)),(27,.int .i64 x15)]∧τ=[.cells 0 (encGAdaptProgram a0)]∧y8=p18++q18∧x15=(qb p18:Int)∧yN.l18 a0 x6 (yN.l8 a0 q8) q18 x15 x14=r) _ ⟨[],y8,0,0,rfl,rfl,rfl,rfl,rfl,h⟩ .s ?_;rintro m L τ ⟨p18,q18,x15,x14,rfl,rfl,rfl,hE18,hi18,h⟩
 rcases q18 with _|⟨y18,q18⟩
 · have hz18:=yH hE18 hi18;simp only[yN.l18] at h
   refine rg tok [1,5,19,20,21,25,26,27,28] fun K hK=>?_
   simp only[go_sem,qc,qa,hz18];apply hK
   refine za fun Z19 hZ19=>?_
   refine zp rfl ?_;apply zA;apply hZ11
   refine rgE tok [1,19,20,21] fun K hK=>?_
   simp only[go_sem,qc,qa,hw8];apply hK
   exact⟨_,_,_,qy q8.length,⟨p8++[y8],q8,x6+1,rfl,rfl,rfl,hE'8,hi'8,h⟩,.s⟩
 obtain⟨hz18,hw18,hx18,hE'18,hi'18⟩:=ya hE18 hi18 hb18;simp only[yN.l18] at h
 refine rg tok [1,5,19,20,21,25,26,27,28] fun K hK=>?_
 simp only[go_sem,qc,qa,hz18];apply hK
 refine za fun Z20 hZ20=>?_
 refine zs rfl ?_;apply zd;apply hZ20
 refine za fun Z21 hZ21=>?_
 apply ze;have f22:=E246.idxS hx18;have f23:=E246.loadS rfl rfl hx18
 refine rg tok [1,5,7,19,20,21,25,26,27] fun K hK=>?_
 simp only[go_sem,qc,qf,qa,qe,encGStep,f22,f23];apply hK
 refine za fun Z24 hZ24=>?_
 refine rc [1,7,19,20,21,25,26,27,47] fun K hK=>?_
 refine rnN 5 ?_;refine zq 4 (fun L τ=>L=[(1,.op 0 0 0),(7,.op 1 0 0),(19,.ds true (qd (Yt encGStep) a0.fParts) (qb a0.fParts) false),(20,.int .i64 (qb a0.fParts:Int)),(21,.int .i64 x6),(25,.ds true (qd encGStep y8) (qb y8) false),(26,.int .i64 (qb y8:Int)),(27,.int .i64 x15),(39,.bool ((decide (y18.fTag≤x14))||(decide (500<y18.fTag))))]∧τ=[.cells 0 (encGAdaptProgram a0),.cells 0 [.int .i64 y18.fOp,.int .i64 y18.fTag,.int .i64 y18.fSub]]) ?_ ?_
 · refine yW 35 rfl (fun hg35=>?_) (fun hg35=>?_)
   · have t25:=eq_true hg35;refine rnN 4 ?_;refine zb ⟨rfl,_,_,⟨rfl,rfl⟩,.p t25⟩
   have t26:=eq_false hg35;refine rnN 4 ?_;refine zb ⟨rfl,_,_,⟨rfl,rfl⟩,.p t26⟩
 rintro _ _ ⟨rfl,rfl⟩;refine rnN 1 ?_;obtain⟨c27,hc27,h⟩:=zD h;refine zq 7 (fun L τ=>L=[(1,.op 0 0 0),(7,.op 1 0 0),(19,.ds true (qd (Yt encGStep) a0.fParts) (qb a0.fParts) false),(20,.int .i64 (qb a0.fParts:Int)),(21,.int .i64 x6),(25,.ds true (qd encGStep y8) (qb y8) false),(26,.int .i64 (qb y8:Int)),(27,.int .i64 x15),(47,.bool c27)]∧τ=[.cells 0 (encGAdaptProgram a0),.cells 0 [.int .i64 y18.fOp,.int .i64 y18.fTag,.int .i64 y18.fSub]]) ?_ ?_
 · refine yf (b:=((decide (y18.fTag≤x14))||(decide (500<y18.fTag)))) 40 rfl (fun hg40=>?_) (fun hg40=>?_)
   · rw[if_pos hg40] at hc27;refine rnN 7 ?_;subst hc27;refine zb ⟨rfl,_,_,⟨rfl,rfl⟩,.b hg40⟩
   rw[wb hg40] at hc27;obtain⟨r28,hr28,hc27⟩:=zD hc27;refine rnN 4 ?_;refine clN rfl rfl rfl (xL.ev y18 (qb a0.fParts:Int) r28 hr28 _) ?_;refine rnN 2 ?_;subst hc27;refine zb ⟨rfl,_,_,⟨rfl,rfl⟩,.b hg40⟩
 rintro _ _ ⟨rfl,rfl⟩;refine nkN hK ?_;refine zv (b:=c27) rfl (fun hc29=>?_) (fun hc29=>?_)
 · rw[if_pos hc29] at h;refine rgN [2] ?_;cases h;exact rtA
 rw[wb hc29] at h;apply zd;apply hZ24
 refine rgE tok [1,5,19,20,21,25,26,27] fun K hK=>?_
 simp only[go_sem,qc,qa,qe];apply hK
 apply hZ21
 refine rgE tok [1,5,19,20,21,25,26,27] fun K hK=>?_
 simp only[go_sem,qc,qa,hw18];apply hK
 exact⟨_,_,_,qy q18.length,⟨p18++[y18],q18,x15+1,y18.fTag,rfl,rfl,rfl,hE'18,hi'18,h⟩,(.t [0] false)⟩
theorem yN.ev (a0:GAdaptProgram)(r:Bool)(h:yN a0=r)(σ:Store):ACalls qg 198 [.agg (encGAdaptProgram a0)] σ (fun r' σ'=>r'=.bool r∧σ'=σ):=
 (yN.ok a0 r h).c σ
def zt.j8 (r2:Int)(m1__13:Int)(m1__24:List UInt8)(m1__45:List GRaw)(l6:List GEntry):Option GTree:=
 some (⟨r2,m1__13,m1__24,l6,m1__45⟩:GTree)
def zt.l30 (yr:GValueValue→Option GTree)(x13:Int)(l11:List GEntry)(rec17:Int→List GEntry→Option GTree)(y17:GValueEntry):List GValueValue→Int→List GTree→Option GTree
 |[],x26,l24=>(YJ (qb l11+1) 32).bind fun _u32=>(rec17 (x13+1) (l11++[(⟨y17.ftag,l24⟩:GEntry)]))
 |y30::q30,x26,l24=>(yr y30).bind fun r39=>(YJ (qb l24+1) 80).bind fun _u40=>((zt.l30 yr x13 l11 rec17 y17 q30) (x26+1) (l24++[r39]))
def zt.l17 (yr:GValueValue→Option GTree)(r2:Int)(r10:List GRaw):List GValueEntry→Int→List GEntry→Option GTree
 |[],x13,l11=>(zt.j8 r2 0 [] r10 l11)
 |y17::q17,x13,l11=>(zt.l30 yr x13 l11 (zt.l17 yr r2 r10 q17) y17 y17.fl 0 ([]:List GTree))
def zt.body (yr:GValueValue→Option GTree)(a0:GValueValue):Option GTree:=
 bnd (xY a0) fun r2=>(match a0 with|.nil=>(zt.j8 r2 0 [] ([]:List GRaw) ([]:List GEntry))|.num n9=>(zt.j8 r2 n9 [] ([]:List GRaw) ([]:List GEntry))|.str s9=>(zt.j8 r2 0 s9 ([]:List GRaw) ([]:List GEntry))|.node e9 r9=>(y5 (⟨e9,r9⟩:GValueNode)).bind fun r10=>(zt.l17 yr r2 r10 e9 0 ([]:List GEntry)))
theorem zt.step (yr:GValueValue→Option GTree)(vae:∀ (a0:GValueValue) (r:GTree),yr a0=some r→ACalls qg 249 [.agg (encGValueValue a0)] [] (fun r' _=>r'=.agg (cellsGTree r)))(a0:GValueValue)(r:GTree)(h:zt.body yr a0=some r):ACalls qg 249 [.agg (encGValueValue a0)] [] (fun r' _=>r'=.agg (cellsGTree r)):=by
 have ev_value_Value_Tree:=fun a0 r h σ=>(vae a0 r h).c σ
 refine zh (rs:=[.cell 2 37]) tok Tryz.func249 rfl Tryz.ntmps249 rfl Tryz.call249 (by simp) ?_;refine zl [(0,.agg (encGValueValue a0))] ⟨rfl,trivial⟩ ?_;unfold zt.body at h;have f1:=wW a0;unfold AV.one at f1
 refine rg tok [1,2] fun K hK=>?_
 simp only[go_sem,qc,qa,reduceCtorEq,encGValueValue,f1];apply hK
 refine rc [1,2,3] fun K hK=>?_
 obtain⟨r2,hr2,h⟩:=zD h;refine rnN 1 ?_;refine clN rfl rfl rfl (xY.ev a0 r2 hr2 _) ?_;refine zj tok 3 ?_;simp only[go_sem,qc,qf,qa,qe,cellsGTree];refine nkN hK ?_;refine Zg 2 3 2 rfl (by simp) rfl (L:=[(1,.op 0 0 0),(2,.op 1 0 0),(3,.op 2 0 0)]) (τ:=[.cells 0 [ifcV a0],.cells 0 [.int .i64 0,.int .i64 0,.str [],.ds true [] 0 true,.ds true [] 0 true],.cells 0 [.int .i64 r2,.int .i64 0,.str [],.os true 2 3 0 0 (qb ([]:List GEntry)) false,.ds true [] 0 true],.cells 0 (qd encGEntry ([]:List GEntry))]) .s ?_;refine yU (fun L τ=>∃ (m1__13:Int) (m1__24:List UInt8) (m1__45:List GRaw) (l6:List GEntry) (v7:Nat),L=[(2,.op 0 0 0),(3,.op 1 0 0)]∧τ=[.cells 0 [.int .i64 0,.int .i64 0,.str [],.ds true (qd encGEntry ([]:List GEntry)) (qb ([]:List GEntry)) false,.ds true (qd encGRaw ([]:List GRaw)) (qb ([]:List GRaw)) false],.cells 0 [.int .i64 r2,.int .i64 m1__13,.str m1__24,.os true 2 2 v7 0 (qb l6) false,.ds true (qd encGRaw m1__45) (qb m1__45) false],.cells v7 (qd encGEntry l6)]∧zt.j8 r2 m1__13 m1__24 m1__45 l6=some r) ?_ ?_
 · refine rgN [2,3,16] ?_;apply ze
   rcases a0 with _|n9|s9|⟨e9,r9⟩
   · dsimp only at h
     try simp only[Xn]
     refine rg tok [2,3,16,18,19] fun K hK=>?_
     simp only[go_sem,qc,qa,qe,yK,yL,TypeDesc.isIface];apply hK
     refine zp rfl ?_
     refine rg tok [2,3,16,23,24] fun K hK=>?_
     simp only[go_sem,qc,qa,qe,yK,yL,TypeDesc.isIface];apply hK
     refine zp rfl ?_
     refine rg tok [2,3,28,29] fun K hK=>?_
     simp only[go_sem,qc,qa,qe,yK,yL,TypeDesc.isIface];apply hK
     refine zp rfl ?_;apply zd;exact⟨_,_,⟨0,[],([]:List GRaw),([]:List GEntry),0,rfl,rfl,h⟩,(.t [1,2,3] true)⟩
   · dsimp only at h
     try simp only[Xm]
     refine rg tok [2,3,16,18,19] fun K hK=>?_
     simp only[go_sem,qc,qa,qe,yK,yL,TypeDesc.isIface];apply hK
     refine zs rfl ?_;refine rgN [2,3,4] ?_
     refine rgE tok [2,3] fun K hK=>?_
     simp only[go_sem,qc,qf,qa,qe];apply hK
     exact⟨_,_,⟨n9,[],([]:List GRaw),([]:List GEntry),0,rfl,rfl,h⟩,(.t [1,2,3] true)⟩
   · dsimp only at h
     try simp only[Xl]
     refine rg tok [2,3,16,18,19] fun K hK=>?_
     simp only[go_sem,qc,qa,qe,yK,yL,TypeDesc.isIface];apply hK
     refine zp rfl ?_
     refine rg tok [2,3,16,23,24] fun K hK=>?_
     simp only[go_sem,qc,qa,qe,yK,yL,TypeDesc.isIface];apply hK
     refine zs rfl ?_;refine rgN [2,3,5] ?_
     refine rgE tok [2,3] fun K hK=>?_
     simp only[go_sem,qc,qf,qa,qe];apply hK
     exact⟨_,_,⟨0,s9,([]:List GRaw),([]:List GEntry),0,rfl,rfl,h⟩,(.t [1,2,3] true)⟩
   dsimp only at h
   try simp only[ZZ]
   refine rg tok [2,3,16,18,19] fun K hK=>?_
   simp only[go_sem,qc,qa,qe,yK,yL,TypeDesc.isIface];apply hK
   refine zp rfl ?_
   refine rg tok [2,3,16,23,24] fun K hK=>?_
   simp only[go_sem,qc,qa,qe,yK,yL,TypeDesc.isIface];apply hK
   refine zp rfl ?_
   refine rg tok [2,3,28,29] fun K hK=>?_
   simp only[go_sem,qc,qa,qe,yK,yL,TypeDesc.isIface];apply hK
   refine zs rfl ?_;refine rgN [2,3,6] ?_
   refine rc [2,3,6] fun K hK=>?_
   obtain⟨r10,hr10,h⟩:=bind_some h;refine rnN 1 ?_;refine clN rfl rfl rfl (y5.ev (⟨e9,r9⟩:GValueNode) r10 hr10 _) ?_;refine zj tok 2 ?_;simp only[go_sem,qc,qf,qa,qe,cellsGTree];refine nkN hK ?_
   refine rg tok [2,3,36,37,38] fun K hK=>?_
   simp only[go_sem,qc,qa,qe,Z0];apply hK
   apply ze
   refine yD 36 fun hb17=>?_
   replace hb17:qb e9≤9223372036854775807:=hb17.1;refine zF (fun m L τ=>∃ (p17 q17:List GValueEntry) (x13:Int) (l11:List GEntry) (v12:Nat),m=qb q17∧L=[(2,.op 0 0 0),(3,.op 1 0 0),(36,.ds true (qd encGValueEntry e9) (qb e9) false),(37,.int .i64 (qb e9:Int)),(38,.int .i64 x13)]∧τ=[.cells 0 [.int .i64 0,.int .i64 0,.str [],.ds true [] 0 true,.ds true [] 0 true],.cells 0 [.int .i64 r2,.int .i64 0,.str [],.os true 2 2 v12 0 (qb l11) false,.ds true (qd encGRaw r10) (qb r10) false],.cells v12 (qd encGEntry l11)]∧e9=p17++q17∧x13=(qb p17:Int)∧zt.l17 yr r2 r10 q17 x13 l11=some r) _ ⟨[],e9,0,([]:List GEntry),0,rfl,rfl,rfl,rfl,rfl,h⟩ (.t [1,2,3] false) ?_;rintro m L τ ⟨p17,q17,x13,l11,v12,rfl,rfl,rfl,hE17,hi17,h⟩
   rcases q17 with _|⟨y17,q17⟩
   · have hz17:=yH hE17 hi17;simp only[zt.l17] at h
     refine rg tok [2,3,36,37,38,39] fun K hK=>?_
     simp only[go_sem,qc,qa,hz17];apply hK
     refine za fun Z18 hZ18=>?_
     refine zp rfl ?_;apply zA;exact⟨_,_,⟨0,[],r10,l11,v12,rfl,rfl,h⟩,(.t [0,1,2] true)⟩
   obtain⟨hz17,hw17,hx17,hE'17,hi'17⟩:=ya hE17 hi17 hb17;simp only[zt.l17] at h
   refine rg tok [2,3,36,37,38,39] fun K hK=>?_
   simp only[go_sem,qc,qa,hz17];apply hK
   refine za fun Z19 hZ19=>?_
   refine zs rfl ?_;apply zd;apply hZ19
   refine za fun Z20 hZ20=>?_
   apply ze;have f21:=E324.idxS hx17;have f22:=E324.loadS rfl rfl hx17
   refine rg tok [2,3,8,36,37,38] fun K hK=>?_
   simp only[go_sem,qc,qf,qa,qe,cellsGValueEntry,y0,f21,f22];apply hK
   refine rgN [2,3,8,9,36,37,38] ?_;refine Zg 4 1 5 rfl (by simp) rfl (L:=[(2,.op 0 0 0),(3,.op 1 0 0),(8,.op 3 0 0),(9,.op 4 0 0),(36,.ds true (qd encGValueEntry e9) (qb e9) false),(37,.int .i64 (qb e9:Int)),(38,.int .i64 x13)]) (τ:=[.cells 0 [.int .i64 0,.int .i64 0,.str [],.ds true [] 0 true,.ds true [] 0 true],.cells 0 [.int .i64 r2,.int .i64 0,.str [],.os true 2 2 v12 0 (qb l11) false,.ds true (qd encGRaw r10) (qb r10) false],.cells v12 (qd encGEntry l11),.cells 0 (cellsGValueEntry y17),.cells 0 [.int .i64 y17.ftag,.os true 5 5 0 0 (qb ([]:List GTree)) false],.cells 0 (qd encGTree ([]:List GTree))]) .s ?_
   refine za fun Z23 hZ23=>?_
   refine rgN [2,3,9,36,37,38,46,47,48] ?_;apply ze
   refine yD 46 fun hb30=>?_
   replace hb30:qb y17.fl≤9223372036854775807:=hb30.1;refine zF (fun m L τ=>∃ (p30 q30:List GValueValue) (x26:Int) (l24:List GTree) (v25:Nat),m=qb q30∧L=[(2,.op 0 0 0),(3,.op 1 0 0),(9,.op 3 0 0),(36,.ds true (qd encGValueEntry e9) (qb e9) false),(37,.int .i64 (qb e9:Int)),(38,.int .i64 x13),(46,.ds true (qd encGValueValue y17.fl) (qb y17.fl) false),(47,.int .i64 (qb y17.fl:Int)),(48,.int .i64 x26)]∧τ=[.cells 0 [.int .i64 0,.int .i64 0,.str [],.ds true [] 0 true,.ds true [] 0 true],.cells 0 [.int .i64 r2,.int .i64 0,.str [],.os true 2 2 v12 0 (qb l11) false,.ds true (qd encGRaw r10) (qb r10) false],.cells v12 (qd encGEntry l11),.cells 0 [.int .i64 y17.ftag,.os true 5 4 v25 0 (qb l24) false],.cells v25 (qd encGTree l24)]∧y17.fl=p30++q30∧x26=(qb p30:Int)∧zt.l30 yr x13 l11 (zt.l17 yr r2 r10 q17) y17 q30 x26 l24=some r) _ ⟨[],y17.fl,0,([]:List GTree),0,rfl,rfl,rfl,rfl,rfl,h⟩ (.t [0,1,2,4,5] false) ?_;rintro m L τ ⟨p30,q30,x26,l24,v25,rfl,rfl,rfl,hE30,hi30,h⟩
   rcases q30 with _|⟨y30,q30⟩
   · have hz30:=yH hE30 hi30;simp only[zt.l30] at h
     refine rg tok [2,3,9,36,37,38,46,47,48,49] fun K hK=>?_
     simp only[go_sem,qc,qa,hz30];apply hK
     refine za fun Z31 hZ31=>?_
     refine zp rfl ?_;apply zA;apply hZ23;obtain⟨_u32,hu32,h⟩:=bind_some h;have gu32:=yF hu32;have f33:=(zy E34.len l11)
     refine rgE tok [2,3,36,37,38] fun K hK=>?_
     simp only[go_sem,qc,qf,qa,qe,ql,zM,z8,q1,qT,true_and,ub,yx,zY,yC,gu32,f33,yS,uc,qZ,AV.one,qO,qK,qk,qr,qn,qM];apply hK
     apply hZ20
     refine rgE tok [2,3,36,37,38] fun K hK=>?_
     simp only[go_sem,qc,qa,hw17];apply hK
     exact⟨_,_,_,qy q17.length,⟨p17++[y17],q17,x13+1,l11++[(⟨y17.ftag,l24⟩:GEntry)],v12+1,rfl,rfl,rfl,hE'17,hi'17,h⟩,(.t [0,1,2] false)⟩
   obtain⟨hz30,hw30,hx30,hE'30,hi'30⟩:=ya hE30 hi30 hb30;simp only[zt.l30] at h
   refine rg tok [2,3,9,36,37,38,46,47,48,49] fun K hK=>?_
   simp only[go_sem,qc,qa,hz30];apply hK
   refine za fun Z34 hZ34=>?_
   refine zs rfl ?_;apply zd;apply hZ34
   refine za fun Z35 hZ35=>?_
   apply ze;have f36:=E282.idxS hx30;have f37:=E282.loadS rfl rfl hx30;have f38:=wW y30;unfold AV.one at f38
   refine rg tok [2,3,9,11,36,37,38,46,47,48] fun K hK=>?_
   simp only[go_sem,qc,qf,qa,qe,encGValueValue,f36,f37,f38];apply hK
   obtain⟨r39,hr39,h⟩:=bind_some h;obtain⟨_u40,hu40,h⟩:=bind_some h;have gu40:=yF hu40;have f41:=(zy E38.len l24)
   refine rdE [2,3,9,36,37,38,46,47,48] fun K hK=>?_
   refine DW.start (T:=tab) [.any,.own 2 [],.at [],.eff,.eff,.eff,.any,.eff] [(2,[])] ?_;refine DW.runN tok 3 ?_;simp only[go_sem,qc,qf,qa,qe,cellsGTree,uj,qk,qr,qn];refine DW.call rfl rfl rfl (ev_value_Value_Tree y30 r39 hr39 _) ?_;refine DW.runN tok 4 ?_;simp only[go_sem,qc,qf,qa,qe,ql,zM,z8,q1,qT,true_and,ub,yx,zY,yC,cellsGTree,gu40,f41,yS,uc,qZ,AV.one,qO,qK,qk,qr,qn,qM];refine DW.fin tok (by decide +kernel) rfl ?_;simp only[zf,upd,qa,reduceIte,zV,yz];apply hK
   apply hZ35
   refine rgE tok [2,3,9,36,37,38,46,47,48] fun K hK=>?_
   simp only[go_sem,qc,qa,hw30];apply hK
   exact⟨_,_,_,qy q30.length,⟨p30++[y30],q30,x26+1,l24++[r39],v25+1,rfl,rfl,rfl,hE'30,hi'30,h⟩,(.t [0,1,2,3,4] false)⟩
 rintro _ _ ⟨m1__13,m1__24,m1__45,l6,v7,rfl,rfl,h⟩;unfold zt.j8 at h;refine rgN [2] ?_;cases h;exact rtA
end
section
set_option maxRecDepth 4000
set_option maxHeartbeats 1000000
open AM
def zt : Nat→GValueValue→Option GTree
 |0,_=>none
 |k+1,a0=>zt.body (zt k) a0
theorem zt.all (k:Nat):(∀ (a0:GValueValue) (r:GTree),zt k a0=some r→ACalls qg 249 [.agg (encGValueValue a0)] [] (fun r' _=>r'=.agg (cellsGTree r))):=by
 induction k with
 |zero=>exact (fun a0 r h=>by simp only[zt] at h; cases h)
 |succ k ih=>exact (fun a0 r h=>zt.step _ ih a0 r (by simpa only [zt] using h))
theorem zt.ev (k:Nat)(a0:GValueValue)(r:GTree)(h:zt k a0=some r)(σ:Store):ACalls qg 249 [.agg (encGValueValue a0)] σ (fun r' σ'=>r'=.agg (cellsGTree r)∧σ'=σ):=
 ((zt.all k) a0 r h).c σ
def xO.j5  : GValueValue:=
 GValueValue.nil
def xO (a0:GValueValue):GValueValue:=
 bnd (xu a0) fun r3=>(if r3.2=true then (GValueValue.num r3.1) else (match a0 with|.nil=>xO.j5|.num n6=>xO.j5|.str s6=>xO.j5|.node e6 r6=>(GValueValue.node e6 r6)))
theorem xO.ok (a0:GValueValue)(r:GValueValue)(h:xO a0=r):ACalls qg 250 [.agg (encGValueValue a0)] [] (fun r' _=>r'=anyV r):=by
 refine zh (rs:=[.tmp 2]) tok Tryz.func250 rfl Tryz.ntmps250 rfl Tryz.call250 (by simp) ?_;refine zl [(0,.agg (encGValueValue a0))] ⟨rfl,trivial⟩ ?_;unfold xO at h;have f1:=wW a0;unfold AV.one at f1
 refine rg tok [1] fun K hK=>?_
 simp only[go_sem,qc,qa,reduceCtorEq,encGValueValue,f1];apply hK
 refine za fun Z2 hZ2=>?_
 refine rc [1,3,4] fun K hK=>?_
 obtain⟨r3,hr3,h⟩:=zD h;refine rnN 1 ?_;refine clN rfl rfl rfl (xu.ev a0 r3 hr3 _) ?_;refine rnN 5 ?_;refine nkN hK ?_;refine rgN [1,3,12] ?_;refine zv (b:=r3.2) rfl (fun hc4=>?_) (fun hc4=>?_)
 · rw[if_pos hc4] at h;refine rgN [2] ?_;cases h;exact rtA
 rw[wb hc4] at h;apply zd;apply hZ2;refine yU (fun L τ=>L=[]∧τ=[]∧xO.j5=r) ?_ ?_
 · rcases a0 with _|n6|s6|⟨e6,r6⟩
   · dsimp only at h
     try simp only[Xn]
     refine rc [5,6] fun K hK=>?_
     refine rnN 1 ?_;refine clN rfl rfl rfl (asNode_nil    _) ?_;refine rnN 5 ?_;refine nkN hK ?_;refine rgN [5,20] ?_;refine zp rfl ?_;apply zd;exact⟨_,_,⟨rfl,rfl,h⟩,(.t [] false)⟩
   · dsimp only at h
     try simp only[Xm]
     refine rc [5,6] fun K hK=>?_
     refine rnN 1 ?_;refine clN rfl rfl rfl (asNode_num n6   _) ?_;refine rnN 5 ?_;refine nkN hK ?_;refine rgN [5,20] ?_;refine zp rfl ?_;apply zd;exact⟨_,_,⟨rfl,rfl,h⟩,(.t [] false)⟩
   · dsimp only at h
     try simp only[Xl]
     refine rc [5,6] fun K hK=>?_
     refine rnN 1 ?_;refine clN rfl rfl rfl (asNode_str s6   _) ?_;refine rnN 5 ?_;refine nkN hK ?_;refine rgN [5,20] ?_;refine zp rfl ?_;apply zd;exact⟨_,_,⟨rfl,rfl,h⟩,(.t [] false)⟩
   dsimp only at h
   try simp only[ZZ]
   refine rc [5,6] fun K hK=>?_
   refine rnN 1 ?_;refine clN rfl rfl rfl (asNode_node e6 r6   _) ?_;refine rnN 5 ?_;refine nkN hK ?_;refine rgN [5,20] ?_;refine zs rfl ?_;refine rgN [2] ?_;cases h;exact rtA
 rintro _ _ ⟨rfl,rfl,h⟩;unfold xO.j5 at h;refine rgN [2] ?_;cases h;exact rtA
theorem xO.ev (a0:GValueValue)(r:GValueValue)(h:xO a0=r)(σ:Store):ACalls qg 250 [.agg (encGValueValue a0)] σ (fun r' σ'=>r'=anyV r∧σ'=σ):=
 (xO.ok a0 r h).c σ
def xa (a0:Int):Int:=
 (if (-2147483648)<(if 2147483647<a0 then 2147483647 else a0) then (if 2147483647<a0 then 2147483647 else a0) else (-2147483648))
theorem xa.ok (a0:Int)(r:Int)(h:xa a0=r):ACalls qg 208 [.int .i64 a0] [] (fun r' _=>r'=.int .i64 r):=by
 refine zh (rs:=[.tmp 2]) tok Tryz.func208 rfl Tryz.ntmps208 rfl Tryz.call208 (by simp) ?_;refine zl [(0,.int .i64 a0)] ⟨rfl,trivial⟩ ?_;unfold xa at h;refine rgN [0] ?_
 refine rg tok [2] fun K hK=>?_
 simp only[go_sem,qc,qa,reduceCtorEq,XL,vb7,vax,vay];apply hK
 cases h;exact rtA
theorem xa.ev (a0:Int)(r:Int)(h:xa a0=r)(σ:Store):ACalls qg 208 [.int .i64 a0] σ (fun r' σ'=>r'=.int .i64 r∧σ'=σ):=
 (xa.ok a0 r h).c σ
def zw.j19 (x8:Int)(rec13:Int→GInterpRun→List GEntry→Option (GTree×GInterpRun))(m0_16:GInterpRun)(l17:List GEntry):Option (GTree×GInterpRun):=
 (rec13 (x8+1) m0_16 l17)
def zw.l13 (yj:GInterpRun→GStep→(List GValueValue)→Option (List GTree×GInterpRun))(a2:GValueNode):List GStep→Int→GInterpRun→List GEntry→Option (GTree×GInterpRun)
 |[],x8,m0_5,l6=>some ((⟨3,0,[],l6,([]:List GRaw)⟩:GTree),m0_5)
 |y13::q13,x8,m0_5,l6=>(ye a2 y13.fTag).bind fun r22=>(if (qb r22:Int)=0 then (zw.j19 x8 (zw.l13 yj a2 q13) (⟨m0_5.fp,IntKind.i64.wrap (m0_5.flooks+1)⟩:GInterpRun) l6) else (yj (⟨m0_5.fp,IntKind.i64.wrap (m0_5.flooks+1)⟩:GInterpRun) y13 r22).bind fun r27=>(if 0<(qb r27.1:Int) then (YJ (qb l6+1) 32).bind fun _u30=>(zw.j19 x8 (zw.l13 yj a2 q13) r27.2 (l6++[(⟨y13.fTag,r27.1⟩:GEntry)])) else (zw.j19 x8 (zw.l13 yj a2 q13) r27.2 l6)))
def zw.body (zC:GInterpRun→Int→GValueNode→Option (GTree×GInterpRun))(yj:GInterpRun→GStep→(List GValueValue)→Option (List GTree×GInterpRun))(a0:GInterpRun)(a1:Int)(a2:GValueNode):Option (GTree×GInterpRun):=
 (Zb a0.fp.fParts a1).bind fun y2=>(zw.l13 yj a2 y2 0 a0 ([]:List GEntry))
theorem zw.step (zC:GInterpRun→Int→GValueNode→Option (GTree×GInterpRun))(yj:GInterpRun→GStep→(List GValueValue)→Option (List GTree×GInterpRun))(YE:∀ (a0:GInterpRun) (a1:Int) (a2:GValueNode) (r:GTree×GInterpRun),zC a0 a1 a2=some r→ACalls qg 199 [.op 0 0 0,.int .i64 a1,.dp (encGValueNode a2) 0] [.cells 0 (encGInterpRun a0)] (fun r' σ'=>r'=.agg (cellsGTree r.1)∧σ'=[.cells 0 (encGInterpRun r.2)]))(YD:∀ (a0:GInterpRun) (a1:GStep) (a2:List GValueValue) (r:List GTree×GInterpRun),yj a0 a1 a2=some r→ACalls qg 237 [.op 0 0 0,.agg (encGStep a1),.ds true (qd encGValueValue a2) (qb a2) false] [.cells 0 (encGInterpRun a0)] (fun r' σ'=>r'=.ds true (qd encGTree r.1) (qb r.1) false∧σ'=[.cells 0 (encGInterpRun r.2)]))(a0:GInterpRun)(a1:Int)(a2:GValueNode)(r:GTree×GInterpRun)(h:zw.body zC yj a0 a1 a2=some r):ACalls qg 199 [.op 0 0 0,.int .i64 a1,.dp (encGValueNode a2) 0] [.cells 0 (encGInterpRun a0)] (fun r' σ'=>r'=.agg (cellsGTree r.1)∧σ'=[.cells 0 (encGInterpRun r.2)]):=by
 refine ww [0] (rs:=[.cell 6 37]) tok Tryz.func199 rfl Tryz.ntmps199 rfl Tryz.call199 (by simp) rfl ?_;refine zl [(0,.op 0 0 0),(1,.int .i64 a1),(2,.dp (encGValueNode a2) 0)] ⟨rfl,rfl,rfl,trivial⟩ ?_;unfold zw.body at h;refine rgN [0,1,2,6] ?_;refine rgN [0,1,2,6,7] ?_;refine Zg 2 3 2 rfl (by simp) rfl (L:=[(0,.op 0 0 0),(1,.int .i64 a1),(2,.dp (encGValueNode a2) 0),(6,.op 1 0 0),(7,.op 2 0 0)]) (τ:=[.cells 0 (encGInterpRun a0),.cells 0 [.int .i64 0,.int .i64 0,.str [],.ds true [] 0 true,.ds true [] 0 true],.cells 0 [.int .i64 3,.int .i64 0,.str [],.os true 2 3 0 0 (qb ([]:List GEntry)) false,.ds true [] 0 true],.cells 0 (qd encGEntry ([]:List GEntry))]) .s ?_
 refine za fun Z1 hZ1=>?_
 obtain⟨y2,hy2,h⟩:=bind_some h;have f3:=E176.idxS hy2;have f4:=E176.fldS0 (f:=246) rfl rfl hy2
 refine rg tok [0,2,6,7,20,21,22] fun K hK=>?_
 simp only[go_sem,qc,qa,qe,reduceCtorEq,Yt,f3,f4];apply hK
 apply ze
 refine yD 20 fun hb13=>?_
 replace hb13:qb y2≤9223372036854775807:=hb13.1;refine zF (fun m L τ=>∃ (p13 q13:List GStep) (x8:Int) (m0_5:GInterpRun) (l6:List GEntry) (v7:Nat),m=qb q13∧L=[(0,.op 0 0 0),(2,.dp (encGValueNode a2) 0),(6,.op 1 0 0),(7,.op 2 0 0),(20,.ds true (qd encGStep y2) (qb y2) false),(21,.int .i64 (qb y2:Int)),(22,.int .i64 x8)]∧τ=[.cells 0 (encGInterpRun m0_5),.cells 0 [.int .i64 0,.int .i64 0,.str [],.ds true [] 0 true,.ds true [] 0 true],.cells 0 [.int .i64 3,.int .i64 0,.str [],.os true 2 3 v7 0 (qb l6) false,.ds true [] 0 true],.cells v7 (qd encGEntry l6)]∧y2=p13++q13∧x8=(qb p13:Int)∧zw.l13 yj a2 q13 x8 m0_5 l6=some r) _ ⟨[],y2,0,a0,([]:List GEntry),0,rfl,rfl,rfl,rfl,rfl,h⟩ .s ?_;rintro m L τ ⟨p13,q13,x8,m0_5,l6,v7,rfl,rfl,rfl,hE13,hi13,h⟩
 rcases q13 with _|⟨y13,q13⟩
 · have hz13:=yH hE13 hi13;simp only[zw.l13] at h
   refine rg tok [0,2,6,7,20,21,22,23] fun K hK=>?_
   simp only[go_sem,qc,qa,reduceCtorEq,hz13];apply hK
   refine za fun Z14 hZ14=>?_
   refine zp rfl ?_;apply zA;apply hZ1;refine rgN [6] ?_;apply zR;cases h;simp only[wN,ym,yy,xo,exists_eq_left',go_sem,qf,qe,cellsGTree];refine⟨by decide,by simp,?_,?_⟩
   · first|rfl|(simp only[go_sem,reduceCtorEq,push_cast,if_true,qC,qn,qp,qm,qq,qu,qt,zi]<;>rfl)
   first|rfl|(simp only[go_sem,push_cast,qp,qm,qq,qu,qt,zi]<;>rfl)
 obtain⟨hz13,hw13,hx13,hE'13,hi'13⟩:=ya hE13 hi13 hb13;simp only[zw.l13] at h
 refine rg tok [0,2,6,7,20,21,22,23] fun K hK=>?_
 simp only[go_sem,qc,qa,reduceCtorEq,hz13];apply hK
 refine za fun Z15 hZ15=>?_
 refine zs rfl ?_;apply zd;apply hZ15;refine yU (fun L τ=>∃ (m0_16:GInterpRun) (l17:List GEntry) (v18:Nat),L=[(0,.op 0 0 0),(2,.dp (encGValueNode a2) 0),(6,.op 1 0 0),(7,.op 2 0 0),(20,.ds true (qd encGStep y2) (qb y2) false),(21,.int .i64 (qb y2:Int)),(22,.int .i64 x8)]∧τ=[.cells 0 (encGInterpRun m0_16),.cells 0 [.int .i64 0,.int .i64 0,.str [],.ds true [] 0 true,.ds true [] 0 true],.cells 0 [.int .i64 3,.int .i64 0,.str [],.os true 2 3 v18 0 (qb l17) false,.ds true [] 0 true],.cells v18 (qd encGEntry l17)]∧zw.j19 x8 (zw.l13 yj a2 q13) m0_16 l17=some r) ?_ ?_
 · apply ze;have f20:=E246.idxS hx13;have f21:=E246.loadS rfl rfl hx13
   refine rg tok [0,2,6,7,9,20,21,22] fun K hK=>?_
   simp only[go_sem,qc,qf,qa,qe,reduceCtorEq,encGStep,f20,f21];apply hK
   refine rgN [0,2,6,7,9,20,21,22] ?_
   refine rc [0,2,6,7,9,10,20,21,22] fun K hK=>?_
   obtain⟨r22,hr22,h⟩:=bind_some h;refine rnN 3 ?_;refine clN rfl rfl rfl (ye.ev a2 y13.fTag r22 hr22 _) ?_;refine rnN 1 ?_;refine nkN hK ?_
   refine za fun Z23 hZ23=>?_
   refine rgN [0,2,6,7,9,10,20,21,22,39] ?_;refine zL rfl (fun hc24=>?_) (fun hc24=>?_)
   · rw[if_pos hc24] at h;have t25:=eq_true hc24;apply zA;exact⟨_,_,⟨(⟨m0_5.fp,IntKind.i64.wrap (m0_5.flooks+1)⟩:GInterpRun),l6,v7,rfl,rfl,h⟩,(.t [0,1,2,3] false)⟩
   rw[if_neg hc24] at h;have t26:=eq_false hc24;apply zd;apply hZ23
   refine rc [0,2,6,7,9,11,20,21,22] fun K hK=>?_
   obtain⟨r27,hr27,h⟩:=bind_some h;refine zj tok 3 ?_;simp only[go_sem,qc,qf,qa,qe,reduceCtorEq,t26];refine clN rfl rfl rfl (@id (ACalls qg 237 [.op 0 0 0,.agg (encGStep y13),.ds true (qd encGValueValue r22) (qb r22) false] [.cells 0 [.ds true (qd (Yt encGStep) m0_5.fp.fParts) (qb m0_5.fp.fParts) false,.int .i64 (IntKind.i64.wrap (m0_5.flooks+1))],.cells 0 [.int .i64 0,.int .i64 0,.str [],.ds true [] 0 true,.ds true [] 0 true],.cells 0 [.int .i64 3,.int .i64 0,.str [],.os true 2 3 v7 0 (qb l6) false,.ds true [] 0 true],.cells v7 (qd encGEntry l6),.cells 0 [.int .i64 y13.fOp,.int .i64 y13.fTag,.int .i64 y13.fSub]] (fun r' σ'=>r'=.ds true (qd encGTree r27.1) (qb r27.1) false∧σ'=[.cells 0 (encGInterpRun r27.2),.cells 0 [.int .i64 0,.int .i64 0,.str [],.ds true [] 0 true,.ds true [] 0 true],.cells 0 [.int .i64 3,.int .i64 0,.str [],.os true 2 3 v7 0 (qb l6) false,.ds true [] 0 true],.cells v7 (qd encGEntry l6),.cells 0 [.int .i64 y13.fOp,.int .i64 y13.fTag,.int .i64 y13.fSub]])) ((YD (⟨m0_5.fp,IntKind.i64.wrap (m0_5.flooks+1)⟩:GInterpRun) y13 r22 r27 hr27).i [0])) ?_;refine rnN 1 ?_;refine nkN hK ?_;refine rgN [0,2,6,7,9,11,20,21,22,46] ?_;refine zL rfl (fun hc28=>?_) (fun hc28=>?_)
   · rw[if_pos hc28] at h;have t29:=eq_true hc28;obtain⟨_u30,hu30,h⟩:=bind_some h;have gu30:=yF hu30;have f31:=(zy E34.len l6)
     refine rgE tok [0,2,6,7,20,21,22] fun K hK=>?_
     simp only[go_sem,qc,qf,qa,qe,ql,reduceCtorEq,zM,z8,q1,qT,true_and,ub,yx,zY,yC,t29,gu30,f31,yS,uc,qZ,AV.one,qO,qK,qk,qr,qn,qM];apply hK
     exact⟨_,_,⟨r27.2,l6++[(⟨y13.fTag,r27.1⟩:GEntry)],v7+1,rfl,rfl,h⟩,(.t [0,1,2,3] false)⟩
   rw[if_neg hc28] at h;have t32:=eq_false hc28;apply zd;exact⟨_,_,⟨r27.2,l6,v7,rfl,rfl,h⟩,(.t [0,1,2,3] false)⟩
 rintro _ _ ⟨m0_16,l17,v18,rfl,rfl,h⟩;unfold zw.j19 at h
 refine rgE tok [0,2,6,7,20,21,22] fun K hK=>?_
 simp only[go_sem,qc,qa,reduceCtorEq,hw13];apply hK
 exact⟨_,_,_,qy q13.length,⟨p13++[y13],q13,x8+1,m0_16,l17,v18,rfl,rfl,rfl,hE'13,hi'13,h⟩,.s⟩
def zm.j22 (x7:Int)(l5:List GTree)(rec12:Int→GInterpRun→List GTree→Option (List GTree×GInterpRun))(m0_20:GInterpRun)(m3_21:GTree):Option (List GTree×GInterpRun):=
 (YJ (qb l5+1) 80).bind fun _u23=>(rec12 (x7+1) m0_20 (l5++[m3_21]))
def zm.j36 (zC:GInterpRun→Int→GValueNode→Option (GTree×GInterpRun))(a1:GStep)(x7:Int)(m0_4:GInterpRun)(l5:List GTree)(rec12:Int→GInterpRun→List GTree→Option (List GTree×GInterpRun))(r19:GTree)(r25:GValueValue)(x35:Bool):Option (List GTree×GInterpRun):=
 (if x35=true then (match r25 with|.nil=>some (([]:List GTree),m0_4)|.num n38=>some (([]:List GTree),m0_4)|.str s38=>some (([]:List GTree),m0_4)|.node e38 r38=>(zC m0_4 a1.fSub (⟨e38,r38⟩:GValueNode)).bind fun r43=>(if ((decide (a1.fOp=4))&&(decide ((qb r43.1.fEntries:Int)=0)))=true then some (([]:List GTree),r43.2) else (zm.j22 x7 l5 rec12 r43.2 r43.1))) else (zm.j22 x7 l5 rec12 m0_4 r19))
def zm.l12 (zC:GInterpRun→Int→GValueNode→Option (GTree×GInterpRun))(a1:GStep):List GValueValue→Int→GInterpRun→List GTree→Option (List GTree×GInterpRun)
 |[],x7,m0_4,l5=>some (l5,m0_4)
 |y12::q12,x7,m0_4,l5=>(zt rounds y12).bind fun r19=>bnd (xO y12) fun r25=>(if a1.fOp=2 then (match r25 with|.nil=>some (([]:List GTree),m0_4)|.num n28=>bnd (xa n28) fun r31=>(zm.j22 x7 l5 (zm.l12 zC a1 q12) m0_4 (⟨r19.fKind,r31,r19.fS,r19.fEntries,r19.fRest⟩:GTree))|.str s28=>some (([]:List GTree),m0_4)|.node e28 r28=>some (([]:List GTree),m0_4)) else (if a1.fOp=3 then (zm.j36 zC a1 x7 m0_4 l5 (zm.l12 zC a1 q12) r19 r25 (decide (a1.fOp=3))) else (zm.j36 zC a1 x7 m0_4 l5 (zm.l12 zC a1 q12) r19 r25 (decide (a1.fOp=4)))))
def zm.j2 (zC:GInterpRun→Int→GValueNode→Option (GTree×GInterpRun))(a0:GInterpRun)(a1:GStep)(x1:List GValueValue):Option (List GTree×GInterpRun):=
 (zm.l12 zC a1 x1 0 a0 ([]:List GTree))
def zm.body (zC:GInterpRun→Int→GValueNode→Option (GTree×GInterpRun))(yj:GInterpRun→GStep→(List GValueValue)→Option (List GTree×GInterpRun))(a0:GInterpRun)(a1:GStep)(a2:List GValueValue):Option (List GTree×GInterpRun):=
 (if a1.fOp=4 then (grd ((0:Int)≤IntKind.i64.wrap ((qb a2:Int)-1)∧IntKind.i64.wrap ((qb a2:Int)-1)≤(qb a2:Int)∧(qb a2:Int)≤(qb a2:Int))).bind fun _u52=>(zm.j2 zC a0 a1 (vaK a2 (IntKind.i64.wrap ((qb a2:Int)-1)) (qb a2:Int))) else (zm.j2 zC a0 a1 a2))
theorem zm.step (zC:GInterpRun→Int→GValueNode→Option (GTree×GInterpRun))(yj:GInterpRun→GStep→(List GValueValue)→Option (List GTree×GInterpRun))(YE:∀ (a0:GInterpRun) (a1:Int) (a2:GValueNode) (r:GTree×GInterpRun),zC a0 a1 a2=some r→ACalls qg 199 [.op 0 0 0,.int .i64 a1,.dp (encGValueNode a2) 0] [.cells 0 (encGInterpRun a0)] (fun r' σ'=>r'=.agg (cellsGTree r.1)∧σ'=[.cells 0 (encGInterpRun r.2)]))(YD:∀ (a0:GInterpRun) (a1:GStep) (a2:List GValueValue) (r:List GTree×GInterpRun),yj a0 a1 a2=some r→ACalls qg 237 [.op 0 0 0,.agg (encGStep a1),.ds true (qd encGValueValue a2) (qb a2) false] [.cells 0 (encGInterpRun a0)] (fun r' σ'=>r'=.ds true (qd encGTree r.1) (qb r.1) false∧σ'=[.cells 0 (encGInterpRun r.2)]))(a0:GInterpRun)(a1:GStep)(a2:List GValueValue)(r:List GTree×GInterpRun)(h:zm.body zC yj a0 a1 a2=some r):ACalls qg 237 [.op 0 0 0,.agg (encGStep a1),.ds true (qd encGValueValue a2) (qb a2) false] [.cells 0 (encGInterpRun a0)] (fun r' σ'=>r'=.ds true (qd encGTree r.1) (qb r.1) false∧σ'=[.cells 0 (encGInterpRun r.2)]):=by
 refine ww [0] (rs:=[.tmp 6]) tok Tryz.func237 rfl Tryz.ntmps237 rfl Tryz.call237 (by simp) rfl ?_;refine zl [(0,.op 0 0 0),(1,.agg (encGStep a1)),(2,.ds true (qd encGValueValue a2) (qb a2) false)] ⟨rfl,rfl,rfl,trivial⟩ ?_;unfold zm.body at h
 refine rg tok [0,2,4] fun K hK=>?_
 simp only[go_sem,qc,qa,qe,reduceCtorEq,encGStep];apply hK
 refine rgN [0,2,4,7] ?_;refine Zt 7 5 rfl ?_;refine yn (L:=[(0,.op 0 0 0),(2,.ds true (qd encGValueValue a2) (qb a2) false),(4,.op 1 0 0),(7,.os true 5 2 0 0 (qb ([]:List GTree)) false)]) (τ:=[.cells 0 (encGInterpRun a0),.cells 0 [.int .i64 a1.fOp,.int .i64 a1.fTag,.int .i64 a1.fSub],.cells 0 (qd encGTree ([]:List GTree))]) .s ?_;refine yU (fun L τ=>∃ (x1:List GValueValue),L=[(0,.op 0 0 0),(2,.ds true (qd encGValueValue x1) (qb x1) false),(4,.op 1 0 0),(7,.os true 5 2 0 0 (qb ([]:List GTree)) false)]∧τ=[.cells 0 (encGInterpRun a0),.cells 0 [.int .i64 a1.fOp,.int .i64 a1.fTag,.int .i64 a1.fSub],.cells 0 (qd encGTree ([]:List GTree))]∧zm.j2 zC a0 a1 x1=some r) ?_ ?_
 · refine rgN [0,2,4,7,18] ?_;refine zL rfl (fun hc50=>?_) (fun hc50=>?_)
   · rw[if_pos hc50] at h;have t51:=eq_true hc50;obtain⟨_u52,hu52,h⟩:=bind_some h;have gu52:=Zn hu52;have f53:=E282.sl_lo gu52
     refine rgE tok [0,2,4,7] fun K hK=>?_
     simp only[go_sem,qc,qa,reduceCtorEq,t51,f53];apply hK
     exact⟨_,_,⟨vaK a2 (IntKind.i64.wrap ((qb a2:Int)-1)) (qb a2:Int),rfl,rfl,h⟩,.s⟩
   rw[if_neg hc50] at h;have t54:=eq_false hc50;apply zd;exact⟨_,_,⟨a2,rfl,rfl,h⟩,.s⟩
 rintro _ _ ⟨x1,rfl,rfl,h⟩;unfold zm.j2 at h
 refine za fun Z3 hZ3=>?_
 refine rgN [0,4,7,24,25,26] ?_;apply ze
 refine yD 24 fun hb12=>?_
 replace hb12:qb x1≤9223372036854775807:=hb12.1;refine zF (fun m L τ=>∃ (p12 q12:List GValueValue) (x7:Int) (m0_4:GInterpRun) (l5:List GTree) (v6:Nat),m=qb q12∧L=[(0,.op 0 0 0),(4,.op 1 0 0),(7,.os true 5 2 v6 0 (qb l5) false),(24,.ds true (qd encGValueValue x1) (qb x1) false),(25,.int .i64 (qb x1:Int)),(26,.int .i64 x7)]∧τ=[.cells 0 (encGInterpRun m0_4),.cells 0 [.int .i64 a1.fOp,.int .i64 a1.fTag,.int .i64 a1.fSub],.cells v6 (qd encGTree l5)]∧x1=p12++q12∧x7=(qb p12:Int)∧zm.l12 zC a1 q12 x7 m0_4 l5=some r) _ ⟨[],x1,0,a0,([]:List GTree),0,rfl,rfl,rfl,rfl,rfl,h⟩ .s ?_;rintro m L τ ⟨p12,q12,x7,m0_4,l5,v6,rfl,rfl,rfl,hE12,hi12,h⟩
 rcases q12 with _|⟨y12,q12⟩
 · have hz12:=yH hE12 hi12;simp only[zm.l12] at h
   refine rg tok [0,4,7,24,25,26,27] fun K hK=>?_
   simp only[go_sem,qc,qa,reduceCtorEq,hz12];apply hK
   refine za fun Z13 hZ13=>?_
   refine zp rfl ?_;apply zA;apply hZ3;refine rgN [6] ?_;apply zR;cases h;simp only[wN,ym,yy,xo,exists_eq_left',go_sem,qe];refine⟨by decide,by simp,?_,?_⟩
   · first|rfl|(simp only[go_sem,reduceCtorEq,push_cast,if_true,qC,qn,zi]<;>rfl)
   first|rfl|(simp only[go_sem,push_cast,qp,qm,qq,qu,qt,zi]<;>rfl)
 obtain⟨hz12,hw12,hx12,hE'12,hi'12⟩:=ya hE12 hi12 hb12;simp only[zm.l12] at h
 refine rg tok [0,4,7,24,25,26,27] fun K hK=>?_
 simp only[go_sem,qc,qa,reduceCtorEq,hz12];apply hK
 refine za fun Z14 hZ14=>?_
 refine zs rfl ?_;apply zd;apply hZ14
 refine za fun Z15 hZ15=>?_
 apply ze;have f16:=E282.idxS hx12;have f17:=E282.loadS rfl rfl hx12;have f18:=wW y12;unfold AV.one at f18
 refine rg tok [0,4,7,9,24,25,26] fun K hK=>?_
 simp only[go_sem,qc,qf,qa,qe,reduceCtorEq,encGValueValue,f16,f17,f18];apply hK
 refine rc [0,4,7,9,10,24,25,26] fun K hK=>?_
 obtain⟨r19,hr19,h⟩:=bind_some h;refine rnN 1 ?_;refine clN rfl rfl rfl (zt.ev rounds y12 r19 hr19 _) ?_;refine zj tok 2 ?_;simp only[go_sem,qc,qf,qa,qe,reduceCtorEq,cellsGTree];refine nkN hK ?_;refine yU (fun L τ=>∃ (m0_20:GInterpRun) (m3_21:GTree),L=[(0,.op 0 0 0),(4,.op 1 0 0),(7,.os true 5 2 v6 0 (qb l5) false),(10,.op 3 0 0),(24,.ds true (qd encGValueValue x1) (qb x1) false),(25,.int .i64 (qb x1:Int)),(26,.int .i64 x7)]∧τ=[.cells 0 (encGInterpRun m0_20),.cells 0 [.int .i64 a1.fOp,.int .i64 a1.fTag,.int .i64 a1.fSub],.cells v6 (qd encGTree l5),.cells 0 (cellsGTree m3_21)]∧zm.j22 x7 l5 (zm.l12 zC a1 q12) m0_20 m3_21=some r) ?_ ?_
 · refine rc [0,4,7,10,11,24,25,26] fun K hK=>?_
   obtain⟨r25,hr25,h⟩:=zD h;refine rnN 1 ?_;refine clN rfl rfl rfl (xO.ev y12 r25 hr25 _) ?_;refine rnN 1 ?_;refine nkN hK ?_;refine rgN [0,4,7,10,11,24,25,26,35] ?_;apply ze;refine rgN [0,4,7,10,11,24,25,26,35,36] ?_;refine zL rfl (fun hc26=>?_) (fun hc26=>?_)
   · rw[if_pos hc26] at h;have t27:=eq_true hc26
     rcases r25 with _|n28|s28|⟨e28,r28⟩
     · dsimp only at h
       try simp only[vbC]
       refine rg tok [0,4,7,10,12,13,24,25,26] fun K hK=>?_
       simp only[go_sem,qc,qa,qe,reduceCtorEq,t27,yK,yL,TypeDesc.isIface];apply hK
       refine za fun Z29 hZ29=>?_
       refine rgN [0,4,7,10,12,24,25,26,44] ?_;refine zs rfl ?_;refine rgN [6] ?_;apply zR;cases h;simp only[wN,ym,yy,xo,exists_eq_left',go_sem,qe];refine⟨by decide,by simp,?_,?_⟩
       · first|rfl|(simp only[go_sem,qc,qf,qa,qe,ql,qs,reduceIte,reduceCtorEq,push_cast,if_true,qC,qn,qp,qm,qE,qq,qN,qJ,qu,qt,qw,zi,cellsGTree,encGAdaptProgram,encGInterpRun,zH]<;>rfl)
       first|rfl|(simp only[go_sem,push_cast,qp,qm,qq,qu,qt,zi]<;>rfl)
     · dsimp only at h
       try simp only[vbB]
       refine rg tok [0,4,7,10,12,13,24,25,26] fun K hK=>?_
       simp only[go_sem,qc,qa,qe,reduceCtorEq,t27,yK,yL,TypeDesc.isIface];apply hK
       refine za fun Z30 hZ30=>?_
       refine rgN [0,4,7,10,12,24,25,26,44] ?_;refine zp rfl ?_;apply zd;apply hZ30
       refine rcE [0,4,7,10,24,25,26] fun K hK=>?_
       obtain⟨r31,hr31,h⟩:=zD h;refine rnN 1 ?_;refine clN rfl rfl rfl (xa.ev n28 r31 hr31 _) ?_;refine rnN 2 ?_;refine nkN hK ?_;exact⟨_,_,⟨m0_4,(⟨r19.fKind,r31,r19.fS,r19.fEntries,r19.fRest⟩:GTree),rfl,rfl,h⟩,(.t [0,1,2,4] false)⟩
     · dsimp only at h
       try simp only[vbA]
       refine rg tok [0,4,7,10,12,13,24,25,26] fun K hK=>?_
       simp only[go_sem,qc,qa,qe,reduceCtorEq,t27,yK,yL,TypeDesc.isIface];apply hK
       refine za fun Z32 hZ32=>?_
       refine rgN [0,4,7,10,12,24,25,26,44] ?_;refine zs rfl ?_;refine rgN [6] ?_;apply zR;cases h;simp only[wN,ym,yy,xo,exists_eq_left',go_sem,qe];refine⟨by decide,by simp,?_,?_⟩
       · first|rfl|(simp only[go_sem,qc,qf,qa,qe,ql,qs,reduceIte,reduceCtorEq,push_cast,if_true,qC,qn,qp,qm,qE,qq,qN,qJ,qu,qt,qw,zi,cellsGTree,encGAdaptProgram,encGInterpRun,zH]<;>rfl)
       first|rfl|(simp only[go_sem,push_cast,qp,qm,qq,qu,qt,zi]<;>rfl)
     dsimp only at h
     try simp only[vaH]
     refine rg tok [0,4,7,10,12,13,24,25,26] fun K hK=>?_
     simp only[go_sem,qc,qa,qe,reduceCtorEq,t27,yK,yL,TypeDesc.isIface];apply hK
     refine za fun Z33 hZ33=>?_
     refine rgN [0,4,7,10,12,24,25,26,44] ?_;refine zs rfl ?_;refine rgN [6] ?_;apply zR;cases h;simp only[wN,ym,yy,xo,exists_eq_left',go_sem,qe];refine⟨by decide,by simp,?_,?_⟩
     · first|rfl|(simp only[go_sem,qc,qf,qa,qe,ql,qs,reduceIte,reduceCtorEq,push_cast,if_true,qC,qn,qp,qm,qE,qq,qN,qJ,qu,qt,qw,zi,cellsGTree,encGAdaptProgram,encGInterpRun,zH]<;>rfl)
     first|rfl|(simp only[go_sem,push_cast,qp,qm,qq,qu,qt,zi]<;>rfl)
   rw[if_neg hc26] at h;have t34:=eq_false hc26;refine yU (fun L τ=>∃ (x35:Bool),L=[(0,.op 0 0 0),(4,.op 1 0 0),(7,.os true 5 2 v6 0 (qb l5) false),(10,.op 3 0 0),(11,anyV r25),(24,.ds true (qd encGValueValue x1) (qb x1) false),(25,.int .i64 (qb x1:Int)),(26,.int .i64 x7),(48,.bool x35)]∧τ=[.cells 0 (encGInterpRun m0_4),.cells 0 [.int .i64 a1.fOp,.int .i64 a1.fTag,.int .i64 a1.fSub],.cells v6 (qd encGTree l5),.cells 0 (cellsGTree r19)]∧zm.j36 zC a1 x7 m0_4 l5 (zm.l12 zC a1 q12) r19 r25 x35=some r) ?_ ?_
   · refine rg tok [0,4,7,10,11,24,25,26,35,48] fun K hK=>?_
     simp only[go_sem,qc,qa,reduceCtorEq,t34];apply hK
     refine zL rfl (fun hc47=>?_) (fun hc47=>?_)
     · rw[if_pos hc47] at h;have t48:=eq_true hc47;apply zd;exact⟨_,_,⟨decide (a1.fOp=3),rfl,rfl,h⟩,(.t [0,1,2,4] false)⟩
     rw[if_neg hc47] at h;have t49:=eq_false hc47
     refine rgE tok [0,4,7,10,11,24,25,26,48] fun K hK=>?_
     simp only[go_sem,qc,qa,reduceCtorEq,t49];apply hK
     exact⟨_,_,⟨decide (a1.fOp=4),rfl,rfl,h⟩,(.t [0,1,2,4] false)⟩
   rintro _ _ ⟨x35,rfl,rfl,h⟩;unfold zm.j36 at h;refine zv (b:=x35) rfl (fun hc37=>?_) (fun hc37=>?_)
   · rw[if_pos hc37] at h
     rcases r25 with _|n38|s38|⟨e38,r38⟩
     · dsimp only at h
       try simp only[vbC]
       refine rg tok [0,4,7,10,14,15,24,25,26] fun K hK=>?_
       simp only[go_sem,qc,qa,qe,reduceCtorEq,yK,yL,TypeDesc.isIface];apply hK
       refine za fun Z39 hZ39=>?_
       refine rgN [0,4,7,10,14,24,25,26,57] ?_;refine zs rfl ?_;refine rgN [6] ?_;apply zR;cases h;simp only[wN,ym,yy,xo,exists_eq_left',go_sem,qe];refine⟨by decide,by simp,?_,?_⟩
       · first|rfl|(simp only[go_sem,qc,qf,qa,qe,ql,qs,reduceIte,reduceCtorEq,push_cast,if_true,qC,qn,qp,qm,qE,qq,qN,qJ,qu,qt,qw,zi,cellsGTree,encGAdaptProgram,encGInterpRun,zH]<;>rfl)
       first|rfl|(simp only[go_sem,push_cast,qp,qm,qq,qu,qt,zi]<;>rfl)
     · dsimp only at h
       try simp only[vbB]
       refine rg tok [0,4,7,10,14,15,24,25,26] fun K hK=>?_
       simp only[go_sem,qc,qa,qe,reduceCtorEq,yK,yL,TypeDesc.isIface];apply hK
       refine za fun Z40 hZ40=>?_
       refine rgN [0,4,7,10,14,24,25,26,57] ?_;refine zs rfl ?_;refine rgN [6] ?_;apply zR;cases h;simp only[wN,ym,yy,xo,exists_eq_left',go_sem,qe];refine⟨by decide,by simp,?_,?_⟩
       · first|rfl|(simp only[go_sem,qc,qf,qa,qe,ql,qs,reduceIte,reduceCtorEq,push_cast,if_true,qC,qn,qp,qm,qE,qq,qN,qJ,qu,qt,qw,zi,cellsGTree,encGAdaptProgram,encGInterpRun,zH]<;>rfl)
       first|rfl|(simp only[go_sem,push_cast,qp,qm,qq,qu,qt,zi]<;>rfl)
     · dsimp only at h
       try simp only[vbA]
       refine rg tok [0,4,7,10,14,15,24,25,26] fun K hK=>?_
       simp only[go_sem,qc,qa,qe,reduceCtorEq,yK,yL,TypeDesc.isIface];apply hK
       refine za fun Z41 hZ41=>?_
       refine rgN [0,4,7,10,14,24,25,26,57] ?_;refine zs rfl ?_;refine rgN [6] ?_;apply zR;cases h;simp only[wN,ym,yy,xo,exists_eq_left',go_sem,qe];refine⟨by decide,by simp,?_,?_⟩
       · first|rfl|(simp only[go_sem,qc,qf,qa,qe,ql,qs,reduceIte,reduceCtorEq,push_cast,if_true,qC,qn,qp,qm,qE,qq,qN,qJ,qu,qt,qw,zi,cellsGTree,encGAdaptProgram,encGInterpRun,zH]<;>rfl)
       first|rfl|(simp only[go_sem,push_cast,qp,qm,qq,qu,qt,zi]<;>rfl)
     dsimp only at h
     try simp only[vaH]
     refine rg tok [0,4,7,10,14,15,24,25,26] fun K hK=>?_
     simp only[go_sem,qc,qa,qe,reduceCtorEq,yK,yL,TypeDesc.isIface];apply hK
     refine za fun Z42 hZ42=>?_
     refine rgN [0,4,7,10,14,24,25,26,57] ?_;refine zp rfl ?_;apply zd;apply hZ42
     refine rc [0,4,7,10,24,25,26] fun K hK=>?_
     obtain⟨r43,hr43,h⟩:=bind_some h;refine rnN 4 ?_;refine clN rfl rfl rfl (@id (ACalls qg 199 [.op 0 0 0,.int .i64 a1.fSub,.dp [.ds true (qd encGValueEntry e38) (qb e38) false,.ds true (qd encGRaw r38) (qb r38) false] 0] [.cells 0 (encGInterpRun m0_4),.cells 0 [.int .i64 a1.fOp,.int .i64 a1.fTag,.int .i64 a1.fSub],.cells v6 (qd encGTree l5),.cells 0 (cellsGTree r19)] (fun r' σ'=>r'=.agg (cellsGTree r43.1)∧σ'=[.cells 0 (encGInterpRun r43.2),.cells 0 [.int .i64 a1.fOp,.int .i64 a1.fTag,.int .i64 a1.fSub],.cells v6 (qd encGTree l5),.cells 0 (cellsGTree r19)])) ((YE m0_4 a1.fSub (⟨e38,r38⟩:GValueNode) r43 hr43).i [0])) ?_;refine zj tok 1 ?_;simp only[go_sem,qf,qa,qe,reduceCtorEq,cellsGTree];refine nkN hK ?_
     refine rc [0,4,7,10,24,25,26,71] fun K hK=>?_
     refine rnN 4 ?_;refine zq 5 (fun L τ=>L=[(0,.op 0 0 0),(4,.op 1 0 0),(7,.os true 5 2 v6 0 (qb l5) false),(10,.op 3 0 0),(24,.ds true (qd encGValueValue x1) (qb x1) false),(25,.int .i64 (qb x1:Int)),(26,.int .i64 x7),(71,.bool ((decide (a1.fOp=4))&&(decide ((qb r43.1.fEntries:Int)=0))))]∧τ=[.cells 0 (encGInterpRun r43.2),.cells 0 [.int .i64 a1.fOp,.int .i64 a1.fTag,.int .i64 a1.fSub],.cells v6 (qd encGTree l5),.cells 0 (cellsGTree r43.1)]) ?_ ?_
     · refine yW 66 rfl (fun hg66=>?_) (fun hg66=>?_)
       · have t44:=eq_true hg66;refine rnN 5 ?_;refine zb ⟨rfl,_,_,⟨rfl,rfl⟩,.p t44⟩
       have t45:=eq_false hg66;refine rnN 5 ?_;refine zb ⟨rfl,_,_,⟨rfl,rfl⟩,.p t45⟩
     rintro _ _ ⟨rfl,rfl⟩;refine nkN hK ?_;refine zv (b:=((decide (a1.fOp=4))&&(decide ((qb r43.1.fEntries:Int)=0)))) rfl (fun hc46=>?_) (fun hc46=>?_)
     · rw[if_pos hc46] at h;refine rgN [6] ?_;apply zR;cases h;simp only[wN,ym,yy,xo,exists_eq_left',go_sem,qe];refine⟨by decide,by simp,?_,?_⟩
       · first|rfl|(simp only[go_sem,qc,qf,qa,qe,ql,qs,reduceIte,reduceCtorEq,push_cast,if_true,qC,qn,qp,qm,qE,qq,qN,qJ,qu,qt,qw,zi,cellsGTree,encGAdaptProgram,encGInterpRun,zH]<;>rfl)
       first|rfl|(simp only[go_sem,push_cast,qp,qm,qq,qu,qt,zi]<;>rfl)
     rw[wb hc46] at h;apply zd;exact⟨_,_,⟨r43.2,r43.1,rfl,rfl,h⟩,.s⟩
   rw[wb hc37] at h;apply zd;exact⟨_,_,⟨m0_4,r19,rfl,rfl,h⟩,.s⟩
 rintro _ _ ⟨m0_20,m3_21,rfl,rfl,h⟩;unfold zm.j22 at h;obtain⟨_u23,hu23,h⟩:=bind_some h;have gu23:=yF hu23;have f24:=(zy E38.len l5)
 refine rgE tok [0,4,7,24,25,26] fun K hK=>?_
 simp only[go_sem,qc,qf,qa,qe,ql,reduceCtorEq,zM,z8,q1,qT,true_and,ub,yx,zY,yC,gu23,f24,yS,uc,qZ,AV.one,qO,qK,qk,qr,qn,qM];apply hK
 apply hZ15
 refine rgE tok [0,4,7,24,25,26] fun K hK=>?_
 simp only[go_sem,qc,qa,reduceCtorEq,hw12];apply hK
 exact⟨_,_,_,qy q12.length,⟨p12++[y12],q12,x7+1,m0_20,l5++[m3_21],v6+1,rfl,rfl,rfl,hE'12,hi'12,h⟩,(.t [0,1,2] false)⟩
mutual
def zw : Nat→GInterpRun→Int→GValueNode→Option (GTree×GInterpRun)
 |0,_,_,_=>none
 |k+1,a0,a1,a2=>zw.body (zw k) (zm k) a0 a1 a2
def zm : Nat→GInterpRun→GStep→(List GValueValue)→Option (List GTree×GInterpRun)
 |0,_,_,_=>none
 |k+1,a0,a1,a2=>zm.body (zw k) (zm k) a0 a1 a2
end
theorem zw.all (k:Nat):(∀ (a0:GInterpRun) (a1:Int) (a2:GValueNode) (r:GTree×GInterpRun),zw k a0 a1 a2=some r→ACalls qg 199 [.op 0 0 0,.int .i64 a1,.dp (encGValueNode a2) 0] [.cells 0 (encGInterpRun a0)] (fun r' σ'=>r'=.agg (cellsGTree r.1)∧σ'=[.cells 0 (encGInterpRun r.2)]))∧(∀ (a0:GInterpRun) (a1:GStep) (a2:List GValueValue) (r:List GTree×GInterpRun),zm k a0 a1 a2=some r→ACalls qg 237 [.op 0 0 0,.agg (encGStep a1),.ds true (qd encGValueValue a2) (qb a2) false] [.cells 0 (encGInterpRun a0)] (fun r' σ'=>r'=.ds true (qd encGTree r.1) (qb r.1) false∧σ'=[.cells 0 (encGInterpRun r.2)])):=by
 induction k with
 |zero=>exact⟨(fun a0 a1 a2 r h=>by simp only[zw] at h; cases h),(fun a0 a1 a2 r h=>by simp only[zm] at h; cases h)⟩
 |succ k ih=>exact⟨(fun a0 a1 a2 r h=>zw.step _ _ ih.1 ih.2 a0 a1 a2 r (by simpa only [zw] using h)),(fun a0 a1 a2 r h=>zm.step _ _ ih.1 ih.2 a0 a1 a2 r (by simpa only [zm] using h))⟩
theorem zw.ok (k:Nat)(a0:GInterpRun)(a1:Int)(a2:GValueNode)(r:GTree×GInterpRun)(h:zw k a0 a1 a2=some r):ACalls qg 199 [.op 0 0 0,.int .i64 a1,.dp (encGValueNode a2) 0] [.cells 0 (encGInterpRun a0)] (fun r' σ'=>r'=.agg (cellsGTree r.1)∧σ'=[.cells 0 (encGInterpRun r.2)]):=(zw.all k).1 a0 a1 a2 r h
def wG (a0:GAdaptProgram)(a1:GTree):Option (GTree×Int×Int):=
 bnd (yN a0) fun r2=>(if ((!r2)||(!(decide (a1.fKind=3))))=true then some ((⟨0,0,[],([]:List GEntry),([]:List GRaw)⟩:GTree),0,1) else (Zi a1).bind fun r4=>(if (!r4.2)=true then some ((⟨0,0,[],([]:List GEntry),([]:List GRaw)⟩:GTree),0,1) else (yA r4.1).bind fun r8=>(zw rounds (⟨a0,0⟩:GInterpRun) 0 r8).bind fun r9=>some (r9.1,r9.2.flooks,0)))
theorem wG.ok (a0:GAdaptProgram)(a1:GTree)(r:GTree×Int×Int)(h:wG a0 a1=some r):ACalls qg 152 [.agg (encGAdaptProgram a0),.agg (cellsGTree a1)] [] (fun r' _=>r'=.tup [.agg (cellsGTree r.1),.int .i64 r.2.1,.int .i64 r.2.2]):=by
 refine zh (rs:=[.cell 4 37,.tmp 5,.tmp 6]) tok Tryz.func152 rfl Tryz.ntmps152 rfl Tryz.call152 (by simp) ?_;refine zl [(0,.agg (encGAdaptProgram a0)),(1,.agg (cellsGTree a1))] ⟨rfl,rfl,trivial⟩ ?_;unfold wG at h
 refine rg tok [2,3,4] fun K hK=>?_
 simp only[go_sem,qc,qa,qe,reduceCtorEq,cellsGTree,encGAdaptProgram];apply hK
 refine za fun Z1 hZ1=>?_
 refine rc [2,3,4,18] fun K hK=>?_
 obtain⟨r2,hr2,h⟩:=zD h;refine rnN 1 ?_;refine clN rfl rfl rfl (yN.ev a0 r2 hr2 _) ?_;refine rnN 2 ?_;refine zq 4 (fun L τ=>L=[(2,.op 0 0 0),(3,.op 1 0 0),(4,.op 2 0 0),(18,.bool ((!r2)||(!(decide (a1.fKind=3)))))]∧τ=[.cells 0 (encGAdaptProgram a0),.cells 0 (cellsGTree a1),.cells 0 [.int .i64 0,.int .i64 0,.str [],.ds true [] 0 true,.ds true [] 0 true]]) ?_ ?_
 · refine yf (b:=(!r2)) 14 rfl (fun hg14=>?_) (fun hg14=>?_)
   · refine rnN 4 ?_;refine zb ⟨rfl,_,_,⟨rfl,rfl⟩,.b hg14⟩
   refine rnN 4 ?_;refine zb ⟨rfl,_,_,⟨rfl,rfl⟩,.b hg14⟩
 rintro _ _ ⟨rfl,rfl⟩;refine nkN hK ?_;refine zv (b:=((!r2)||(!(decide (a1.fKind=3))))) rfl (fun hc3=>?_) (fun hc3=>?_)
 · rw[if_pos hc3] at h;refine rgN [4,5,6] ?_;cases h;exact rtA
 rw[wb hc3] at h;apply zd;apply hZ1
 refine rc [2,4,7,8] fun K hK=>?_
 obtain⟨r4,hr4,h⟩:=bind_some h;refine zj tok 1 ?_;simp only[go_sem,qc,qf,qa,qe,cellsGTree];refine clN rfl rfl rfl (Zi.ev a1 r4 hr4 _) ?_;have f5:=wW r4.1;unfold AV.one at f5;refine zj tok 6 ?_;simp only[go_sem,qc,qf,qa,qe,encGValueValue,f5];refine nkN hK ?_
 refine za fun Z6 hZ6=>?_
 refine rgN [2,4,7,26] ?_;refine zv (b:=(!r4.2)) rfl (fun hc7=>?_) (fun hc7=>?_)
 · rw[if_pos hc7] at h;refine rgN [4,5,6] ?_;cases h;exact rtA
 rw[wb hc7] at h;apply zd;apply hZ6;refine rgN [4,7,9] ?_
 refine rc [4,9,10] fun K hK=>?_
 obtain⟨r8,hr8,h⟩:=bind_some h;refine rnN 2 ?_;refine clN rfl rfl rfl (yA.ev r4.1 r8 hr8 _) ?_;obtain⟨r9,hr9,h⟩:=bind_some h;refine clN rfl rfl rfl (@id (ACalls qg 199 [.op 4 0 0,.int .i64 0,.dp (encGValueNode r8) 0] [.cells 0 (encGAdaptProgram a0),.cells 0 (cellsGTree a1),.cells 0 [.int .i64 0,.int .i64 0,.str [],.ds true [] 0 true,.ds true [] 0 true],.cells 0 [ifcV r4.1],.cells 0 [.ds true (qd (Yt encGStep) a0.fParts) (qb a0.fParts) false,.int .i64 0]] (fun r' σ'=>r'=.agg (cellsGTree r9.1)∧σ'=[.cells 0 (encGAdaptProgram a0),.cells 0 (cellsGTree a1),.cells 0 [.int .i64 0,.int .i64 0,.str [],.ds true [] 0 true,.ds true [] 0 true],.cells 0 [ifcV r4.1],.cells 0 (encGInterpRun r9.2)])) ((zw.ok rounds (⟨a0,0⟩:GInterpRun) 0 r8 r9 hr9).i [4])) ?_;refine zj tok 2 ?_;simp only[go_sem,qc,qf,qa,qe,cellsGTree];refine nkN hK ?_
 refine rd [4,5,6] fun K hK=>?_
 refine DW.start (T:=tab) [.at [],.any,.any,.any,.own 1 [2],.eff,.any,.any] [(1,[2])] ?_;refine DW.runN tok 8 ?_;simp only[go_sem,qc,qf,qa,qe,reduceCtorEq,cellsGTree];refine DW.fin tok (by decide +kernel) rfl ?_;simp only[zf,upd,qa,reduceIte,zV,yz];apply hK
 cases h;exact rtA
end
end Go.Proofs.YtaahlckibpiphaaGreatDoor
