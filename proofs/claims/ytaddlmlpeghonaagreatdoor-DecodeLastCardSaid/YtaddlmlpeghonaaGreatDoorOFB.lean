/- Parts of the proof, cut down to what it needs. -/
import Derived.Test.YtaddlmlpeghonaaGreatDoorOFA
import Derived.Shelf.Spec.SlicesInsert
import Derived.Lib.AppendZerosOnto
set_option linter.constructorNameAsVariable false
set_option linter.unusedSimpArgs false
set_option linter.unusedVariables false
namespace Go.Proofs.YtaddlmlpeghonaaGreatDoor
open _root_.List renaming length → qb, flatMap → qf, length_append → qi, length_cons → qk, length_nil → qn, append_assoc → qp, mem_cons_of_mem → qq, mem_cons_self → qr, getD_eq_getElem?_getD → qv, append_nil → qw, map_nil → qx, nil_append → qz, cons_append → qA, drop_zero → qD, length_eq_zero_iff → qE, length_singleton → qF, map_cons → qG, map_append → qH, flatMap_append → qI, mem_cons → qJ, flatMap_cons → qM, replicate → qQ, getElem?_append_left → qT, getElem?_eq_getElem → qV, getElem?_eq_some_iff → q1, length_map → q2, flatMap_nil → q3, all_cons → q5, range_zero → q7, getElem?_set_ne → q9, getElem?_append_right → ua, all_eq_true → ub, all_nil → ud, range_succ → ug, take_of_length_le → uh, getElem?_eq_none → ui, take_length → uj, take_append_drop → um, mem_append → un, pairwise_cons → uo, mem_singleton → uq, mem_append_right → ut, getElem?_set_self → uu, filter_cons → ux, range → uy, mem_map → uz, set_cons_zero → uA, getElem?_cons_zero → uE, getElem?_cons_succ → uF, toList_toArray → uG, length_take → uH, length_drop → uI, set_cons_succ → uQ, drop_eq_getElem_cons → uT, mem_append_left → uV, eq_nil_of_length_eq_zero → uZ, nodup_cons → u0, drop_drop → u6, getElem?_toArray → u9, map_congr_left → vg, ofFn → vn
open _root_.Option renaming bind_some → qg, map_some → uB, getD_some → uS
open _root_.Nat renaming reduceEqDiff → qa, reduceLT → qc, reduceAdd → qd, reduceLeDiff → qe, reduceMul → ql, reduceSub → qm, zero_add → qt, le_refl → qu, lt_succ_self → qy, mul_le_mul_right → qY, lt_of_lt_of_le → ue, reduceMod → ul, zero_le → ur, le_trans → uv, zero_mul → uC, sub_self → uM, add_assoc → uN, sub_zero → uR, add_mul → uW, succ_mul → uX, add_zero → uY, lt_or_ge → u4, le_of_not_lt → ve
open _root_.Bool renaming and_eq_true → qo, not_false → qC, not_true → qK, and_true → qL, or_true → qO, and_false → qR, or_eq_true → qS, or_false → qU, and_self → qX, false_eq_true → qZ, not_eq_true' → uD, false_ne_true → uJ, true_and → uK, false_or → uL, true_or → u3
open _root_.Int renaming toNat → qN, toNat_natCast → qW, le_refl → u7, fdiv → vj, reduceEq → vo, tmod_eq_emod_of_nonneg → vp
open _root_.BitVec renaming ofInt → qB, toNat → uk
open _root_.Array renaming length_toList → uc, getD_eq_getD_getElem? → uw, toList_map → uO, getElem?_eq_getElem → uP, getElem?_setIfInBounds_ne → uU, getElem?_modify → u5
open _root_.UInt8 renaming ofNat → uf
open Result renaming andThen_ok → qj
open Sem renaming run_bind → qs, run_pure → qP
open _root_.Go.Proofs.Tryz renaming prog → qh
section
set_option maxRecDepth 4000
set_option maxHeartbeats 1000000
open AM
def xy (a0:GEntry)(a1:Int):Int:=
 IntKind.i64.wrap (a0.fTag-a1)
theorem xy.ok (a0:GEntry)(a1:Int)(r:Int)(h:xy a0 a1=r):ACalls qh 112 [.agg (cellsGEntry a0),.int .i64 a1] [] (fun r' _=>r'=.int .i64 r):=by
 refine zi (rs:=[.tmp 4]) tok Tryz.func112 rfl Tryz.ntmps112 rfl Tryz.call112 (by simp) ?_;refine zm [(0,.agg (cellsGEntry a0)),(1,.int .i64 a1)] ⟨rfl,rfl,trivial⟩ ?_;unfold xy at h
 refine rg tok [1,2] fun K hK=>?_
 simp only[go_sem,qc,qa,qd,reduceCtorEq,cellsGEntry];apply hK
 refine rgN [4] ?_;cases h;exact rtA
theorem xy.ev (a0:GEntry)(a1:Int)(r:Int)(h:xy a0 a1=r)(σ:Store):ACalls qh 112 [.agg (cellsGEntry a0),.int .i64 a1] σ (fun r' σ'=>r'=.int .i64 r∧σ'=σ):=
 (xy.ok a0 a1 r h).c σ
def zk.l6 (a0:List GEntry)(a1:Int):Nat→Int→Int→Option (Int×Bool)
 |0,_,_=>none
 |k6+1,x2,x3=>(if x2<x3 then (wV a0 (IntKind.i64.wrap (vj (IntKind.u64.wrap (IntKind.i64.wrap (x2+x3))) (2^(min (qN 1) 64))))).bind fun y12=>bnd (xy y12 a1) fun r15=>(if r15<0 then ((zk.l6 a0 a1 k6) (IntKind.i64.wrap ((IntKind.i64.wrap (vj (IntKind.u64.wrap (IntKind.i64.wrap (x2+x3))) (2^(min (qN 1) 64))))+1)) x3) else ((zk.l6 a0 a1 k6) x2 (IntKind.i64.wrap (vj (IntKind.u64.wrap (IntKind.i64.wrap (x2+x3))) (2^(min (qN 1) 64)))))) else (if x2<(qb a0:Int) then (wV a0 x2).bind fun y20=>bnd (xy y20 a1) fun r23=>some (decide (r23=0)) else some false).bind fun c20=>some (x2,c20))
def zk (a0:List GEntry)(a1:Int):Option (Int×Bool):=
 (zk.l6 a0 a1 rounds 0 (qb a0:Int))
theorem zk.ok (a0:List GEntry)(a1:Int)(r:Int×Bool)(h:zk a0 a1=some r):ACalls qh 111 [.ds true (qf encGEntry a0) (qb a0) false,.int .i64 a1,.fn (.func 112) [] []] [] (fun r' _=>r'=.tup [.int .i64 r.1,.bool r.2]):=by
 refine zi (rs:=[.tmp 6,.tmp 7]) tok Tryz.func111 rfl Tryz.ntmps111 rfl Tryz.call111 (by simp) ?_;refine zm [(0,.ds true (qf encGEntry a0) (qb a0) false),(1,.int .i64 a1),(2,.fn (.func 112) [] [])] ⟨rfl,rfl,rfl,trivial⟩ ?_;unfold zk at h;refine rgN [0,1,2] ?_;refine rgN [0,1,2,8] ?_;refine rgN [0,1,2,8,9,10] ?_
 refine za fun Z1 hZ1=>?_
 apply ze;refine zC (fun m L τ=>∃ (k6:Nat) (x2:Int) (x3:Int),m=0+k6∧L=[(0,.ds true (qf encGEntry a0) (qb a0) false),(1,.int .i64 a1),(2,.fn (.func 112) [] []),(8,.int .i64 (qb a0:Int)),(9,.int .i64 x2),(10,.int .i64 x3)]∧τ=[]∧zk.l6 a0 a1 k6 x2 x3=some r) _ ⟨rounds,0,(qb a0:Int),rfl,rfl,rfl,h⟩ .s ?_;rintro m L τ ⟨k6,x2,x3,rfl,rfl,rfl,h⟩
 rcases k6 with _|k6
 · cases h
 simp only[zk.l6] at h
 refine za fun Z7 hZ7=>?_
 refine rgN [0,1,2,8,9,10,17] ?_;refine zD rfl (fun hc8=>?_) (fun hc8=>?_)
 · rw[if_pos hc8] at h;have t9:=eq_true hc8;apply zd;apply hZ7;apply ze;have f10:=xF (T:=tab) (src:=3) (dst:=184) rfl rfl rfl;have f11:=xF (T:=tab) (src:=184) (dst:=3) rfl rfl rfl
   refine rg tok [0,1,2,8,9,10,11] fun K hK=>?_
   simp only[go_sem,qc,qa,reduceCtorEq,t9,f10,f11,Z0,Int.reduceLT];apply hK
   refine rc [0,1,2,8,9,10,11,31] fun K hK=>?_
   obtain⟨y12,hy12,h⟩:=bind_some h;have f13:=E27.idxS hy12;have f14:=E27.loadS rfl rfl hy12;obtain⟨r15,hr15,h⟩:=zR h;refine zj tok 6 ?_;simp only[go_sem,qc,qa,reduceCtorEq,cellsGEntry,yy,f13,f14];refine clN rfl rfl rfl (xy.ev y12 a1 r15 hr15 _) ?_;refine rnN 1 ?_;refine nkN hK ?_;refine zD rfl (fun hc16=>?_) (fun hc16=>?_)
   · rw[if_pos hc16] at h;have t17:=eq_true hc16
     refine rgE tok [0,1,2,8,9,10] fun K hK=>?_
     simp only[go_sem,qc,qa,reduceCtorEq,t17];apply hK
     exact⟨_,_,_,qy (0+k6),⟨k6,IntKind.i64.wrap ((IntKind.i64.wrap (vj (IntKind.u64.wrap (IntKind.i64.wrap (x2+x3))) (2^(min (qN 1) 64))))+1),x3,rfl,rfl,rfl,h⟩,.s⟩
   rw[if_neg hc16] at h;have t18:=eq_false hc16
   refine rgE tok [0,1,2,8,9,10] fun K hK=>?_
   simp only[go_sem,qc,qa,reduceCtorEq,t18];apply hK
   exact⟨_,_,_,qy (0+k6),⟨k6,x2,IntKind.i64.wrap (vj (IntKind.u64.wrap (IntKind.i64.wrap (x2+x3))) (2^(min (qN 1) 64))),rfl,rfl,rfl,h⟩,.s⟩
 rw[if_neg hc8] at h;have t19:=eq_false hc8;apply zJ;apply hZ1
 refine rc [6,7] fun K hK=>?_
 refine zj tok 5 ?_;simp only[go_sem,qc,qa,reduceCtorEq,t19];obtain⟨c20,hc20,h⟩:=bind_some h;refine zh 9 (fun L τ=>L=[(35,.int .i64 x2),(48,.bool c20)]∧τ=[]) ?_ ?_
 · refine yx 39 rfl (fun hg39=>?_) (fun hg39=>?_)
   · have t21:=eq_true hg39;rw[if_pos hg39] at hc20;obtain⟨y22,hy22,hc20⟩:=bind_some hc20;have f23:=E27.idxS hy22;have f24:=E27.loadS rfl rfl hy22;obtain⟨r25,hr25,hc20⟩:=zR hc20;refine zj tok 6 ?_;simp only[go_sem,qc,qa,reduceCtorEq,cellsGEntry,yy,f23,f24];refine clN rfl rfl rfl (xy.ev y22 a1 r25 hr25 _) ?_;refine rnN 2 ?_;cases hc20;refine zb ⟨rfl,_,_,⟨rfl,rfl⟩,.p t21⟩
   have t26:=eq_false hg39;rw[if_neg hg39] at hc20;refine rnN 9 ?_;cases hc20;refine zb ⟨rfl,_,_,⟨rfl,rfl⟩,.p t26⟩
 rintro _ _ ⟨rfl,rfl⟩;refine rnN 2 ?_;refine nkN hK ?_;cases h;exact rtA
def xx (a0:GTree):Bool:=
 ((((((decide (1≤a0.fKind))&&(decide (a0.fKind≤3)))&&(decide (a0.fN=0)))&&(decide (a0.fS=[])))&&(decide ((qb a0.fEntries:Int)=0)))&&(decide ((qb a0.fRest:Int)=0)))
theorem xx.ok (a0:GTree)(r:Bool)(h:xx a0=r):ACalls qh 70 [.agg (cellsGTree a0)] [] (fun r' _=>r'=.bool r):=by
 refine zi (rs:=[.tmp 2]) tok Tryz.func70 rfl Tryz.ntmps70 rfl Tryz.call70 (by simp) ?_;refine zm [(0,.agg (cellsGTree a0))] ⟨rfl,trivial⟩ ?_;unfold xx at h
 refine rg tok [1] fun K hK=>?_
 simp only[go_sem,qc,qa,qd,reduceCtorEq,cellsGTree];apply hK
 refine rc [2] fun K hK=>?_
 refine rnN 4 ?_;refine zh 4 (fun L τ=>L=[(1,.op 0 0 0),(10,.bool ((decide (1≤a0.fKind))&&(decide (a0.fKind≤3))))]∧τ=[.cells 0 (cellsGTree a0)]) ?_ ?_
 · refine yx 6 rfl (fun hg6=>?_) (fun hg6=>?_)
   · have t1:=eq_true hg6;refine rnN 4 ?_;refine zb ⟨rfl,_,_,⟨rfl,rfl⟩,.p t1⟩
   have t2:=eq_false hg6;refine rnN 4 ?_;refine zb ⟨rfl,_,_,⟨rfl,rfl⟩,.p t2⟩
 rintro _ _ ⟨rfl,rfl⟩;refine rnN 1 ?_;refine zh 4 (fun L τ=>L=[(1,.op 0 0 0),(15,.bool (((decide (1≤a0.fKind))&&(decide (a0.fKind≤3)))&&(decide (a0.fN=0))))]∧τ=[.cells 0 (cellsGTree a0)]) ?_ ?_
 · refine zK (b:=((decide (1≤a0.fKind))&&(decide (a0.fKind≤3)))) 11 rfl (fun hg11=>?_) (fun hg11=>?_)
   · refine rnN 4 ?_;refine zb ⟨rfl,_,_,⟨rfl,rfl⟩,.b hg11⟩
   refine rnN 4 ?_;refine zb ⟨rfl,_,_,⟨rfl,rfl⟩,.b hg11⟩
 rintro _ _ ⟨rfl,rfl⟩;refine rnN 1 ?_;refine zh 4 (fun L τ=>L=[(1,.op 0 0 0),(20,.bool ((((decide (1≤a0.fKind))&&(decide (a0.fKind≤3)))&&(decide (a0.fN=0)))&&(decide (a0.fS=[]))))]∧τ=[.cells 0 (cellsGTree a0)]) ?_ ?_
 · refine zK (b:=(((decide (1≤a0.fKind))&&(decide (a0.fKind≤3)))&&(decide (a0.fN=0)))) 16 rfl (fun hg16=>?_) (fun hg16=>?_)
   · refine rnN 4 ?_;refine zb ⟨rfl,_,_,⟨rfl,rfl⟩,.b hg16⟩
   refine rnN 4 ?_;refine zb ⟨rfl,_,_,⟨rfl,rfl⟩,.b hg16⟩
 rintro _ _ ⟨rfl,rfl⟩;refine rnN 1 ?_;refine zh 5 (fun L τ=>L=[(1,.op 0 0 0),(26,.bool (((((decide (1≤a0.fKind))&&(decide (a0.fKind≤3)))&&(decide (a0.fN=0)))&&(decide (a0.fS=[])))&&(decide ((qb a0.fEntries:Int)=0))))]∧τ=[.cells 0 (cellsGTree a0)]) ?_ ?_
 · refine zK (b:=((((decide (1≤a0.fKind))&&(decide (a0.fKind≤3)))&&(decide (a0.fN=0)))&&(decide (a0.fS=[])))) 21 rfl (fun hg21=>?_) (fun hg21=>?_)
   · refine rnN 5 ?_;refine zb ⟨rfl,_,_,⟨rfl,rfl⟩,.b hg21⟩
   refine rnN 5 ?_;refine zb ⟨rfl,_,_,⟨rfl,rfl⟩,.b hg21⟩
 rintro _ _ ⟨rfl,rfl⟩;refine rnN 1 ?_;refine zh 5 (fun L τ=>L=[(32,.bool ((((((decide (1≤a0.fKind))&&(decide (a0.fKind≤3)))&&(decide (a0.fN=0)))&&(decide (a0.fS=[])))&&(decide ((qb a0.fEntries:Int)=0)))&&(decide ((qb a0.fRest:Int)=0))))]∧τ=[.cells 0 (cellsGTree a0)]) ?_ ?_
 · refine zK (b:=(((((decide (1≤a0.fKind))&&(decide (a0.fKind≤3)))&&(decide (a0.fN=0)))&&(decide (a0.fS=[])))&&(decide ((qb a0.fEntries:Int)=0)))) 27 rfl (fun hg27=>?_) (fun hg27=>?_)
   · refine rnN 5 ?_;refine zb ⟨rfl,_,_,⟨rfl,rfl⟩,.b hg27⟩
   refine rnN 5 ?_;refine zb ⟨rfl,_,_,⟨rfl,rfl⟩,.b hg27⟩
 rintro _ _ ⟨rfl,rfl⟩;refine rnN 1 ?_;refine nkN hK ?_;cases h;exact rtA
theorem xx.ev (a0:GTree)(r:Bool)(h:xx a0=r)(σ:Store):ACalls qh 70 [.agg (cellsGTree a0)] σ (fun r' σ'=>r'=.bool r∧σ'=σ):=
 (xx.ok a0 r h).c σ
def yX (a0:GEntry)(a1:GMessage):Option Bool:=
 bnd (zf a1 a0.fTag) fun r1=>(if r1.1.fLabel=1 then (wV a0.fTrees 0).bind fun y2=>bnd (xx y2) fun r5=>some r5 else some false).bind fun c2=>some c2
theorem yX.ok (a0:GEntry)(a1:GMessage)(r:Bool)(h:yX a0 a1=some r):ACalls qh 69 [.agg (cellsGEntry a0),.dp (encGMessage a1) 0] [] (fun r' _=>r'=.bool r):=by
 refine zi (rs:=[.tmp 3]) tok Tryz.func69 rfl Tryz.ntmps69 rfl Tryz.call69 (by simp) ?_;refine zm [(0,.agg (cellsGEntry a0)),(1,.dp (encGMessage a1) 0)] ⟨rfl,rfl,trivial⟩ ?_;unfold yX at h
 refine rg tok [1,2] fun K hK=>?_
 simp only[go_sem,qc,qa,qd,reduceCtorEq,cellsGEntry];apply hK
 refine rc [2,4] fun K hK=>?_
 obtain⟨r1,hr1,h⟩:=zR h;refine zj tok 3 ?_;simp only[go_sem,qc,qe,qa,qd,encGMessage,XX];refine clN rfl rfl rfl (zf.ev a1 a0.fTag r1 hr1 _) ?_;refine zj tok 6 ?_;simp only[go_sem,qc,qe,qa,qd,encGField];refine nkN hK ?_
 refine rc [3] fun K hK=>?_
 refine rnN 4 ?_;obtain⟨c2,hc2,h⟩:=bind_some h;refine zh 6 (fun L τ=>L=[(22,.bool c2)]∧τ=[.cells 0 (cellsGEntry a0),.cells 0 (encGField r1.1)]) ?_ ?_
 · refine yx 16 rfl (fun hg16=>?_) (fun hg16=>?_)
   · have t3:=eq_true hg16;rw[if_pos hg16] at hc2;obtain⟨y4,hy4,hc2⟩:=bind_some hc2;have f5:=E90.idxS hy4;have f6:=E90.loadS rfl rfl hy4;obtain⟨r7,hr7,hc2⟩:=zR hc2;refine zj tok 4 ?_;simp only[go_sem,qc,qa,qd,cellsGTree,zO,f5,f6];refine clN rfl rfl rfl (xx.ev y4 r7 hr7 _) ?_;refine rnN 1 ?_;cases hc2;refine zb ⟨rfl,_,_,⟨rfl,rfl⟩,.p t3⟩
   have t8:=eq_false hg16;rw[if_neg hg16] at hc2;refine rnN 6 ?_;cases hc2;refine zb ⟨rfl,_,_,⟨rfl,rfl⟩,.p t8⟩
 rintro _ _ ⟨rfl,rfl⟩;refine rnN 1 ?_;refine nkN hK ?_;cases h;exact rtA
theorem yX.ev (a0:GEntry)(a1:GMessage)(r:Bool)(h:yX a0 a1=some r)(σ:Store):ACalls qh 69 [.agg (cellsGEntry a0),.dp (encGMessage a1) 0] σ (fun r' σ'=>r'=.bool r∧σ'=σ):=
 (yX.ok a0 a1 r h).c σ
def zo.l4 (a1_0:GMessage):List GEntry→Int→Option Int
 |[],x2=>some (-1)
 |y4::q4,x2=>(yX y4 a1_0).bind fun r10=>(if r10=true then some x2 else ((zo.l4 a1_0 q4) (x2+1)))
def zo (a0:List GEntry)(a1_0:GMessage):Option Int:=
 (zo.l4 a1_0 a0 0)
theorem zo.ok (a0:List GEntry)(a1_0:GMessage)(r:Int)(h:zo a0 a1_0=some r):ACalls qh 114 [.ds true (qf encGEntry a0) (qb a0) false,.fn (.func 69) [] [.dp (encGMessage a1_0) 0]] [] (fun r' _=>r'=.int .i64 r):=by
 refine zi (rs:=[.tmp 4]) tok Tryz.func114 rfl Tryz.ntmps114 rfl Tryz.call114 (by simp) ?_;refine zm [(0,.ds true (qf encGEntry a0) (qb a0) false),(1,.fn (.func 69) [] [.dp (encGMessage a1_0) 0])] ⟨rfl,rfl,trivial⟩ ?_;unfold zo at h;refine rgN [0,1] ?_
 refine za fun Z1 hZ1=>?_
 refine rgN [0,1,7,8] ?_;apply ze
 refine xb 0 fun hb4=>?_
 replace hb4:qb a0≤9223372036854775807:=hb4.1;refine zC (fun m L τ=>∃ (p4 q4:List GEntry) (x2:Int),m=qb q4∧L=[(0,.ds true (qf encGEntry a0) (qb a0) false),(1,.fn (.func 69) [] [.dp (encGMessage a1_0) 0]),(7,.int .i64 (qb a0:Int)),(8,.int .i64 x2)]∧τ=[]∧a0=p4++q4∧x2=(qb p4:Int)∧zo.l4 a1_0 q4 x2=some r) _ ⟨[],a0,0,rfl,rfl,rfl,rfl,rfl,h⟩ .s ?_;rintro m L τ ⟨p4,q4,x2,rfl,rfl,rfl,hE4,hi4,h⟩
 rcases q4 with _|⟨y4,q4⟩
 · have hz4:=yz hE4 hi4;simp only[zo.l4] at h
   refine rg tok [0,1,7,8,9] fun K hK=>?_
   simp only[go_sem,qc,qa,reduceCtorEq,hz4];apply hK
   refine za fun Z5 hZ5=>?_
   refine zw rfl ?_;apply zJ;apply hZ1;refine rgN [4] ?_;cases h;exact rtA
 obtain⟨hz4,hw4,hx4,hE'4,hi'4⟩:=yd hE4 hi4 hb4;simp only[zo.l4] at h
 refine rg tok [0,1,7,8,9] fun K hK=>?_
 simp only[go_sem,qc,qa,reduceCtorEq,hz4];apply hK
 refine za fun Z6 hZ6=>?_
 refine zz rfl ?_;apply zd;apply hZ6
 refine za fun Z7 hZ7=>?_
 apply ze;refine rgN [0,1,5,7,8] ?_
 refine rc [0,1,5,7,8,16] fun K hK=>?_
 have f8:=E27.idxS hx4;have f9:=E27.loadS rfl rfl hx4;obtain⟨r10,hr10,h⟩:=bind_some h;refine zj tok 5 ?_;simp only[go_sem,qc,qa,reduceCtorEq,cellsGEntry,yy,f8,f9];refine clN rfl rfl rfl (yX.ev y4 a1_0 r10 hr10 _) ?_;refine nkN hK ?_;refine zn (b:=r10) rfl (fun hc11=>?_) (fun hc11=>?_)
 · rw[if_pos hc11] at h;refine rgN [4] ?_;cases h;exact rtA
 rw[xD hc11] at h;apply zd;apply hZ7
 refine rgE tok [0,1,7,8] fun K hK=>?_
 simp only[go_sem,qc,qa,reduceCtorEq,hw4];apply hK
 exact⟨_,_,_,qy q4.length,⟨p4++[y4],q4,x2+1,rfl,rfl,rfl,hE'4,hi'4,h⟩,.s⟩
def zI.j20 (x5:Int)(l4:List GRaw)(rec8:Int→List GRaw→Option (List GRaw))(y8:GRaw)(x15:Int)(rec17:Int→Option (List GRaw))(x19:Bool):Option (List GRaw):=
 (if x19=true then (rec17 (IntKind.i64.wrap (x15-1))) else (grd ((0:Int)≤IntKind.i64.wrap (x15+1)∧IntKind.i64.wrap (x15+1)≤x5+1∧x5+1≤(qb l4:Int))).bind fun _u22=>(grd ((0:Int)≤x15∧x15≤x5∧x5≤(qb l4:Int))).bind fun _u24=>(wV (Xp l4 (qN (IntKind.i64.wrap (x15+1))) (qN x15) (min (qN x5-qN x15) (qN (x5+1)-qN (IntKind.i64.wrap (x15+1))))) x15).bind fun y28=>(rec8 (x5+1) (setI (Xp l4 (qN (IntKind.i64.wrap (x15+1))) (qN x15) (min (qN x5-qN x15) (qN (x5+1)-qN (IntKind.i64.wrap (x15+1))))) x15 y8)))
def zI.l17 (x5:Int)(l4:List GRaw)(rec8:Int→List GRaw→Option (List GRaw))(y8:GRaw):Nat→Int→Option (List GRaw)
 |0,_=>none
 |k17+1,x15=>(if 0<x15 then (wV l4 (IntKind.i64.wrap (x15-1))).bind fun y33=>(zI.j20 x5 l4 rec8 y8 x15 (zI.l17 x5 l4 rec8 y8 k17) (decide (y8.fTag<y33.fTag))) else (zI.j20 x5 l4 rec8 y8 x15 (zI.l17 x5 l4 rec8 y8 k17) false))
def zI.l8 : List GRaw→Int→List GRaw→Option (List GRaw)
 |[],x5,l4=>some l4
 |y8::q8,x5,l4=>(zI.l17 x5 l4 (zI.l8 q8) y8 rounds x5)
def zI (a0:List GRaw):Option (List GRaw):=
 (grd ((0:Int)≤(qb a0:Int)∧(40:Int)*(qb a0:Int)≤281474976710656∧(qb a0:Int)<9223372036854775807)).bind fun _u1=>(zI.l8 a0 0 (qQ (qN (qb a0:Int)) ((⟨0,0,0,[]⟩:GRaw):GRaw)))
theorem zI.ok (a0:List GRaw)(r:List GRaw)(h:zI a0=some r):ACalls qh 71 [.ds true (qf encGRaw a0) (qb a0) false] [] (fun r' _=>r'=.ds true (qf encGRaw r) (qb r) false):=by
 refine zi (rs:=[.tmp 2]) tok Tryz.func71 rfl Tryz.ntmps71 rfl Tryz.call71 (by simp) ?_;refine zm [(0,.ds true (qf encGRaw a0) (qb a0) false)] ⟨rfl,trivial⟩ ?_;unfold zI at h;refine rgN [0] ?_;obtain⟨_u1,hu1,h⟩:=bind_some h;have gu1:=wB hu1;have f2:=E28.mk0 rfl (z:=((⟨0,0,0,[]⟩:GRaw):GRaw)) rfl rfl gu1 .i64 .i64
 refine rg tok [0,3] fun K hK=>?_
 simp only[go_sem,qc,qa,reduceCtorEq,f2];apply hK
 refine yc (L:=[(0,.ds true (qf encGRaw a0) (qb a0) false),(3,.os true 4 0 0 0 (qb (qQ (qN (qb a0:Int)) ((⟨0,0,0,[]⟩:GRaw):GRaw))) true)]) (τ:=[.cells 0 (qf encGRaw (qQ (qN (qb a0:Int)) ((⟨0,0,0,[]⟩:GRaw):GRaw)))]) .s ?_
 refine za fun Z3 hZ3=>?_
 refine rgN [3,10,11,12] ?_;apply ze
 refine xb 10 fun hb8=>?_
 replace hb8:qb a0≤9223372036854775807:=hb8.1;refine zC (fun m L τ=>∃ (p8 q8:List GRaw) (x5:Int) (l4:List GRaw),m=qb q8∧L=[(3,.os true 4 0 0 0 (qb l4) true),(10,.ds true (qf encGRaw a0) (qb a0) false),(11,.int .i64 (qb a0:Int)),(12,.int .i64 x5)]∧τ=[.cells 0 (qf encGRaw l4)]∧a0=p8++q8∧x5=(qb p8:Int)∧zI.l8 q8 x5 l4=some r) _ ⟨[],a0,0,qQ (qN (qb a0:Int)) ((⟨0,0,0,[]⟩:GRaw):GRaw),rfl,rfl,rfl,rfl,rfl,h⟩ .s ?_;rintro m L τ ⟨p8,q8,x5,l4,rfl,rfl,rfl,hE8,hi8,h⟩
 rcases q8 with _|⟨y8,q8⟩
 · have hz8:=yz hE8 hi8;simp only[zI.l8] at h
   refine rg tok [3,10,11,12,13] fun K hK=>?_
   simp only[go_sem,qc,qa,hz8];apply hK
   refine za fun Z9 hZ9=>?_
   refine zw rfl ?_;apply zJ;apply hZ3;refine rgN [2] ?_;cases h;exact rtA
 obtain⟨hz8,hw8,hx8,hE'8,hi'8⟩:=yd hE8 hi8 hb8;simp only[zI.l8] at h
 refine rg tok [3,10,11,12,13] fun K hK=>?_
 simp only[go_sem,qc,qa,hz8];apply hK
 refine za fun Z10 hZ10=>?_
 refine zz rfl ?_;apply zd;apply hZ10
 refine za fun Z11 hZ11=>?_
 apply ze;have f12:=E28.idxS hx8;have f13:=E28.loadS rfl rfl hx8
 refine rg tok [3,4,5,10,11,12] fun K hK=>?_
 simp only[go_sem,qc,qe,qa,qd,encGRaw,f12,f13];apply hK
 refine rgN [3,4,5,6,10,11,12] ?_
 refine za fun Z14 hZ14=>?_
 apply ze;refine zC (fun m L τ=>∃ (k17:Nat) (x15:Int),m=0+k17∧L=[(3,.os true 4 0 0 0 (qb l4) true),(4,.int .i64 x5),(5,.op 1 0 0),(6,.int .i64 x15),(10,.ds true (qf encGRaw a0) (qb a0) false),(11,.int .i64 (qb a0:Int)),(12,.int .i64 x5)]∧τ=[.cells 0 (qf encGRaw l4),.cells 0 [.int .i64 y8.fTag,.int .i64 y8.fWire,.int .i64 y8.fN,.str y8.fB]]∧zI.l17 x5 l4 (zI.l8 q8) y8 k17 x15=some r) _ ⟨rounds,x5,rfl,rfl,rfl,h⟩ .s ?_;rintro m L τ ⟨k17,x15,rfl,rfl,rfl,h⟩
 rcases k17 with _|k17
 · cases h
 simp only[zI.l17] at h
 refine za fun Z18 hZ18=>?_
 refine xG (fun L τ=>∃ (x19:Bool),L=[(3,.os true 4 0 0 0 (qb l4) true),(4,.int .i64 x5),(5,.op 1 0 0),(6,.int .i64 x15),(10,.ds true (qf encGRaw a0) (qb a0) false),(11,.int .i64 (qb a0:Int)),(12,.int .i64 x5),(30,.bool x19)]∧τ=[.cells 0 (qf encGRaw l4),.cells 0 [.int .i64 y8.fTag,.int .i64 y8.fWire,.int .i64 y8.fN,.str y8.fB]]∧zI.j20 x5 l4 (zI.l8 q8) y8 x15 (zI.l17 x5 l4 (zI.l8 q8) y8 k17) x19=some r) ?_ ?_
 · refine rdE [3,4,5,6,10,11,12,30] fun K hK=>?_
   refine DW.start (T:=tab) [.any,.any,.any,.any,.any,.any,.any,.any,.at [],.any,.at [],.any,.any] [] ?_;refine DW.runN tok 3 ?_;simp only[go_sem,qc,qa]
   refine DW.if 20 rfl (fun hg20=>?_) (fun hg20=>?_)
   · rw[if_pos hg20] at h;have t32:=eq_true hg20;obtain⟨y33,hy33,h⟩:=bind_some h;have f34:=E28.idxO hy33;have f35:=E28.rdfO0 hy33;refine DW.runN tok 8 ?_;simp only[go_sem,qc,qa,qd,encGRaw,t32,f34,f35];refine DW.runN tok 2 ?_;simp only[go_sem,qc,qa];refine DW.fin tok (by decide +kernel) rfl ?_;simp only[zt,upd,qa,reduceIte,yV,xz];apply hK
     exact⟨_,_,⟨decide (y8.fTag<y33.fTag),rfl,rfl,h⟩,.s⟩
   rw[if_neg hg20] at h;have t36:=eq_false hg20;refine DW.runN tok 8 ?_;simp only[go_sem,qc,qa,t36];refine DW.runN tok 2 ?_;simp only[go_sem,qc,qa];refine DW.fin tok (by decide +kernel) rfl ?_;simp only[zt,upd,qa,reduceIte,yV,xz];apply hK
   exact⟨_,_,⟨false,rfl,rfl,h⟩,.s⟩
 rintro _ _ ⟨x19,rfl,rfl,h⟩;unfold zI.j20 at h;refine zn (b:=x19) rfl (fun hc21=>?_) (fun hc21=>?_)
 · rw[if_pos hc21] at h;apply zd;apply hZ18;apply ze
   refine rgE tok [3,4,5,6,10,11,12] fun K hK=>?_
   simp only[go_sem,qc,qa];apply hK
   exact⟨_,_,_,qy (0+k17),⟨k17,IntKind.i64.wrap (x15-1),rfl,rfl,rfl,h⟩,.s⟩
 rw[xD hc21] at h;apply zJ;apply hZ14;obtain⟨_u22,hu22,h⟩:=bind_some h;have gu22:=wB hu22
 have f23:=fun id ver=>E28.slO gu22 .i64 .i64 id ver true
 obtain⟨_u24,hu24,h⟩:=bind_some h;have gu24:=wB hu24
 have f25:=fun id ver=>E28.slO gu24 .i64 .i64 id ver true
 have f26:=fun (τ:Store) (t1 t2:Bool)=>E28.cpO vbR.h gu22 gu24 t1 t2 (.cells 0 (qf encGRaw l4)::τ) 0 0 (by simp only[Store.at_hd,if_true]) rfl
 have f27:qb (Xp l4 (qN (IntKind.i64.wrap (x15+1))) (qN x15) (min (qN x5-qN x15) (qN (x5+1)-qN (IntKind.i64.wrap (x15+1)))))=qb l4:=copyI_length (by omega) (by omega)
 refine rd [3,5,6,10,11,12] fun K hK=>?_
 refine DW.start (T:=tab) [.any,.any,.any,.any,.any,.any,.any,.any,.any,.any,.eff] [] ?_;refine DW.runN tok 8 ?_;simp only[go_sem,qc,qa,hw8,f23];refine DW.runN tok 3 ?_;simp only[go_sem,qc,qa,f25,f26];refine DW.fin tok (by decide +kernel) rfl ?_;simp only[zt,upd,qa,reduceIte,yV,xz];apply hK
 refine yc (L:=[(3,.os true 4 0 0 0 (qb (Xp l4 (qN (IntKind.i64.wrap (x15+1))) (qN x15) (min (qN x5-qN x15) (qN (x5+1)-qN (IntKind.i64.wrap (x15+1)))))) true),(5,.op 1 0 0),(6,.int .i64 x15),(10,.ds true (qf encGRaw a0) (qb a0) false),(11,.int .i64 (qb a0:Int)),(12,.int .i64 x5)]) (τ:=[.cells 0 (qf encGRaw (Xp l4 (qN (IntKind.i64.wrap (x15+1))) (qN x15) (min (qN x5-qN x15) (qN (x5+1)-qN (IntKind.i64.wrap (x15+1)))))),.cells 0 [.int .i64 y8.fTag,.int .i64 y8.fWire,.int .i64 y8.fN,.str y8.fB]]) (.same (by first|exact⟨rfl,rfl,rfl,rfl,rfl,rfl,trivial⟩|rfl|(simp only[go_sem,qa,Fits,f27,and_self]<;>rfl)) (by first|exact⟨rfl,rfl,rfl,rfl,rfl,rfl,trivial⟩|rfl|(simp only[go_sem,qc,qe,qa,qd,ql,qm,reduceIte,reduceCtorEq,Fits,encB,encI,encS,vas,yU,qI,qM,q3,qw,qz,qi,qk,qn,qt,qp,qA,uN,encGRaw,f27,and_self]<;>rfl))) ?_;obtain⟨y28,hy28,h⟩:=bind_some h;have f29:=E28.idxO hy28;have f30:=E28.stOc hy28;have f31:=E28.stOr hy28 (y:=y8) (cs:=[.int .i64 y8.fTag,.int .i64 y8.fWire,.int .i64 y8.fN,.str y8.fB]) rfl;simp only[yL] at f31
 refine rgE tok [3,10,11,12] fun K hK=>?_
 simp only[go_sem,qc,qe,qa,qd,f29,f30,f31];apply hK
 apply hZ11
 refine rgE tok [3,10,11,12] fun K hK=>?_
 simp only[go_sem,qc,qa,hw8];apply hK
 exact⟨_,_,_,qy q8.length,⟨p8++[y8],q8,x5+1,setI (Xp l4 (qN (IntKind.i64.wrap (x15+1))) (qN x15) (min (qN x5-qN x15) (qN (x5+1)-qN (IntKind.i64.wrap (x15+1))))) x15 y8,rfl,rfl,rfl,hE'8,hi'8,h⟩,(.t [0] false)⟩
theorem zI.ev (a0:List GRaw)(r:List GRaw)(h:zI a0=some r)(σ:Store):ACalls qh 71 [.ds true (qf encGRaw a0) (qb a0) false] σ (fun r' σ'=>r'=.ds true (qf encGRaw r) (qb r) false∧σ'=σ):=
 (zI.ok a0 r h).c σ
def zM.j4 (m4_1:GTree):Option (GTree×Int):=
 some (m4_1,0)
def zM.j6 (zy:GSchema→GMessage→(List UInt8)→Int→Option (GTree×Int))(a0:GSchema)(a1:GType)(a2:GRaw)(a3:Int)(m4_1:GTree)(x5:Bool):Option (GTree×Int):=
 (if x5=true then bnd (xf a1 a2.fN) fun r8=>(if (!r8)=true then some ((⟨0,0,[],([]:List GEntry),([]:List GRaw)⟩:GTree),11) else (zM.j4 m4_1)) else (if a1.fKind=4 then (yn a2.fB).bind fun r12=>(if (!r12)=true then some ((⟨0,0,[],([]:List GEntry),([]:List GRaw)⟩:GTree),9) else (zM.j4 m4_1)) else (if a1.fKind=7 then bnd (zx a0 a1.fName) fun r17=>(grd (qb a2.fB≤9223372036854775807)).bind fun _u18=>(zy a0 r17.1 a2.fB (IntKind.i64.wrap (a3+1))).bind fun r20=>some (r20.1,r20.2) else (zM.j4 m4_1))))
def zM.j3 (zy:GSchema→GMessage→(List UInt8)→Int→Option (GTree×Int))(a0:GSchema)(a1:GType)(a2:GRaw)(a3:Int)(m4_1:GTree):Option (GTree×Int):=
 (if a1.fKind=3 then (zM.j6 zy a0 a1 a2 a3 m4_1 (decide (a1.fKind=3))) else (zM.j6 zy a0 a1 a2 a3 m4_1 (decide (a1.fKind=6))))
def zM.j26 (zy:GSchema→GMessage→(List UInt8)→Int→Option (GTree×Int))(a0:GSchema)(a1:GType)(a2:GRaw)(a3:Int)(m4_1:GTree)(x25:Bool):Option (GTree×Int):=
 (if x25=true then (if a2.fWire=1 then (zM.j3 zy a0 a1 a2 a3 m4_1) else some ((⟨0,0,[],([]:List GEntry),([]:List GRaw)⟩:GTree),8)) else (if a2.fWire=0 then (zM.j3 zy a0 a1 a2 a3 m4_1) else some ((⟨0,0,[],([]:List GEntry),([]:List GRaw)⟩:GTree),8)))
def zM.j2 (zy:GSchema→GMessage→(List UInt8)→Int→Option (GTree×Int))(a0:GSchema)(a1:GType)(a2:GRaw)(a3:Int)(m4_1:GTree):Option (GTree×Int):=
 (if a1.fKind=4 then (zM.j26 zy a0 a1 a2 a3 m4_1 (decide (a1.fKind=4))) else (if a1.fKind=5 then (zM.j26 zy a0 a1 a2 a3 m4_1 (decide (a1.fKind=5))) else (zM.j26 zy a0 a1 a2 a3 m4_1 (decide (a1.fKind=7)))))
def zM.body (zy:GSchema→GMessage→(List UInt8)→Int→Option (GTree×Int))(yF:GSchema→GType→GRaw→Int→Option (GTree×Int))(a0:GSchema)(a1:GType)(a2:GRaw)(a3:Int):Option (GTree×Int):=
 (if a2.fWire=1 then (zM.j2 zy a0 a1 a2 a3 (⟨2,0,a2.fB,([]:List GEntry),([]:List GRaw)⟩:GTree)) else (zM.j2 zy a0 a1 a2 a3 (⟨1,a2.fN,[],([]:List GEntry),([]:List GRaw)⟩:GTree)))
theorem zM.step (zy:GSchema→GMessage→(List UInt8)→Int→Option (GTree×Int))(yF:GSchema→GType→GRaw→Int→Option (GTree×Int))(vam:∀ (a0:GSchema) (a1:GMessage) (a2:List UInt8) (a3:Int) (r:GTree×Int),zy a0 a1 a2 a3=some r→ACalls qh 41 [.agg (encGSchema a0),.agg (encGMessage a1),.ds true (qf encB a2) (qb a2) false,.int .i64 a3] [] (fun r' _=>r'=.tup [.agg (cellsGTree r.1),.int .i64 r.2]))(YO:∀ (a0:GSchema) (a1:GType) (a2:GRaw) (a3:Int) (r:GTree×Int),yF a0 a1 a2 a3=some r→ACalls qh 66 [.agg (encGSchema a0),.agg (encGType a1),.agg (encGRaw a2),.int .i64 a3] [] (fun r' _=>r'=.tup [.agg (cellsGTree r.1),.int .i64 r.2]))(a0:GSchema)(a1:GType)(a2:GRaw)(a3:Int)(r:GTree×Int)(h:zM.body zy yF a0 a1 a2 a3=some r):ACalls qh 66 [.agg (encGSchema a0),.agg (encGType a1),.agg (encGRaw a2),.int .i64 a3] [] (fun r' _=>r'=.tup [.agg (cellsGTree r.1),.int .i64 r.2]):=by
 have ev_decode_message:=fun a0 a1 a2 a3 r h σ=>(vam a0 a1 a2 a3 r h).c σ
 have ev_decode_one:=fun a0 a1 a2 a3 r h σ=>(YO a0 a1 a2 a3 r h).c σ
 refine zi (rs:=[.cell 8 30,.tmp 9]) tok Tryz.func66 rfl Tryz.ntmps66 rfl Tryz.call66 (by simp) ?_;refine zm [(0,.agg (encGSchema a0)),(1,.agg (encGType a1)),(2,.agg (encGRaw a2)),(3,.int .i64 a3)] ⟨rfl,rfl,rfl,rfl,trivial⟩ ?_;unfold zM.body at h
 refine rg tok [3,4,5,6,8] fun K hK=>?_
 simp only[go_sem,qc,qa,qd,reduceCtorEq,encGRaw,encGSchema,encGType];apply hK
 refine rgN [3,4,5,6,8,10] ?_;refine xG (fun L τ=>∃ (m4_1:GTree),L=[(3,.int .i64 a3),(4,.op 0 0 0),(5,.op 1 0 0),(6,.op 2 0 0),(8,.op 3 0 0),(10,.op 4 0 0)]∧τ=[.cells 0 (encGSchema a0),.cells 0 [.int .i64 a1.fKind,.str a1.fName],.cells 0 [.int .i64 a2.fTag,.int .i64 a2.fWire,.int .i64 a2.fN,.str a2.fB],.cells 0 [.int .i64 0,.int .i64 0,.str [],.ds true (qf encGEntry ([]:List GEntry)) (qb ([]:List GEntry)) false,.ds true (qf encGRaw ([]:List GRaw)) (qb ([]:List GRaw)) false],.cells 0 (cellsGTree m4_1)]∧zM.j2 zy a0 a1 a2 a3 m4_1=some r) ?_ ?_
 · refine rgN [3,4,5,6,8,10,18] ?_;refine zD rfl (fun hc40=>?_) (fun hc40=>?_)
   · rw[if_pos hc40] at h;have t41:=eq_true hc40
     refine rgE tok [3,4,5,6,8,10] fun K hK=>?_
     simp only[go_sem,qc,qe,qa,qd,t41];apply hK
     exact⟨_,_,⟨(⟨2,0,a2.fB,([]:List GEntry),([]:List GRaw)⟩:GTree),rfl,rfl,h⟩,(.t [0,1,2,3,4] true)⟩
   rw[if_neg hc40] at h;have t42:=eq_false hc40;apply zd;exact⟨_,_,⟨(⟨1,a2.fN,[],([]:List GEntry),([]:List GRaw)⟩:GTree),rfl,rfl,h⟩,(.t [0,1,2,3,4] true)⟩
 rintro _ _ ⟨m4_1,rfl,rfl,h⟩;unfold zM.j2 at h;refine xG (fun L τ=>L=[(3,.int .i64 a3),(4,.op 0 0 0),(5,.op 1 0 0),(6,.op 2 0 0),(8,.op 3 0 0),(10,.op 4 0 0)]∧τ=[.cells 0 (encGSchema a0),.cells 0 [.int .i64 a1.fKind,.str a1.fName],.cells 0 [.int .i64 a2.fTag,.int .i64 a2.fWire,.int .i64 a2.fN,.str a2.fB],.cells 0 [.int .i64 0,.int .i64 0,.str [],.ds true (qf encGEntry ([]:List GEntry)) (qb ([]:List GEntry)) false,.ds true (qf encGRaw ([]:List GRaw)) (qb ([]:List GRaw)) false],.cells 0 (cellsGTree m4_1)]∧zM.j3 zy a0 a1 a2 a3 m4_1=some r) ?_ ?_
 · refine rgN [3,4,5,6,8,10,23] ?_;apply ze;refine xG (fun L τ=>∃ (x25:Bool),L=[(3,.int .i64 a3),(4,.op 0 0 0),(5,.op 1 0 0),(6,.op 2 0 0),(8,.op 3 0 0),(10,.op 4 0 0),(28,.bool x25)]∧τ=[.cells 0 (encGSchema a0),.cells 0 [.int .i64 a1.fKind,.str a1.fName],.cells 0 [.int .i64 a2.fTag,.int .i64 a2.fWire,.int .i64 a2.fN,.str a2.fB],.cells 0 [.int .i64 0,.int .i64 0,.str [],.ds true (qf encGEntry ([]:List GEntry)) (qb ([]:List GEntry)) false,.ds true (qf encGRaw ([]:List GRaw)) (qb ([]:List GRaw)) false],.cells 0 (cellsGTree m4_1)]∧zM.j26 zy a0 a1 a2 a3 m4_1 x25=some r) ?_ ?_
   · refine rgN [3,4,5,6,8,10,23,28] ?_;refine zD rfl (fun hc34=>?_) (fun hc34=>?_)
     · rw[if_pos hc34] at h;have t35:=eq_true hc34;apply zd;exact⟨_,_,⟨decide (a1.fKind=4),rfl,rfl,h⟩,.s⟩
     rw[if_neg hc34] at h;have t36:=eq_false hc34
     refine rg tok [3,4,5,6,8,10,23,28] fun K hK=>?_
     simp only[go_sem,qc,qa,t36];apply hK
     refine zD rfl (fun hc37=>?_) (fun hc37=>?_)
     · rw[if_pos hc37] at h;have t38:=eq_true hc37;apply zd;exact⟨_,_,⟨decide (a1.fKind=5),rfl,rfl,h⟩,.s⟩
     rw[if_neg hc37] at h;have t39:=eq_false hc37
     refine rgE tok [3,4,5,6,8,10,28] fun K hK=>?_
     simp only[go_sem,qc,qa,t39];apply hK
     exact⟨_,_,⟨decide (a1.fKind=7),rfl,rfl,h⟩,.s⟩
   rintro _ _ ⟨x25,rfl,rfl,h⟩;unfold zM.j26 at h;refine zn (b:=x25) rfl (fun hc27=>?_) (fun hc27=>?_)
   · rw[if_pos hc27] at h;refine rgN [3,4,5,6,8,10,34] ?_;refine zD rfl (fun hc28=>?_) (fun hc28=>?_)
     · rw[if_neg hc28] at h;have t29:=eq_false hc28
       refine rg tok [8,9] fun K hK=>?_
       simp only[go_sem,qc,qe,qa,qd,t29];apply hK
       cases h;exact rtA
     rw[if_pos hc28] at h;have t30:=eq_true hc28;apply zd;exact⟨_,_,⟨rfl,rfl,h⟩,.s⟩
   rw[xD hc27] at h;refine rgN [3,4,5,6,8,10,26] ?_;refine zD rfl (fun hc31=>?_) (fun hc31=>?_)
   · rw[if_neg hc31] at h;have t32:=eq_false hc31
     refine rg tok [8,9] fun K hK=>?_
     simp only[go_sem,qc,qe,qa,qd,t32];apply hK
     cases h;exact rtA
   rw[if_pos hc31] at h;have t33:=eq_true hc31;apply zd;exact⟨_,_,⟨rfl,rfl,h⟩,.s⟩
 rintro _ _ ⟨rfl,rfl,h⟩;unfold zM.j3 at h;refine xG (fun L τ=>L=[(8,.op 0 0 0),(10,.op 1 0 0)]∧τ=[.cells 0 [.int .i64 0,.int .i64 0,.str [],.ds true (qf encGEntry ([]:List GEntry)) (qb ([]:List GEntry)) false,.ds true (qf encGRaw ([]:List GRaw)) (qb ([]:List GRaw)) false],.cells 0 (cellsGTree m4_1)]∧zM.j4 m4_1=some r) ?_ ?_
 · refine rgN [3,4,5,6,8,10,37] ?_;apply ze;refine xG (fun L τ=>∃ (x5:Bool),L=[(3,.int .i64 a3),(4,.op 0 0 0),(5,.op 1 0 0),(6,.op 2 0 0),(8,.op 3 0 0),(10,.op 4 0 0),(37,.int .i64 a1.fKind),(38,.bool x5)]∧τ=[.cells 0 (encGSchema a0),.cells 0 [.int .i64 a1.fKind,.str a1.fName],.cells 0 [.int .i64 a2.fTag,.int .i64 a2.fWire,.int .i64 a2.fN,.str a2.fB],.cells 0 [.int .i64 0,.int .i64 0,.str [],.ds true (qf encGEntry ([]:List GEntry)) (qb ([]:List GEntry)) false,.ds true (qf encGRaw ([]:List GRaw)) (qb ([]:List GRaw)) false],.cells 0 (cellsGTree m4_1)]∧zM.j6 zy a0 a1 a2 a3 m4_1 x5=some r) ?_ ?_
   · refine rgN [3,4,5,6,8,10,37,38] ?_;refine zD rfl (fun hc22=>?_) (fun hc22=>?_)
     · rw[if_pos hc22] at h;have t23:=eq_true hc22;apply zd;exact⟨_,_,⟨decide (a1.fKind=3),rfl,rfl,h⟩,.s⟩
     rw[if_neg hc22] at h;have t24:=eq_false hc22
     refine rgE tok [3,4,5,6,8,10,37,38] fun K hK=>?_
     simp only[go_sem,qc,qa,t24];apply hK
     exact⟨_,_,⟨decide (a1.fKind=6),rfl,rfl,h⟩,.s⟩
   rintro _ _ ⟨x5,rfl,rfl,h⟩;unfold zM.j6 at h;refine zn (b:=x5) rfl (fun hc7=>?_) (fun hc7=>?_)
   · rw[if_pos hc7] at h
     refine rc [8,10,45] fun K hK=>?_
     obtain⟨r8,hr8,h⟩:=zR h;refine rnN 3 ?_;refine clN rfl rfl rfl (xf.ev a1 a2.fN r8 hr8 _) ?_;refine rnN 1 ?_;refine nkN hK ?_;refine zn (b:=(!r8)) rfl (fun hc9=>?_) (fun hc9=>?_)
     · rw[if_pos hc9] at h;refine rgN [8,9] ?_;cases h;exact rtA
     rw[xD hc9] at h;apply zd;exact⟨_,_,⟨rfl,rfl,h⟩,(.t [3,4] false)⟩
   rw[xD hc7] at h;refine rgN [3,4,5,6,8,10,37,47] ?_;refine zD rfl (fun hc10=>?_) (fun hc10=>?_)
   · rw[if_pos hc10] at h;have t11:=eq_true hc10
     refine rc [8,10,52] fun K hK=>?_
     obtain⟨r12,hr12,h⟩:=bind_some h;refine zj tok 2 ?_;simp only[go_sem,qc,qa,qd,t11];refine clN rfl rfl rfl (yn.ev a2.fB r12 hr12 _) ?_;refine rnN 1 ?_;refine nkN hK ?_;refine zn (b:=(!r12)) rfl (fun hc13=>?_) (fun hc13=>?_)
     · rw[if_pos hc13] at h;refine rgN [8,9] ?_;cases h;exact rtA
     rw[xD hc13] at h;apply zd;exact⟨_,_,⟨rfl,rfl,h⟩,(.t [3,4] false)⟩
   rw[if_neg hc10] at h;have t14:=eq_false hc10
   refine rg tok [3,4,5,6,8,10,54] fun K hK=>?_
   simp only[go_sem,qc,qa,t14];apply hK
   refine zD rfl (fun hc15=>?_) (fun hc15=>?_)
   · rw[if_pos hc15] at h;have t16:=eq_true hc15
     refine rc [3,4,6,8,11] fun K hK=>?_
     obtain⟨r17,hr17,h⟩:=zR h;refine zj tok 3 ?_;simp only[go_sem,qc,qe,qa,qd,t16];refine clN rfl rfl rfl (zx.ev a0 a1.fName r17 hr17 _) ?_;refine zj tok 6 ?_;simp only[go_sem,qc,qe,qa,qd,encGMessage];refine nkN hK ?_
     refine rc [8,9] fun K hK=>?_
     obtain⟨_u18,hu18,h⟩:=bind_some h;have gu18:=wB hu18;have gu18t:=eq_true gu18;have f19:=conv_s2b (T:=tab) (src:=9) (dst:=34) rfl rfl rfl rfl rfl rfl (wB hu18);obtain⟨r20,hr20,h⟩:=bind_some h;refine zj tok 7 ?_;simp only[go_sem,qc,qe,qa,qd,f19];refine vbu (L:=[(8,.op 0 0 0),(63,.agg (encGSchema a0)),(64,.agg (encGMessage r17.1)),(67,.ds true (qf encB a2.fB) (qb a2.fB) false),(69,.int .i64 (IntKind.i64.wrap (a3+1)))]) (τ:=[.cells 0 [.int .i64 0,.int .i64 0,.str [],.ds true (qf encGEntry ([]:List GEntry)) (qb ([]:List GEntry)) false,.ds true (qf encGRaw ([]:List GRaw)) (qb ([]:List GRaw)) false]]) (.t [3] false) ?_;refine clN rfl rfl rfl (ev_decode_message a0 r17.1 a2.fB (IntKind.i64.wrap (a3+1)) r20 hr20 _) ?_;refine zj tok 4 ?_;simp only[go_sem,qc,qe,qa,qd,cellsGTree,encGMessage,encGSchema];refine nkN hK ?_;cases h;exact rtA
   rw[if_neg hc15] at h;have t21:=eq_false hc15;apply zd;exact⟨_,_,⟨rfl,rfl,h⟩,(.t [3,4] false)⟩
 rintro _ _ ⟨rfl,rfl,h⟩;unfold zM.j4 at h;refine rgN [8,9] ?_;cases h;exact rtA
end
section
open Go.RowKit AM
theorem setRun_ins (cs new:List AV)(k:Nat)(hk:k≤cs.length)(hn:new.length=2):
 yL (yL (cs++[.u,.u]) (k+2) (cs.drop k)) k new=cs.take k++(new++cs.drop k):=by
 have e0:cs++[AV.u,.u]=(cs.take k++((cs.drop k++[AV.u,.u]).take 2))++(((cs.drop k++[AV.u,.u]).drop 2)++[]):=by
  rw[qw,qp,um,← qp,um]
 have l1:((cs.drop k++[AV.u,.u]).take 2).length=2:=by simp
 have l2:(cs.take k++((cs.drop k++[AV.u,.u]).take 2)).length=k+2:=by rw[qi,l1,uH,Nat.min_eq_left hk]
 have e1:yL (cs++[.u,.u]) (k+2) (cs.drop k)=(cs.take k++((cs.drop k++[AV.u,.u]).take 2))++(cs.drop k++[]):=by
  rw[e0,← l2];exact w9 (cs.drop k) _ _ [] (by simp)
 rw[e1,qw,qp]
 have l3:(cs.take k).length=k:=by rw[uH,Nat.min_eq_left hk]
 have:=w9 new (cs.take k) ((cs.drop k++[AV.u,.u]).take 2) (cs.drop k) (by rw[l1,hn]);rw[l3] at this;exact this
theorem all_drop {l:List AV}{k:Nat}(h:l.all AV.one=true):(l.drop k).all AV.one=true:=by
 rw[ub] at *
 exact fun x hx=>h x (List.mem_of_mem_drop hx)
theorem frozen_end {E:Env}{b:Nat}{cs:List AV}(h:Blk E b cs){t:TypeId}{m:Nat}(hs:E.w.shape? b=some (t,m))(ht:tsize t=2)(o:Nat):E.w.frozen? ⟨b,o,none⟩=false:=by
 obtain⟨conc,t',fr,a1,a2,a3,a4⟩:=h.blk
 have:t'=t:=by simp only[World.shape?,a1,Option.some.injEq,Prod.mk.injEq] at hs; exact hs.1
 subst this
 have he:fr.1=fr.2:=by
  rcases a2 with h|⟨_,h⟩
  · exact h
  omega
 obtain⟨lo,hi⟩:=fr;simp only[World.frozen?,a1];simp only at he;simp only[Bool.and_eq_false_iff,decide_eq_false_iff_not]
 omega
set_option maxHeartbeats 4000000 in
set_option maxRecDepth 100000 in
theorem ins_shift {E:Env}{σ:Store}(hS:SR E σ){id ver n i b cap vid vver vb:Nat}{cells new:List AV}(hcs:Store.at σ id ver=some cells)(hlen:cells.length=n*2)(hone:cells.all AV.one=true)(hi:i<n)
 (hloc:E.loc id=some (ver,some b)) (hok:E.ok id ver) {t m:Nat} (hsh:E.w.shape? b=some (t,m)) (hts:tsize t=2) (hm:cap*2≤m) (hroom:n+1≤cap) (hn:(n+1)*32≤140737488355328)
 (hv:Store.at σ vid vver=some new) (hnew:new.length=2) (honev:new.all AV.one=true) (hvid:vid≠id) (hvloc:E.loc vid=some (vver,some vb)) (hvok:E.ok vid vver) {tv mv:Nat} (hvsh:E.w.shape? vb=some (tv,mv)) (hvts:tsize tv=2) (hvc:2≤mv):
 Calls qh 113 #[.slice (some ⟨b,0,none⟩) n cap,.int .i64 i,.slice (some ⟨vb,0,none⟩) 1 1] E.w fun e w'=>
  ∃ E',e=.returned (.slice (some ⟨b,0,none⟩) (n+1) cap)∧w'=E'.w∧VR E' (.os true 2 id ver 0 (n+1) false) (.slice (some ⟨b,0,none⟩) (n+1) cap)∧SR E' (σ.set id (.cells ver (cells.take (i*2)++(new++cells.drop (i*2)))))∧Ext E E':=by
 have hvb:vb≠b:=fun e=>hvid (hS.inj _ _ _ _ b (e▸hvloc) hloc)
 have hB1:Blk E b cells:=by
  rcases hS.at hcs with ⟨b',h1,h2⟩|⟨_,h1⟩
  · rw[hloc] at h1; cases h1; exact h2
  rw[hloc] at h1; cases h1
 have hB2:Blk E vb new:=by
  rcases hS.at hv with ⟨b',h1,h2⟩|⟨_,h1⟩
  · rw[hvloc] at h1; cases h1; exact h2
  rw[hvloc] at h1; cases h1
 have hSw:=hS.widen hcs hloc hsh 2 (by omega);obtain⟨hS1,hx1⟩:=hSw.grew (ZW.drew E.w);have hcsw:Store.at (σ.set id (.cells ver (cells++qQ 2 AV.u))) id ver=some (cells++qQ 2 AV.u):=Store.at_set hcs;have hlt:=Store.at_lt hcs
 have hvw:Store.at (σ.set id (.cells ver (cells++qQ 2 AV.u))) vid vver=some new:=by
  unfold Store.at at hv ⊢; rw[q9 (fun e=>hvid e.symm)]; exact hv
 have os1:∀ {E':Env} (hx:Ext E E') (k:Nat),k≤n→VR E' (.os true 2 id ver (k*2) (n+1-k) false) (.slice (some ⟨b,k*2,none⟩) (n+1-k) (cap-k)):=by
  intro E' hx k hk
  refine VR.ext hx (.os _ _ _ _ _ _ _ _ _ hok (by omega) (fun h=>by cases h) (by omega) fun ob hob=>?_)
  rw[hloc] at hob; cases hob
  exact⟨b,rfl,.inr rfl,t,m,hsh,hts,by omega⟩
 have osv:∀ {E':Env} (hx:Ext E E'),VR E' (.os true 2 vid vver 0 1 true) (.slice (some ⟨vb,0,none⟩) 1 1):=by
  intro E' hx
  refine VR.ext hx (.os _ _ _ _ _ _ _ _ _ hvok (by omega) (fun _=>rfl) (by omega) fun ob hob=>?_)
  rw[hvloc] at hob; cases hob
  exact⟨vb,rfl,.inr rfl,tv,mv,hvsh,hvts,by omega⟩
 have hov:∀ lb cb,(callFunc 144 #[.slice (some ⟨vb,0,none⟩) 1 1,.slice (some ⟨b,(i+1)*2,none⟩) lb cb]).run qh E.w=.ok (.value (.bool false)) E.w:=fun lb cb=>by
  rw[run_callFunc_extern Tryz.func144 (by kernel_rfl) (by kernel_rfl) (by kernel_rfl) (e:=Extern.SlicesOverlaps.overlaps #[27,27] #[4]) (by kernel_rfl),
   Lib.run_overlaps_apart E.w 27 4 92 (tok _ _ YT).desc 2 (fun w=>xv w (tok _ _ YS)) ⟨vb,0,none⟩ ⟨b,(i+1)*2,none⟩ 1 1 lb cb hvb tv t mv m hvsh hsh (by omega) (frozen_end hB2 hvsh hvts _) (frozen_end hB2 hvsh hvts _)]
  rfl
 have hdl:(cells.drop (i*2)).length=(n-i)*2:=by rw[uI,hlen,Nat.sub_mul]
 have hlw:(cells++qQ 2 AV.u).length=(n+1)*2:=by rw[qi,hlen,List.length_replicate,uW]
 have hW:∀ ty,∃ v E2,(Builtin.copy_ #[27,27] ty #[.slice (some ⟨b,(i+1)*2,none⟩) (n+1-(i+1)) (cap-(i+1)),.slice (some ⟨b,i*2,none⟩) (n+1-i) (cap-i)]).run qh E.w.drew=.ok v E2.w∧
  SR E2 (σ.set id (.cells ver (yL (cells++[.u,.u]) (i*2+2) (cells.drop (i*2)))))∧Ext E E2:=by
  intro ty
  have hx0:Ext E { E with w:=E.w.drew }:=hx1;have hd:=os1 hx0 (i+1) (by omega);have hs:=os1 hx0 i (by omega)
  have hev:Yt tab 27 (.os true 2 id ver ((i+1)*2) (n+1-(i+1)) false) (.os true 2 id ver (i*2) (n+1-i) false) (σ.set id (.cells ver (cells++qQ 2 AV.u)))=
   some (.int .i64 ((min (n+1-i) (n+1-(i+1)):Nat):Int),(σ.set id (.cells ver (cells++qQ 2 AV.u))).set id (.cells ver (yL (cells++qQ 2 AV.u) ((i+1)*2) (cells.drop (i*2))))):=by
   have e1:ya (σ.set id (.cells ver (cells++qQ 2 AV.u))) 2 (.os true 2 id ver (i*2) (n+1-i) false)=some (n+1-i,((cells++qQ 2 AV.u).drop (i*2)).take ((n+1-i)*2)):=by
    simp only[ya,hcsw];rw[if_pos (by rw[hlw,← uW]; exact qY _ (by omega))]
   have e2:min (n+1-i) (n+1-(i+1))=n-i:=by omega
   have e3:(((cells++qQ 2 AV.u).drop (i*2)).take ((n+1-i)*2)).take ((n-i)*2)=cells.drop (i*2):=by
    rw[List.take_take,Nat.min_eq_left (qY _ (by omega)),List.drop_append_of_le_length (by rw[hlen]; exact qY _ (by omega)),List.take_append_of_le_length (by rw[hdl]; exact qu _),← hdl,uj]
   have hp:wN (σ.set id (.cells ver (cells++qQ 2 AV.u))) (.os true 2 id ver ((i+1)*2) (n+1-(i+1)) false) (n-i) 2 (cells.drop (i*2))=some ((σ.set id (.cells ver (cells++qQ 2 AV.u))).set id (.cells ver (yL (cells++qQ 2 AV.u) ((i+1)*2) (cells.drop (i*2))))):=by
    unfold wN;rw[if_neg (by omega)];simp only[hcsw];rw[if_pos ⟨trivial,by rw[hlw,hdl,← uW]; exact qY _ (by omega),all_drop hone⟩]
   simp only[Yt,YT,YS,e1,e2,e3,hp]
  obtain⟨v,E2,h1,h2,h3,h4⟩:=Yk (P:=qh) (st:=27) (ty:=ty) tok hS1 hd hs hev;refine⟨v,E2,h1,?_,hx0.trans h4⟩;rw[List.set_set] at h3
  have e:(i+1)*2=i*2+2:=by omega
  rw[e] at h3;exact h3
 obtain⟨v1,E2,hc1,hS2,hx2⟩:=hW 3;rw[show n+1-(i+1)=n-i by omega] at hc1;have hcs2:Store.at (σ.set id (.cells ver (yL (cells++[.u,.u]) (i*2+2) (cells.drop (i*2))))) id ver=some (yL (cells++[.u,.u]) (i*2+2) (cells.drop (i*2))):=Store.at_set hcs
 have hv2:Store.at (σ.set id (.cells ver (yL (cells++[.u,.u]) (i*2+2) (cells.drop (i*2))))) vid vver=some new:=by
  unfold Store.at at hv ⊢; rw[q9 (fun e=>hvid e.symm)]; exact hv
 have hW2:∃ v E3,(Builtin.copy_ #[27,27] 3 #[.slice (some ⟨b,i*2,none⟩) (n+1-i) (cap-i),.slice (some ⟨vb,0,none⟩) 1 1]).run qh E2.w=.ok v E3.w∧
  SR E3 (σ.set id (.cells ver (cells.take (i*2)++(new++cells.drop (i*2)))))∧Ext E E3:=by
  have hd:=os1 hx2 i (by omega);have hs:=osv hx2
  have hev:Yt tab 27 (.os true 2 id ver (i*2) (n+1-i) false) (.os true 2 vid vver 0 1 true) (σ.set id (.cells ver (yL (cells++[.u,.u]) (i*2+2) (cells.drop (i*2)))))=
   some (.int .i64 ((min 1 (n+1-i):Nat):Int),(σ.set id (.cells ver (yL (cells++[.u,.u]) (i*2+2) (cells.drop (i*2))))).set id (.cells ver (yL (yL (cells++[.u,.u]) (i*2+2) (cells.drop (i*2))) (i*2) new))):=by
   have e1:ya (σ.set id (.cells ver (yL (cells++[.u,.u]) (i*2+2) (cells.drop (i*2))))) 2 (.os true 2 vid vver 0 1 true)=some (1,new):=by
    simp only[ya,hv2];rw[if_pos (by omega),qD,← hnew,Nat.one_mul] ;rw[show new.length=new.length from rfl,uj]
   have e2:min 1 (n+1-i)=1:=by omega
   have e3:new.take (1*2)=new:=by rw[Nat.one_mul,← hnew,uj]
   have hp:wN (σ.set id (.cells ver (yL (cells++[.u,.u]) (i*2+2) (cells.drop (i*2))))) (.os true 2 id ver (i*2) (n+1-i) false) 1 2 new=some ((σ.set id (.cells ver (yL (cells++[.u,.u]) (i*2+2) (cells.drop (i*2))))).set id (.cells ver (yL (yL (cells++[.u,.u]) (i*2+2) (cells.drop (i*2))) (i*2) new))):=by
    unfold wN;rw[if_neg (by omega)];simp only[hcs2];rw[if_pos ⟨trivial,by rw[YM,hnew]; simp only[qi,qk,qn,hlen]; omega,honev⟩]
   simp only[Yt,YT,YS,e1,e2,e3,hp]
  obtain⟨v,E3,h1,h2,h3,h4⟩:=Yk (P:=qh) (st:=27) (ty:=3) tok hS2 hd hs hev;refine⟨v,E3,h1,?_,hx2.trans h4⟩;rw[List.set_set,setRun_ins _ _ _ (by omega) hnew] at h3;exact h3
 obtain⟨v2,E3,hc2,hS3,hx3⟩:=hW2;have hfin:=os1 hx3 0 (ur _);rw[uC,uR,uR] at hfin
 have hz1:¬ ((i:Int)=(n:Int)):=by omega
 have hw1:IntKind.i64.wrap ((i:Int)+1)=(i:Int)+1:=by rw[IntKind.wrap_i64]; omega
 have hw2:IntKind.i64.wrap ((n:Int)+1)=(n:Int)+1:=by rw[IntKind.wrap_i64]; omega
 have hb1:(0:Int)≤(i:Int)+1:=by omega
 have hin:i≤n:=by omega
 have htn:((i:Int)+1).toNat=i+1:=by omega
 have hb2:¬ (cap=i+1):=by omega
 have hb3:(i:Int)≤(n:Int)+1:=by omega
 have hb4:¬ (cap=i):=by omega
 have mixed:Tryz.prog.follows .mixedOrders=true:=by kernel_rfl
 clear hS hcs hcsw hvw hcs2 hv2 hS1 hSw os1 osv hB1 hB2 hW
 go_enter Tryz.func113,Tryz.ntmps113
 go_wp2_with (simp only[hov])
 go_region_law_o (refine step_copy_runI rfl _ _ 27 27 rfl _ _ (by simp[Act.eval,Act.put]) (by simp[Act.eval,Act.put]) hc1 ?_)
 go_wp2_with (at_builtin; refine wpList_copy_runI _ rfl _ _ 27 27 rfl _ _ rfl rfl hc2 ?_)
 go_ret
 exact⟨E3,rfl,rfl,hfin,hS3,hx3⟩
theorem setRun_ins2 (cs new:List AV)(k:Nat)(hk:k≤cs.length)(hn:new.length=2)(q:Nat)(hq:q=cs.length-k+2):
 yL (yL (cs.take k++qQ q AV.u) k new) (k+2) (cs.drop k)=cs.take k++(new++cs.drop k):=by
 have l3:(cs.take k).length=k:=by rw[uH,Nat.min_eq_left hk]
 have e0:cs.take k++qQ q AV.u=cs.take k++(qQ 2 AV.u++qQ (cs.length-k) AV.u):=by
  rw[List.replicate_append_replicate,hq,Nat.add_comm]
 have e1:yL (cs.take k++qQ q AV.u) k new=cs.take k++(new++qQ (cs.length-k) AV.u):=by
  rw[e0];have:=w9 new (cs.take k) (qQ 2 AV.u) (qQ (cs.length-k) AV.u) (by simp[hn])
  rw[l3] at this; exact this
 have l4:(cs.take k++new).length=k+2:=by rw[qi,l3,hn]
 rw[e1,← qp,← l4];have:=w9 (cs.drop k) (cs.take k++new) (qQ (cs.length-k) AV.u) [] (by simp);rw[qw,qw] at this;rw[this,qp]
set_option maxHeartbeats 4000000 in
set_option maxRecDepth 100000 in
theorem ins_grow {E:Env}{σ:Store}(hS:SR E σ){id ver n i b vid vver vb:Nat}{cells new:List AV}(hcs:Store.at σ id ver=some cells)(hlen:cells.length=n*2)(hone:cells.all AV.one=true)(hi:i<n)
 (hloc:E.loc id=some (ver,some b)) (hok:E.ok id ver) {t m:Nat} (hsh:E.w.shape? b=some (t,m)) (hts:tsize t=2) (hm:n*2≤m) (hn:(n+1)*32≤140737488355328)
 (hv:Store.at σ vid vver=some new) (hnew:new.length=2) (honev:new.all AV.one=true) (hvid:vid≠id) (hvloc:E.loc vid=some (vver,some vb)) (hvok:E.ok vid vver) {tv mv:Nat} (hvsh:E.w.shape? vb=some (tv,mv)) (hvts:tsize tv=2) (hvc:2≤mv):
 Calls qh 113 #[.slice (some ⟨b,0,none⟩) n n,.int .i64 i,.slice (some ⟨vb,0,none⟩) 1 1] E.w fun e w'=>
  ∃ E' v,e=.returned v∧w'=E'.w∧VR E' (.os true 2 σ.length 0 0 (n+1) false) v∧SR E' (σ++[.cells 0 (cells.take (i*2)++(new++cells.drop (i*2)))])∧Ext E E'∧∀ i2 v2 nb,E.loc i2=some (v2,some nb)→E'.loc σ.length=some (0,some nb)→False:=by
 have hvb:vb≠b:=fun e=>hvid (hS.inj _ _ _ _ b (e▸hvloc) hloc)
 have hlt:=Store.at_lt hcs;have hltv:=Store.at_lt hv;obtain⟨hS1,hx1⟩:=hS.grew (ZW.drew E.w)
 have os1:∀ {E':Env} (hx:Ext E E') (k q:Nat),k+q≤n→VR E' (.os true 2 id ver (k*2) q false) (.slice (some ⟨b,k*2,none⟩) q (n-k)):=by
  intro E' hx k q hk
  refine VR.ext hx (.os _ _ _ _ _ _ _ _ _ hok (by omega) (fun h=>by cases h) (by omega) fun ob hob=>?_)
  rw[hloc] at hob; cases hob
  exact⟨b,rfl,.inr rfl,t,m,hsh,hts,by omega⟩
 have osv:∀ {E':Env} (hx:Ext E E'),VR E' (.os true 2 vid vver 0 1 true) (.slice (some ⟨vb,0,none⟩) 1 1):=by
  intro E' hx
  refine VR.ext hx (.os _ _ _ _ _ _ _ _ _ hvok (by omega) (fun h=>rfl) (by omega) fun ob hob=>?_)
  rw[hvloc] at hob; cases hob
  exact⟨vb,rfl,.inr rfl,tv,mv,hvsh,hvts,by omega⟩
 have htl:(cells.take (i*2)).length=i*2:=by rw[uH,hlen]; omega
 have hdl:(cells.drop (i*2)).length=(n-i)*2:=by rw[uI,hlen,Nat.sub_mul]
 -- what is copied by append
 have hold0:=os1 hx1 0 i (by omega);rw[uC] at hold0
 obtain⟨_,_,hrd⟩:=Y0 (P:=qh) hS1 hold0 (size:=2) (n:=i) (cs:=cells.take (i*2)) (by
  simp only[ya,hcs]
  rw[if_pos (by omega),qD])
 obtain⟨os,hos,hto⟩:=hrd i (qu _);rw[show (cells.take (i*2)).take (i*2)=cells.take (i*2) by rw[List.take_take,Nat.min_self]] at hto
 obtain⟨G,hG⟩:∃ G,G=grownCap E.w (n+1) n 92:=⟨_,rfl⟩
 have hGn:n+1≤G:=by rw[hG]; unfold grownCap; simp only[Question.cut]; omega
 obtain⟨conc,hconc⟩:∃ conc:Array Value,conc=os++Builtin.zeroCells (Value.agg #[Value.int IntKind.i64 0,Value.slice none 0 0]).cells (n+1-i)++Builtin.zeroCells (Value.agg #[Value.int IntKind.i64 0,Value.slice none 0 0]).cells (G-(n+1)):=⟨_,rfl⟩
 have hrz:∀ ty,(Builtin.append_ #[27,3] ty #[.slice (some ⟨b,0,none⟩) i n,.int .i64 ((n:Int)+1-(i:Int))]).run qh E.w=
  .ok (.slice (some ⟨E.w.heap.size,0,none⟩) (n+1) G) (E.w.drew.alloc (.cells conc 92)):=fun ty=>by
  have h:=Lib.run_append_grow_zeros (P:=qh) E.w 27 3 ty 92 Tryz.t92 _ .i64 .i64 Tryz.underlying27 Tryz.underlying3 Tryz.type92 rfl (some ⟨b,0,none⟩) i n os.toList (by rw[Array.toArray_toList]; exact hos) (n+1-i) (by omega) (by decide) (by omega) (by omega) (by show (n+1-i)*32≤_; omega) (by
   rw[show i+(n+1-i)=n+1 by omega]
   exact growslice_fits (by omega) (by show (n+1)*32≤_; omega))
  rw[show i+(n+1-i)=n+1 by omega,← hG,Array.toArray_toList,← hconc] at h;rw[show (n:Int)+1-(i:Int)=((n+1-i:Nat):Int) by omega];exact h
 have hsz1:os.size=i*2:=by rw[hto.1,htl]
 have hcsz:G*2≤conc.size:=by
  rw[hconc];simp only[Array.size_append,hsz1,Builtin.zeroCells,Value.cells]
  simp
  omega
 have hnr:=hS1.newRow conc 92 (cells.take (i*2)++qQ ((n+1-i)*2) AV.u) (by rw[qi,htl,List.length_replicate]; omega) (by
  intro k hk
  by_cases hki:k<i*2
  · rw[ZZ _ _ _ (by rw[htl]; exact hki)];have:=hto.2 k (by rw[htl]; exact hki)
    have e:conc.getD k undef=os.getD k undef:=by
     rw[hconc,Array.append_assoc]
     simp[Array.getElem?_append_left (show k<os.size by omega)]
    rw[e]; exact this
  rw[Zi _ _ _ (by rw[htl]; omega)]
  have:gc (qQ ((n+1-i)*2) AV.u) (k-(cells.take (i*2)).length)=.u:=by
   unfold gc;rw[qv,List.getElem?_replicate]
   split<;>rfl
  rw[this]; exact .u _)
 obtain⟨hS2,hx2⟩:=hnr
 obtain⟨E2,hE2⟩:∃ E2,E2=Env.new { E with w:=E.w.drew } (E.w.drew.alloc (.cells conc 92)) (some E.w.drew.heap.size):=⟨_,rfl⟩
 have hloc2:E2.loc σ.length=some (0,some E.w.heap.size):=by rw[hE2]; exact Env.loc_new hS1 _ _
 have hok2:E2.ok σ.length 0:=by rw[hE2]; exact Env.ok_new hS1 _ _
 have hE2w:E2.w=E.w.drew.alloc (.cells conc 92):=by rw[hE2]; rfl
 rw[← hE2] at hS2 hx2;have hx02:Ext E E2:=Ext.trans hx1 hx2
 have hsh2:E2.w.shape? E.w.heap.size=some (92,conc.size):=by
  rw[hE2w];have:=xi E.w.drew (.cells conc 92);simp only[World.shape?];rw[show E.w.heap.size=E.w.drew.heap.size from rfl,this]
 have osn:∀ {E':Env} (hx:Ext E2 E') (k q:Nat),k+q≤n+1→VR E' (.os true 2 σ.length 0 (k*2) q false) (.slice (some ⟨E.w.heap.size,k*2,none⟩) q (G-k)):=by
  intro E' hx k q hk
  refine VR.ext hx (.os _ _ _ _ _ _ _ _ _ hok2 (by omega) (fun h=>by cases h) (by omega) fun ob hob=>?_)
  rw[hloc2] at hob; cases hob
  exact⟨_,rfl,.inr rfl,_,_,hsh2,rfl,by omega⟩
 have hat2:∀ cs,Store.at (σ++[.cells 0 cs]) σ.length 0=some cs:=fun cs=>Store.at_new σ 0 cs
 have hset2:∀ cs cs',(σ++[Zo.cells 0 cs]).set σ.length (.cells 0 cs')=σ++[.cells 0 cs']:=fun cs cs'=>by
  rw[List.set_append_right _ _ (qu _),uM]; rfl
 have hold2:∀ {id ver:Nat} {c cs:List AV},Store.at σ id ver=some c→Store.at (σ++[Zo.cells 0 cs]) id ver=some c:=by
  intro id ver c cs h
  have:=Store.at_lt h
  unfold Store.at at h ⊢; rw[qT this]; exact h
 -- the first copy
 have hW2:∃ v E3,(Builtin.copy_ #[27,27] 3 #[.slice (some ⟨E.w.heap.size,i*2,none⟩) (n+1-i) (G-i),.slice (some ⟨vb,0,none⟩) 1 1]).run qh E2.w=.ok v E3.w∧
  SR E3 (σ++[.cells 0 (yL (cells.take (i*2)++qQ ((n+1-i)*2) AV.u) (i*2) new)])∧Ext E2 E3:=by
  have hd:=osn (Ext.refl E2) i (n+1-i) (by omega);have hs:=osv hx02
  have hev:Yt tab 27 (.os true 2 σ.length 0 (i*2) (n+1-i) false) (.os true 2 vid vver 0 1 true) (σ++[.cells 0 (cells.take (i*2)++qQ ((n+1-i)*2) AV.u)])=
   some (.int .i64 ((min 1 (n+1-i):Nat):Int),σ++[.cells 0 (yL (cells.take (i*2)++qQ ((n+1-i)*2) AV.u) (i*2) new)]):=by
   have e1:ya (σ++[.cells 0 (cells.take (i*2)++qQ ((n+1-i)*2) AV.u)]) 2 (.os true 2 vid vver 0 1 true)=some (1,new):=by
    simp only[ya,hold2 hv];rw[if_pos (by omega),qD,Nat.one_mul,← hnew,uj]
   have e2:min 1 (n+1-i)=1:=by omega
   have e3:new.take (1*2)=new:=by rw[Nat.one_mul,← hnew,uj]
   have hp:wN (σ++[.cells 0 (cells.take (i*2)++qQ ((n+1-i)*2) AV.u)]) (.os true 2 σ.length 0 (i*2) (n+1-i) false) 1 2 new=some (σ++[.cells 0 (yL (cells.take (i*2)++qQ ((n+1-i)*2) AV.u) (i*2) new)]):=by
    unfold wN;rw[if_neg (by omega)];simp only[hat2,hset2];rw[if_pos ⟨trivial,by rw[hnew,qi,htl,List.length_replicate]; omega,honev⟩]
   simp only[Yt,YT,YS,e1,e2,e3,hp]
  obtain⟨v,E3,h1,h2,h3,h4⟩:=Yk (P:=qh) (st:=27) (ty:=3) tok hS2 hd hs hev;exact⟨v,E3,h1,h3,h4⟩
 obtain⟨v1,E3,hc1,hS3,hx3⟩:=hW2;obtain⟨hS4,hx4⟩:=hS3.grew (ZW.drew E3.w)
 -- the second copy
 have hW3:∀ ty,∃ v E4,(Builtin.copy_ #[27,27] ty #[.slice (some ⟨E.w.heap.size,(i+1)*2,none⟩) (n-i) (G-(i+1)),.slice (some ⟨b,i*2,none⟩) (n-i) (n-i)]).run qh E3.w.drew=.ok v E4.w∧
  SR E4 (σ++[.cells 0 (cells.take (i*2)++(new++cells.drop (i*2)))])∧Ext E2 E4:=by
  intro ty
  have hx24:Ext E2 { E3 with w:=E3.w.drew }:=Ext.trans hx3 hx4;have hd:=osn hx24 (i+1) (n-i) (by omega);have hs:=os1 (hx02.trans hx24) i (n-i) (by omega)
  have hev:Yt tab 27 (.os true 2 σ.length 0 ((i+1)*2) (n-i) false) (.os true 2 id ver (i*2) (n-i) false) (σ++[.cells 0 (yL (cells.take (i*2)++qQ ((n+1-i)*2) AV.u) (i*2) new)])=
   some (.int .i64 ((min (n-i) (n-i):Nat):Int),σ++[.cells 0 (cells.take (i*2)++(new++cells.drop (i*2)))]):=by
   have e1:ya (σ++[.cells 0 (yL (cells.take (i*2)++qQ ((n+1-i)*2) AV.u) (i*2) new)]) 2 (.os true 2 id ver (i*2) (n-i) false)=some (n-i,cells.drop (i*2)):=by
    simp only[ya,hold2 hcs];rw[if_pos (by rw[hlen,← uW]; exact qY _ (by omega)),← hdl,uj]
   have e2:min (n-i) (n-i)=n-i:=by omega
   have e3:(cells.drop (i*2)).take ((n-i)*2)=cells.drop (i*2):=by rw[← hdl,uj]
   have hp:wN (σ++[.cells 0 (yL (cells.take (i*2)++qQ ((n+1-i)*2) AV.u) (i*2) new)]) (.os true 2 σ.length 0 ((i+1)*2) (n-i) false) (n-i) 2 (cells.drop (i*2))=some (σ++[.cells 0 (cells.take (i*2)++(new++cells.drop (i*2)))]):=by
    unfold wN;rw[if_neg (by omega)];simp only[hat2,hset2];rw[if_pos ⟨trivial,by rw[hdl,YM,qi,htl,List.length_replicate]; omega,all_drop hone⟩];rw[show (i+1)*2=i*2+2 by omega,setRun_ins2 _ _ _ (by omega) hnew _ (by rw[hlen]; omega)]
   simp only[Yt,YT,YS,e1,e2,e3,hp]
  obtain⟨v,E4,h1,h2,h3,h4⟩:=Yk (P:=qh) (st:=27) (ty:=ty) tok hS4 hd hs hev;exact⟨v,E4,h1,h3,hx24.trans h4⟩
 obtain⟨v2,E4,hc2,hS5,hx5⟩:=hW3 3
 have hfin:VR E4 (.os true 2 σ.length 0 0 (n+1) false) (.slice (some ⟨E.w.heap.size,0,none⟩) (n+1) G):=by
  have:=osn hx5 0 (n+1) (by omega)
  rwa [uC,uR] at this
 have hxf:Ext E E4:=hx02.trans hx5
 have hnew':∀ i2 v2 nb,E.loc i2=some (v2,some nb)→E4.loc σ.length=some (0,some nb)→False:=by
  intro i2 v2 nb h1 h2
  have h3:=hx5.back hok2 h2
  rw[hloc2] at h3; cases h3
  have:=(hS.blk _ _ _ h1).1
  omega
 have hz1:¬ ((i:Int)=(n:Int)):=by omega
 have hw1:IntKind.i64.wrap ((i:Int)+1)=(i:Int)+1:=by rw[IntKind.wrap_i64]; omega
 have hw2:IntKind.i64.wrap ((n:Int)+1)=(n:Int)+1:=by rw[IntKind.wrap_i64]; omega
 have hw3:IntKind.i64.wrap ((n:Int)+1-(i:Int))=(n:Int)+1-(i:Int):=by rw[IntKind.wrap_i64]; omega
 have hb1:(0:Int)≤(i:Int)+1:=by omega
 have hin:i≤n:=by omega
 have htn:((i:Int)+1).toNat=i+1:=by omega
 have hb2:¬ (G=i+1):=by omega
 have hb3:(i:Int)≤(n:Int)+1:=by omega
 have hb4:¬ (G=i):=by omega
 have hb5:¬ (n=i):=by omega
 have hz3:(n:Int)<(n:Int)+1:=by omega
 have mixed:Tryz.prog.follows .mixedOrders=true:=by kernel_rfl
 have hrz1:=hrz 27;rw[← hE2w] at hrz1
 clear hS hcs hS1 os1 osv hrz hrd hos hto hS2 hx2 osn hold2 hset2 hat2 hW3 hE2 hE2w hloc2 hok2 hsh2 hx02 hold0 hG hconc hcsz
 go_enter Tryz.func113,Tryz.ntmps113
 go_wp2_with (first
  |(at_builtin; refine Lib.wpList_append_run _ rfl _ _ _ _ rfl _ _ rfl rfl _ _ hrz1 ?_)
  |(at_builtin; refine wpList_copy_runI _ rfl _ _ 27 27 rfl _ _ rfl rfl hc1 ?_))
 go_region_law_o (refine step_copy_runI rfl _ _ 27 27 rfl _ _ (by simp[Act.eval,Act.put]) (by simp[Act.eval,Act.put]) hc2 ?_)
 go_wp2
 go_ret
 exact⟨E4,_,rfl,rfl,hfin,hS5,hxf,hnew'⟩
end
section
set_option maxRecDepth 20000
open Go.RowKit AM
theorem SR.die {E:Env}{σ:Store}(hS:SR E σ):SR { E with n:=E.n+1 } (σ++[.dead])∧Ext E { E with n:=E.n+1 }:=by
 have hx:Ext E { E with n:=E.n+1 } := {
  os:=rfl,tape:=rfl,output:=rfl,size:=qu _,shape:=fun _ _ h=>h,st:=fun _ h=>⟨h,rfl⟩,n:=Nat.le_succ _,
  loc:=fun _ _ v o h=>⟨v,o,h,qu _,fun _=>rfl⟩,old:=fun _ _ _=>rfl,own:=fun id v _ h _=>⟨id,v,h⟩,stn:=fun _ h=>.inl h }
 have hn:E.loc σ.length=none:=by
  have:=hS.obj σ.length;rw[ui (qu _)] at this;exact this
 refine⟨⟨by simp[hS.len],fun id=>?_,hS.inj,hS.blk,hS.stb,hS.glb⟩,hx⟩
 by_cases h1:id<σ.length
 · rw[qT h1]
   exact (hS.obj id).ext hx rfl fun _ _ _=>rfl
 by_cases h2:id=σ.length
 · subst h2;rw[ua (qu _),uM];exact hn
 rw[ui (by simp; omega)];have:=hS.obj id;rw[ui (by omega)] at this;exact this
theorem SR.swap {E:Env}{σ:Store}{cs:List AV}(hS:SR E (σ++[.cells 0 cs])){id ver b nb:Nat}(hlt:id<σ.length)(hl:E.loc id=some (ver,some b))(hn:E.loc σ.length=some (0,some nb)):
 let E':Env := { E with loc:=fun i=>if i=id then some (ver+1,some nb) else if i=σ.length then none else E.loc i }
 SR E' (σ.set id (.cells (ver+1) cs)++[.dead])∧ExtV E E'∧∀ sz len v,VR E (.os true sz σ.length 0 0 len false) v→VR E' (.os true sz id (ver+1) 0 len false) v:=by
 intro E'
 have hid:E'.loc id=some (ver+1,some nb):=by simp[E']
 have hlast:E'.loc σ.length=none:=by simp[E']; omega
 have hother:∀ i,i≠id→i≠σ.length→E'.loc i=E.loc i:=fun i h1 h2=>by simp[E',h1,h2]
 have hx:ExtV E E' := {
  shape:=fun _ _ h=>h
  st:=fun _ h=>⟨h,rfl⟩
  n:=qu _
  loc:=fun i _ v o h=>by
   by_cases h1:i=id
   · subst h1; rw[hid] at h; cases h; exact⟨ver,some b,hl,by omega,fun e=>by omega⟩
   by_cases h2:i=σ.length
   · subst h2; rw[hlast] at h; cases h
   rw[hother i h1 h2] at h; exact⟨v,o,h,qu _,fun _=>rfl⟩ }
 have hnE:E.n=σ.length+1:=by have:=hS.len; simp at this; omega
 have hold:∀ i v c,E'.loc i=some (v,some c)→(i=id∧c=nb)∨(i≠id∧i≠σ.length∧E.loc i=some (v,some c)):=by
  intro i v c h
  by_cases h1:i=id
  · subst h1; rw[hid] at h; cases h; exact .inl ⟨rfl,rfl⟩
  by_cases h2:i=σ.length
  · subst h2; rw[hlast] at h; cases h
  rw[hother i h1 h2] at h; exact .inr ⟨h1,h2,h⟩
 refine⟨⟨by simp[hnE,E'],fun i=>?_,fun i i' v v' c h1 h2=>?_,fun i v c h=>?_,hS.stb,hS.glb⟩,hx,fun sz len v h=>?_⟩
 · by_cases h1:i=id
   · subst h1;rw[qT (by simpa using hlt),uu hlt];have:=hS.obj σ.length;rw[ua (qu _),uM] at this
     rcases this with ⟨c,e1,e2⟩|⟨_,e1⟩
     · rw[hn] at e1; cases e1
       refine .inl ⟨nb,hid,?_⟩;obtain⟨conc,t,fr,a1,a2,a3,a4⟩:=e2.blk;exact⟨conc,t,fr,a1,a2,a3,fun k hk=>(a4 k hk).extV hx⟩
     rw[hn] at e1; cases e1
   by_cases h2:i=σ.length
   · subst h2;rw[ua (by simp)];simp only[List.length_set,uM,uE];exact hlast
   have ho:=hS.obj i
   by_cases h3:i<σ.length
   · rw[qT (by simpa using h3),q9 (fun e=>h1 e.symm)];rw[qT h3] at ho
     exact ho.extV hx (hother i h1 h2) fun _ _ _=>rfl
   rw[ui (by simp; omega)] at ho ⊢;exact (hother i h1 h2).trans ho
 · rcases hold _ _ _ h1 with ⟨e1,e2⟩|⟨e1,e2,e3⟩
   · subst e1; subst e2
     rcases hold _ _ _ h2 with ⟨f1,f2⟩|⟨f1,f2,f3⟩
     · exact f1.symm
     exact absurd (hS.inj _ _ _ _ _ f3 hn) f2
   rcases hold _ _ _ h2 with ⟨f1,f2⟩|⟨f1,f2,f3⟩
   · subst f2; exact absurd (hS.inj _ _ _ _ _ e3 hn) e2
   exact hS.inj _ _ _ _ _ e3 f3
 · rcases hold _ _ _ h with ⟨e1,e2⟩|⟨e1,e2,e3⟩
   · subst e2; exact hS.blk _ _ _ hn
   exact hS.blk _ _ _ e3
 have hok:E'.ok id (ver+1):=⟨by show id<E.n; omega,fun v o h=>by rw[hid] at h; cases h; exact qu _⟩
 cases h with
 |osn _ _ _ _ _ a hk h=>
  have:=h _ hn; cases this
 |os _ _ _ _ _ _ _ a cap hk hc ht hB h=>
  refine .os _ _ _ _ _ _ _ a cap hok hc ht hB fun ob hob=>?_
  rw[hid] at hob; cases hob
  exact h _ hn
theorem Ext.swap {E0 E:Env}(hx:Ext E0 E){σ0:Store}(h0:SR E0 σ0){id ver b nb:Nat}(hl:E.loc id=some (ver,some b))(hn:E.loc σ0.length=some (0,some nb))(hnb:E0.w.heap.size≤nb)(hlt:id<σ0.length):
 Ext E0 { E with loc:=fun i=>if i=id then some (ver+1,some nb) else if i=σ0.length then none else E.loc i }:=by
 refine { hx with loc:=fun i hi v o h=>?_,own:=fun i v c h hc=>?_,n:=hx.n,st:=hx.st }
 · by_cases h1:i=id
   · subst h1;simp only[if_true,Option.some.injEq,Prod.mk.injEq] at h;obtain⟨v0,o0,e1,e2,e3⟩:=hx.loc _ hi _ _ hl;exact⟨v0,o0,e1,by omega,fun e=>by omega⟩
   simp only[if_neg h1] at h
   split at h
   · cases h
   exact hx.loc i hi v o h
 by_cases h1:i=id
 · subst h1;simp only[if_true,Option.some.injEq,Prod.mk.injEq] at h
   omega
 simp only[if_neg h1] at h
 split at h
 · cases h
 exact hx.own i v c h hc
theorem ACalls.dies {P:Program}{f:FuncId}{args:List AV}{σ:Store}{x:AV}{τ:Store}(h:ACalls P f args σ fun r σ'=>r=x∧σ'=τ):ACalls P f args σ fun r σ'=>r=x∧σ'=τ++[.dead]:=by
 refine⟨h.1,fun E vs hS hl=>(h.2 E vs hS hl).mono ?_⟩;rintro e w ⟨v,r,σ',E',rfl,rfl,h3,h4,h5,rfl,rfl⟩;obtain⟨g1,g2⟩:=SR.die h4;exact⟨_,_,_,{ E' with n:=E'.n+1 },rfl,rfl,h3.ext g2,g1,h5.trans g2,rfl,rfl⟩
theorem bump {E E':Env}{σ:Store}(hS:SR E σ){id ver b:Nat}{cs cs':List AV}(hcs:Store.at σ id ver=some cs)(hk:E.ok id ver)(hloc:E.loc id=some (ver,some b))(hne:cs.length≠0)(hlen:cs'.length≠0)(h4:SR E' (σ.set id (.cells ver cs')))(h5:Ext E E'){sz len:Nat}{v:Value}
 (h3:VR E' (.os true sz id ver 0 len false) v):
 ∃ E2:Env,E2.w=E'.w∧SR E2 (σ.set id (.cells (ver+1) cs'))∧VR E2 (.os true sz id (ver+1) 0 len false) v∧Ext E E2:=by
 have hat:=Store.at_set (ver':=ver) (cs':=cs') hcs
 have hl':E'.loc id=some (ver,some b):=by
  rcases h4.at hat with ⟨b',e1,_⟩|⟨e1,_⟩
  · have:=h5.back hk e1; rw[hloc] at this; cases this; exact e1
  rw[e1] at hlen; exact absurd rfl hlen
 obtain⟨hS3,hx3⟩:=h4.move (ZW.refl E'.w) hat hl' (ob:=some b) (fun b hb=>by cases hb; exact⟨.inr rfl,(h4.blk _ _ _ hl').1⟩) (cs:=cs') (.inl ⟨b,by simp[Env.move],by
  rcases h4.at hat with ⟨b1,h1,hblk1⟩|⟨_,h1⟩
  · rw[hl'] at h1; cases h1
    obtain⟨conc,t,fr,a1,a2,a3,a4⟩:=hblk1.blk;exact⟨conc,t,fr,a1,a2,a3,fun k hk=>(a4 k hk).ext (Ext.move h4.stb (ZW.refl _) hl' _ fun b hb=>by cases hb; exact .inr rfl)⟩
  rw[hl'] at h1; cases h1⟩)
 rw[List.set_set] at hS3;refine⟨E'.move E'.w id (ver+1) (some b),rfl,hS3,?_,h5.trans hx3⟩;have hok:(E'.move E'.w id (ver+1) (some b)).ok id (ver+1):=⟨ue hk.1 h5.n,fun v o hvo=>by simp[Env.move] at hvo; omega⟩
 cases h3 with
 |osn _ _ _ _ _ a hk h=>have:=h _ hl'; cases this
 |os _ _ _ _ _ _ _ a cap hk hc ht hB h=>
  refine .os _ _ _ _ _ _ _ a cap hok hc ht hB fun ob hob=>?_
  simp only[Env.move,if_true,Option.some.injEq,Prod.mk.injEq,true_and] at hob;subst hob;exact h _ hl'
theorem Insert_at {σ:Store}{id ver n i vid vver:Nat}{nl:Bool}{cells new:List AV}(hcs:Store.at σ id ver=some cells)(hlen:cells.length=n*2)(hone:cells.all AV.one=true)(hi:i≤n)(hn:(n+1)*32≤140737488355328)
 (hv:Store.at σ vid vver=some new) (hnew:new.length=2) (honev:new.all AV.one=true) (hvid:vid≠id):
 ACalls qh 113 [.os nl 2 id ver 0 n false,.int .i64 (i:Int),.os true 2 vid vver 0 1 true] σ (fun r σ'=>r=.os true 2 id (ver+1) 0 (n+1) false∧
  σ'=σ.set id (.cells (ver+1) (cells.take (i*2)++(new++cells.drop (i*2))))++[.dead]):=by
 have hlt:=Store.at_lt hcs
 by_cases hin:i=n
 · subst hin;refine ACalls.dies ?_;refine w7 (rs:=[.tmp 6]) tok Tryz.func113 rfl Tryz.ntmps113 rfl Tryz.call113 (by simp) ?_
   have hap:ym tab 27 27 (.os nl 2 id ver 0 i false) (.os true 2 vid vver 0 1 true) σ=some (.os true 2 id (ver+1) 0 (i+1) false,σ.set id (.cells (ver+1) (cells++new))):=by
    have e1:ya σ 2 (.os true 2 vid vver 0 1 true)=some (1,new):=by
     simp only[ya,hv];rw[if_pos (by omega),qD,Nat.one_mul,← hnew,uj]
    have hg:((i+1)*32≤140737488355328)=True:=eq_true (by omega);simp only[ym,YT,YS,e1,yp,hg,honev,qc,and_self,if_true,zW,hcs,hlen]
   have hsl:wj tab 27 (.os nl 2 id ver 0 i false) (some (.int .i64 (i:Int))) none none=some (.os nl 2 id ver (i*2) (i-i) false):=by
    simp only[wj,YT,YS,vaA]
    simp
   refine zm [(0,.os nl 2 id ver 0 i false),(1,.int .i64 (i:Int)),(2,.os true 2 vid vver 0 1 true)] ⟨rfl,rfl,rfl,trivial⟩ ?_
   refine rg tok [0,1,2,6] fun K hK=>?_
   simp only[go_sem,qc,qa,reduceCtorEq];apply hK
   clear hK K
   refine rg tok [0,1,2,6] fun K hK=>?_
   simp only[go_sem,qc,qa,reduceCtorEq,hsl];apply hK
   clear hK K
   refine rg tok [0,1,2,6,7] fun K hK=>?_
   simp only[go_sem,qc,qa,reduceCtorEq];apply hK
   clear hK K
   refine za fun Z hZ=>?_
   refine rg tok [0,1,2,6,7,16] fun K hK=>?_
   simp only[go_sem,qc,qa,reduceCtorEq];apply hK
   clear hK K
   refine zD rfl (fun h=>absurd h (by decide)) (fun _=>?_);refine zd ?_;refine hZ _ _ ?_
   clear hZ Z
   refine rg tok [0,1,2,6,7,8] fun K hK=>?_
   simp only[go_sem,qc,qa,reduceCtorEq];apply hK
   clear hK K
   refine za fun Z hZ=>?_
   refine rg tok [0,1,2,6,7,8,22] fun K hK=>?_
   simp only[go_sem,qc,qa,reduceCtorEq,decide_true];apply hK
   clear hK K
   refine zz rfl ?_
   refine rg tok [6] fun K hK=>?_
   simp only[go_sem,qc,qa,reduceCtorEq,hap];apply hK
   clear hK K
   refine yw ?_;simp only[Zv,yP,yZ,xJ,exists_eq_left',go_sem];rw[← hlen,uj,List.drop_length,qw]
 have hi':i<n:=by omega
 refine⟨Tryz.call113,fun E vs hS hl=>?_⟩;obtain⟨l1,l2⟩:=hl.arr
 rcases vs with ⟨_|⟨v0,_|⟨v1,_|⟨v2,_|⟨v3,l⟩⟩⟩⟩⟩<;>simp only[List.size_toArray,qk,qn,qd,reduceCtorEq,qa] at l1
 have h0:VR E (.os nl 2 id ver 0 n false) v0:=l2 0 (by simp);have h1:VR E (.int .i64 (i:Int)) v1:=l2 1 (by simp);have h2:VR E (.os true 2 vid vver 0 1 true) v2:=l2 2 (by simp)
 clear l2 hl
 cases h1
 cases h0 with
 |osn=>omega
 |os _ _ _ _ _ _ _ a cap hk hc ht hB hp=>
 cases h2 with
 |os _ _ _ _ _ _ _ av capv hkv hcv htv hBv hpv=>
 have:=htv rfl; subst this
 obtain⟨b,hloc,_⟩:=hS.block_of hcs (show 0<cells.length by omega);obtain⟨vb,hvloc,_⟩:=hS.block_of hv (show 0<new.length by omega);obtain⟨b',e1,e2,t,m,hsh,hts,hm⟩:=hp _ hloc;cases e1
 have:=e2.resolve_left (by omega); subst this
 obtain⟨b',e1,e2,tv,mv,hvsh,hvts,hmv⟩:=hpv _ hvloc;cases e1
 have:=e2.resolve_left (by omega); subst this
 by_cases hroom:n+1≤cap
 · refine (ins_shift hS hcs hlen hone hi' hloc hk hsh hts (by omega) hroom hn hv hnew honev hvid hvloc hkv hvsh hvts (by omega)).mono ?_;rintro e w ⟨E',rfl,rfl,h3,h4,h5⟩;obtain⟨E2,g1,g2,g3,g4⟩:=bump hS hcs hk hloc (by omega) (by simp only[qi,hnew]; omega) h4 h5 h3;obtain⟨hS3,hx3⟩:=SR.die g2;exact⟨_,_,_,{ E2 with n:=E2.n+1 },rfl,g1,g3.ext hx3,hS3,g4.trans hx3,rfl,rfl⟩
 have hcn:cap=n:=by omega
 subst hcn;refine (ins_grow hS hcs hlen hone hi' hloc hk hsh hts (by omega) hn hv hnew honev hvid hvloc hkv hvsh hvts (by omega)).mono ?_;rintro e w ⟨E',v,rfl,rfl,h3,h4,h5,hnew'⟩
 have hl':E'.loc id=some (ver,some b):=by
  have:=(h4.at (id:=id) (ver:=ver) (cs:=cells) (by
   have:=Store.at_lt hcs
   unfold Store.at at hcs ⊢; rw[qT this]; exact hcs))
  rcases this with ⟨b',e1,_⟩|⟨e1,_⟩
  · have:=h5.back hk e1; rw[hloc] at this; cases this; exact e1
  rw[e1] at hlen; simp at hlen; omega
 have hn':∃ nb,E'.loc σ.length=some (0,some nb)∧E.w.heap.size≤nb:=by
  rcases h4.at (Store.at_new σ 0 _) with ⟨nb,e1,_⟩|⟨e1,_⟩
  · refine⟨nb,e1,ve fun hlt'=>?_⟩;obtain⟨i2,v2,e2⟩:=h5.own _ _ _ e1 hlt';exact hnew' i2 v2 nb e2 e1
  have:(cells.take (i*2)++(new++cells.drop (i*2))).length=0:=by rw[e1]; rfl
  simp only[qi,hnew] at this; omega
 obtain⟨nb,hn1,hn2⟩:=hn';obtain⟨g1,g2,g3⟩:=SR.swap h4 hlt hl' hn1;exact⟨_,_,_,{ E' with loc:=fun i=>if i=id then some (ver+1,some nb) else if i=σ.length then none else E'.loc i },rfl,rfl,g3 _ _ _ h3,g1,Ext.swap h5 hS hl' hn1 hn2 hlt,rfl,rfl⟩
end
section
set_option maxRecDepth 8000
set_option maxHeartbeats 1000000
open Go.RowKit AM
structure Ent where
 tag:Int
 id:Nat
 ver:Nat
 trees:List GTree
def Ent.cells (e:Ent):List AV:=[.int .i64 e.tag,.os true 5 e.id e.ver 0 e.trees.length false]
def Ent.val (e:Ent):GEntry:=⟨e.tag,e.trees⟩
structure Rep (σ:Store)(tid eid ever:Nat)(L:List Ent):Prop where
 t:Store.at σ tid 0=some [.int .i64 3,.int .i64 0,.str [],.os true 2 eid ever 0 L.length false,.ds true [] 0 true]
 e:Store.at σ eid ever=some (L.flatMap Ent.cells)
 tr:∀ x∈L,Store.at σ x.id x.ver=some (x.trees.flatMap encGTree)
 nd:(tid::eid::L.map Ent.id).Nodup
def Yv (es:List GEntry)(f:GField)(x:GTree):Option (List GEntry×Bool):=
 (zk es f.fTag).bind fun p=>
 (if p.2=true then some es else (grd (0≤p.1∧p.1≤(es.length:Int))).bind fun _=>(Y5 (es.length+1) 32).bind fun _=>some (es.take p.1.toNat++⟨f.fTag,[]⟩::es.drop p.1.toNat)).bind fun es1=>
 (wV es1 p.1).bind fun e=>
 (Y5 ((if f.fLabel=3 then e.fTrees.length else 0)+1) 80).bind fun _=>
 some (es1.set p.1.toNat ⟨e.fTag,(if f.fLabel=3 then e.fTrees else [])++[x]⟩,decide ((((if f.fLabel=3 then e.fTrees else [])++[x]).length:Int)≤64))
theorem xS {σ:Store}{id ver:Nat}{cs:List AV}(h:Store.at σ id ver=some cs)(l:Store):Store.at (σ++l) id ver=some cs:=by
 have:=Store.at_lt h
 unfold Store.at at h ⊢; rw[qT this]; exact h
theorem xA {σ:Store}{id id' ver:Nat}{cs:List AV}(h:Store.at σ id ver=some cs)(hne:id≠id')(o:Zo):Store.at (σ.set id' o) id ver=some cs:=by
 unfold Store.at at h ⊢; rw[q9 (fun e=>hne e.symm)]; exact h
theorem X5 (σ:Store)(cs:List AV)(l:Store):Store.at (σ++.cells 0 cs::l) σ.length 0=some cs:=by
 unfold Store.at; rw[ua (qu _),uM]; rfl
theorem at_end1 (σ:Store)(o:Zo)(cs:List AV)(l:Store):Store.at (σ++o::.cells 0 cs::l) (σ.length+1) 0=some cs:=by
 unfold Store.at; rw[ua (by omega)]; simp
theorem Rep.app {σ:Store}{tid eid ever:Nat}{L:List Ent}(h:Rep σ tid eid ever L)(l:Store):Rep (σ++l) tid eid ever L:=
 ⟨xS h.t l,xS h.e l,fun x hx=>xS (h.tr x hx) l,h.nd⟩
theorem Rep.toldC {σ:Store}{tid eid ever:Nat}{L:List Ent}(h:Rep σ tid eid ever L)(keep:List Nat)(ls:Bool)(f:Nat)(hk:∀ y∈L,Zg keep y.id 0=none):(L.flatMap Ent.cells).map (tell σ keep ls (f+2))=(L.map Ent.val).flatMap encGEntry:=by
 have key:∀ l:List Ent,(∀ x∈l,x∈L)→(l.flatMap Ent.cells).map (tell σ keep ls (f+2))=(l.map Ent.val).flatMap encGEntry:=by
  intro l
  induction l with
  |nil=>intro _; rfl
  |cons a l ih=>
   intro hl
   have h1:=h.tr a (hl a (qr ..));have h2:=hk a (hl a (qr ..));simp only[qM,qH,qG,ih fun x hx=>hl x (qq _ hx)]
   congr 1
   simp only[Ent.cells,Ent.val,qG,qx,YH,wZ,h2,h1,yy,cellsGEntry,GEntry.fTag,GEntry.fTrees];have hl:(a.trees.flatMap encGTree).length=a.trees.length*5:=zA E90.len a.trees;rw[if_pos (by rw[hl]; omega),qD,← hl,uj,zE]
 exact key L (fun _ h=>h)
theorem Rep.told {σ:Store}{tid eid ever:Nat}{L:List Ent}(h:Rep σ tid eid ever L)(nl:Bool):tell σ [] true 12 (.os nl 2 eid ever 0 L.length false)=.ds true ((L.map Ent.val).flatMap encGEntry) (L.map Ent.val).length false:=by
 have hl:(L.flatMap Ent.cells).length=L.length*2:=by
  clear h
  induction L with
  |nil=>rfl
  |cons a l ih=>rw[qM,qi,ih]; simp[Ent.cells]; omega
 simp only[wZ,wP,h.e];rw[if_pos (by rw[hl]; omega),qD,← hl,uj,h.toldC [] true 9 (fun _ _=>rfl),q2]
theorem Rep.set_ne {σ:Store}{tid eid ever:Nat}{L:List Ent}(h:Rep σ tid eid ever L){j:Nat}(hj:j∉tid::eid::L.map Ent.id)(o:Zo):Rep (σ.set j o) tid eid ever L:=by
 refine⟨xA h.t (fun e=>hj (by rw[← e]; simp)) o,xA h.e (fun e=>hj (by rw[← e]; simp)) o,fun x hx=>xA (h.tr x hx) (fun e=>hj ?_) o,h.nd⟩;rw[← e];exact qq _ (qq _ (uz.2 ⟨x,hx,rfl⟩))
structure Mid (σ τ:Store)(tid eid ever:Nat)(ids:List Nat)(pre post:List Ent)(tag:Int)(av:AV)(trees:List GTree):Prop where
 t:Store.at τ tid 0=some [.int .i64 3,.int .i64 0,.str [],.os true 2 eid ever 0 (pre.length+(1+post.length)) false,.ds true [] 0 true]
 e:Store.at τ eid ever=some (pre.flatMap Ent.cells++([.int .i64 tag,av]++post.flatMap Ent.cells))
 tr:∀ y∈pre++post,Store.at τ y.id y.ver=some (y.trees.flatMap encGTree)
 nd:(tid::eid::(pre++post).map Ent.id).Nodup
 c:(av=.ds true [] 0 true∧trees=[])∨∃ id ver,av=.os true 5 id ver 0 trees.length false∧Store.at τ id ver=some (trees.flatMap encGTree)∧id∉tid::eid::(pre++post).map Ent.id∧id∈ids
 sub:∀ y∈pre++post,y.id∈ids
 len:σ.length+2≤τ.length
 fr:∀ j,j<σ.length→j∉tid::eid::ids→τ[j]?=σ[j]?
 lt:∀ j∈tid::eid::ids,j<σ.length
theorem agr_app {x:List Nat}:∀ {s:Store} {i:Nat} (l:Store),agr x i s s (s++l)=True:=by
 intro s
 induction s with
 |nil=>intro i l; rfl
 |cons a s ih=>intro i l; simp only[qA,agr,ih]; simp
theorem X3 (l:List Ent):(l.flatMap Ent.cells).length=l.length*2:=by
 induction l with
 |nil=>rfl
 |cons a l ih=>rw[qM,qi,ih]; simp[Ent.cells]; omega
theorem cells_one (l:List Ent):(l.flatMap Ent.cells).all AV.one=true:=by
 induction l with
 |nil=>rfl
 |cons a l ih=>rw[qM,List.all_append,ih]; rfl
theorem split_at {α:Type}{l:List α}{k:Nat}(h:k≤l.length):∃ a b,l=a++b∧a.length=k:=⟨l.take k,l.drop k,(um k l).symm,by simp[h]⟩
theorem split_el {α:Type}{l:List α}{k:Nat}(h:k<l.length):∃ a x b,l=a++x::b∧a.length=k:=by
 refine⟨l.take k,l[k],l.drop (k+1),?_,by simp; omega⟩;rw[← uT h,um]
theorem set_mid {α:Type}(a:List α)(x y:α)(b:List α):(a++x::b).set a.length y=a++y::b:=by
 rw[List.set_append_right _ _ (qu _),uM]; rfl
theorem gc_mid (a b:List AV)(x y:AV):gc (a++([x,y]++b)) (a.length+1)=y:=by
 rw[Zi _ _ _ (by omega),Nat.add_sub_cancel_left]; rfl
theorem set_mid1 (a b:List AV)(x y z:AV):(a++([x,y]++b)).set (a.length+1) z=a++([x,z]++b):=by
 rw[List.set_append_right _ _ (by omega),Nat.add_sub_cancel_left]; rfl
theorem put_at {σ:Store}{tid eid ever:Nat}{L:List Ent}(hR:Rep σ tid eid ever L)(f:GField)(x:GTree){es':List GEntry}{b:Bool}(h:Yv (L.map Ent.val) f x=some (es',b)):
 ACalls qh 67 [.op tid 0 0,.agg (encGField f),.agg (cellsGTree x)] σ (fun r σ'=>∃ ever' L',r=.bool b∧Rep σ' tid eid ever' L'∧L'.map Ent.val=es'∧
  (∀ y∈L',y.id∈L.map Ent.id∨σ.length≤y.id)∧σ.length≤σ'.length∧∀ j,j<σ.length→j∉tid::eid::L.map Ent.id→σ'[j]?=σ[j]?):=by
 refine w7 (rs:=[.tmp 6]) tok Tryz.func67 rfl Tryz.ntmps67 rfl Tryz.call67 (by simp) ?_;refine zm [(0,.op tid 0 0),(1,.agg (encGField f)),(2,.agg (cellsGTree x))] ⟨rfl,rfl,rfl,trivial⟩ ?_
 refine rg tok [0,4,5,6] fun K hK=>?_
 simp only[go_sem,qc,qa,qd,reduceCtorEq,encGField,cellsGTree];apply hK
 clear hK K
 simp only[qp,qA,qz,qi,qk,qn,qt]
 obtain⟨σ1,hσ1⟩:∃ s,s=σ++[.cells 0 [.str f.fName,.int .i64 f.fTag,.int .i64 f.fLabel,.int .i64 f.fType.fKind,.str f.fType.fName],
  .cells 0 [.int .i64 x.fKind,.int .i64 x.fN,.str x.fS,.ds true (qf encGEntry x.fEntries) x.fEntries.length false,.ds true (qf encGRaw x.fRest) x.fRest.length false]]:=⟨_,rfl⟩
 rw[← hσ1];have hR1:Rep σ1 tid eid ever L:=hσ1▸hR.app _;have h4:Store.at σ1 σ.length 0=some [.str f.fName,.int .i64 f.fTag,.int .i64 f.fLabel,.int .i64 f.fType.fKind,.str f.fType.fName]:=hσ1▸X5 _ _ _;have h5:Store.at σ1 (σ.length+1) 0=some [.int .i64 x.fKind,.int .i64 x.fN,.str x.fS,.ds true (qf encGEntry x.fEntries) x.fEntries.length false,.ds true (qf encGRaw x.fRest) x.fRest.length false]:=hσ1▸at_end1 _ _ _ _
 have hn1:σ1.length=σ.length+2:=by rw[hσ1]; simp
 have hfr:∀ j,j<σ.length→σ1[j]?=σ[j]?:=fun j hj=>by rw[hσ1,qT hj]
 have hlt:∀ j∈tid::eid::L.map Ent.id,j<σ.length:=by
  intro j hj
  rcases qJ.1 hj with rfl|hj
  · exact Store.at_lt hR.t
  rcases qJ.1 hj with rfl|hj
  · exact Store.at_lt hR.e
  obtain⟨y,hy,rfl⟩:=uz.1 hj;exact Store.at_lt (hR.tr y hy)
 clear hσ1
 unfold Yv at h;obtain⟨p,hp,h⟩:=bind_some h;have ht1:=hR1.t
 refine rd [0,4,5,6,7,8] fun K hK=>?_
 refine DW.start (T:=tab) [.any,.any,.any,.at [],.any,.at [],.eff,.any,.any,.any,.any,.any] [] ?_;refine DW.runN tok 6 ?_;simp only[go_sem,qc,qa,qd,reduceCtorEq,ht1,h4];refine DW.call rfl rfl rfl ((zk.ok _ _ p hp).lend rfl true 12 (by simp only[qG,qx,go_sem,qa,reduceCtorEq,hR1.told true,YH]; rfl)) ?_;refine DW.runN tok 5 ?_;simp only[go_sem,qc,qa,qd,reduceCtorEq];refine DW.fin tok (by decide +kernel) rfl ?_;simp only[zt,upd,qa,reduceIte,yV,xz];apply hK
 clear hK K
 obtain⟨es1,hes1,h⟩:=bind_some h;obtain⟨e,he,h⟩:=bind_some h;obtain⟨u,hu,h⟩:=bind_some h;have hg:=yA hu
 have hidL:∀ l:List Ent,(l.map Ent.val).length=l.length:=fun l=>q2 _
 refine xG (fun F τ=>F=[(0,AV.op tid 0 0),(4,.op σ.length 0 0),(5,.op (σ.length+1) 0 0),(6,.bool false),(7,.int .i64 p.1)]∧∃ ever' pre post av,p.1=(pre.length:Int)∧es1=pre.map Ent.val++e::post.map Ent.val∧Mid σ τ tid eid ever' (L.map Ent.id) pre post e.fTag av e.fTrees∧
  Store.at τ σ.length 0=some [.str f.fName,.int .i64 f.fTag,.int .i64 f.fLabel,.int .i64 f.fType.fKind,.str f.fType.fName]∧
  Store.at τ (σ.length+1) 0=some [.int .i64 x.fKind,.int .i64 x.fN,.str x.fS,.ds true (qf encGEntry x.fEntries) x.fEntries.length false,.ds true (qf encGRaw x.fRest) x.fRest.length false]) ?_ ?_
 · refine rg tok [0,4,5,6,7,21] fun K hK=>?_
   simp only[go_sem,qc,qa,reduceCtorEq];apply hK
   clear hK K
   refine zn (b := !p.2) rfl (fun hc=>?_) (fun hc=>?_)
   · have hc':p.2=false:=by simpa using hc
     rw[xD hc'] at hes1;obtain⟨_,h1,hes1⟩:=bind_some hes1;obtain⟨_,h2,hes1⟩:=bind_some hes1;have h1:=wB h1;have h2:=yA h2;obtain rfl:=Option.some.inj hes1
     obtain⟨k,hk⟩:∃ k:Nat,p.1=k:=⟨p.1.toNat,by omega⟩
     rw[hk] at he h1 ⊢;simp only[qW,hidL] at he h1 h2
     have hkl:k≤L.length:=by omega
     obtain⟨pre,post,rfl,rfl⟩:=split_at hkl;have hl2:(pre++post).length=pre.length+post.length:=qi
     have e1:List.take pre.length ((pre++post).map Ent.val)=pre.map Ent.val:=by rw[qH,← q2 (f:=Ent.val),List.take_left]
     have e2:List.drop pre.length ((pre++post).map Ent.val)=post.map Ent.val:=by rw[qH,← q2 (f:=Ent.val),List.drop_left]
     rw[e1,e2] at he
     have hee:e=⟨f.fTag,[]⟩:=by
      obtain⟨_,_,_,g3⟩:=xT he
      rw[← g3]; simp
     subst hee;rw[qW,e1,e2]
     have hc1:((pre++post).flatMap Ent.cells).take (pre.length*2)=pre.flatMap Ent.cells:=by rw[qI,← X3,List.take_left]
     have hc2:((pre++post).flatMap Ent.cells).drop (pre.length*2)=post.flatMap Ent.cells:=by rw[qI,← X3,List.drop_left]
     have htl:(tid<σ1.length)=True:=eq_true (by have:=hlt tid (by simp); omega);have htl2:(tid<σ.length)=True:=eq_true (hlt tid (by simp));have hel:=hlt eid (by simp)
     have hte:tid≠eid:=by have:=hR1.nd; simp at this; exact this.1.1
     have hins:=Insert_at (σ:=σ1++[Zo.cells 0 [AV.int .i64 f.fTag,AV.ds true [] 0 true]]) (nl:=true) (i:=pre.length) (xS hR1.e _) (X3 _) (cells_one _) (by omega) (by have:=of_eq_true h2; omega) (X5 σ1 _ []) (new:=[AV.int .i64 f.fTag,AV.ds true [] 0 true]) rfl rfl (by omega);rw[hc1,hc2] at hins
     obtain⟨σ2,hσ2⟩:∃ s,s=List.set (σ1++[Zo.cells 0 [AV.int .i64 f.fTag,AV.ds true [] 0 true]]) eid (Zo.cells (ever+1) (pre.flatMap Ent.cells++([AV.int .i64 f.fTag,AV.ds true [] 0 true]++post.flatMap Ent.cells)))++[Zo.dead]:=⟨_,rfl⟩
     rw[← hσ2] at hins
     have ht2:Store.at σ2 tid 0=some [.int .i64 3,.int .i64 0,.str [],.os true 2 eid ever 0 (pre++post).length false,.ds true [] 0 true]:=by
      rw[hσ2]; exact xS (xA (xS hR1.t _) hte _) _
     refine rdE [0,4,5,6,7] fun K hK=>?_
     refine DW.start (T:=tab) [.any,.any,.any,.any,.own 1 [],.any,.any,.at [],.any,.eff,.eff,.any,.any,.eff] [(1,[])] ?_;refine DW.runN tok 6 ?_;simp only[go_sem,qc,qa,qd,reduceCtorEq,ht1,htl];refine DW.runN tok 4 ?_;simp only[go_sem,qc,qe,qa,qd,ql,reduceCtorEq,h4,zQ,z6,ug,q7,true_and,ul,agr_app];refine DW.callS rfl rfl rfl hins (fun m x hm hle=>by simp at hm hle; omega) ?_;refine DW.runN tok 3 ?_;simp only[go_sem,qc,qe,qa,qd,reduceCtorEq,ht2];refine DW.fin tok (by decide +kernel) rfl ?_;simp only[zt,upd,qa,reduceIte,yV,xz];apply hK
     clear hK K
     have hnd:=hR1.nd
     have keep:∀ {j v:Nat} {cs:List AV},Store.at σ1 j v=some cs→j≠eid→j≠tid→Store.at (σ2.set tid (.cells 0 [.int .i64 3,.int .i64 0,.str [],.os true 2 eid (ever+1) 0 ((pre++post).length+1) false,.ds true [] 0 true])) j v=some cs:=by
      intro j v cs hj h1 h2
      refine xA ?_ h2 _
      rw[hσ2]; exact xS (xA (xS hj _) h1 _) _
     have hnid:∀ y∈pre++post,y.id≠eid∧y.id≠tid:=by
      intro y hy
      have hm:y.id∈(pre++post).map Ent.id:=uz.2 ⟨y,hy,rfl⟩;rw[u0,u0] at hnd;exact⟨fun e=>hnd.2.1 (e▸hm),fun e=>hnd.1 (qq _ (e▸hm))⟩
     simp only[zt];refine⟨_,_,⟨rfl,ever+1,pre,post,.ds true [] 0 true,rfl,rfl,⟨?_,?_,?_,hnd,.inl ⟨rfl,rfl⟩,?_,?_,?_,hlt⟩,keep h4 (by omega) (by have:=of_eq_true htl2; omega),keep h5 (by omega) (by have:=of_eq_true htl2; omega)⟩,.same ⟨rfl,rfl,rfl,rfl,rfl,trivial⟩ rfl⟩
     · have:=Store.at_set (ver':=0) (cs':=[.int .i64 3,.int .i64 0,.str [],.os true 2 eid (ever+1) 0 ((pre++post).length+1) false,.ds true [] 0 true]) ht2;rw[this,hl2];simp only[Option.some.injEq,List.cons.injEq,AV.os.injEq,true_and,and_true]
       omega
     · refine xA ?_ hte.symm _
       rw[hσ2]; exact xS (Store.at_set (xS hR1.e _)) _
     · intro y hy; exact keep (hR1.tr y hy) (hnid y hy).1 (hnid y hy).2
     · intro y hy; exact uz.2 ⟨y,hy,rfl⟩
     · rw[hσ2]; simp; omega
     intro j hj hjn
     simp only[qJ,not_or] at hjn;rw[q9 (fun e=>hjn.1 e.symm),hσ2,qT (by simp; omega),q9 (fun e=>hjn.2.1 e.symm),qT (by omega)];exact hfr j hj
   have hc':p.2=true:=by simpa using hc
   rw[if_pos hc'] at hes1;obtain rfl:=Option.some.inj hes1
   obtain⟨k,hk⟩:∃ k:Nat,p.1=k:=⟨p.1.toNat,by have:=(xT he).1; omega⟩
   have he':=he;rw[hk] at he';obtain⟨g0,g1,g2,g3⟩:=xT he';simp only[qW,hidL] at g1 g2 g3;obtain⟨pre,a,post,rfl,rfl⟩:=split_el (show k<L.length by omega)
   have hea:e=a.val:=by
    rw[← g3]; simp
   subst hea;refine zd ?_;simp only[zt];refine⟨_,σ1,⟨rfl,ever,pre,post,.os true 5 a.id a.ver 0 a.trees.length false,hk,by simp,⟨?_,?_,?_,?_,?_,?_,?_,?_,?_⟩,h4,h5⟩,.same ⟨rfl,rfl,rfl,rfl,rfl,trivial⟩ rfl⟩
   · have:=hR1.t
     rw[qi,qk,Nat.add_comm post.length 1] at this; exact this
   · have:=hR1.e
     rw[qI,qM] at this; exact this
   · intro y hy
     refine hR1.tr y ?_
     rcases un.1 hy with h|h
     · exact uV _ h
     exact ut _ (qq _ h)
   · have:=hR1.nd;refine List.Nodup.sublist ?_ this;refine List.Sublist.cons_cons _ (List.Sublist.cons_cons _ ?_);exact (List.Sublist.append_left (List.sublist_cons_self _ _) _).map _
   · refine .inr ⟨a.id,a.ver,rfl,hR1.tr a (by simp),?_,by simp⟩;have:=hR1.nd;simp only[qH,qG,u0,qJ,un,List.nodup_append,not_or] at this ⊢;obtain⟨⟨h1,h2,h3,h4⟩,⟨h5,h6,h7⟩,h8,⟨h9,h10⟩,h11⟩:=this;exact⟨fun e=>h3 e.symm,fun e=>h6 e.symm,fun hm=>h11 _ hm _ (.inl rfl) rfl,h9⟩
   · intro y hy
     rcases un.1 hy with h|h
     · exact uz.2 ⟨y,uV _ h,rfl⟩
     exact uz.2 ⟨y,ut _ (qq _ h),rfl⟩
   · omega
   · intro j hj _; exact hfr j hj
   exact hlt
 clear hes1 hp ht1 hR1 h4 h5 hn1 hfr σ1
 rintro _ τ ⟨rfl,ever1,pre,post,av,hp1,rfl,hM,h4,h5⟩;rw[hp1] at he h;simp only[qW] at h
 have hix:xU tab 27 (.os true 2 eid ever1 0 (pre.length+(1+post.length)) false) (.int .i64 p.1)=some (.op eid ever1 (pre.length*2)):=by
  rw[hp1];simp only[xU,YT,YS]
  simp
  omega
 have ht:=hM.t
 refine rg tok [4,5,6,9] fun K hK=>?_
 simp only[go_sem,qc,qa,qd,reduceCtorEq,ht,hix];apply hK
 clear hK K
 have hcl:(pre.flatMap Ent.cells).length=pre.length*2:=X3 pre
 refine xG (fun F τ'=>F=[(5,AV.op (σ.length+1) 0 0),(6,.bool false),(9,.op eid ever1 (pre.length*2))]∧∃ av',Mid σ τ' tid eid ever1 (L.map Ent.id) pre post e.fTag av' (if f.fLabel=3 then e.fTrees else [])∧
  Store.at τ' (σ.length+1) 0=some [.int .i64 x.fKind,.int .i64 x.fN,.str x.fS,.ds true (qf encGEntry x.fEntries) x.fEntries.length false,.ds true (qf encGRaw x.fRest) x.fRest.length false]) ?_ ?_
 · refine rg tok [5,6,9,43] fun K hK=>?_
   simp only[go_sem,qc,qa,qd,h4];apply hK
   clear hK K
   refine zD rfl (fun hc=>?_) (fun hc=>?_)
   · obtain⟨cs,hcs⟩:∃ cs,cs=pre.flatMap Ent.cells++([.int .i64 e.fTag,av]++post.flatMap Ent.cells):=⟨_,rfl⟩
     have hMe:=hM.e;rw[← hcs] at hMe;have hle:(pre.length*2+1<cs.length)=True:=eq_true (by rw[hcs]; simp only[qi,hcl,qk,qn]; omega);have hle':(pre.length*2+1+1≤cs.length)=True:=eq_true (by have:=of_eq_true hle; omega)
     refine rgE tok [5,6,9] fun K hK=>?_
     simp only[go_sem,qc,qa,hMe,hle'];apply hK
     clear hK K
     have hset:cs.set (pre.length*2+1) (.ds true [] 0 true)=pre.flatMap Ent.cells++([.int .i64 e.fTag,.ds true [] 0 true]++post.flatMap Ent.cells):=by
      rw[hcs,← hcl,set_mid1]
     rw[hset];simp only[zt];rw[if_neg hc];have hnd:=hM.nd;have hlt:=hM.lt;rw[u0,u0] at hnd
     have hte:tid≠eid:=fun e=>hnd.1 (e▸qr ..)
     refine⟨_,_,⟨rfl,.ds true [] 0 true,⟨xA hM.t hte _,Store.at_set hM.e,?_,hM.nd,.inl ⟨rfl,rfl⟩,hM.sub,?_,?_,hM.lt⟩,xA h5 ?_ _⟩,.same ⟨rfl,rfl,rfl,trivial⟩ rfl⟩
     · intro y hy
       refine xA (hM.tr y hy) ?_ _
       intro e; exact hnd.2.1 (e▸uz.2 ⟨y,hy,rfl⟩)
     · have:=hM.len; simpa using this
     · intro j hj hjn
       rw[q9]
       · exact hM.fr j hj hjn
       intro e; exact hjn (e▸by simp)
     have:=hlt eid (by simp); omega
   refine zd ?_;simp only[zt];rw[if_pos hc];exact⟨_,τ,⟨rfl,av,hM,h5⟩,.same ⟨rfl,rfl,rfl,trivial⟩ rfl⟩
 clear hM h4 h5 hix ht τ av
 rintro _ τ ⟨rfl,av,hM,h5⟩
 obtain⟨cs,hcs⟩:∃ cs,cs=pre.flatMap Ent.cells++([.int .i64 e.fTag,av]++post.flatMap Ent.cells):=⟨_,rfl⟩
 have hMe:=hM.e;rw[← hcs] at hMe;have hle:(pre.length*2+1<cs.length)=True:=eq_true (by rw[hcs]; simp only[qi,hcl,qk,qn]; omega);have hle':(pre.length*2+1+1≤cs.length)=True:=eq_true (by have:=of_eq_true hle; omega)
 have hgc:gc cs (pre.length*2+1)=av:=by rw[hcs,← hcl,gc_mid]
 have heid:(eid<τ.length)=True:=eq_true (Store.at_lt hMe)
 refine rd [6,9] fun K hK=>?_
 refine DW.start (T:=tab) [.any,.any,.any,.any,.own 1 [],.at [],.eff,.eff,.any,.any,.eff] [(1,[])] ?_;refine DW.runN tok 6 ?_;simp only[go_sem,qc,qe,qa,qd,hMe,hle,hgc,heid,h5]
 obtain⟨xc,hxc⟩:∃ xc,xc=[AV.int .i64 x.fKind,.int .i64 x.fN,.str x.fS,.ds true (qf encGEntry x.fEntries) x.fEntries.length false,.ds true (qf encGRaw x.fRest) x.fRest.length false]:=⟨_,rfl⟩
 have hx5:xc.length=5:=by rw[hxc]; rfl
 have hx1:xc.all AV.one=true:=by rw[hxc]; rfl
 have hxe:xc=encGTree x:=by rw[hxc,zO]<;>rfl
 generalize htr:(if f.fLabel=3 then e.fTrees else [])=trees at *
 have key:∃ nid nver τ3,ym tab 90 90 av (.os true 5 τ.length 0 0 1 true) (τ++[.cells 0 xc])=some (.os true 5 nid nver 0 (trees.length+1) false,τ3)∧Store.at τ3 nid nver=some (trees.flatMap encGTree++xc)∧
  (∀ j v cs,Store.at τ j v=some cs→j≠nid→Store.at τ3 j v=some cs)∧nid∉tid::eid::(pre++post).map Ent.id∧(nid∈L.map Ent.id∨σ.length≤nid)∧τ.length≤τ3.length∧∀ j,j<σ.length→j∉tid::eid::L.map Ent.id→τ3[j]?=τ[j]?:=by
  have e1:ya (τ++[.cells 0 xc]) 5 (.os true 5 τ.length 0 0 1 true)=some (1,xc):=by
   simp only[ya,X5 τ xc []];rw[if_pos (by omega),qD,Nat.one_mul,← hx5,uj]
  rcases hM.c with ⟨rfl,h0⟩|⟨id,ver,rfl,h1,h2,h3⟩
  · refine⟨τ.length+1,0,τ++[.cells 0 xc]++[.cells 0 xc],?_,?_,fun j v cs hj _=>xS (xS hj _) _,fun hj=>?_,.inr (by have:=hM.len; omega),by simp,fun j hj _=>?_⟩
    · subst h0;simp only[ym,tab_90,tab_30,e1,yp,hx1,zW,if_true,qi,qk,qn]
      simp
    · subst h0;simp only[qp,qA,qz];exact at_end1 _ _ _ _
    · have:τ.length+1<σ.length:=hM.lt _ (by
       rcases qJ.1 hj with h|h
       · rw[h]; simp
       rcases qJ.1 h with h|h
       · rw[h]; simp
       obtain⟨y,hy,h'⟩:=uz.1 h
       rw[← h']; exact qq _ (qq _ (hM.sub y hy)))
      have:=hM.len; omega
    have:=hM.len;rw[qp,qT (by omega)]
  refine⟨id,ver+1,List.set (τ++[Zo.cells 0 xc]) id (Zo.cells (ver+1) (trees.flatMap encGTree++xc)),?_,Store.at_set (xS h1 _),fun j v cs hj hne=>xA (xS hj _) hne _,h2,.inl h3,by simp,fun j hj hjn=>?_⟩
  · have hl:(trees.flatMap encGTree).length=trees.length*5:=zA E90.len trees
    have hg':((trees.length+1)*80≤140737488355328)=True:=by
     rw[← htr]
     by_cases hl3:f.fLabel=3
     · rw[if_pos hl3]; rw[if_pos hl3] at hg; exact hg
     rw[if_neg hl3]; simp
    simp only[ym,tab_90,tab_30,e1,yp,hx1,zW,xS h1,hl,hg',and_self,qc,if_true]
  have:=hM.len;rw[q9,qT (by omega)]
  intro e; exact hjn (e▸qq _ (qq _ h3))
 obtain⟨nid,nver,τ3,k1,k2,k3,k4,k5,k6,k7⟩:=key
 have hne:eid≠nid:=fun e=>k4 (e▸by simp)
 have hMe3:=k3 _ _ _ hMe hne;refine DW.runN tok 1 ?_;simp only[go_sem,qc,qe,qa,qd,ql,zQ,z6,ug,q7,true_and,ul,agr_app];rw[← hxc];refine DW.runN tok 1 ?_;simp only[go_sem,qc,qe,qa,qd,k1];refine DW.runN tok 3 ?_;simp only[go_sem,qc,qe,qa,qd,hMe3,hle'];refine DW.fin tok (by decide +kernel) rfl ?_;simp only[zt,upd,qa,reduceIte,yV,xz];apply hK
 clear hK K
 have hset:cs.set (pre.length*2+1) (.os true 5 nid nver 0 (trees.length+1) false)=pre.flatMap Ent.cells++([.int .i64 e.fTag,.os true 5 nid nver 0 (trees.length+1) false]++post.flatMap Ent.cells):=by
  rw[hcs,← hcl,set_mid1]
 have hat4:=Store.at_set (ver':=ever1) (cs':=cs.set (pre.length*2+1) (.os true 5 nid nver 0 (trees.length+1) false)) hMe3
 generalize cs.set (pre.length*2+1) (.os true 5 nid nver 0 (trees.length+1) false)=cs4 at *
 have hgc4:gc cs4 (pre.length*2+1)=.os true 5 nid nver 0 (trees.length+1) false:=by rw[hset,← hcl,gc_mid]
 have hle4:(pre.length*2+1<cs4.length)=True:=eq_true (by rw[hset]; simp only[qi,hcl,qk,qn]; omega)
 refine rg tok [6] fun K hK=>?_
 simp only[go_sem,qc,qa,hat4,hgc4,hle4];apply hK
 clear hK K
 refine yw ?_;simp only[Zv,yP,yZ,xJ,exists_eq_left',go_sem];have h':=Option.some.inj h;obtain⟨h1,h2⟩:=Prod.mk.inj h';have hnd:=hM.nd;have hlt:=hM.lt;rw[u0,u0] at hnd
 have hte:tid≠eid:=fun e=>hnd.1 (e▸qr ..)
 have htn:tid≠nid:=fun e=>k4 (e▸by simp)
 have hll:(trees++[x]).length=trees.length+1:=by simp
 refine⟨ever1,pre++⟨e.fTag,nid,nver,trees++[x]⟩::post,?_,⟨?_,?_,?_,?_⟩,?_,?_,?_,?_⟩
 · rw[← h2,hll]
 · refine xA ?_ hte _;have:=k3 _ _ _ hM.t htn;rw[this];simp only[Option.some.injEq,List.cons.injEq,AV.os.injEq,true_and,and_true,qi,qk]
   omega
 · rw[hat4,hset]
   simp[Ent.cells]
 · intro y hy
   rcases un.1 hy with hy|hy
   · refine xA (k3 _ _ _ (hM.tr y (uV _ hy)) ?_) ?_ _
     · intro e'; exact k4 (e'▸qq _ (qq _ (uz.2 ⟨y,uV _ hy,rfl⟩)))
     intro e'; exact hnd.2.1 (e'▸uz.2 ⟨y,uV _ hy,rfl⟩)
   rcases qJ.1 hy with rfl|hy
   · refine xA ?_ hne.symm _
     show Store.at τ3 nid nver=some ((trees++[x]).flatMap encGTree)
     rw[k2,qI,hxe]; simp
   refine xA (k3 _ _ _ (hM.tr y (ut _ hy)) ?_) ?_ _
   · intro e'; exact k4 (e'▸qq _ (qq _ (uz.2 ⟨y,ut _ hy,rfl⟩)))
   intro e'; exact hnd.2.1 (e'▸uz.2 ⟨y,ut _ hy,rfl⟩)
 · have hp:(nid::tid::eid::(pre++post).map Ent.id).Nodup:=u0.2 ⟨k4,hM.nd⟩;refine (List.Perm.nodup_iff ?_).1 hp;refine (List.Perm.swap _ _ _).trans (List.Perm.cons _ ((List.Perm.swap _ _ _).trans (List.Perm.cons _ ?_)));rw[qH,qH,qG];exact (List.perm_middle).symm
 · rw[← h1,← hidL pre,set_mid]
   simp[Ent.val]
 · intro y hy
   rcases un.1 hy with hy|hy
   · exact .inl (hM.sub y (uV _ hy))
   rcases qJ.1 hy with rfl|hy
   · exact k5
   exact .inl (hM.sub y (ut _ hy))
 · have:=hM.len; simp; omega
 intro j hj hjn
 rw[q9 (fun e=>hjn (by rw[← e]; simp)),k7 j hj hjn];exact hM.fr j hj hjn
end
section
set_option maxRecDepth 8000
set_option maxHeartbeats 1000000
open Go.RowKit AM
def wo (m:GMessage):List GEntry→Option (List GEntry)
 |[]=>some []
 |e::l=>(yX e m).bind fun b=>(wo m l).bind fun l'=>some (if b=true then l' else e::l')
theorem idx_del (m:GMessage):∀ (es:List GEntry) (x:Int) (es':List GEntry),wo m es=some es'→
 ∃ r,zo.l4 m es x=some r∧((r = -1∧es'=es)∨∃ pre e post post',es=pre++e::post∧r=x+pre.length∧wo m post=some post'∧es'=pre++post'):=by
 intro es
 induction es with
 |nil=>intro x es' h; cases h; exact⟨-1,rfl,.inl ⟨rfl,rfl⟩⟩
 |cons e l ih=>
  intro x es' h
  simp only[wo] at h;obtain⟨b,hb,h⟩:=bind_some h;obtain⟨l',hl,h⟩:=bind_some h;obtain rfl:=Option.some.inj h;simp only[zo.l4,hb,qg]
  cases b with
  |true=>exact⟨x,rfl,.inr ⟨[],e,l,l',rfl,by simp,hl,rfl⟩⟩
  |false=>
   obtain⟨r,h1,h2⟩:=ih (x+1) l' hl;refine⟨r,h1,?_⟩
   rcases h2 with ⟨rfl,rfl⟩|⟨pre,e2,post,post',rfl,rfl,h3,rfl⟩
   · exact .inl ⟨rfl,rfl⟩
   exact .inr ⟨e::pre,e2,post,post',rfl,by simp; omega,h3,rfl⟩
theorem tell_fn {σ:Store}{keep:List Nat}{ls:Bool}{f:Nat}{g:Fn}{a b:List AV}:tell σ keep ls (f+1) (.fn g a b)=.fn g (a.map (tell σ keep ls f)) (b.map (tell σ keep ls f)):=rfl
theorem tell_msg {σ:Store}{keep:List Nat}{f:Nat}{g:Fn}{m:GMessage}:tell σ keep true (f+1+1+1) (.fn g [] [.dp (encGMessage m) 0])=.fn g [] [.dp (encGMessage m) 0]:=by
 simp only[tell_fn,qx,qG,tell_dp,encGMessage,Xj,YI,zE,qO,qK,qR]
theorem va6 (n:Nat):(z6 [AV.int .i64 0,.ds true [] 0 true] n).all AV.one=true:=by
 rw[ub]
 intro x hx
 obtain⟨k,_,rfl⟩:=uz.1 hx
 have:k % 2=0∨k % 2=1:=by omega
 rcases this with h|h<;>simp[h,AV.one,gc]
theorem DeleteFunc_at {σ:Store}{id ver:Nat}{nl:Bool}{es es':List GEntry}(m:GMessage)(hcs:Store.at σ id ver=some (es.flatMap encGEntry))(h:wo m es=some es')(hB:es.length≤1000000000000000):
 ACalls qh 68 [.os nl 2 id ver 0 es.length false,.fn (.func 69) [] [.dp (encGMessage m) 0]] σ (fun r σ'=>∃ cs g,r=.os nl 2 id ver 0 es'.length false∧σ'=List.set σ id (.cells ver (es'.flatMap encGEntry++cs))++g):=by
 obtain⟨r,hr,hcase⟩:=idx_del m es 0 es' h;refine w7 (rs:=[.tmp 4]) tok Tryz.func68 rfl Tryz.ntmps68 rfl Tryz.call68 (by simp) ?_;refine zm [(0,.os nl 2 id ver 0 es.length false),(1,.fn (.func 69) [] [.dp (encGMessage m) 0])] ⟨rfl,rfl,trivial⟩ ?_
 refine rg tok [0,1] fun K hK=>?_
 simp only[go_sem,qc,qa,reduceCtorEq];apply hK
 clear hK K
 have htold:tell σ [] true 12 (.os nl 2 id ver 0 es.length false)=.ds true (es.flatMap encGEntry) es.length false:=by
  have hl:(es.flatMap encGEntry).length=es.length*2:=zA E27.len es;simp only[wZ,wP,hcs];rw[if_pos (by rw[hl]; omega),qD,← hl,uj,zE]
 refine rc [0,1,5] fun K hK=>?_
 refine zj tok 2 ?_;simp only[go_sem,qc,qa,reduceCtorEq];refine ww rfl rfl rfl ((zo.ok es m r hr).lend rfl true 12 (by simp only[qG,qx,go_sem,qa,reduceCtorEq,htold,tell_msg])) ?_;rintro _ _ ⟨rfl,hσ⟩
 rw[hσ]; clear hσ
 refine zj tok 1 ?_;simp only[go_sem,qc,qa,reduceCtorEq];refine zb ?_;simp only[zt,upd,qa,reduceIte,yV,xz];apply hK
 clear hK K
 refine za fun Z hZ=>?_
 refine rg tok [0,1,5,12] fun K hK=>?_
 simp only[go_sem,qc,qa,reduceCtorEq];apply hK
 clear hK K
 refine zD rfl (fun hc=>?_) (fun hc=>?_)
 · have he:es'=es:=by
    rcases hcase with ⟨_,h⟩|⟨pre,e,post,post',_,h2,_⟩
    · exact h
    omega
   subst he
   refine rg tok [4] fun K hK=>?_
   simp only[go_sem,qc,qa,reduceCtorEq];apply hK
   clear hK K
   refine yw ?_;simp only[Zv,yP,yZ,xJ,exists_eq_left',go_sem];exact⟨[],[],by rw[qw,qw,Store.set_at hcs]⟩
 obtain⟨pre,e,post,post',he,h2,h3,h4⟩:∃ pre e post post',es=pre++e::post∧r=0+(pre.length:Int)∧wo m post=some post'∧es'=pre++post':=by
  rcases hcase with ⟨h,_⟩|h
  · exact absurd h hc
  exact h
 rw[Int.zero_add] at h2;subst h2
 have hl0:es.length=pre.length+(post.length+1):=by rw[he]; simp
 refine zd ?_;refine hZ _ _ ?_
 clear hZ Z
 have hw1:IntKind.i64.wrap ((pre.length:Int)+1)=(pre.length:Int)+1:=by rw[IntKind.wrap_i64]; omega
 refine za fun Z hZ=>?_
 refine rg tok [0,1,5,6] fun K hK=>?_
 simp only[go_sem,qc,qa,reduceCtorEq,hw1];apply hK
 clear hK K
 refine ze ?_
 refine zC (fun k F τ=>∃ (cur kept rest rest':List GEntry) (j:Nat) (g:Store),k=rest.length∧F=[(0,AV.os nl 2 id ver 0 es.length false),(1,.fn (.func 69) [] [.dp (encGMessage m) 0]),(5,.int .i64 (kept.length:Int)),(6,.int .i64 (j:Int))]∧
  τ=List.set σ id (.cells ver (cur.flatMap encGEntry))++g∧cur.length=es.length∧cur.take kept.length=kept∧cur.drop j=rest∧j+rest.length=es.length∧kept.length<j∧wo m rest=some rest'∧es'=kept++rest') post.length
  ⟨es,pre,post,post',pre.length+1,[],rfl,rfl,by rw[Store.set_at hcs,qw],rfl,by rw[he,List.take_left],by rw[he,← u6,List.drop_left]; rfl,by omega,by omega,h3,h4⟩ (.same ⟨rfl,rfl,rfl,rfl,trivial⟩ rfl) ?_
 rintro k _ _ ⟨cur,kept,rest,rest',j,g,rfl,rfl,rfl,c1,c2,c3,c4,c5,c6,c7⟩;have hat:Store.at (List.set σ id (.cells ver (cur.flatMap encGEntry))++g) id ver=some (cur.flatMap encGEntry):=xS (Store.at_set hcs) _
 obtain⟨τ,hτ⟩:∃ τ,τ=List.set σ id (.cells ver (cur.flatMap encGEntry))++g:=⟨_,rfl⟩
 rw[← hτ] at hat ⊢
 refine za fun Y hY=>?_
 refine rg tok [0,1,5,6,19] fun K hK=>?_
 simp only[go_sem,qc,qa,reduceCtorEq];apply hK
 clear hK K
 refine zD rfl (fun hc=>?_) (fun hc=>?_)
 · refine zd ?_;refine hY _ _ ?_
   clear hY Y
   rcases rest with _|⟨e2,rest⟩
   · simp only[qn] at c4; omega
   simp only[wo] at c6;obtain⟨b,hb,c6⟩:=bind_some c6;obtain⟨l',hl',c6⟩:=bind_some c6;obtain rfl:=Option.some.inj c6;simp only[qk] at c4
   have hx:wV cur (j:Int)=some e2:=by
    unfold wV;rw[if_pos (by omega),qW]
    have:(cur.drop j)[0]?=some e2:=by rw[c3]; rfl
    rwa [List.getElem?_drop,uY] at this
   have hcd:cur.drop (j+1)=rest:=by rw[← u6,c3]; rfl
   have hw6:IntKind.i64.wrap ((j:Int)+1)=((j+1:Nat):Int):=by rw[IntKind.wrap_i64]; omega
   have hix:=E27.idxO hx nl false .i64 2 id ver;rw[c1] at hix;have hrd:=E27.rdO hx
   refine za fun X hX=>?_
   have fin:∀ (cur' kept':List GEntry) (F:Fr) (τ':Store),Fits F [(0,AV.os nl 2 id ver 0 es.length false),(1,.fn (.func 69) [] [.dp (encGMessage m) 0]),(5,.int .i64 (kept'.length:Int)),(6,.int .i64 (j:Int))]→(∃ g',τ'=List.set σ id (.cells ver (cur'.flatMap encGEntry))++g')→cur'.length=es.length→cur'.take kept'.length=kept'→cur'.drop (j+1)=rest→kept'.length<j+1→es'=kept'++l'→
    X F τ':=by
    rintro cur' kept' F _ hF ⟨g',rfl⟩ d1 d2 d3 d4 d5;refine hX _ _ (yc (.same hF rfl) ?_)
    refine rgE tok [0,1,5,6] fun K hK=>?_
    simp only[go_sem,qc,qa,reduceCtorEq,hw6];apply hK
    clear hK K
    simp only[zt];exact⟨rest.length,_,_,by simp,⟨cur',kept',rest,l',j+1,g',rfl,rfl,rfl,d1,d2,d3,by omega,by omega,hl',d5⟩,.same ⟨rfl,rfl,rfl,rfl,trivial⟩ rfl⟩
   clear hX
   have hae:∀ cs,Store.at (τ++[.cells 0 cs]) τ.length 0=some cs:=fun cs=>X5 τ cs []
   have hse:∀ cs cs',(τ++[Zo.cells 0 cs]).set τ.length (.cells 0 cs')=τ++[.cells 0 cs']:=fun cs cs'=>set_mid τ _ _ []
   have hw5:IntKind.i64.wrap ((kept.length:Int)+1)=((kept.length+1:Nat):Int):=by rw[IntKind.wrap_i64]; omega
   refine ze ?_
   refine rg tok [0,1,5,6,7] fun K hK=>?_
   simp only[go_sem,qc,qe,qa,qd,reduceCtorEq,hat,hix,hrd,yy,cellsGEntry,hae,hse,qk,qn,uA,uQ];apply hK
   clear hK K
   refine rc [0,5,6,7,1,29] fun K hK=>?_
   refine zj tok 2 ?_;simp only[go_sem,qc,qe,qa,qd,reduceCtorEq,hae,qk,qn];refine ww rfl rfl rfl (yX.ev e2 m b hb _) ?_;rintro _ _ ⟨rfl,hσ⟩
   rw[hσ]; clear hσ
   refine zj tok 1 ?_;simp only[go_sem,qc,qa,reduceCtorEq];refine zb ?_;simp only[zt,upd,qa,reduceIte,yV,xz];apply hK
   clear hK K
   cases b with
   |true=>
    refine zw rfl ?_;refine zd ?_;simp only[ZE,zt];exact fin cur kept _ _ ⟨rfl,rfl,rfl,rfl,trivial⟩ ⟨g++[.cells 0 [.int .i64 e2.fTag,.ds true (qf encGTree e2.fTrees) e2.fTrees.length false]],by rw[hτ,qp]⟩ c1 c2 hcd (by omega) c7
   |false=>
    refine zz rfl ?_
    have hkl:kept.length<cur.length:=by omega
    have hx2:wV cur (kept.length:Int)=some cur[kept.length]:=by
     unfold wV;rw[if_pos (by omega),qW,qV hkl]
    have hix2:=E27.idxO hx2 nl false .i64 2 id ver;rw[c1] at hix2;have hsc:=E27.stOc hx2;have hsr:=E27.stOr hx2 (y:=e2) (cs:=[.int .i64 e2.fTag,.ds true (qf encGTree e2.fTrees) e2.fTrees.length false]) (by rw[yy]<;>rfl);simp only[yL] at hsr;have hat1:Store.at (τ++[.cells 0 [.int .i64 e2.fTag,.ds true (qf encGTree e2.fTrees) e2.fTrees.length false]]) id ver=some (cur.flatMap encGEntry):=xS hat _
    refine rg tok [0,1,5,6] fun K hK=>?_
    simp only[go_sem,qc,qe,qa,qd,reduceCtorEq,hae,hix2,hsc,hsr,hat1,qk,qn];apply hK
    clear hK K
    refine rgE tok [0,1,5,6] fun K hK=>?_
    simp only[go_sem,qc,qa,reduceCtorEq,hw5];apply hK
    clear hK K
    simp only[ZE,zt]
    have hlen:(kept++[e2]).length=kept.length+1:=by simp
    refine fin (setI cur (kept.length:Int) e2) (kept++[e2]) _ _ ⟨rfl,rfl,by rw[hlen]; rfl,rfl,trivial⟩ ⟨g++[.cells 0 [.int .i64 e2.fTag,.ds true (qf encGTree e2.fTrees) e2.fTrees.length false]],?_⟩ ?_ ?_ ?_ (by rw[hlen]; omega) (by rw[c7]; simp)
    · rw[hτ,qp,List.set_append_left _ _ (by simpa using Store.at_lt hcs),List.set_set]
    · rw[yU]; exact c1
    · rw[hlen];unfold setI;rw[qW,List.take_set,List.take_add_one,c2,qV hkl]
      simp
    unfold setI;rw[qW,List.drop_set_of_lt (by omega)];exact hcd
 refine zJ ?_;simp only[go_sem];have hr0:rest=[]:=qE.1 (by omega);subst hr0;cases c6;rw[qw] at c7;subst c7;simp only[qn,uY] at c4
 have hkn:es'.length<es.length:=by omega
 have hsl1:wj tab 27 (.os nl 2 id ver 0 es.length false) (some (.int .i64 (es'.length:Int))) none none=some (.os nl 2 id ver (es'.length*2) (es.length-es'.length) false):=by
  simp only[wj,YT,YS,vaA]
  simp
  omega
 have hsl2:wj tab 27 (.os nl 2 id ver 0 es.length false) none (some (.int .i64 (es'.length:Int))) none=some (.os nl 2 id ver 0 es'.length false):=by
  simp only[wj,YT,YS,vaA]
  simp
  omega
 have hcl:(cur.flatMap encGEntry).length=es.length*2:=by rw[← c1]; exact zA E27.len cur
 have hzl:∀ n,(z6 [AV.int .i64 0,.ds true [] 0 true] n).length=n:=fun n=>by simp[z6]
 have hsr:yL (cur.flatMap encGEntry) (es'.length*2) (z6 [AV.int .i64 0,.ds true [] 0 true] ((es.length-es'.length)*2))=es'.flatMap encGEntry++z6 [AV.int .i64 0,.ds true [] 0 true] ((es.length-es'.length)*2):=by
  have e0:cur.flatMap encGEntry=es'.flatMap encGEntry++((cur.drop es'.length).flatMap encGEntry++[]):=by
   rw[qw,← qI]
   congr 1
   conv=>lhs; rw[← um es'.length cur,c2]
  have l1:(es'.flatMap encGEntry).length=es'.length*2:=zA E27.len _;rw[e0,← l1,w9 _ _ _ _ (by rw[hzl,zA E27.len,uI,c1]),qw]
 have hclr:vbC tab 27 (.os nl 2 id ver (es'.length*2) (es.length-es'.length) false) τ=some (.tup [],τ.set id (.cells ver (es'.flatMap encGEntry++z6 [AV.int .i64 0,.ds true [] 0 true] ((es.length-es'.length)*2)))):=by
  have hp:wN τ (.os nl 2 id ver (es'.length*2) (es.length-es'.length) false) (es.length-es'.length) 2 (z6 [AV.int .i64 0,.ds true [] 0 true] ((es.length-es'.length)*2))=some (τ.set id (.cells ver (es'.flatMap encGEntry++z6 [AV.int .i64 0,.ds true [] 0 true] ((es.length-es'.length)*2)))):=by
   unfold wN;rw[if_neg (by omega)];simp only[hat];rw[if_pos ⟨trivial,by rw[hzl,hcl,← uW]; exact qY _ (by omega),va6 _⟩,hsr]
  simp only[vbC,YT,YS,AV.cells,hp]
  simp[AV.okc,AV.one]
 refine hZ _ _ ?_
 refine rg tok [0,5] fun K hK=>?_
 simp only[go_sem,qc,qa,reduceCtorEq,hsl1,hclr];apply hK
 clear hK K
 refine rg tok [4] fun K hK=>?_
 simp only[go_sem,qc,qa,reduceCtorEq,hsl2];apply hK
 clear hK K
 refine yw ?_;simp only[Zv,yP,yZ,xJ,exists_eq_left',go_sem];refine⟨z6 [AV.int .i64 0,.ds true [] 0 true] ((es.length-es'.length)*2),g,?_⟩;rw[hτ,List.set_append_left _ _ (by simpa using Store.at_lt hcs),List.set_set]
end
section
set_option maxRecDepth 8000
set_option maxHeartbeats 1000000
open Go.RowKit AM
def zr.l (yF:GSchema→GType→GRaw→Int→Option (GTree×Int))(a0:GSchema)(a1:GMessage)(a3:Int):List GRaw→List GEntry→List GRaw→Option (GTree×Int)
 |[],es,rest=>(Y5 es.length 32).bind fun _=>(wo a1 es).bind fun es'=>(zI rest).bind fun r=>some ((⟨3,0,[],es',r⟩:GTree),0)
 |r::q,es,rest=>bnd (zf a1 r.fTag) fun f=>(if f.2=true then (yF a0 f.1.fType r a3).bind fun x=>(if x.2=0 then (Yv es f.1 x.1).bind fun p=>(if p.2=true then zr.l yF a0 a1 a3 q p.1 rest else some ((⟨0,0,[],[],[]⟩:GTree),4)) else some ((⟨0,0,[],[],[]⟩:GTree),x.2))
  else (Y5 (rest.length+1) 40).bind fun _=>zr.l yF a0 a1 a3 q es (rest++[r]))
def zr.body (zy:GSchema→GMessage→List UInt8→Int→Option (GTree×Int))(yF:GSchema→GType→GRaw→Int→Option (GTree×Int))(a0:GSchema)(a1:GMessage)(a2:List UInt8)(a3:Int):Option (GTree×Int):=
 if 10<a3 then some ((⟨0,0,[],[],[]⟩:GTree),10) else (xh a2).bind fun g=>if g.2=0 then zr.l yF a0 a1 a3 g.1 [] [] else some ((⟨0,0,[],[],[]⟩:GTree),g.2)
structure Loop (τ:Store)(a0:GSchema)(a1:GMessage)(ever rver:Nat)(L:List Ent)(rest:List GRaw):Prop where
 h0:Store.at τ 0 0=some (encGSchema a0)
 h1:Store.at τ 1 0=some (encGMessage a1)
 h2:Store.at τ 2 0=some [.int .i64 0,.int .i64 0,.str [],.ds true [] 0 true,.ds true [] 0 true]
 rep:Rep τ 3 4 ever L
 h5:Store.at τ 5 rver=some (rest.flatMap encGRaw)
 ids:∀ y∈L,6≤y.id
theorem Loop.app {τ:Store}{a0:GSchema}{a1:GMessage}{ever rver:Nat}{L:List Ent}{rest:List GRaw}(h:Loop τ a0 a1 ever rver L rest)(l:Store):Loop (τ++l) a0 a1 ever rver L rest:=
 ⟨xS h.h0 l,xS h.h1 l,xS h.h2 l,h.rep.app l,xS h.h5 l,h.ids⟩
theorem XJ {σ:Store}{keep:List Nat}{e:Int}:tell σ keep true 12 (.tup [.agg [.int .i64 0,.int .i64 0,.str [],.ds true [] 0 true,.ds true [] 0 true],.int .i64 e])=.tup [.agg (cellsGTree ⟨0,0,[],[],[]⟩),.int .i64 e]:=by
 simp only[tell_tup,qG,qx,tell_agg,YH,Xj,YI]
 rfl
theorem zr.step (zy:GSchema→GMessage→List UInt8→Int→Option (GTree×Int))(yF:GSchema→GType→GRaw→Int→Option (GTree×Int))
 (YO:∀ (a0:GSchema) (a1:GType) (a2:GRaw) (a3:Int) (r:GTree×Int),yF a0 a1 a2 a3=some r→ACalls qh 66 [.agg (encGSchema a0),.agg (encGType a1),.agg (encGRaw a2),.int .i64 a3] [] (fun r' _=>r'=.tup [.agg (cellsGTree r.1),.int .i64 r.2]))
 (a0:GSchema) (a1:GMessage) (a2:List UInt8) (a3:Int) (r:GTree×Int) (h:zr.body zy yF a0 a1 a2 a3=some r):
 ACalls qh 41 [.agg (encGSchema a0),.agg (encGMessage a1),.ds true (qf encB a2) (qb a2) false,.int .i64 a3] [] (fun r' _=>r'=.tup [.agg (cellsGTree r.1),.int .i64 r.2]):=by
 have ev_one:=fun a0 a1 a2 a3 r h σ=>(YO a0 a1 a2 a3 r h).pureAt (by simp only[AV.canon,canonL,canon_all,qX,qC,qO,encGRaw,encGSchema,encGType]) (by simp only[AV.canon,canonL,canon_all,qX,qC,qO,cellsGTree]) σ
 refine zi (rs:=[.cell 8 30,.tmp 9]) tok Tryz.func41 rfl Tryz.ntmps41 rfl Tryz.call41 (by simp) ?_;refine zm [(0,.agg (encGSchema a0)),(1,.agg (encGMessage a1)),(2,.ds true (qf encB a2) (qb a2) false),(3,.int .i64 a3)] ⟨rfl,rfl,rfl,rfl,trivial⟩ ?_;unfold zr.body at h
 refine rg tok [2,3,4,5,8,9] fun K hK=>?_
 simp only[go_sem,qc,qa,qd,reduceCtorEq,encGSchema,encGMessage];apply hK
 clear hK K
 refine za fun Z hZ=>?_
 refine rg tok [2,3,4,5,8,9,21] fun K hK=>?_
 simp only[go_sem,qc,qa];apply hK
 clear hK K
 refine zD rfl (fun hc=>?_) (fun hc=>?_)
 · rw[if_pos hc] at h;obtain rfl:=Option.some.inj h
   refine rg tok [8,9] fun K hK=>?_
   simp only[go_sem,qc,qe,qa,qd];apply hK
   clear hK K
   refine yw ?_;simp only[Zv,yP,yZ,xJ,exists_eq_left',go_sem,qe,qa,qd];exact XJ
 rw[if_neg hc] at h;obtain⟨g,hg,h⟩:=bind_some h;refine zd ?_;refine hZ _ _ ?_
 clear hZ Z
 refine rc [3,4,5,8,9,10,11] fun K hK=>?_
 refine zj tok 1 ?_;simp only[go_sem,qc,qa];refine ww rfl rfl rfl (xh.ev a2 g hg _) ?_;rintro _ _ ⟨rfl,hσ⟩
 rw[hσ]; clear hσ
 refine zj tok 5 ?_;simp only[go_sem,qc,qa,qd];refine zb ?_;simp only[zt,upd,qa,reduceIte,yV,xz];apply hK
 clear hK K
 refine za fun Z hZ=>?_
 refine rg tok [3,4,5,8,9,10,11,29] fun K hK=>?_
 simp only[go_sem,qc,qa];apply hK
 clear hK K
 refine zD rfl (fun hc2=>?_) (fun hc2=>?_)
 · rw[if_neg hc2] at h;obtain rfl:=Option.some.inj h
   refine rg tok [8,9] fun K hK=>?_
   simp only[go_sem,qc,qe,qa,qd];apply hK
   clear hK K
   refine yw ?_;simp only[Zv,yP,yZ,xJ,exists_eq_left',go_sem,qe,qa,qd];exact XJ
 rw[if_pos hc2] at h;refine zd ?_;refine hZ _ _ ?_
 clear hZ Z
 refine rg tok [3,4,5,8,9,10,12] fun K hK=>?_
 simp only[go_sem,qc,qe,qa,qd];apply hK
 clear hK K
 refine ZM 3 3 2 rfl (by simp) rfl (L:=[(3,.int .i64 a3),(4,.op 0 0 0),(5,.op 1 0 0),(8,.op 2 0 0),(9,.int .i64 0),(10,.ds true (qf encGRaw g.1) (qb g.1) false),(12,.op 3 0 0)]) (.same ⟨rfl,rfl,rfl,rfl,rfl,rfl,rfl,trivial⟩ rfl) ?_
 refine rg tok [3,4,5,8,9,10,12,13] fun K hK=>?_
 simp only[go_sem,qc,qa,qd];apply hK
 clear hK K
 refine Zw 13 4 rfl ?_;refine yc (L:=[(3,.int .i64 a3),(4,.op 0 0 0),(5,.op 1 0 0),(8,.op 2 0 0),(9,.int .i64 0),(10,.ds true (qf encGRaw g.1) (qb g.1) false),(12,.op 3 0 0),(13,.os true 4 5 0 0 0 false)]) (.same ⟨rfl,rfl,rfl,rfl,rfl,rfl,rfl,rfl,trivial⟩ rfl) ?_
 refine za fun Z hZ=>?_
 refine xb 10 fun hb=>?_
 replace hb:qb g.1≤9223372036854775807:=hb.1
 refine rg tok [3,4,5,8,9,12,13,33,34,35] fun K hK=>?_
 simp only[go_sem,qc,qa];apply hK
 clear hK K
 refine ze ?_
 refine zC (fun k F τ=>∃ (p q:List GRaw) (i:Int) (L:List Ent) (rest:List GRaw) (ever rver:Nat),k=q.length∧F=[(3,AV.int .i64 a3),(4,.op 0 0 0),(5,.op 1 0 0),(8,.op 2 0 0),(9,.int .i64 0),(12,.op 3 0 0),(13,.os true 4 5 rver 0 rest.length false),(33,.ds true (qf encGRaw g.1) (qb g.1) false),(34,.int .i64 (qb g.1:Int)),(35,.int .i64 i)]∧Loop τ a0 a1 ever rver L rest∧g.1=p++q∧i=(p.length:Int)∧zr.l yF a0 a1 a3 q (L.map Ent.val) rest=some r) g.1.length
  ⟨[],g.1,0,[],[],0,0,rfl,rfl,⟨rfl,rfl,rfl,⟨rfl,rfl,fun _ h=>(by cases h),by simp⟩,rfl,fun _ h=>(by cases h)⟩,rfl,rfl,h⟩ (.same ⟨rfl,rfl,rfl,rfl,rfl,rfl,rfl,rfl,rfl,rfl,trivial⟩ rfl) ?_
 clear h
 rintro k _ τ ⟨p,q,i,L,rest,ever,rver,rfl,rfl,hL,hE,hi,h⟩
 refine rg tok [3,4,5,8,9,12,13,33,34,35,36] fun K hK=>?_
 simp only[go_sem,qc,qa];apply hK
 clear hK K
 refine za fun Y hY=>?_
 rcases q with _|⟨y,q⟩
 · have hz:=yz hE hi;refine zD rfl (fun hc=>absurd hc (by rw[hz]; exact id)) (fun _=>?_);refine zJ ?_;simp only[zt,go_sem];simp only[zr.l] at h;obtain⟨u,hu,h⟩:=bind_some h;have hrm:=of_eq_true (yA hu);obtain⟨es',hes,h⟩:=bind_some h;obtain⟨rr,hrr,h⟩:=bind_some h;obtain rfl:=Option.some.inj h
   have hid:∀ y∈L,Zg [2,3,4] y.id 0=none:=by
    intro y hy
    have:=hL.ids y hy;simp only[wS,wP];rw[if_neg (by omega),if_neg (by omega),if_neg (by omega)]
   have hget:∀ {j v:Nat} {cs:List AV},Store.at τ j v=some cs→τ.getD j .dead=.cells v cs:=by
    intro j v cs hj
    rw[qv,Store.at_some hj]; rfl
   have hl4:(rest.flatMap encGRaw).length=rest.length*4:=zA E28.len rest;have hcells:=hL.rep.toldC [2,3,4] false 10 hid
   have htS:tellS τ [2,3,4] false 12=[.cells 0 [.int .i64 0,.int .i64 0,.str [],.ds true [] 0 true,.ds true [] 0 true],.cells 0 [.int .i64 3,.int .i64 0,.str [],.os true 2 2 ever 0 (L.map Ent.val).length false,.ds true [] 0 true],.cells ever ((L.map Ent.val).flatMap encGEntry)]:=by
    simp only[tellS,qG,qx,hget hL.h2,hget hL.rep.t,hget hL.rep.e,YZ,YH,Xj,YI,wZ,wS,wP,qa,if_true,if_false,hcells,q2,qU,qC,qL,qd]
   have hrest:tell τ [2,3,4] false 12 (.os true 4 5 rver 0 rest.length false)=.ds true (rest.flatMap encGRaw) rest.length false:=by
    simp only[wZ,wS,wP,qa,if_false,hL.h5];rw[if_pos (by rw[hl4]; omega),qD,← hl4,uj,zE]
   have hmsg:tell τ [2,3,4] false 12 (.op 1 0 0)=.dp (encGMessage a1) 0:=by
    simp only[tell_op,wS,wP,qa,if_false,hL.h1,encGMessage,qG,qx,Xj,YI,zE,qU,qC,qL]
   have hk3:[2,3,4].Nodup:=by decide
   have hlt5:=Store.at_lt hL.h5;refine hZ _ _ ?_;refine yc (L:=[(5,.dp (encGMessage a1) 0),(8,.op 0 0 0),(12,.op 1 0 0),(13,.ds true (rest.flatMap encGRaw) rest.length false)]) (.told [2,3,4] false hk3 (by intro id hid'; simp at hid'; omega) rfl htS ⟨hmsg,rfl,rfl,hrest,trivial⟩) ?_
   refine rc [8,12,13] fun K hK=>?_
   refine zj tok 3 ?_;simp only[go_sem,qc,qa,qd,q2];have hdel:=DeleteFunc_at (σ:=[.cells 0 [.int .i64 0,.int .i64 0,.str [],.ds true [] 0 true,.ds true [] 0 true],.cells 0 [.int .i64 3,.int .i64 0,.str [],.os true 2 2 ever 0 L.length false,.ds true [] 0 true],.cells ever ((L.map Ent.val).flatMap encGEntry)]) (id:=2) (ver:=ever) (nl:=true) a1 (by simp only[Store.at_hd,Store.at_tl,if_true]) hes (by omega);rw[q2] at hdel;refine ww rfl rfl rfl hdel ?_;rintro _ _ ⟨cs,g',rfl,rfl⟩;refine zj tok 2 ?_;simp only[go_sem,qc,qe,qa,qd,qA,qz,uQ,uA];refine zb ?_;simp only[zt,upd,qa,reduceIte,yV,xz];apply hK
   clear hK K
   refine rc [8,12] fun K hK=>?_
   refine zj tok 1 ?_;simp only[go_sem,qc,qa];refine ww rfl rfl rfl (zI.ev rest rr hrr _) ?_;rintro _ _ ⟨rfl,hσ⟩
   rw[hσ]; clear hσ
   refine zj tok 2 ?_;simp only[go_sem,qc,qe,qa,qd,uQ,uA];refine zb ?_;simp only[zt,upd,qa,reduceIte,yV,xz];apply hK
   clear hK K
   refine rg tok [8,9] fun K hK=>?_
   simp only[go_sem,qc,qe,qa,qd,uQ,uA];apply hK
   clear hK K
   refine yw ?_;simp only[Zv,yP,yZ,xJ,exists_eq_left',go_sem,qe,qa,qd];have hle:(es'.flatMap encGEntry).length=es'.length*2:=zA E27.len es';simp only[tell_tup,qG,qx,tell_agg,YH,Xj,YI,wZ,wP,Store.at_hd,Store.at_tl,if_true,zE,cellsGTree,GTree.fKind,GTree.fN,GTree.fS,GTree.fEntries,GTree.fRest];rw[if_pos (by rw[qi,hle]; omega),qD,← hle,List.take_left,zE]
   rfl
 obtain⟨hz,hw,hx,hE',hi'⟩:=yd hE hi hb;refine zD rfl (fun _=>?_) (fun hc=>absurd (of_eq_true hz) hc);refine zd ?_;refine hY _ _ ?_
 clear hY Y
 refine za fun X hX=>?_
 have fin:∀ (F:Fr) (τ':Store) (L':List Ent) (rest':List GRaw) (ever' rver':Nat),Fits F [(3,AV.int .i64 a3),(4,.op 0 0 0),(5,.op 1 0 0),(8,.op 2 0 0),(9,.int .i64 0),(12,.op 3 0 0),(13,.os true 4 5 rver' 0 rest'.length false),(33,.ds true (qf encGRaw g.1) (qb g.1) false),(34,.int .i64 (qb g.1:Int)),(35,.int .i64 i)]→Loop τ' a0 a1 ever' rver' L' rest'→zr.l yF a0 a1 a3 q (L'.map Ent.val) rest'=some r→X F τ':=by
  intro F τ' L' rest' ever' rver' hF hL' h'
  refine hX _ _ (yc (.same hF rfl) ?_)
  refine rgE tok [3,4,5,8,9,12,13,33,34,35] fun K hK=>?_
  simp only[go_sem,qc,qa,hw];apply hK
  clear hK K
  simp only[zt];exact⟨q.length,_,_,by simp,⟨p++[y],q,i+1,L',rest',ever',rver',rfl,rfl,hL',hE',hi',h'⟩,.same ⟨rfl,rfl,rfl,rfl,rfl,rfl,rfl,rfl,rfl,rfl,trivial⟩ rfl⟩
 clear hX
 refine ze ?_;have hix:=E28.idxS hx;have hld:=E28.loadS rfl rfl hx
 have hae:∀ (τ:Store) cs,Store.at (τ++[.cells 0 cs]) τ.length 0=some cs:=fun τ cs=>X5 τ cs []
 have hse:∀ (τ:Store) cs cs',(τ++[Zo.cells 0 cs]).set τ.length (.cells 0 cs')=τ++[.cells 0 cs']:=fun τ cs cs'=>set_mid τ _ _ []
 refine rg tok [3,4,5,8,9,12,13,15,33,34,35] fun K hK=>?_
 simp only[go_sem,qc,qe,qa,qd,hix,hld,encGRaw,hae,hse,qk,qn,uA,uQ];apply hK
 clear hK K
 simp only[zr.l] at h;obtain⟨f,hf,h⟩:=zR h;have hL1:=hL.app [.cells 0 [.int .i64 y.fTag,.int .i64 y.fWire,.int .i64 y.fN,.str y.fB]];have hr1:=X5 τ [.int .i64 y.fTag,.int .i64 y.fWire,.int .i64 y.fN,.str y.fB] []
 generalize τ.length=k1 at *
 generalize τ++[.cells 0 [.int .i64 y.fTag,.int .i64 y.fWire,.int .i64 y.fN,.str y.fB]]=τ1 at *
 have hm1:=hL1.h1;have hs1:=hL1.h0;simp only[encGMessage] at hm1;simp only[encGSchema] at hs1
 refine rc [3,4,5,8,9,12,13,15,16,17,33,34,35] fun K hK=>?_
 refine zj tok 3 ?_;simp only[go_sem,qc,qe,qa,qd,hm1,hr1,qk,qn];refine ww rfl rfl rfl (zf.ev a1 y.fTag f hf _) ?_;rintro _ _ ⟨rfl,hσ⟩
 rw[hσ]; clear hσ
 refine zj tok 6 ?_;simp only[go_sem,qc,qe,qa,qd,encGField,hae,hse,qk,qn,uA,uQ];refine zb ?_;simp only[zt,upd,qa,reduceIte,yV,xz];apply hK
 clear hK K
 have hL2:=hL1.app [.cells 0 [.str f.1.fName,.int .i64 f.1.fTag,.int .i64 f.1.fLabel,.int .i64 f.1.fType.fKind,.str f.1.fType.fName]];have hr2:=xS hr1 [.cells 0 [.str f.1.fName,.int .i64 f.1.fTag,.int .i64 f.1.fLabel,.int .i64 f.1.fType.fKind,.str f.1.fType.fName]];have hm2:=xS hs1 [.cells 0 [.str f.1.fName,.int .i64 f.1.fTag,.int .i64 f.1.fLabel,.int .i64 f.1.fType.fKind,.str f.1.fType.fName]];have hf2:=X5 τ1 [.str f.1.fName,.int .i64 f.1.fTag,.int .i64 f.1.fLabel,.int .i64 f.1.fType.fKind,.str f.1.fType.fName] []
 clear hm1 hs1 hr1
 generalize τ1.length=k2 at *
 generalize τ1++[.cells 0 [.str f.1.fName,.int .i64 f.1.fTag,.int .i64 f.1.fLabel,.int .i64 f.1.fType.fKind,.str f.1.fType.fName]]=τ2 at *
 refine za fun Y hY=>?_
 refine rg tok [3,4,5,8,9,12,13,15,16,17,33,34,35,47] fun K hK=>?_
 simp only[go_sem,qc,qa];apply hK
 clear hK K
 have hb2:∀ (b:Bool),(!b)=true→b=false:=by decide
 refine zn (b := !f.2) rfl (fun hc3=>?_) (fun hc3=>?_)
 · have hc4:f.2=false:=by simpa using hc3
   rw[xD hc4] at h;obtain⟨u,hu,h⟩:=bind_some h;have hrm:=yA hu;have hL5:=hL2.h5;have hl4:(rest.flatMap encGRaw).length=rest.length*4:=zA E28.len rest
   refine rg tok [3,4,5,8,9,12,13,33,34,35] fun K hK=>?_
   have hlit:=X5 τ2 [.int .i64 y.fTag,.int .i64 y.fWire,.int .i64 y.fN,.str y.fB] [];have hat5:=xS hL5 [.cells 0 [.int .i64 y.fTag,.int .i64 y.fWire,.int .i64 y.fN,.str y.fB]]
   have hap:ym tab 28 28 (.os true 4 5 rver 0 rest.length false) (.os true 4 τ2.length 0 0 1 true) (τ2++[.cells 0 [.int .i64 y.fTag,.int .i64 y.fWire,.int .i64 y.fN,.str y.fB]])=
    some (.os true 4 5 (rver+1) 0 (rest.length+1) false,List.set (τ2++[.cells 0 [.int .i64 y.fTag,.int .i64 y.fWire,.int .i64 y.fN,.str y.fB]]) 5 (.cells (rver+1) (rest.flatMap encGRaw++[.int .i64 y.fTag,.int .i64 y.fWire,.int .i64 y.fN,.str y.fB]))):=by
    have e1:ya (τ2++[.cells 0 [.int .i64 y.fTag,.int .i64 y.fWire,.int .i64 y.fN,.str y.fB]]) 4 (.os true 4 τ2.length 0 0 1 true)=some (1,[.int .i64 y.fTag,.int .i64 y.fWire,.int .i64 y.fN,.str y.fB]):=by
     simp only[ya,hlit]; simp
    simp only[ym,tab_28,tab_62,e1,yp,zW,hat5,hl4,hrm]
    simp[AV.one]
   simp only[go_sem,qc,qe,qa,qd,ql,hr2,zQ,z6,ug,q7,true_and,ul,qk,qn,hap];apply hK
   clear hK K
   refine zJ ?_;simp only[go_sem,reduceCtorEq]
   have hLs:Loop (List.set (τ2++[.cells 0 [.int .i64 y.fTag,.int .i64 y.fWire,.int .i64 y.fN,.str y.fB]]) 5 (.cells (rver+1) (rest.flatMap encGRaw++[.int .i64 y.fTag,.int .i64 y.fWire,.int .i64 y.fN,.str y.fB]))) a0 a1 ever (rver+1) L (rest++[y]):=by
    have hL3:=hL2.app [.cells 0 [.int .i64 y.fTag,.int .i64 y.fWire,.int .i64 y.fN,.str y.fB]];refine⟨xA hL3.h0 (by decide) _,xA hL3.h1 (by decide) _,xA hL3.h2 (by decide) _,hL3.rep.set_ne (fun hm=>?_) _,?_,hL3.ids⟩
    · simp only[qJ,uz] at hm
      rcases hm with h|h|⟨z,hz,h⟩
      · cases h
      · cases h
      have:=hL3.ids z hz; omega
    rw[Store.at_set hL3.h5,qI]
    simp[encGRaw]
   exact fin _ _ L (rest++[y]) ever (rver+1) ⟨rfl,rfl,rfl,rfl,rfl,rfl,by rw[qi]; rfl,rfl,rfl,rfl,trivial⟩ hLs h
 have hc4:f.2=true:=by simpa using hc3
 rw[if_pos hc4] at h;refine zd ?_;refine hY _ _ ?_
 clear hY Y
 obtain⟨x,hx1,h⟩:=bind_some h;have hty:AV.agg (encGType f.1.fType)=.agg [.int .i64 f.1.fType.fKind,.str f.1.fType.fName]:=rfl
 refine rc [3,4,5,8,9,12,13,16,18,19,33,34,35] fun K hK=>?_
 refine zj tok 5 ?_;simp only[go_sem,qc,qe,qa,qd,hm2,hr2,hf2,qk,qn,List.drop_succ_cons,qD,List.take_succ_cons,List.take_zero];refine ww rfl rfl rfl (ev_one a0 f.1.fType y a3 x hx1 _) ?_;rintro _ _ ⟨rfl,hσ⟩
 rw[hσ]; clear hσ
 refine zj tok 6 ?_;simp only[go_sem,qc,qe,qa,qd,cellsGTree,hae,hse,qk,qn,uA,uQ];refine zb ?_;simp only[zt,upd,qa,reduceIte,yV,xz];apply hK
 clear hK K hr2 hm2
 obtain⟨xc,hxc⟩:∃ xc,xc=[AV.int .i64 x.1.fKind,.int .i64 x.1.fN,.str x.1.fS,.ds true (qf encGEntry x.1.fEntries) x.1.fEntries.length false,.ds true (qf encGRaw x.1.fRest) x.1.fRest.length false]:=⟨_,rfl⟩
 rw[← hxc];have hL3:=hL2.app [.cells 0 xc];have hf3:=xS hf2 [.cells 0 xc];have hx3:=X5 τ2 xc []
 clear hf2 hL2
 generalize τ2.length=k3 at *
 generalize τ2++[.cells 0 xc]=τ3 at *
 subst hxc
 refine za fun Y hY=>?_
 refine rg tok [3,4,5,8,9,12,13,16,18,19,33,34,35,62] fun K hK=>?_
 simp only[go_sem,qc,qa];apply hK
 clear hK K
 have h23:=hL3.h2;have h24:=Store.at_set (ver':=0) (cs':=[.int .i64 0,.int .i64 0,.str [],.ds true [] 0 true,.ds true [] 0 true]) h23;refine zD rfl (fun hc5=>?_) (fun hc5=>?_)
 · rw[if_neg hc5] at h;obtain rfl:=Option.some.inj h
   refine rg tok [8,9] fun K hK=>?_
   simp only[go_sem,qc,qe,qa,qd,h23,qk,qn,uA,uQ];apply hK
   clear hK K
   refine yw ?_;simp only[vbM,Zv,yP,yZ,xJ,exists_eq_left',go_sem,qe,qa,qd,h24,qk,qn];exact XJ
 rw[if_pos hc5] at h;obtain⟨pp,hp,h⟩:=bind_some h;refine zd ?_;refine hY _ _ ?_
 clear hY Y
 refine rc [3,4,5,8,9,12,13,33,34,35,68] fun K hK=>?_
 refine zj tok 2 ?_;simp only[go_sem,qc,qe,qa,qd,hf3,hx3,qk,qn];refine ww rfl rfl rfl (put_at hL3.rep f.1 x.1 (es':=pp.1) (b:=pp.2) hp) ?_;rintro _ τ4 ⟨ever',L',rfl,hR4,he4,hid4,hle4,hfr4⟩;refine zj tok 1 ?_;simp only[go_sem,qc,qa];refine zb ?_;simp only[zt,upd,qa,reduceIte,yV,xz];apply hK
 clear hK K
 have hkeep:∀ {j v:Nat} {cs:List AV},Store.at τ3 j v=some cs→j<6→j≠3→j≠4→Store.at τ4 j v=some cs:=by
  intro j v cs hj h6 h3 h4
  have hlt:=Store.at_lt hj;unfold Store.at at hj ⊢;rw[hfr4 j hlt (fun hm=>?_)]
  · exact hj
  simp only[qJ,uz] at hm
  rcases hm with h|h|⟨z,hz,h⟩
  · exact h3 h
  · exact h4 h
  have:=hL3.ids z hz; omega
 have h45:6≤τ3.length:=by
  have:=Store.at_lt hL3.h5; omega
 have hL4:Loop τ4 a0 a1 ever' rver L' rest:=by
  refine⟨hkeep hL3.h0 (by decide) (by decide) (by decide),hkeep hL3.h1 (by decide) (by decide) (by decide),hkeep hL3.h2 (by decide) (by decide) (by decide),hR4,hkeep hL3.h5 (by decide) (by decide) (by decide),fun z hz=>?_⟩
  rcases hid4 z hz with h|h
  · obtain⟨w,hw,h'⟩:=uz.1 h
    have:=hL3.ids w hw; omega
  omega
 have h43:=hL4.h2;have h44:=Store.at_set (ver':=0) (cs':=[.int .i64 0,.int .i64 0,.str [],.ds true [] 0 true,.ds true [] 0 true]) h43;refine zn (b := !pp.2) rfl (fun hc6=>?_) (fun hc6=>?_)
 · have hc7:pp.2=false:=by simpa using hc6
   rw[xD hc7] at h;obtain rfl:=Option.some.inj h
   refine rg tok [8,9] fun K hK=>?_
   simp only[go_sem,qc,qe,qa,qd,h43,qk,qn,uA,uQ];apply hK
   clear hK K
   refine yw ?_;simp only[vbM,Zv,yP,yZ,xJ,exists_eq_left',go_sem,qe,qa,qd,h44,qk,qn];exact XJ
 have hc7:pp.2=true:=by simpa using hc6
 rw[if_pos hc7] at h;refine zd ?_;simp only[ZE,zt];exact fin _ _ L' rest ever' rver ⟨rfl,rfl,rfl,rfl,rfl,rfl,rfl,rfl,rfl,rfl,trivial⟩ hL4 (by rw[he4]; exact h)
end
section
set_option maxRecDepth 8000
open Go.RowKit AM
mutual
def zr : Nat→GSchema→GMessage→List UInt8→Int→Option (GTree×Int)
 |0,_,_,_,_=>none
 |k+1,a0,a1,a2,a3=>zr.body (zr k) (zM k) a0 a1 a2 a3
def zM : Nat→GSchema→GType→GRaw→Int→Option (GTree×Int)
 |0,_,_,_,_=>none
 |k+1,a0,a1,a2,a3=>zM.body (zr k) (zM k) a0 a1 a2 a3
end
theorem zr.all (k:Nat):
 (∀ (a0:GSchema) (a1:GMessage) (a2:List UInt8) (a3:Int) (r:GTree×Int),zr k a0 a1 a2 a3=some r→ACalls qh 41 [.agg (encGSchema a0),.agg (encGMessage a1),.ds true (qf encB a2) (qb a2) false,.int .i64 a3] [] (fun r' _=>r'=.tup [.agg (cellsGTree r.1),.int .i64 r.2]))∧
 (∀ (a0:GSchema) (a1:GType) (a2:GRaw) (a3:Int) (r:GTree×Int),zM k a0 a1 a2 a3=some r→ACalls qh 66 [.agg (encGSchema a0),.agg (encGType a1),.agg (encGRaw a2),.int .i64 a3] [] (fun r' _=>r'=.tup [.agg (cellsGTree r.1),.int .i64 r.2])):=by
 induction k with
 |zero=>exact⟨fun a0 a1 a2 a3 r h=>(by simp only[zr] at h; cases h),fun a0 a1 a2 a3 r h=>(by simp only[zM] at h; cases h)⟩
 |succ k ih=>
  exact⟨fun a0 a1 a2 a3 r h=>zr.step (zr k) (zM k) ih.2 a0 a1 a2 a3 r (by simpa only [zr] using h),
   fun a0 a1 a2 a3 r h=>zM.step (zr k) (zM k) ih.1 ih.2 a0 a1 a2 a3 r (by simpa only [zM] using h)⟩
theorem zr.ok (k:Nat)(a0:GSchema)(a1:GMessage)(a2:List UInt8)(a3:Int)(r:GTree×Int)(h:zr k a0 a1 a2 a3=some r):ACalls qh 41 [.agg (encGSchema a0),.agg (encGMessage a1),.ds true (qf encB a2) (qb a2) false,.int .i64 a3] [] (fun r' _=>r'=.tup [.agg (cellsGTree r.1),.int .i64 r.2]):=
 (zr.all k).1 a0 a1 a2 a3 r h
theorem zr.ev (k:Nat)(a0:GSchema)(a1:GMessage)(a2:List UInt8)(a3:Int)(r:GTree×Int)(h:zr k a0 a1 a2 a3=some r)(σ:Store):ACalls qh 41 [.agg (encGSchema a0),.agg (encGMessage a1),.ds true (qf encB a2) (qb a2) false,.int .i64 a3] σ (fun r' σ'=>r'=.tup [.agg (cellsGTree r.1),.int .i64 r.2]∧σ'=σ):=
 (zr.ok k a0 a1 a2 a3 r h).pureAt (by simp only[AV.canon,canonL,canon_all,qX,qC,qO,encGMessage,encGSchema]) (by simp only[AV.canon,canonL,canon_all,qX,qC,qO,cellsGTree]) σ
end
section
set_option maxRecDepth 4000
set_option maxHeartbeats 1000000
open AM
def wJ (a0:List UInt8)(a1:Int):Option Int:=
 (if (qb a0:Int)≤a1 then some true else (wV a0 a1).bind fun b2=>some (decide ((b2.toNat:Int)<128))).bind fun c2=>(if c2=true then some true else (wV a0 a1).bind fun b7=>some (decide (191<(b7.toNat:Int)))).bind fun c7=>(if c7=true then some (-1) else (wV a0 a1).bind fun b11=>some (IntKind.i64.wrap ((IntKind.i64.wrap (b11.toNat:Int))-128)))
theorem wJ.ok (a0:List UInt8)(a1:Int)(r:Int)(h:wJ a0 a1=some r):ACalls qh 146 [.str a0,.int .i64 a1] [] (fun r' _=>r'=.int .i64 r):=by
 refine zi (rs:=[.tmp 4]) tok Tryz.func146 rfl Tryz.ntmps146 rfl Tryz.call146 (by simp) ?_;refine zm [(0,.str a0),(1,.int .i64 a1)] ⟨rfl,rfl,trivial⟩ ?_;unfold wJ at h;refine rgN [0,1] ?_
 refine za fun Z1 hZ1=>?_
 refine rc [0,1,20] fun K hK=>?_
 refine rnN 5 ?_;obtain⟨c2,hc2,h⟩:=bind_some h;refine zh 5 (fun L τ=>L=[(0,.str a0),(1,.int .i64 a1),(14,.bool c2)]∧τ=[]) ?_ ?_
 · refine yx 9 rfl (fun hg9=>?_) (fun hg9=>?_)
   · have t3:=eq_true hg9;rw[if_pos hg9] at hc2;refine rnN 5 ?_;cases hc2;refine zb ⟨rfl,_,_,⟨rfl,rfl⟩,.p t3⟩
   have t4:=eq_false hg9;rw[if_neg hg9] at hc2;obtain⟨b5,hb5,hc2⟩:=bind_some hc2;have f6:=idx_str (T:=tab) (t:=9) rfl rfl hb5;refine zj tok 5 ?_;simp only[go_sem,qc,qa,reduceCtorEq,f6];cases hc2;refine zb ⟨rfl,_,_,⟨rfl,rfl⟩,.p t4⟩
 rintro _ _ ⟨rfl,rfl⟩;refine rnN 1 ?_;obtain⟨c7,hc7,h⟩:=bind_some h;refine zh 5 (fun L τ=>L=[(0,.str a0),(1,.int .i64 a1),(20,.bool c7)]∧τ=[]) ?_ ?_
 · refine zK (b:=c2) 15 rfl (fun hg15=>?_) (fun hg15=>?_)
   · rw[if_pos hg15] at hc7;refine rnN 5 ?_;cases hc7;refine zb ⟨rfl,_,_,⟨rfl,rfl⟩,.b hg15⟩
   rw[xD hg15] at hc7;obtain⟨b8,hb8,hc7⟩:=bind_some hc7;have f9:=idx_str (T:=tab) (t:=9) rfl rfl hb8;refine zj tok 5 ?_;simp only[go_sem,qc,qa,reduceCtorEq,f9];cases hc7;refine zb ⟨rfl,_,_,⟨rfl,rfl⟩,.b hg15⟩
 rintro _ _ ⟨rfl,rfl⟩;refine nkN hK ?_;refine zn (b:=c7) rfl (fun hc10=>?_) (fun hc10=>?_)
 · rw[if_pos hc10] at h;refine rgN [4] ?_;cases h;exact rtA
 rw[xD hc10] at h;apply zd;apply hZ1;obtain⟨b11,hb11,h⟩:=bind_some h;have f12:=idx_str (T:=tab) (t:=9) rfl rfl hb11;have f13:=xF (T:=tab) (src:=5) (dst:=3) rfl rfl rfl
 refine rg tok [4] fun K hK=>?_
 simp only[go_sem,qc,qa,reduceCtorEq,f12,f13];apply hK
 cases h;exact rtA
theorem wJ.ev (a0:List UInt8)(a1:Int)(r:Int)(h:wJ a0 a1=some r)(σ:Store):ACalls qh 146 [.str a0,.int .i64 a1] σ (fun r' σ'=>r'=.int .i64 r∧σ'=σ):=
 (wJ.ok a0 a1 r h).c σ
def yi.l17 (a0:List UInt8)(a1:Int)(x8:Int)(x10:Int):Nat→Int→Int→Option (Int×Int×Bool)
 |0,_,_=>none
 |k17+1,x13,x14=>(if x14<x8 then (wJ a0 (IntKind.i64.wrap (a1+x14))).bind fun r22=>(if r22<0 then some (0,0,false) else ((yi.l17 a0 a1 x8 x10 k17) (IntKind.i64.wrap ((IntKind.i64.wrap (64*x13))+r22)) (IntKind.i64.wrap (x14+1)))) else (if (((decide (x13<x10))||(decide (1114111<x13)))||((decide (55296≤x13))&&(decide (x13≤57343))))=true then some (0,0,false) else some (IntKind.i32.wrap x13,x8,true)))
def yi.j11 (a0:List UInt8)(a1:Int)(x8:Int)(x9:Int)(x10:Int):Option (Int×Int×Bool):=
 (yi.l17 a0 a1 x8 x10 rounds x9 1)
def yi (a0:List UInt8)(a1:Int):Option (Int×Int×Bool):=
 (if ((decide (a1<0))||(decide ((qb a0:Int)≤a1)))=true then some (0,0,false) else (wV a0 a1).bind fun b5=>(if IntKind.i64.wrap (b5.toNat:Int)<128 then some (IntKind.i32.wrap (IntKind.i64.wrap (b5.toNat:Int)),1,true) else (if ((decide (192≤IntKind.i64.wrap (b5.toNat:Int)))&&(decide (IntKind.i64.wrap (b5.toNat:Int)<224)))=true then (yi.j11 a0 a1 2 (IntKind.i64.wrap ((IntKind.i64.wrap (b5.toNat:Int))-192)) 128) else (if ((decide (224≤IntKind.i64.wrap (b5.toNat:Int)))&&(decide (IntKind.i64.wrap (b5.toNat:Int)<240)))=true then (yi.j11 a0 a1 3 (IntKind.i64.wrap ((IntKind.i64.wrap (b5.toNat:Int))-224)) 2048) else (if ((decide (240≤IntKind.i64.wrap (b5.toNat:Int)))&&(decide (IntKind.i64.wrap (b5.toNat:Int)<248)))=true then (yi.j11 a0 a1 4 (IntKind.i64.wrap ((IntKind.i64.wrap (b5.toNat:Int))-240)) 65536) else some (0,0,false))))))
theorem yi.ok (a0:List UInt8)(a1:Int)(r:Int×Int×Bool)(h:yi a0 a1=some r):ACalls qh 120 [.str a0,.int .i64 a1] [] (fun r' _=>r'=.tup [.int .i32 r.1,.int .i64 r.2.1,.bool r.2.2]):=by
 refine zi (rs:=[.tmp 4,.tmp 5,.tmp 6]) tok Tryz.func120 rfl Tryz.ntmps120 rfl Tryz.call120 (by simp) ?_;refine zm [(0,.str a0),(1,.int .i64 a1)] ⟨rfl,rfl,trivial⟩ ?_;unfold yi at h;refine rgN [0,1] ?_
 refine za fun Z1 hZ1=>?_
 refine rc [0,1,20] fun K hK=>?_
 refine rnN 3 ?_;refine zh 5 (fun L τ=>L=[(0,.str a0),(1,.int .i64 a1),(20,.bool ((decide (a1<0))||(decide ((qb a0:Int)≤a1))))]∧τ=[]) ?_ ?_
 · refine yx 15 rfl (fun hg15=>?_) (fun hg15=>?_)
   · have t2:=eq_true hg15;refine rnN 5 ?_;refine zb ⟨rfl,_,_,⟨rfl,rfl⟩,.p t2⟩
   have t3:=eq_false hg15;refine rnN 5 ?_;refine zb ⟨rfl,_,_,⟨rfl,rfl⟩,.p t3⟩
 rintro _ _ ⟨rfl,rfl⟩;refine nkN hK ?_;refine zn (b:=((decide (a1<0))||(decide ((qb a0:Int)≤a1)))) rfl (fun hc4=>?_) (fun hc4=>?_)
 · rw[if_pos hc4] at h;refine rgN [4,5,6] ?_;cases h;exact rtA
 rw[xD hc4] at h;apply zd;apply hZ1;obtain⟨b5,hb5,h⟩:=bind_some h;have f6:=idx_str (T:=tab) (t:=9) rfl rfl hb5;have f7:=xF (T:=tab) (src:=5) (dst:=3) rfl rfl rfl
 refine rg tok [0,1,7] fun K hK=>?_
 simp only[go_sem,qc,qa,reduceCtorEq,f6,f7];apply hK
 refine rgN [0,1,7] ?_;refine xG (fun L τ=>∃ (x8:Int) (x9:Int) (x10:Int),L=[(0,.str a0),(1,.int .i64 a1),(8,.int .i64 x8),(9,.int .i64 x9),(10,.int .i64 x10)]∧τ=[]∧yi.j11 a0 a1 x8 x9 x10=some r) ?_ ?_
 · apply ze;refine rgN [0,1,7,26] ?_;refine zD rfl (fun hc35=>?_) (fun hc35=>?_)
   · rw[if_pos hc35] at h;have t36:=eq_true hc35;have f37:=xF (T:=tab) (src:=3) (dst:=21) rfl rfl rfl
     refine rg tok [4,5,6] fun K hK=>?_
     simp only[go_sem,qc,qa,reduceCtorEq,t36,f37];apply hK
     cases h;exact rtA
   rw[if_neg hc35] at h;have t38:=eq_false hc35
   refine rc [0,1,7,31] fun K hK=>?_
   refine zj tok 3 ?_;simp only[go_sem,qc,qa,reduceCtorEq,t38];refine zh 3 (fun L τ=>L=[(0,.str a0),(1,.int .i64 a1),(7,.int .i64 (IntKind.i64.wrap (b5.toNat:Int))),(37,.bool ((decide (192≤IntKind.i64.wrap (b5.toNat:Int)))&&(decide (IntKind.i64.wrap (b5.toNat:Int)<224))))]∧τ=[]) ?_ ?_
   · refine yx 34 rfl (fun hg34=>?_) (fun hg34=>?_)
     · have t39:=eq_true hg34;refine rnN 3 ?_;refine zb ⟨rfl,_,_,⟨rfl,rfl⟩,.p t39⟩
     have t40:=eq_false hg34;refine rnN 3 ?_;refine zb ⟨rfl,_,_,⟨rfl,rfl⟩,.p t40⟩
   rintro _ _ ⟨rfl,rfl⟩;refine rnN 1 ?_;refine nkN hK ?_;refine zn (b:=((decide (192≤IntKind.i64.wrap (b5.toNat:Int)))&&(decide (IntKind.i64.wrap (b5.toNat:Int)<224)))) rfl (fun hc41=>?_) (fun hc41=>?_)
   · rw[if_pos hc41] at h
     refine rgE tok [0,1,8,9,10] fun K hK=>?_
     simp only[go_sem,qc,qa,reduceCtorEq];apply hK
     exact⟨_,_,⟨2,IntKind.i64.wrap ((IntKind.i64.wrap (b5.toNat:Int))-192),128,rfl,rfl,h⟩,.s⟩
   rw[xD hc41] at h
   refine rc [0,1,7,40] fun K hK=>?_
   refine rnN 3 ?_;refine zh 3 (fun L τ=>L=[(0,.str a0),(1,.int .i64 a1),(7,.int .i64 (IntKind.i64.wrap (b5.toNat:Int))),(46,.bool ((decide (224≤IntKind.i64.wrap (b5.toNat:Int)))&&(decide (IntKind.i64.wrap (b5.toNat:Int)<240))))]∧τ=[]) ?_ ?_
   · refine yx 43 rfl (fun hg43=>?_) (fun hg43=>?_)
     · have t42:=eq_true hg43;refine rnN 3 ?_;refine zb ⟨rfl,_,_,⟨rfl,rfl⟩,.p t42⟩
     have t43:=eq_false hg43;refine rnN 3 ?_;refine zb ⟨rfl,_,_,⟨rfl,rfl⟩,.p t43⟩
   rintro _ _ ⟨rfl,rfl⟩;refine rnN 1 ?_;refine nkN hK ?_;refine zn (b:=((decide (224≤IntKind.i64.wrap (b5.toNat:Int)))&&(decide (IntKind.i64.wrap (b5.toNat:Int)<240)))) rfl (fun hc44=>?_) (fun hc44=>?_)
   · rw[if_pos hc44] at h
     refine rgE tok [0,1,8,9,10] fun K hK=>?_
     simp only[go_sem,qc,qa,reduceCtorEq];apply hK
     exact⟨_,_,⟨3,IntKind.i64.wrap ((IntKind.i64.wrap (b5.toNat:Int))-224),2048,rfl,rfl,h⟩,.s⟩
   rw[xD hc44] at h
   refine rc [0,1,7,49] fun K hK=>?_
   refine rnN 3 ?_;refine zh 3 (fun L τ=>L=[(0,.str a0),(1,.int .i64 a1),(7,.int .i64 (IntKind.i64.wrap (b5.toNat:Int))),(55,.bool ((decide (240≤IntKind.i64.wrap (b5.toNat:Int)))&&(decide (IntKind.i64.wrap (b5.toNat:Int)<248))))]∧τ=[]) ?_ ?_
   · refine yx 52 rfl (fun hg52=>?_) (fun hg52=>?_)
     · have t45:=eq_true hg52;refine rnN 3 ?_;refine zb ⟨rfl,_,_,⟨rfl,rfl⟩,.p t45⟩
     have t46:=eq_false hg52;refine rnN 3 ?_;refine zb ⟨rfl,_,_,⟨rfl,rfl⟩,.p t46⟩
   rintro _ _ ⟨rfl,rfl⟩;refine rnN 1 ?_;refine nkN hK ?_;refine zn (b:=((decide (240≤IntKind.i64.wrap (b5.toNat:Int)))&&(decide (IntKind.i64.wrap (b5.toNat:Int)<248)))) rfl (fun hc47=>?_) (fun hc47=>?_)
   · rw[if_pos hc47] at h
     refine rgE tok [0,1,8,9,10] fun K hK=>?_
     simp only[go_sem,qc,qa,reduceCtorEq];apply hK
     exact⟨_,_,⟨4,IntKind.i64.wrap ((IntKind.i64.wrap (b5.toNat:Int))-240),65536,rfl,rfl,h⟩,.s⟩
   rw[xD hc47] at h;refine rgN [4,5,6] ?_;cases h;exact rtA
 rintro _ _ ⟨x8,x9,x10,rfl,rfl,h⟩;unfold yi.j11 at h
 refine za fun Z12 hZ12=>?_
 refine rgN [0,1,8,9,10,11] ?_;apply ze;refine zC (fun m L τ=>∃ (k17:Nat) (x13:Int) (x14:Int),m=0+k17∧L=[(0,.str a0),(1,.int .i64 a1),(8,.int .i64 x8),(9,.int .i64 x13),(10,.int .i64 x10),(11,.int .i64 x14)]∧τ=[]∧yi.l17 a0 a1 x8 x10 k17 x13 x14=some r) _ ⟨rounds,x9,1,rfl,rfl,rfl,h⟩ .s ?_;rintro m L τ ⟨k17,x13,x14,rfl,rfl,rfl,h⟩
 rcases k17 with _|k17
 · cases h
 simp only[yi.l17] at h
 refine za fun Z18 hZ18=>?_
 refine rgN [0,1,8,9,10,11,60] ?_;refine zD rfl (fun hc19=>?_) (fun hc19=>?_)
 · rw[if_pos hc19] at h;have t20:=eq_true hc19;apply zd;apply hZ18
   refine za fun Z21 hZ21=>?_
   apply ze
   refine rc [0,1,8,9,10,11,12] fun K hK=>?_
   obtain⟨r22,hr22,h⟩:=bind_some h;refine zj tok 4 ?_;simp only[go_sem,qc,qa,reduceCtorEq,t20];refine clN rfl rfl rfl (wJ.ev a0 (IntKind.i64.wrap (a1+x14)) r22 hr22 _) ?_;refine rnN 1 ?_;refine nkN hK ?_
   refine za fun Z23 hZ23=>?_
   refine rgN [0,1,8,9,10,11,12,69] ?_;refine zD rfl (fun hc24=>?_) (fun hc24=>?_)
   · rw[if_pos hc24] at h;have t25:=eq_true hc24
     refine rg tok [4,5,6] fun K hK=>?_
     simp only[go_sem,qc,qa,reduceCtorEq,t25];apply hK
     cases h;exact rtA
   rw[if_neg hc24] at h;have t26:=eq_false hc24;apply zd;apply hZ23
   refine rgE tok [0,1,8,9,10,11] fun K hK=>?_
   simp only[go_sem,qc,qa,reduceCtorEq,t26];apply hK
   apply hZ21
   refine rgE tok [0,1,8,9,10,11] fun K hK=>?_
   simp only[go_sem,qc,qa,reduceCtorEq];apply hK
   exact⟨_,_,_,qy (0+k17),⟨k17,IntKind.i64.wrap ((IntKind.i64.wrap (64*x13))+r22),IntKind.i64.wrap (x14+1),rfl,rfl,rfl,h⟩,.s⟩
 rw[if_neg hc19] at h;have t27:=eq_false hc19;apply zJ;apply hZ12
 refine za fun Z28 hZ28=>?_
 refine rc [8,9,88] fun K hK=>?_
 refine zj tok 4 ?_;simp only[go_sem,qc,qa,reduceCtorEq,t27];refine zh 3 (fun L τ=>L=[(8,.int .i64 x8),(9,.int .i64 x13),(80,.bool ((decide (x13<x10))||(decide (1114111<x13))))]∧τ=[]) ?_ ?_
 · refine yx 77 rfl (fun hg77=>?_) (fun hg77=>?_)
   · have t29:=eq_true hg77;refine rnN 3 ?_;refine zb ⟨rfl,_,_,⟨rfl,rfl⟩,.p t29⟩
   have t30:=eq_false hg77;refine rnN 3 ?_;refine zb ⟨rfl,_,_,⟨rfl,rfl⟩,.p t30⟩
 rintro _ _ ⟨rfl,rfl⟩;refine rnN 1 ?_;refine zh 7 (fun L τ=>L=[(8,.int .i64 x8),(9,.int .i64 x13),(88,.bool (((decide (x13<x10))||(decide (1114111<x13)))||((decide (55296≤x13))&&(decide (x13≤57343)))))]∧τ=[]) ?_ ?_
 · refine zK (b:=((decide (x13<x10))||(decide (1114111<x13)))) 81 rfl (fun hg81=>?_) (fun hg81=>?_)
   · refine rnN 7 ?_;refine zb ⟨rfl,_,_,⟨rfl,rfl⟩,.b hg81⟩
   refine rnN 3 ?_;refine zh 3 (fun L τ=>L=[(8,.int .i64 x8),(9,.int .i64 x13),(81,.bool false),(87,.bool ((decide (55296≤x13))&&(decide (x13≤57343))))]∧τ=[]) ?_ ?_
   · refine yx 84 rfl (fun hg84=>?_) (fun hg84=>?_)
     · have t31:=eq_true hg84;refine rnN 3 ?_;refine zb ⟨rfl,_,_,⟨rfl,rfl⟩,.p t31⟩
     have t32:=eq_false hg84;refine rnN 3 ?_;refine zb ⟨rfl,_,_,⟨rfl,rfl⟩,.p t32⟩
   rintro _ _ ⟨rfl,rfl⟩;refine rnN 1 ?_;refine zb ⟨rfl,_,_,⟨rfl,rfl⟩,.b hg81⟩
 rintro _ _ ⟨rfl,rfl⟩;refine nkN hK ?_;refine zn (b:=(((decide (x13<x10))||(decide (1114111<x13)))||((decide (55296≤x13))&&(decide (x13≤57343))))) rfl (fun hc33=>?_) (fun hc33=>?_)
 · rw[if_pos hc33] at h;refine rgN [4,5,6] ?_;cases h;exact rtA
 rw[xD hc33] at h;apply zd;apply hZ28;have f34:=xF (T:=tab) (src:=3) (dst:=21) rfl rfl rfl
 refine rg tok [4,5,6] fun K hK=>?_
 simp only[go_sem,qc,qa,f34];apply hK
 cases h;exact rtA
theorem yi.ev (a0:List UInt8)(a1:Int)(r:Int×Int×Bool)(h:yi a0 a1=some r)(σ:Store):ACalls qh 120 [.str a0,.int .i64 a1] σ (fun r' σ'=>r'=.tup [.int .i32 r.1,.int .i64 r.2.1,.bool r.2.2]∧σ'=σ):=
 (yi.ok a0 a1 r h).c σ
def xH.l8 (a0:List UInt8):Nat→List Int→Int→Option (List Int×Bool)
 |0,_,_=>none
 |k8+1,l2,x4=>(if x4<(qb a0:Int) then (yi a0 x4).bind fun r12=>(if (!r12.2.2)=true then some (([]:List Int),false) else (Y5 (qb l2+1) 4).bind fun _u15=>((xH.l8 a0 k8) (l2++[r12.1]) (IntKind.i64.wrap (x4+r12.2.1)))) else some (l2,true))
def xH (a0:List UInt8):Option (List Int×Bool):=
 (xH.l8 a0 rounds ([]:List Int) 0)
theorem xH.ok (a0:List UInt8)(r:List Int×Bool)(h:xH a0=some r):ACalls qh 78 [.str a0] [] (fun r' _=>r'=.tup [.ds true (qf (vas .i32) r.1) (qb r.1) false,.bool r.2]):=by
 refine zi (rs:=[.tmp 2,.tmp 3]) tok Tryz.func78 rfl Tryz.ntmps78 rfl Tryz.call78 (by simp) ?_;refine zm [(0,.str a0)] ⟨rfl,trivial⟩ ?_;unfold xH at h;refine rgN [0] ?_;refine rgN [0,4] ?_;refine Zw 4 1 rfl ?_;refine yc (L:=[(0,.str a0),(4,.os true 1 0 0 0 (qb ([]:List Int)) false)]) (τ:=[.cells 0 (qf (vas .i32) ([]:List Int))]) .s ?_
 refine za fun Z1 hZ1=>?_
 refine rgN [0,4,5] ?_;apply ze;refine zC (fun m L τ=>∃ (k8:Nat) (l2:List Int) (x4:Int) (v3:Nat),m=0+k8∧L=[(0,.str a0),(4,.os true 1 0 v3 0 (qb l2) false),(5,.int .i64 x4)]∧τ=[.cells v3 (qf (vas .i32) l2)]∧xH.l8 a0 k8 l2 x4=some r) _ ⟨rounds,([]:List Int),0,0,rfl,rfl,rfl,h⟩ .s ?_;rintro m L τ ⟨k8,l2,x4,v3,rfl,rfl,rfl,h⟩
 rcases k8 with _|k8
 · cases h
 simp only[xH.l8] at h
 refine za fun Z9 hZ9=>?_
 refine rgN [0,4,5,12] ?_;refine zD rfl (fun hc10=>?_) (fun hc10=>?_)
 · rw[if_pos hc10] at h;have t11:=eq_true hc10;apply zd;apply hZ9;apply ze
   refine rc [0,4,5,6,7,8] fun K hK=>?_
   obtain⟨r12,hr12,h⟩:=bind_some h;refine zj tok 2 ?_;simp only[go_sem,qc,qa,reduceCtorEq,t11];refine clN rfl rfl rfl (yi.ev a0 x4 r12 hr12 _) ?_;refine rnN 7 ?_;refine nkN hK ?_
   refine za fun Z13 hZ13=>?_
   refine rgN [0,4,5,6,7,21] ?_;refine zn (b:=(!r12.2.2)) rfl (fun hc14=>?_) (fun hc14=>?_)
   · rw[if_pos hc14] at h;refine rgN [2,3] ?_;cases h;exact rtA
   rw[xD hc14] at h;apply zd;apply hZ13;obtain⟨_u15,hu15,h⟩:=bind_some h;have gu15:=yA hu15;have f16:=(zA E130.len l2)
   refine rg tok [0,4,5,7] fun K hK=>?_
   simp only[go_sem,qc,qe,qa,ql,reduceCtorEq,zQ,z6,ug,q7,true_and,ul,ym,zW,yp,gu15,f16,yT,ud,q5,AV.one,qX,qz,qk,qn,qt,qA];apply hK
   refine yc (L:=[(0,.str a0),(4,.os true 1 0 (v3+1) 0 (qb (l2++[r12.1])) false),(5,.int .i64 x4),(7,.int .i64 r12.2.1)]) (τ:=[.cells (v3+1) (qf (vas .i32) (l2++[r12.1])),.cells 0 [.int .i32 r12.1]]) .s ?_
   refine rgE tok [0,4,5] fun K hK=>?_
   simp only[go_sem,qc,qa,reduceCtorEq];apply hK
   exact⟨_,_,_,qy (0+k8),⟨k8,l2++[r12.1],IntKind.i64.wrap (x4+r12.2.1),v3+1,rfl,rfl,rfl,h⟩,(.t [0] false)⟩
 rw[if_neg hc10] at h;have t17:=eq_false hc10;apply zJ;apply hZ1
 refine rg tok [2,3] fun K hK=>?_
 simp only[go_sem,qc,qa,reduceCtorEq,t17];apply hK
 cases h;exact rtA
theorem xH.ev (a0:List UInt8)(r:List Int×Bool)(h:xH a0=some r)(σ:Store):ACalls qh 78 [.str a0] σ (fun r' σ'=>r'=.tup [.ds true (qf (vas .i32) r.1) (qb r.1) false,.bool r.2]∧σ'=σ):=
 (xH.ok a0 r h).c σ
def yC.l4 (a1:Int):List GField→Int→GField×Bool
 |[],x2=>((⟨[],0,0,(⟨0,[]⟩:GType)⟩:GField),false)
 |y4::q4,x2=>(if y4.fTag=a1 then (y4,true) else ((yC.l4 a1 q4) (x2+1)))
def yC (a0:GMessage)(a1:Int):GField×Bool:=
 (yC.l4 a1 a0.fFields 0)
theorem yC.ok (a0:GMessage)(a1:Int)(r:GField×Bool)(h:yC a0 a1=r):ACalls qh 73 [.agg (encGMessage a0),.int .i64 a1] [] (fun r' _=>r'=.tup [.agg (encGField r.1),.bool r.2]):=by
 refine zi (rs:=[.cell 4 57,.tmp 5]) tok Tryz.func73 rfl Tryz.ntmps73 rfl Tryz.call73 (by simp) ?_;refine zm [(0,.agg (encGMessage a0)),(1,.int .i64 a1)] ⟨rfl,rfl,trivial⟩ ?_;unfold yC at h
 refine rg tok [1,2,4] fun K hK=>?_
 simp only[go_sem,qc,qa,qd,reduceCtorEq,encGMessage];apply hK
 refine za fun Z1 hZ1=>?_
 refine rgN [1,2,4,6] ?_;apply ze
 refine xI 0 rfl fun hb4=>?_
 replace hb4:qb a0.fFields≤9223372036854775807:=hb4.2.1.1;refine zC (fun m L τ=>∃ (p4 q4:List GField) (x2:Int),m=qb q4∧L=[(1,.int .i64 a1),(2,.op 0 0 0),(4,.op 1 0 0),(6,.int .i64 x2)]∧τ=[.cells 0 (encGMessage a0),.cells 0 [.str [],.int .i64 0,.int .i64 0,.int .i64 0,.str []]]∧a0.fFields=p4++q4∧x2=(qb p4:Int)∧yC.l4 a1 q4 x2=r) _ ⟨[],a0.fFields,0,rfl,rfl,rfl,rfl,rfl,h⟩ .s ?_;rintro m L τ ⟨p4,q4,x2,rfl,rfl,rfl,hE4,hi4,h⟩
 rcases q4 with _|⟨y4,q4⟩
 · have hz4:=yz hE4 hi4;simp only[yC.l4] at h
   refine za fun Z5 hZ5=>?_
   refine rg tok [1,2,4,6,11] fun K hK=>?_
   simp only[go_sem,qc,qa,qd,hz4];apply hK
   refine zw rfl ?_;apply zJ;apply hZ1;refine rgN [4,5] ?_;cases h;exact rtA
 obtain⟨hz4,hw4,hx4,hE'4,hi'4⟩:=yd hE4 hi4 hb4;simp only[yC.l4] at h
 refine za fun Z6 hZ6=>?_
 refine rg tok [1,2,4,6,11] fun K hK=>?_
 simp only[go_sem,qc,qa,qd,hz4];apply hK
 refine zz rfl ?_;apply zd;apply hZ6
 refine za fun Z7 hZ7=>?_
 apply ze;have f8:=E47.idxS hx4;have f9:=E47.fldS (f:=3) rfl rfl hx4 (o:=1) (by decide)
 refine rg tok [1,2,4,6,21] fun K hK=>?_
 simp only[go_sem,qc,qa,qd,encGField,f8,f9];apply hK
 refine zD rfl (fun hc10=>?_) (fun hc10=>?_)
 · rw[if_pos hc10] at h;have t11:=eq_true hc10;have f12:=E47.idxS hx4;have f13:=E47.loadS rfl rfl hx4
   refine rg tok [4,5] fun K hK=>?_
   simp only[go_sem,qc,qe,qa,qd,encGField,t11,f12,f13];apply hK
   cases h;exact rtA
 rw[if_neg hc10] at h;have t14:=eq_false hc10;apply zd;apply hZ7
 refine rgE tok [1,2,4,6] fun K hK=>?_
 simp only[go_sem,qc,qa,hw4,t14];apply hK
 exact⟨_,_,_,qy q4.length,⟨p4++[y4],q4,x2+1,rfl,rfl,rfl,hE'4,hi'4,h⟩,.s⟩
theorem yC.ev (a0:GMessage)(a1:Int)(r:GField×Bool)(h:yC a0 a1=r)(σ:Store):ACalls qh 73 [.agg (encGMessage a0),.int .i64 a1] σ (fun r' σ'=>r'=.tup [.agg (encGField r.1),.bool r.2]∧σ'=σ):=
 (yC.ok a0 a1 r h).c σ
def zZ.l4 (a1:List UInt8):List GMessage→Int→GMessage×Bool
 |[],x2=>((⟨[],([]:List GField),([]:List Int)⟩:GMessage),false)
 |y4::q4,x2=>(if y4.fName=a1 then (y4,true) else ((zZ.l4 a1 q4) (x2+1)))
def zZ (a0:GSchema)(a1:List UInt8):GMessage×Bool:=
 (zZ.l4 a1 a0.fMessages 0)
theorem zZ.ok (a0:GSchema)(a1:List UInt8)(r:GMessage×Bool)(h:zZ a0 a1=r):ACalls qh 43 [.agg (encGSchema a0),.str a1] [] (fun r' _=>r'=.tup [.agg (encGMessage r.1),.bool r.2]):=by
 refine zi (rs:=[.cell 4 49,.tmp 5]) tok Tryz.func43 rfl Tryz.ntmps43 rfl Tryz.call43 (by simp) ?_;refine zm [(0,.agg (encGSchema a0)),(1,.str a1)] ⟨rfl,rfl,trivial⟩ ?_;unfold zZ at h
 refine rg tok [1,2,4] fun K hK=>?_
 simp only[go_sem,qc,qa,qd,reduceCtorEq,encGSchema];apply hK
 refine za fun Z1 hZ1=>?_
 refine rgN [1,2,4,6] ?_;apply ze
 refine xI 0 rfl fun hb4=>?_
 replace hb4:qb a0.fMessages≤9223372036854775807:=hb4.2.1.1;refine zC (fun m L τ=>∃ (p4 q4:List GMessage) (x2:Int),m=qb q4∧L=[(1,.str a1),(2,.op 0 0 0),(4,.op 1 0 0),(6,.int .i64 x2)]∧τ=[.cells 0 (encGSchema a0),.cells 0 [.str [],.ds true [] 0 true,.ds true [] 0 true]]∧a0.fMessages=p4++q4∧x2=(qb p4:Int)∧zZ.l4 a1 q4 x2=r) _ ⟨[],a0.fMessages,0,rfl,rfl,rfl,rfl,rfl,h⟩ .s ?_;rintro m L τ ⟨p4,q4,x2,rfl,rfl,rfl,hE4,hi4,h⟩
 rcases q4 with _|⟨y4,q4⟩
 · have hz4:=yz hE4 hi4;simp only[zZ.l4] at h
   refine za fun Z5 hZ5=>?_
   refine rg tok [1,2,4,6,11] fun K hK=>?_
   simp only[go_sem,qc,qa,qd,hz4];apply hK
   refine zw rfl ?_;apply zJ;apply hZ1;refine rgN [4,5] ?_;cases h;exact rtA
 obtain⟨hz4,hw4,hx4,hE'4,hi'4⟩:=yd hE4 hi4 hb4;simp only[zZ.l4] at h
 refine za fun Z6 hZ6=>?_
 refine rg tok [1,2,4,6,11] fun K hK=>?_
 simp only[go_sem,qc,qa,qd,hz4];apply hK
 refine zz rfl ?_;apply zd;apply hZ6
 refine za fun Z7 hZ7=>?_
 apply ze;have f8:=E22.idxS hx4;have f9:=E22.fldS0 (f:=9) rfl rfl hx4
 refine rg tok [1,2,4,6,21] fun K hK=>?_
 simp only[go_sem,qc,qa,qd,encGMessage,f8,f9];apply hK
 refine zD rfl (fun hc10=>?_) (fun hc10=>?_)
 · rw[if_pos hc10] at h;have t11:=eq_true hc10;have f12:=E22.idxS hx4;have f13:=E22.loadS rfl rfl hx4
   refine rg tok [4,5] fun K hK=>?_
   simp only[go_sem,qc,qe,qa,qd,encGMessage,t11,f12,f13];apply hK
   cases h;exact rtA
 rw[if_neg hc10] at h;have t14:=eq_false hc10;apply zd;apply hZ7
 refine rgE tok [1,2,4,6] fun K hK=>?_
 simp only[go_sem,qc,qa,hw4,t14];apply hK
 exact⟨_,_,_,qy q4.length,⟨p4++[y4],q4,x2+1,rfl,rfl,rfl,hE'4,hi'4,h⟩,.s⟩
theorem zZ.ev (a0:GSchema)(a1:List UInt8)(r:GMessage×Bool)(h:zZ a0 a1=r)(σ:Store):ACalls qh 43 [.agg (encGSchema a0),.str a1] σ (fun r' σ'=>r'=.tup [.agg (encGMessage r.1),.bool r.2]∧σ'=σ):=
 (zZ.ok a0 a1 r h).c σ
def wI (a0:GTree):Bool:=
 ((((((decide (1≤a0.fKind))&&(decide (a0.fKind≤3)))&&(decide (a0.fN=0)))&&(decide (a0.fS=[])))&&(decide ((qb a0.fEntries:Int)=0)))&&(decide ((qb a0.fRest:Int)=0)))
theorem wI.ok (a0:GTree)(r:Bool)(h:wI a0=r):ACalls qh 86 [.agg (cellsGTree a0)] [] (fun r' _=>r'=.bool r):=by
 refine zi (rs:=[.tmp 2]) tok Tryz.func86 rfl Tryz.ntmps86 rfl Tryz.call86 (by simp) ?_;refine zm [(0,.agg (cellsGTree a0))] ⟨rfl,trivial⟩ ?_;unfold wI at h
 refine rg tok [1] fun K hK=>?_
 simp only[go_sem,qc,qa,qd,reduceCtorEq,cellsGTree];apply hK
 refine rc [2] fun K hK=>?_
 refine rnN 4 ?_;refine zh 4 (fun L τ=>L=[(1,.op 0 0 0),(10,.bool ((decide (1≤a0.fKind))&&(decide (a0.fKind≤3))))]∧τ=[.cells 0 (cellsGTree a0)]) ?_ ?_
 · refine yx 6 rfl (fun hg6=>?_) (fun hg6=>?_)
   · have t1:=eq_true hg6;refine rnN 4 ?_;refine zb ⟨rfl,_,_,⟨rfl,rfl⟩,.p t1⟩
   have t2:=eq_false hg6;refine rnN 4 ?_;refine zb ⟨rfl,_,_,⟨rfl,rfl⟩,.p t2⟩
 rintro _ _ ⟨rfl,rfl⟩;refine rnN 1 ?_;refine zh 4 (fun L τ=>L=[(1,.op 0 0 0),(15,.bool (((decide (1≤a0.fKind))&&(decide (a0.fKind≤3)))&&(decide (a0.fN=0))))]∧τ=[.cells 0 (cellsGTree a0)]) ?_ ?_
 · refine zK (b:=((decide (1≤a0.fKind))&&(decide (a0.fKind≤3)))) 11 rfl (fun hg11=>?_) (fun hg11=>?_)
   · refine rnN 4 ?_;refine zb ⟨rfl,_,_,⟨rfl,rfl⟩,.b hg11⟩
   refine rnN 4 ?_;refine zb ⟨rfl,_,_,⟨rfl,rfl⟩,.b hg11⟩
 rintro _ _ ⟨rfl,rfl⟩;refine rnN 1 ?_;refine zh 4 (fun L τ=>L=[(1,.op 0 0 0),(20,.bool ((((decide (1≤a0.fKind))&&(decide (a0.fKind≤3)))&&(decide (a0.fN=0)))&&(decide (a0.fS=[]))))]∧τ=[.cells 0 (cellsGTree a0)]) ?_ ?_
 · refine zK (b:=(((decide (1≤a0.fKind))&&(decide (a0.fKind≤3)))&&(decide (a0.fN=0)))) 16 rfl (fun hg16=>?_) (fun hg16=>?_)
   · refine rnN 4 ?_;refine zb ⟨rfl,_,_,⟨rfl,rfl⟩,.b hg16⟩
   refine rnN 4 ?_;refine zb ⟨rfl,_,_,⟨rfl,rfl⟩,.b hg16⟩
 rintro _ _ ⟨rfl,rfl⟩;refine rnN 1 ?_;refine zh 5 (fun L τ=>L=[(1,.op 0 0 0),(26,.bool (((((decide (1≤a0.fKind))&&(decide (a0.fKind≤3)))&&(decide (a0.fN=0)))&&(decide (a0.fS=[])))&&(decide ((qb a0.fEntries:Int)=0))))]∧τ=[.cells 0 (cellsGTree a0)]) ?_ ?_
 · refine zK (b:=((((decide (1≤a0.fKind))&&(decide (a0.fKind≤3)))&&(decide (a0.fN=0)))&&(decide (a0.fS=[])))) 21 rfl (fun hg21=>?_) (fun hg21=>?_)
   · refine rnN 5 ?_;refine zb ⟨rfl,_,_,⟨rfl,rfl⟩,.b hg21⟩
   refine rnN 5 ?_;refine zb ⟨rfl,_,_,⟨rfl,rfl⟩,.b hg21⟩
 rintro _ _ ⟨rfl,rfl⟩;refine rnN 1 ?_;refine zh 5 (fun L τ=>L=[(32,.bool ((((((decide (1≤a0.fKind))&&(decide (a0.fKind≤3)))&&(decide (a0.fN=0)))&&(decide (a0.fS=[])))&&(decide ((qb a0.fEntries:Int)=0)))&&(decide ((qb a0.fRest:Int)=0))))]∧τ=[.cells 0 (cellsGTree a0)]) ?_ ?_
 · refine zK (b:=(((((decide (1≤a0.fKind))&&(decide (a0.fKind≤3)))&&(decide (a0.fN=0)))&&(decide (a0.fS=[])))&&(decide ((qb a0.fEntries:Int)=0)))) 27 rfl (fun hg27=>?_) (fun hg27=>?_)
   · refine rnN 5 ?_;refine zb ⟨rfl,_,_,⟨rfl,rfl⟩,.b hg27⟩
   refine rnN 5 ?_;refine zb ⟨rfl,_,_,⟨rfl,rfl⟩,.b hg27⟩
 rintro _ _ ⟨rfl,rfl⟩;refine rnN 1 ?_;refine nkN hK ?_;cases h;exact rtA
theorem wI.ev (a0:GTree)(r:Bool)(h:wI a0=r)(σ:Store):ACalls qh 86 [.agg (cellsGTree a0)] σ (fun r' σ'=>r'=.bool r∧σ'=σ):=
 (wI.ok a0 r h).c σ
end
section
set_option maxRecDepth 8000
set_option maxHeartbeats 1000000
open Go.RowKit AM
structure RepR (rv:AV)(σ:Store)(tid eid ever:Nat)(L:List Ent):Prop where
 t:Store.at σ tid 0=some [.int .i64 3,.int .i64 0,.str [],.os true 2 eid ever 0 L.length false,rv]
 e:Store.at σ eid ever=some (L.flatMap Ent.cells)
 tr:∀ x∈L,Store.at σ x.id x.ver=some (x.trees.flatMap encGTree)
 nd:(tid::eid::L.map Ent.id).Nodup
theorem RepR.app {rv:AV}{σ:Store}{tid eid ever:Nat}{L:List Ent}(h:RepR rv σ tid eid ever L)(l:Store):RepR rv (σ++l) tid eid ever L:=
 ⟨xS h.t l,xS h.e l,fun x hx=>xS (h.tr x hx) l,h.nd⟩
theorem w9 (a b:List AV)(x y w v:AV):yL (a++([x,y]++b)) a.length [w,v]=a++([w,v]++b):=by
 simp[yL]
end
section
set_option maxRecDepth 8000
set_option maxHeartbeats 1000000
open Go.RowKit AM
structure Loop12 (τ:Store)(a0:GSchema)(a1:GMessage)(ever rver:Nat)(L:List Ent)(rest:List GRaw):Prop where
 h0:Store.at τ 0 0=some (encGSchema a0)
 h1:Store.at τ 1 0=some (encGMessage a1)
 h2:Store.at τ 2 0=some [.int .i64 0,.int .i64 0,.str [],.ds true [] 0 true,.ds true [] 0 true]
 rep:RepR (.os true 4 5 rver 0 rest.length false) τ 3 4 ever L
 h5:Store.at τ 5 rver=some (rest.flatMap encGRaw)
 ids:∀ y∈L,6≤y.id
theorem Loop12.app {τ:Store}{a0:GSchema}{a1:GMessage}{ever rver:Nat}{L:List Ent}{rest:List GRaw}(h:Loop12 τ a0 a1 ever rver L rest)(l:Store):Loop12 (τ++l) a0 a1 ever rver L rest:=
 ⟨xS h.h0 l,xS h.h1 l,xS h.h2 l,h.rep.app l,xS h.h5 l,h.ids⟩
theorem RepR.toldC {rv:AV}{σ:Store}{tid eid ever:Nat}{L:List Ent}(h:RepR rv σ tid eid ever L)(keep:List Nat)(ls:Bool)(f:Nat)(hk:∀ y∈L,Zg keep y.id 0=none):(L.flatMap Ent.cells).map (tell σ keep ls (f+2))=(L.map Ent.val).flatMap encGEntry:=by
 have key:∀ l:List Ent,(∀ x∈l,x∈L)→(l.flatMap Ent.cells).map (tell σ keep ls (f+2))=(l.map Ent.val).flatMap encGEntry:=by
  intro l
  induction l with
  |nil=>intro _; rfl
  |cons a l ih=>
   intro hl
   have h1:=h.tr a (hl a (qr ..));have h2:=hk a (hl a (qr ..));simp only[qM,qH,qG,ih fun x hx=>hl x (qq _ hx)]
   congr 1
   simp only[Ent.cells,Ent.val,qG,qx,YH,wZ,h2,h1,yy,cellsGEntry,GEntry.fTag,GEntry.fTrees];have hl:(a.trees.flatMap encGTree).length=a.trees.length*5:=zA E90.len a.trees;rw[if_pos (by rw[hl]; omega),qD,← hl,uj,zE]
 exact key L (fun _ h=>h)
end
section
set_option maxRecDepth 8000
open Go.RowKit AM

end
section
set_option maxRecDepth 4000
set_option maxHeartbeats 1000000
open AM
theorem AM.idx_arr {T:TT}{t n e:Nat}{i j:TI}(hi:T t=some i)(hd:i.desc=.array n e)(hj:T e=some j)(hs:j.size=1)(ha:j.agg=false){l:List Int}(hn:n=l.length){k:Int}{y:Int}(hx:wV l k=some y)(q:IntKind):Xd T t (.agg (l.map (AV.int .i64))) (.int q k)=some (.int .i64 y):=by
 obtain⟨h0,h1,h2,h3⟩:=xT hx;simp only[Xd,hi,hd,hj,hs,ha,Nat.mul_one];rw[if_pos ⟨h0,by omega⟩]
 simp[vaM,gc,qv,h3,q2,h2]
def zF.l25 (x2:Int)(x3:Int)(rec6:Int→Int→Option Bool)(y12:GMessage):List GField→Int→Option Bool
 |[],x23=>(rec6 (IntKind.i64.wrap (x2+(qb y12.fName:Int))) (IntKind.i64.wrap (x3+1)))
 |y25::q25,x23=>(if ((decide (200<(qb y25.fName:Int)))||(decide (200<(qb y25.fType.fName:Int))))=true then some false else ((zF.l25 x2 x3 rec6 y12 q25) (x23+1)))
def zF.l60 (x41:Int)(rec43:Int→Option Bool):List GNamed→Int→Option Bool
 |[],x58=>(rec43 (IntKind.i64.wrap (x41+1)))
 |y60::q60,x58=>(if 200<(qb y60.fName:Int) then some false else ((zF.l60 x41 rec43 q60) (x58+1)))
def zF.l78 (a0:GSchema)(x2:Int):Nat→Int→Option Bool
 |0,_=>none
 |k78+1,x76=>(if ((decide (x76<(qb a0.fMethods:Int)))&&(decide (x76<20)))=true then (wV a0.fMethods x76).bind fun y84=>(if (((decide (200<(qb y84.fName:Int)))||(decide (200<(qb y84.fIn:Int))))||(decide (200<(qb y84.fOut:Int))))=true then some false else ((zF.l78 a0 x2 k78) (IntKind.i64.wrap (x76+1)))) else some ((((decide (x2<3000))&&(decide ((qb a0.fMessages:Int)≤14)))&&(decide ((qb a0.fEnums:Int)≤10)))&&(decide ((qb a0.fMethods:Int)≤10))))
def zF.l43 (a0:GSchema)(x2:Int):Nat→Int→Option Bool
 |0,_=>none
 |k43+1,x41=>(if ((decide (x41<(qb a0.fEnums:Int)))&&(decide (x41<20)))=true then (wV a0.fEnums x41).bind fun y50=>(if ((decide (200<(qb y50.fName:Int)))||(decide (24<(qb y50.fValues:Int))))=true then some false else (zF.l60 x41 (zF.l43 a0 x2 k43) y50.fValues 0)) else (zF.l78 a0 x2 rounds 0))
def zF.l6 (a0:GSchema):Nat→Int→Int→Option Bool
 |0,_,_=>none
 |k6+1,x2,x3=>(if ((decide (x3<(qb a0.fMessages:Int)))&&(decide (x3<20)))=true then (wV a0.fMessages x3).bind fun y12=>(if ((decide (20<(qb y12.fFields:Int)))||(decide (40<(qb y12.fReserved:Int))))=true then some false else (zF.l25 x2 x3 (zF.l6 a0 k6) y12 y12.fFields 0)) else (zF.l43 a0 x2 rounds 0))
def zF (a0:GSchema):Option Bool:=
 (zF.l6 a0 rounds (qb a0.fName:Int) 0)
theorem zF.ok (a0:GSchema)(r:Bool)(h:zF a0=some r):ACalls qh 11 [.agg (encGSchema a0)] [] (fun r' _=>r'=.bool r):=by
 refine zi (rs:=[.tmp 2]) tok Tryz.func11 rfl Tryz.ntmps11 rfl Tryz.call11 (by simp) ?_;refine zm [(0,.agg (encGSchema a0))] ⟨rfl,trivial⟩ ?_;unfold zF at h
 refine rg tok [1] fun K hK=>?_
 simp only[go_sem,qc,qa,qd,reduceCtorEq,encGSchema];apply hK
 refine rgN [1,3] ?_
 refine za fun Z1 hZ1=>?_
 refine rgN [1,3,4] ?_;apply ze;refine zC (fun m L τ=>∃ (k6:Nat) (x2:Int) (x3:Int),m=0+k6∧L=[(1,.op 0 0 0),(3,.int .i64 x2),(4,.int .i64 x3)]∧τ=[.cells 0 (encGSchema a0)]∧zF.l6 a0 k6 x2 x3=some r) _ ⟨rounds,(qb a0.fName:Int),0,rfl,rfl,rfl,h⟩ .s ?_;rintro m L τ ⟨k6,x2,x3,rfl,rfl,rfl,h⟩
 rcases k6 with _|k6
 · cases h
 simp only[zF.l6] at h
 refine za fun Z7 hZ7=>?_
 refine rc [1,3,4,21] fun K hK=>?_
 refine rnN 6 ?_;refine zh 3 (fun L τ=>L=[(1,.op 0 0 0),(3,.int .i64 x2),(4,.int .i64 x3),(21,.bool ((decide (x3<(qb a0.fMessages:Int)))&&(decide (x3<20))))]∧τ=[.cells 0 (encGSchema a0)]) ?_ ?_
 · refine yx 18 rfl (fun hg18=>?_) (fun hg18=>?_)
   · have t8:=eq_true hg18;refine rnN 3 ?_;refine zb ⟨rfl,_,_,⟨rfl,rfl⟩,.p t8⟩
   have t9:=eq_false hg18;refine rnN 3 ?_;refine zb ⟨rfl,_,_,⟨rfl,rfl⟩,.p t9⟩
 rintro _ _ ⟨rfl,rfl⟩;refine nkN hK ?_;refine zn (b:=((decide (x3<(qb a0.fMessages:Int)))&&(decide (x3<20)))) rfl (fun hc10=>?_) (fun hc10=>?_)
 · rw[if_pos hc10] at h;apply zd;apply hZ7
   refine za fun Z11 hZ11=>?_
   apply ze;obtain⟨y12,hy12,h⟩:=bind_some h;have f13:=E22.idxS hy12;have f14:=E22.fldS0 (f:=9) rfl rfl hy12
   refine rg tok [1,3,4] fun K hK=>?_
   simp only[go_sem,qc,qa,qd,encGMessage,f13,f14];apply hK
   refine za fun Z15 hZ15=>?_
   refine rc [1,3,4,50] fun K hK=>?_
   have f16:=E22.idxS hy12;have f17:=E22.fldS (f:=47) rfl rfl hy12 (o:=1) (by decide);refine zj tok 9 ?_;simp only[go_sem,qc,qa,qd,encGMessage,f16,f17];refine zh 9 (fun L τ=>L=[(1,.op 0 0 0),(3,.int .i64 (IntKind.i64.wrap (x2+(qb y12.fName:Int)))),(4,.int .i64 x3),(50,.bool ((decide (20<(qb y12.fFields:Int)))||(decide (40<(qb y12.fReserved:Int)))))]∧τ=[.cells 0 (encGSchema a0)]) ?_ ?_
   · refine yx 41 rfl (fun hg41=>?_) (fun hg41=>?_)
     · have t18:=eq_true hg41;refine rnN 9 ?_;refine zb ⟨rfl,_,_,⟨rfl,rfl⟩,.p t18⟩
     have t19:=eq_false hg41;have f20:=E22.idxS hy12;have f21:=E22.fldS (f:=45) rfl rfl hy12 (o:=2) (by decide);refine zj tok 9 ?_;simp only[go_sem,qc,qa,qd,encGMessage,f20,f21];refine zb ⟨rfl,_,_,⟨rfl,rfl⟩,.p t19⟩
   rintro _ _ ⟨rfl,rfl⟩;refine nkN hK ?_;refine zn (b:=((decide (20<(qb y12.fFields:Int)))||(decide (40<(qb y12.fReserved:Int))))) rfl (fun hc22=>?_) (fun hc22=>?_)
   · rw[if_pos hc22] at h;refine rgN [2] ?_;cases h;exact rtA
   rw[xD hc22] at h;apply zd;apply hZ15;refine rgN [1,3,4,5] ?_;apply ze
   refine xI 0 rfl fun hb25=>?_
   replace hb25:=deepL_idx hb25.2.1.2 hy12;replace hb25:qb y12.fFields≤9223372036854775807:=hb25.2.1.1;refine zC (fun m L τ=>∃ (p25 q25:List GField) (x23:Int),m=qb q25∧L=[(1,.op 0 0 0),(3,.int .i64 (IntKind.i64.wrap (x2+(qb y12.fName:Int)))),(4,.int .i64 x3),(5,.int .i64 x23)]∧τ=[.cells 0 (encGSchema a0)]∧y12.fFields=p25++q25∧x23=(qb p25:Int)∧zF.l25 x2 x3 (zF.l6 a0 k6) y12 q25 x23=some r) _ ⟨[],y12.fFields,0,rfl,rfl,rfl,rfl,rfl,h⟩ .s ?_;rintro m L τ ⟨p25,q25,x23,rfl,rfl,rfl,hE25,hi25,h⟩
   rcases q25 with _|⟨y25,q25⟩
   · have hz25:=yz hE25 hi25;simp only[zF.l25] at h
     refine za fun Z26 hZ26=>?_
     have f27:=E22.idxS hy12;have f28:=E22.fldS (f:=47) rfl rfl hy12 (o:=1) (by decide)
     refine rg tok [1,3,4,5,59] fun K hK=>?_
     simp only[go_sem,qc,qa,qd,encGMessage,hz25,f27,f28];apply hK
     refine zw rfl ?_;apply zJ;apply hZ11
     refine rgE tok [1,3,4] fun K hK=>?_
     simp only[go_sem,qc,qa];apply hK
     exact⟨_,_,_,qy (0+k6),⟨k6,IntKind.i64.wrap (x2+(qb y12.fName:Int)),IntKind.i64.wrap (x3+1),rfl,rfl,rfl,h⟩,.s⟩
   obtain⟨hz25,hw25,hx25,hE'25,hi'25⟩:=yd hE25 hi25 hb25;simp only[zF.l25] at h
   refine za fun Z29 hZ29=>?_
   have f30:=E22.idxS hy12;have f31:=E22.fldS (f:=47) rfl rfl hy12 (o:=1) (by decide)
   refine rg tok [1,3,4,5,59] fun K hK=>?_
   simp only[go_sem,qc,qa,qd,encGMessage,hz25,f30,f31];apply hK
   refine zz rfl ?_;apply zd;apply hZ29
   refine za fun Z32 hZ32=>?_
   apply ze;have f33:=E22.idxS hy12;have f34:=E22.fldS (f:=47) rfl rfl hy12 (o:=1) (by decide);have f35:=E47.idxS hx25;have f36:=E47.loadS rfl rfl hx25
   refine rg tok [1,3,4,5,6] fun K hK=>?_
   simp only[go_sem,qc,qe,qa,qd,encGField,encGMessage,f33,f34,f35,f36];apply hK
   refine rc [1,3,4,5,81] fun K hK=>?_
   refine rnN 5 ?_;refine zh 6 (fun L τ=>L=[(1,.op 0 0 0),(3,.int .i64 (IntKind.i64.wrap (x2+(qb y12.fName:Int)))),(4,.int .i64 x3),(5,.int .i64 x23),(81,.bool ((decide (200<(qb y25.fName:Int)))||(decide (200<(qb y25.fType.fName:Int)))))]∧τ=[.cells 0 (encGSchema a0),.cells 0 (encGField y25)]) ?_ ?_
   · refine yx 75 rfl (fun hg75=>?_) (fun hg75=>?_)
     · have t37:=eq_true hg75;refine rnN 6 ?_;refine zb ⟨rfl,_,_,⟨rfl,rfl⟩,.p t37⟩
     have t38:=eq_false hg75;refine rnN 6 ?_;refine zb ⟨rfl,_,_,⟨rfl,rfl⟩,.p t38⟩
   rintro _ _ ⟨rfl,rfl⟩;refine nkN hK ?_;refine zn (b:=((decide (200<(qb y25.fName:Int)))||(decide (200<(qb y25.fType.fName:Int))))) rfl (fun hc39=>?_) (fun hc39=>?_)
   · rw[if_pos hc39] at h;refine rgN [2] ?_;cases h;exact rtA
   rw[xD hc39] at h;apply zd;apply hZ32
   refine rgE tok [1,3,4,5] fun K hK=>?_
   simp only[go_sem,qc,qa,hw25];apply hK
   exact⟨_,_,_,qy q25.length,⟨p25++[y25],q25,x23+1,rfl,rfl,rfl,hE'25,hi'25,h⟩,(.t [0] false)⟩
 rw[xD hc10] at h;apply zJ;apply hZ1
 refine za fun Z40 hZ40=>?_
 refine rgN [1,3,7] ?_;apply ze;refine zC (fun m L τ=>∃ (k43:Nat) (x41:Int),m=0+k43∧L=[(1,.op 0 0 0),(3,.int .i64 x2),(7,.int .i64 x41)]∧τ=[.cells 0 (encGSchema a0)]∧zF.l43 a0 x2 k43 x41=some r) _ ⟨rounds,0,rfl,rfl,rfl,h⟩ .s ?_;rintro m L τ ⟨k43,x41,rfl,rfl,rfl,h⟩
 rcases k43 with _|k43
 · cases h
 simp only[zF.l43] at h
 refine za fun Z44 hZ44=>?_
 refine rc [1,3,7,90] fun K hK=>?_
 refine rnN 6 ?_;refine zh 3 (fun L τ=>L=[(1,.op 0 0 0),(3,.int .i64 x2),(7,.int .i64 x41),(90,.bool ((decide (x41<(qb a0.fEnums:Int)))&&(decide (x41<20))))]∧τ=[.cells 0 (encGSchema a0)]) ?_ ?_
 · refine yx 87 rfl (fun hg87=>?_) (fun hg87=>?_)
   · have t45:=eq_true hg87;refine rnN 3 ?_;refine zb ⟨rfl,_,_,⟨rfl,rfl⟩,.p t45⟩
   have t46:=eq_false hg87;refine rnN 3 ?_;refine zb ⟨rfl,_,_,⟨rfl,rfl⟩,.p t46⟩
 rintro _ _ ⟨rfl,rfl⟩;refine nkN hK ?_;refine zn (b:=((decide (x41<(qb a0.fEnums:Int)))&&(decide (x41<20)))) rfl (fun hc47=>?_) (fun hc47=>?_)
 · rw[if_pos hc47] at h;apply zd;apply hZ44
   refine za fun Z48 hZ48=>?_
   apply ze
   refine za fun Z49 hZ49=>?_
   refine rc [1,3,7,110] fun K hK=>?_
   obtain⟨y50,hy50,h⟩:=bind_some h;have f51:=E23.idxS hy50;have f52:=E23.fldS0 (f:=9) rfl rfl hy50;refine zj tok 9 ?_;simp only[go_sem,qc,qa,qd,encGEnumeration,f51,f52];refine zh 9 (fun L τ=>L=[(1,.op 0 0 0),(3,.int .i64 x2),(7,.int .i64 x41),(110,.bool ((decide (200<(qb y50.fName:Int)))||(decide (24<(qb y50.fValues:Int)))))]∧τ=[.cells 0 (encGSchema a0)]) ?_ ?_
   · refine yx 101 rfl (fun hg101=>?_) (fun hg101=>?_)
     · have t53:=eq_true hg101;refine rnN 9 ?_;refine zb ⟨rfl,_,_,⟨rfl,rfl⟩,.p t53⟩
     have t54:=eq_false hg101;have f55:=E23.idxS hy50;have f56:=E23.fldS (f:=82) rfl rfl hy50 (o:=1) (by decide);refine zj tok 9 ?_;simp only[go_sem,qc,qa,qd,encGEnumeration,f55,f56];refine zb ⟨rfl,_,_,⟨rfl,rfl⟩,.p t54⟩
   rintro _ _ ⟨rfl,rfl⟩;refine nkN hK ?_;refine zn (b:=((decide (200<(qb y50.fName:Int)))||(decide (24<(qb y50.fValues:Int))))) rfl (fun hc57=>?_) (fun hc57=>?_)
   · rw[if_pos hc57] at h;refine rgN [2] ?_;cases h;exact rtA
   rw[xD hc57] at h;apply zd;apply hZ49;refine rgN [1,3,7,8] ?_;apply ze
   refine xI 0 rfl fun hb60=>?_
   replace hb60:=deepL_idx hb60.2.2.1.2 hy50;replace hb60:qb y50.fValues≤9223372036854775807:=hb60.2.1.1;refine zC (fun m L τ=>∃ (p60 q60:List GNamed) (x58:Int),m=qb q60∧L=[(1,.op 0 0 0),(3,.int .i64 x2),(7,.int .i64 x41),(8,.int .i64 x58)]∧τ=[.cells 0 (encGSchema a0)]∧y50.fValues=p60++q60∧x58=(qb p60:Int)∧zF.l60 x41 (zF.l43 a0 x2 k43) q60 x58=some r) _ ⟨[],y50.fValues,0,rfl,rfl,rfl,rfl,rfl,h⟩ .s ?_;rintro m L τ ⟨p60,q60,x58,rfl,rfl,rfl,hE60,hi60,h⟩
   rcases q60 with _|⟨y60,q60⟩
   · have hz60:=yz hE60 hi60;simp only[zF.l60] at h
     refine za fun Z61 hZ61=>?_
     have f62:=E23.idxS hy50;have f63:=E23.fldS (f:=82) rfl rfl hy50 (o:=1) (by decide)
     refine rg tok [1,3,7,8,119] fun K hK=>?_
     simp only[go_sem,qc,qa,qd,encGEnumeration,hz60,f62,f63];apply hK
     refine zw rfl ?_;apply zJ;apply hZ48
     refine rgE tok [1,3,7] fun K hK=>?_
     simp only[go_sem,qc,qa];apply hK
     exact⟨_,_,_,qy (0+k43),⟨k43,IntKind.i64.wrap (x41+1),rfl,rfl,rfl,h⟩,.s⟩
   obtain⟨hz60,hw60,hx60,hE'60,hi'60⟩:=yd hE60 hi60 hb60;simp only[zF.l60] at h
   refine za fun Z64 hZ64=>?_
   have f65:=E23.idxS hy50;have f66:=E23.fldS (f:=82) rfl rfl hy50 (o:=1) (by decide)
   refine rg tok [1,3,7,8,119] fun K hK=>?_
   simp only[go_sem,qc,qa,qd,encGEnumeration,hz60,f65,f66];apply hK
   refine zz rfl ?_;apply zd;apply hZ64
   refine za fun Z67 hZ67=>?_
   apply ze;have f68:=E23.idxS hy50;have f69:=E23.fldS (f:=82) rfl rfl hy50 (o:=1) (by decide);have f70:=E82.idxS hx60;have f71:=E82.fldS0 (f:=9) rfl rfl hx60
   refine rg tok [1,3,7,8,133] fun K hK=>?_
   simp only[go_sem,qc,qa,qd,encGEnumeration,encGNamed,f68,f69,f70,f71];apply hK
   refine zD rfl (fun hc72=>?_) (fun hc72=>?_)
   · rw[if_pos hc72] at h;have t73:=eq_true hc72
     refine rg tok [2] fun K hK=>?_
     simp only[go_sem,qc,qa,t73];apply hK
     cases h;exact rtA
   rw[if_neg hc72] at h;have t74:=eq_false hc72;apply zd;apply hZ67
   refine rgE tok [1,3,7,8] fun K hK=>?_
   simp only[go_sem,qc,qa,hw60,t74];apply hK
   exact⟨_,_,_,qy q60.length,⟨p60++[y60],q60,x58+1,rfl,rfl,rfl,hE'60,hi'60,h⟩,.s⟩
 rw[xD hc47] at h;apply zJ;apply hZ40
 refine za fun Z75 hZ75=>?_
 refine rgN [1,3,9] ?_;apply ze;refine zC (fun m L τ=>∃ (k78:Nat) (x76:Int),m=0+k78∧L=[(1,.op 0 0 0),(3,.int .i64 x2),(9,.int .i64 x76)]∧τ=[.cells 0 (encGSchema a0)]∧zF.l78 a0 x2 k78 x76=some r) _ ⟨rounds,0,rfl,rfl,rfl,h⟩ .s ?_;rintro m L τ ⟨k78,x76,rfl,rfl,rfl,h⟩
 rcases k78 with _|k78
 · cases h
 simp only[zF.l78] at h
 refine za fun Z79 hZ79=>?_
 refine rc [1,3,9,142] fun K hK=>?_
 refine rnN 6 ?_;refine zh 3 (fun L τ=>L=[(1,.op 0 0 0),(3,.int .i64 x2),(9,.int .i64 x76),(142,.bool ((decide (x76<(qb a0.fMethods:Int)))&&(decide (x76<20))))]∧τ=[.cells 0 (encGSchema a0)]) ?_ ?_
 · refine yx 139 rfl (fun hg139=>?_) (fun hg139=>?_)
   · have t80:=eq_true hg139;refine rnN 3 ?_;refine zb ⟨rfl,_,_,⟨rfl,rfl⟩,.p t80⟩
   have t81:=eq_false hg139;refine rnN 3 ?_;refine zb ⟨rfl,_,_,⟨rfl,rfl⟩,.p t81⟩
 rintro _ _ ⟨rfl,rfl⟩;refine nkN hK ?_;refine zn (b:=((decide (x76<(qb a0.fMethods:Int)))&&(decide (x76<20)))) rfl (fun hc82=>?_) (fun hc82=>?_)
 · rw[if_pos hc82] at h;apply zd;apply hZ79
   refine za fun Z83 hZ83=>?_
   apply ze
   refine rc [1,3,9,172] fun K hK=>?_
   obtain⟨y84,hy84,h⟩:=bind_some h;have f85:=E24.idxS hy84;have f86:=E24.fldS0 (f:=9) rfl rfl hy84;refine zj tok 9 ?_;simp only[go_sem,qc,qa,qd,encGMethod,f85,f86];refine zh 9 (fun L τ=>L=[(1,.op 0 0 0),(3,.int .i64 x2),(9,.int .i64 x76),(162,.bool ((decide (200<(qb y84.fName:Int)))||(decide (200<(qb y84.fIn:Int)))))]∧τ=[.cells 0 (encGSchema a0)]) ?_ ?_
   · refine yx 153 rfl (fun hg153=>?_) (fun hg153=>?_)
     · have t87:=eq_true hg153;refine rnN 9 ?_;refine zb ⟨rfl,_,_,⟨rfl,rfl⟩,.p t87⟩
     have t88:=eq_false hg153;have f89:=E24.idxS hy84;have f90:=E24.fldS (f:=9) rfl rfl hy84 (o:=1) (by decide);refine zj tok 9 ?_;simp only[go_sem,qc,qa,qd,encGMethod,f89,f90];refine zb ⟨rfl,_,_,⟨rfl,rfl⟩,.p t88⟩
   rintro _ _ ⟨rfl,rfl⟩;refine rnN 1 ?_;refine zh 9 (fun L τ=>L=[(1,.op 0 0 0),(3,.int .i64 x2),(9,.int .i64 x76),(172,.bool (((decide (200<(qb y84.fName:Int)))||(decide (200<(qb y84.fIn:Int))))||(decide (200<(qb y84.fOut:Int)))))]∧τ=[.cells 0 (encGSchema a0)]) ?_ ?_
   · refine zK (b:=((decide (200<(qb y84.fName:Int)))||(decide (200<(qb y84.fIn:Int))))) 163 rfl (fun hg163=>?_) (fun hg163=>?_)
     · refine rnN 9 ?_;refine zb ⟨rfl,_,_,⟨rfl,rfl⟩,.b hg163⟩
     have f91:=E24.idxS hy84;have f92:=E24.fldS (f:=9) rfl rfl hy84 (o:=2) (by decide);refine zj tok 9 ?_;simp only[go_sem,qc,qa,qd,encGMethod,f91,f92];refine zb ⟨rfl,_,_,⟨rfl,rfl⟩,.b hg163⟩
   rintro _ _ ⟨rfl,rfl⟩;refine nkN hK ?_;refine zn (b:=(((decide (200<(qb y84.fName:Int)))||(decide (200<(qb y84.fIn:Int))))||(decide (200<(qb y84.fOut:Int))))) rfl (fun hc93=>?_) (fun hc93=>?_)
   · rw[if_pos hc93] at h;refine rgN [2] ?_;cases h;exact rtA
   rw[xD hc93] at h;apply zd;apply hZ83
   refine rgE tok [1,3,9] fun K hK=>?_
   simp only[go_sem,qc,qa];apply hK
   exact⟨_,_,_,qy (0+k78),⟨k78,IntKind.i64.wrap (x76+1),rfl,rfl,rfl,h⟩,.s⟩
 rw[xD hc82] at h;apply zJ;apply hZ75
 refine rc [2] fun K hK=>?_
 refine rnN 3 ?_;refine zh 5 (fun L τ=>L=[(1,.op 0 0 0),(180,.bool ((decide (x2<3000))&&(decide ((qb a0.fMessages:Int)≤14))))]∧τ=[.cells 0 (encGSchema a0)]) ?_ ?_
 · refine yx 175 rfl (fun hg175=>?_) (fun hg175=>?_)
   · have t94:=eq_true hg175;refine rnN 5 ?_;refine zb ⟨rfl,_,_,⟨rfl,rfl⟩,.p t94⟩
   have t95:=eq_false hg175;refine rnN 5 ?_;refine zb ⟨rfl,_,_,⟨rfl,rfl⟩,.p t95⟩
 rintro _ _ ⟨rfl,rfl⟩;refine rnN 1 ?_;refine zh 5 (fun L τ=>L=[(1,.op 0 0 0),(186,.bool (((decide (x2<3000))&&(decide ((qb a0.fMessages:Int)≤14)))&&(decide ((qb a0.fEnums:Int)≤10))))]∧τ=[.cells 0 (encGSchema a0)]) ?_ ?_
 · refine zK (b:=((decide (x2<3000))&&(decide ((qb a0.fMessages:Int)≤14)))) 181 rfl (fun hg181=>?_) (fun hg181=>?_)
   · refine rnN 5 ?_;refine zb ⟨rfl,_,_,⟨rfl,rfl⟩,.b hg181⟩
   refine rnN 5 ?_;refine zb ⟨rfl,_,_,⟨rfl,rfl⟩,.b hg181⟩
 rintro _ _ ⟨rfl,rfl⟩;refine rnN 1 ?_;refine zh 5 (fun L τ=>L=[(192,.bool ((((decide (x2<3000))&&(decide ((qb a0.fMessages:Int)≤14)))&&(decide ((qb a0.fEnums:Int)≤10)))&&(decide ((qb a0.fMethods:Int)≤10))))]∧τ=[.cells 0 (encGSchema a0)]) ?_ ?_
 · refine zK (b:=(((decide (x2<3000))&&(decide ((qb a0.fMessages:Int)≤14)))&&(decide ((qb a0.fEnums:Int)≤10)))) 187 rfl (fun hg187=>?_) (fun hg187=>?_)
   · refine rnN 5 ?_;refine zb ⟨rfl,_,_,⟨rfl,rfl⟩,.b hg187⟩
   refine rnN 5 ?_;refine zb ⟨rfl,_,_,⟨rfl,rfl⟩,.b hg187⟩
 rintro _ _ ⟨rfl,rfl⟩;refine rnN 1 ?_;refine nkN hK ?_;cases h;exact rtA
theorem zF.ev (a0:GSchema)(r:Bool)(h:zF a0=some r)(σ:Store):ACalls qh 11 [.agg (encGSchema a0)] σ (fun r' σ'=>r'=.bool r∧σ'=σ):=
 (zF.ok a0 r h).c σ
def yB.l9 (a0:List UInt8):Nat→Nat→Int→Option Int
 |0,_,_=>none
 |k9+1,p5,x6=>(if p5<qb a0 then ((yB.l9 a0 k9) (p5+(Ye a0 p5).2) (IntKind.i64.wrap (x6+1))) else some x6)
def yB (a0:List UInt8):Option Int:=
 (yn a0).bind fun r2=>(if (!r2)=true then some 0 else (yB.l9 a0 rounds 0 0))
theorem yB.ok (a0:List UInt8)(r:Int)(h:yB a0=some r):ACalls qh 102 [.str a0] [] (fun r' _=>r'=.int .i64 r):=by
 refine zi (rs:=[.tmp 2]) tok Tryz.func102 rfl Tryz.ntmps102 rfl Tryz.call102 (by simp) ?_;refine zm [(0,.str a0)] ⟨rfl,trivial⟩ ?_;unfold yB at h;refine rgN [0] ?_
 refine za fun Z1 hZ1=>?_
 refine rc [0,6] fun K hK=>?_
 obtain⟨r2,hr2,h⟩:=bind_some h;refine rnN 1 ?_;refine clN rfl rfl rfl (yn.ev a0 r2 hr2 _) ?_;refine rnN 1 ?_;refine nkN hK ?_;refine zn (b:=(!r2)) rfl (fun hc3=>?_) (fun hc3=>?_)
 · rw[if_pos hc3] at h;refine rgN [2] ?_;cases h;exact rtA
 rw[xD hc3] at h;apply zd;apply hZ1;refine rgN [0,3] ?_
 refine za fun Z4 hZ4=>?_
 refine rgN [3,8] ?_;apply ze;refine zC (fun m L τ=>∃ (k9:Nat) (p5:Nat) (x6:Int),m=0+k9∧L=[(3,.int .i64 x6),(8,.it 0)]∧τ=[.iter a0 p5]∧yB.l9 a0 k9 p5 x6=some r) _ ⟨rounds,0,0,rfl,rfl,rfl,h⟩ .s ?_;rintro m L τ ⟨k9,p5,x6,rfl,rfl,rfl,h⟩
 rcases k9 with _|k9
 · cases h
 simp only[yB.l9] at h
 by_cases hn10:p5<qb a0
 · rw[if_pos hn10] at h;have t11:=eq_true hn10
   refine rg tok [3,8,10] fun K hK=>?_
   simp only[go_sem,qc,qa,qd,XV,if_true,if_false,t11];apply hK
   refine za fun Z12 hZ12=>?_
   refine zz rfl ?_;apply zd;apply hZ12;apply ze
   refine rgE tok [3,8] fun K hK=>?_
   simp only[go_sem,qc,qa];apply hK
   exact⟨_,_,_,qy (0+k9),⟨k9,p5+(Ye a0 p5).2,IntKind.i64.wrap (x6+1),rfl,rfl,rfl,h⟩,.s⟩
 rw[if_neg hn10] at h;have t13:=eq_false hn10
 refine rg tok [3,8,10] fun K hK=>?_
 simp only[go_sem,qc,qa,XV,if_true,if_false,t13];apply hK
 refine za fun Z14 hZ14=>?_
 refine zw rfl ?_;apply zJ;apply hZ4;refine rgN [2] ?_;cases h;exact rtA
theorem yB.ev (a0:List UInt8)(r:Int)(h:yB a0=some r)(σ:Store):ACalls qh 102 [.str a0] σ (fun r' σ'=>r'=.int .i64 r∧σ'=σ):=
 (yB.ok a0 r h).c σ
def yW.j3 (x2:Bool):Bool:=
 (if x2=true then true else false)
def yW (a0:List UInt8):Bool:=
 (if a0=[115,99,104,101,109,97] then (yW.j3 (decide (a0=[115,99,104,101,109,97]))) else (if a0=[109,101,115,115,97,103,101] then (yW.j3 (decide (a0=[109,101,115,115,97,103,101]))) else (if a0=[101,110,117,109] then (yW.j3 (decide (a0=[101,110,117,109]))) else (if a0=[99,97,108,108] then (yW.j3 (decide (a0=[99,97,108,108]))) else (if a0=[114,101,116,117,114,110,115] then (yW.j3 (decide (a0=[114,101,116,117,114,110,115]))) else (if a0=[114,101,115,101,114,118,101,100] then (yW.j3 (decide (a0=[114,101,115,101,114,118,101,100]))) else (if a0=[111,112,116,105,111,110,97,108] then (yW.j3 (decide (a0=[111,112,116,105,111,110,97,108]))) else (if a0=[114,101,112,101,97,116,101,100] then (yW.j3 (decide (a0=[114,101,112,101,97,116,101,100]))) else (if a0=[105,110,116,51,50] then (yW.j3 (decide (a0=[105,110,116,51,50]))) else (if a0=[105,110,116,54,52] then (yW.j3 (decide (a0=[105,110,116,54,52]))) else (if a0=[98,111,111,108] then (yW.j3 (decide (a0=[98,111,111,108]))) else (if a0=[116,101,120,116] then (yW.j3 (decide (a0=[116,101,120,116]))) else (yW.j3 (decide (a0=[98,121,116,101,115])))))))))))))))
theorem yW.ok (a0:List UInt8)(r:Bool)(h:yW a0=r):ACalls qh 103 [.str a0] [] (fun r' _=>r'=.bool r):=by
 refine zi (rs:=[.tmp 2]) tok Tryz.func103 rfl Tryz.ntmps103 rfl Tryz.call103 (by simp) ?_;refine zm [(0,.str a0)] ⟨rfl,trivial⟩ ?_;unfold yW at h;refine rgN [0] ?_
 refine za fun Z1 hZ1=>?_
 refine rgN [3] ?_;apply ze;refine xG (fun L τ=>∃ (x2:Bool),L=[(4,.bool x2)]∧τ=[]∧yW.j3 x2=r) ?_ ?_
 · refine rgN [3,4] ?_;refine zD rfl (fun hc5=>?_) (fun hc5=>?_)
   · rw[if_pos hc5] at h;have t6:=eq_true hc5;apply zd;exact⟨_,_,⟨decide (a0=[115,99,104,101,109,97]),rfl,rfl,h⟩,.s⟩
   rw[if_neg hc5] at h;have t7:=eq_false hc5
   refine rg tok [3,4] fun K hK=>?_
   simp only[go_sem,qc,qa,t7];apply hK
   refine zD rfl (fun hc8=>?_) (fun hc8=>?_)
   · rw[if_pos hc8] at h;have t9:=eq_true hc8;apply zd;exact⟨_,_,⟨decide (a0=[109,101,115,115,97,103,101]),rfl,rfl,h⟩,.s⟩
   rw[if_neg hc8] at h;have t10:=eq_false hc8
   refine rg tok [3,4] fun K hK=>?_
   simp only[go_sem,qc,qa,t10];apply hK
   refine zD rfl (fun hc11=>?_) (fun hc11=>?_)
   · rw[if_pos hc11] at h;have t12:=eq_true hc11;apply zd;exact⟨_,_,⟨decide (a0=[101,110,117,109]),rfl,rfl,h⟩,.s⟩
   rw[if_neg hc11] at h;have t13:=eq_false hc11
   refine rg tok [3,4] fun K hK=>?_
   simp only[go_sem,qc,qa,t13];apply hK
   refine zD rfl (fun hc14=>?_) (fun hc14=>?_)
   · rw[if_pos hc14] at h;have t15:=eq_true hc14;apply zd;exact⟨_,_,⟨decide (a0=[99,97,108,108]),rfl,rfl,h⟩,.s⟩
   rw[if_neg hc14] at h;have t16:=eq_false hc14
   refine rg tok [3,4] fun K hK=>?_
   simp only[go_sem,qc,qa,t16];apply hK
   refine zD rfl (fun hc17=>?_) (fun hc17=>?_)
   · rw[if_pos hc17] at h;have t18:=eq_true hc17;apply zd;exact⟨_,_,⟨decide (a0=[114,101,116,117,114,110,115]),rfl,rfl,h⟩,.s⟩
   rw[if_neg hc17] at h;have t19:=eq_false hc17
   refine rg tok [3,4] fun K hK=>?_
   simp only[go_sem,qc,qa,t19];apply hK
   refine zD rfl (fun hc20=>?_) (fun hc20=>?_)
   · rw[if_pos hc20] at h;have t21:=eq_true hc20;apply zd;exact⟨_,_,⟨decide (a0=[114,101,115,101,114,118,101,100]),rfl,rfl,h⟩,.s⟩
   rw[if_neg hc20] at h;have t22:=eq_false hc20
   refine rg tok [3,4] fun K hK=>?_
   simp only[go_sem,qc,qa,t22];apply hK
   refine zD rfl (fun hc23=>?_) (fun hc23=>?_)
   · rw[if_pos hc23] at h;have t24:=eq_true hc23;apply zd;exact⟨_,_,⟨decide (a0=[111,112,116,105,111,110,97,108]),rfl,rfl,h⟩,.s⟩
   rw[if_neg hc23] at h;have t25:=eq_false hc23
   refine rg tok [3,4] fun K hK=>?_
   simp only[go_sem,qc,qa,t25];apply hK
   refine zD rfl (fun hc26=>?_) (fun hc26=>?_)
   · rw[if_pos hc26] at h;have t27:=eq_true hc26;apply zd;exact⟨_,_,⟨decide (a0=[114,101,112,101,97,116,101,100]),rfl,rfl,h⟩,.s⟩
   rw[if_neg hc26] at h;have t28:=eq_false hc26
   refine rg tok [3,4] fun K hK=>?_
   simp only[go_sem,qc,qa,t28];apply hK
   refine zD rfl (fun hc29=>?_) (fun hc29=>?_)
   · rw[if_pos hc29] at h;have t30:=eq_true hc29;apply zd;exact⟨_,_,⟨decide (a0=[105,110,116,51,50]),rfl,rfl,h⟩,.s⟩
   rw[if_neg hc29] at h;have t31:=eq_false hc29
   refine rg tok [3,4] fun K hK=>?_
   simp only[go_sem,qc,qa,t31];apply hK
   refine zD rfl (fun hc32=>?_) (fun hc32=>?_)
   · rw[if_pos hc32] at h;have t33:=eq_true hc32;apply zd;exact⟨_,_,⟨decide (a0=[105,110,116,54,52]),rfl,rfl,h⟩,.s⟩
   rw[if_neg hc32] at h;have t34:=eq_false hc32
   refine rg tok [3,4] fun K hK=>?_
   simp only[go_sem,qc,qa,t34];apply hK
   refine zD rfl (fun hc35=>?_) (fun hc35=>?_)
   · rw[if_pos hc35] at h;have t36:=eq_true hc35;apply zd;exact⟨_,_,⟨decide (a0=[98,111,111,108]),rfl,rfl,h⟩,.s⟩
   rw[if_neg hc35] at h;have t37:=eq_false hc35
   refine rg tok [3,4] fun K hK=>?_
   simp only[go_sem,qc,qa,t37];apply hK
   refine zD rfl (fun hc38=>?_) (fun hc38=>?_)
   · rw[if_pos hc38] at h;have t39:=eq_true hc38;apply zd;exact⟨_,_,⟨decide (a0=[116,101,120,116]),rfl,rfl,h⟩,.s⟩
   rw[if_neg hc38] at h;have t40:=eq_false hc38
   refine rgE tok [4] fun K hK=>?_
   simp only[go_sem,qc,qa,t40];apply hK
   exact⟨_,_,⟨decide (a0=[98,121,116,101,115]),rfl,rfl,h⟩,.s⟩
 rintro _ _ ⟨x2,rfl,rfl,h⟩;unfold yW.j3 at h;refine zn (b:=x2) rfl (fun hc4=>?_) (fun hc4=>?_)
 · rw[if_pos hc4] at h;refine rgN [2] ?_;cases h;exact rtA
 rw[xD hc4] at h;apply zd;apply hZ1;refine rgN [2] ?_;cases h;exact rtA
theorem yW.ev (a0:List UInt8)(r:Bool)(h:yW a0=r)(σ:Store):ACalls qh 103 [.str a0] σ (fun r' σ'=>r'=.bool r∧σ'=σ):=
 (yW.ok a0 r h).c σ
def wb (a0:Int)(a1:Int)(a2:Int):Bool:=
 ((decide (a1≤a0))&&(decide (a0≤a2)))
theorem wb.ok (a0:Int)(a1:Int)(a2:Int)(r:Bool)(h:wb a0 a1 a2=r):ACalls qh 139 [.int .i32 a0,.int .i32 a1,.int .i32 a2] [] (fun r' _=>r'=.bool r):=by
 refine zi (rs:=[.tmp 6]) tok Tryz.func139 rfl Tryz.ntmps139 rfl Tryz.call139 (by simp) ?_;refine zm [(0,.int .i32 a0),(1,.int .i32 a1),(2,.int .i32 a2)] ⟨rfl,rfl,rfl,trivial⟩ ?_;unfold wb at h;refine rgN [0,1,2] ?_
 refine rc [6] fun K hK=>?_
 refine rnN 4 ?_;refine zh 4 (fun L τ=>L=[(14,.bool ((decide (a1≤a0))&&(decide (a0≤a2))))]∧τ=[]) ?_ ?_
 · refine yx 10 rfl (fun hg10=>?_) (fun hg10=>?_)
   · have t1:=eq_true hg10;refine rnN 4 ?_;refine zb ⟨rfl,_,_,⟨rfl,rfl⟩,.p t1⟩
   have t2:=eq_false hg10;refine rnN 4 ?_;refine zb ⟨rfl,_,_,⟨rfl,rfl⟩,.p t2⟩
 rintro _ _ ⟨rfl,rfl⟩;refine rnN 1 ?_;refine nkN hK ?_;cases h;exact rtA
theorem wb.ev (a0:Int)(a1:Int)(a2:Int)(r:Bool)(h:wb a0 a1 a2=r)(σ:Store):ACalls qh 139 [.int .i32 a0,.int .i32 a1,.int .i32 a2] σ (fun r' σ'=>r'=.bool r∧σ'=σ):=
 (wb.ok a0 a1 a2 r h).c σ
def yQ.j6 (a0:Int)(x5:Bool):Bool:=
 (if x5=true then false else bnd (wb a0 97 122) fun r8=>bnd (if r8=true then true else bnd (wb a0 65 90) fun r9=>r9) fun c9=>bnd (if c9=true then true else bnd (wb a0 192 591) fun r11=>r11) fun c11=>bnd (if c11=true then true else bnd (wb a0 913 969) fun r13=>r13) fun c13=>c13)
def yQ (a0:Int):Bool:=
 (if a0=95 then true else (if a0=215 then (yQ.j6 a0 (decide (a0=215))) else (if a0=247 then (yQ.j6 a0 (decide (a0=247))) else (yQ.j6 a0 (decide (a0=930))))))
theorem yQ.ok (a0:Int)(r:Bool)(h:yQ a0=r):ACalls qh 104 [.int .i32 a0] [] (fun r' _=>r'=.bool r):=by
 refine zi (rs:=[.tmp 2]) tok Tryz.func104 rfl Tryz.ntmps104 rfl Tryz.call104 (by simp) ?_;refine zm [(0,.int .i32 a0)] ⟨rfl,trivial⟩ ?_;unfold yQ at h;refine rgN [0] ?_
 refine za fun Z1 hZ1=>?_
 refine rgN [0,3] ?_;apply ze;refine rgN [0,3,4] ?_;refine zD rfl (fun hc2=>?_) (fun hc2=>?_)
 · rw[if_pos hc2] at h;have t3:=eq_true hc2
   refine rg tok [2] fun K hK=>?_
   simp only[go_sem,qc,qa,reduceCtorEq,t3];apply hK
   cases h;exact rtA
 rw[if_neg hc2] at h;have t4:=eq_false hc2;refine xG (fun L τ=>∃ (x5:Bool),L=[(0,.int .i32 a0),(6,.bool x5)]∧τ=[]∧yQ.j6 a0 x5=r) ?_ ?_
 · refine rg tok [0,3,6] fun K hK=>?_
   simp only[go_sem,qc,qa,reduceCtorEq,t4];apply hK
   refine zD rfl (fun hc15=>?_) (fun hc15=>?_)
   · rw[if_pos hc15] at h;have t16:=eq_true hc15;apply zd;exact⟨_,_,⟨decide (a0=215),rfl,rfl,h⟩,.s⟩
   rw[if_neg hc15] at h;have t17:=eq_false hc15
   refine rg tok [0,3,6] fun K hK=>?_
   simp only[go_sem,qc,qa,reduceCtorEq,t17];apply hK
   refine zD rfl (fun hc18=>?_) (fun hc18=>?_)
   · rw[if_pos hc18] at h;have t19:=eq_true hc18;apply zd;exact⟨_,_,⟨decide (a0=247),rfl,rfl,h⟩,.s⟩
   rw[if_neg hc18] at h;have t20:=eq_false hc18
   refine rgE tok [0,6] fun K hK=>?_
   simp only[go_sem,qc,qa,reduceCtorEq,t20];apply hK
   exact⟨_,_,⟨decide (a0=930),rfl,rfl,h⟩,.s⟩
 rintro _ _ ⟨x5,rfl,rfl,h⟩;unfold yQ.j6 at h;refine zn (b:=x5) rfl (fun hc7=>?_) (fun hc7=>?_)
 · rw[if_pos hc7] at h;refine rgN [2] ?_;cases h;exact rtA
 rw[xD hc7] at h;apply zd;apply hZ1
 refine rc [2] fun K hK=>?_
 obtain⟨r8,hr8,h⟩:=zR h;refine rnN 1 ?_;refine clN rfl rfl rfl (wb.ev a0 97 122 r8 hr8 _) ?_;refine rnN 1 ?_;obtain⟨c9,hc9,h⟩:=zR h;refine zh 3 (fun L τ=>L=[(0,.int .i32 a0),(15,.bool c9)]∧τ=[]) ?_ ?_
 · refine zK (b:=r8) 12 rfl (fun hg12=>?_) (fun hg12=>?_)
   · rw[if_pos hg12] at hc9;refine rnN 3 ?_;subst hc9;refine zb ⟨rfl,_,_,⟨rfl,rfl⟩,.b hg12⟩
   rw[xD hg12] at hc9;obtain⟨r10,hr10,hc9⟩:=zR hc9;refine rnN 1 ?_;refine clN rfl rfl rfl (wb.ev a0 65 90 r10 hr10 _) ?_;refine rnN 1 ?_;subst hc9;refine zb ⟨rfl,_,_,⟨rfl,rfl⟩,.b hg12⟩
 rintro _ _ ⟨rfl,rfl⟩;refine rnN 1 ?_;obtain⟨c11,hc11,h⟩:=zR h;refine zh 3 (fun L τ=>L=[(0,.int .i32 a0),(19,.bool c11)]∧τ=[]) ?_ ?_
 · refine zK (b:=c9) 16 rfl (fun hg16=>?_) (fun hg16=>?_)
   · rw[if_pos hg16] at hc11;refine rnN 3 ?_;subst hc11;refine zb ⟨rfl,_,_,⟨rfl,rfl⟩,.b hg16⟩
   rw[xD hg16] at hc11;obtain⟨r12,hr12,hc11⟩:=zR hc11;refine rnN 1 ?_;refine clN rfl rfl rfl (wb.ev a0 192 591 r12 hr12 _) ?_;refine rnN 1 ?_;subst hc11;refine zb ⟨rfl,_,_,⟨rfl,rfl⟩,.b hg16⟩
 rintro _ _ ⟨rfl,rfl⟩;refine rnN 1 ?_;obtain⟨c13,hc13,h⟩:=zR h;refine zh 3 (fun L τ=>L=[(23,.bool c13)]∧τ=[]) ?_ ?_
 · refine zK (b:=c11) 20 rfl (fun hg20=>?_) (fun hg20=>?_)
   · rw[if_pos hg20] at hc13;refine rnN 3 ?_;subst hc13;refine zb ⟨rfl,_,_,⟨rfl,rfl⟩,.b hg20⟩
   rw[xD hg20] at hc13;obtain⟨r14,hr14,hc13⟩:=zR hc13;refine rnN 1 ?_;refine clN rfl rfl rfl (wb.ev a0 913 969 r14 hr14 _) ?_;refine rnN 1 ?_;subst hc13;refine zb ⟨rfl,_,_,⟨rfl,rfl⟩,.b hg20⟩
 rintro _ _ ⟨rfl,rfl⟩;refine rnN 1 ?_;refine nkN hK ?_;cases h;exact rtA
theorem yQ.ev (a0:Int)(r:Bool)(h:yQ a0=r)(σ:Store):ACalls qh 104 [.int .i32 a0] σ (fun r' σ'=>r'=.bool r∧σ'=σ):=
 (yQ.ok a0 r h).c σ
def wv (a0:Int):Bool:=
 bnd (wb a0 48 57) fun r1=>r1
theorem wv.ok (a0:Int)(r:Bool)(h:wv a0=r):ACalls qh 105 [.int .i32 a0] [] (fun r' _=>r'=.bool r):=by
 refine zi (rs:=[.tmp 2]) tok Tryz.func105 rfl Tryz.ntmps105 rfl Tryz.call105 (by simp) ?_;refine zm [(0,.int .i32 a0)] ⟨rfl,trivial⟩ ?_;unfold wv at h;refine rgN [0] ?_
 refine rc [2] fun K hK=>?_
 obtain⟨r1,hr1,h⟩:=zR h;refine rnN 1 ?_;refine clN rfl rfl rfl (wb.ev a0 48 57 r1 hr1 _) ?_;refine rnN 1 ?_;refine nkN hK ?_;cases h;exact rtA
theorem wv.ev (a0:Int)(r:Bool)(h:wv a0=r)(σ:Store):ACalls qh 105 [.int .i32 a0] σ (fun r' σ'=>r'=.bool r∧σ'=σ):=
 (wv.ok a0 r h).c σ
def yl.l11 (a0:List UInt8):Nat→Nat→Option Bool
 |0,_=>none
 |k11+1,p9=>(if p9<qb a0 then bnd (yQ ((Ye a0 p9).1:Int)) fun r15=>bnd (if (!r15)=true then bnd (if ((p9:Nat):Int)=0 then true else bnd (wv ((Ye a0 p9).1:Int)) fun r16 => !r16) fun c16=>c16 else false) fun c16=>(if c16=true then some false else ((yl.l11 a0 k11) (p9+(Ye a0 p9).2))) else some true)
def yl (a0:List UInt8):Option Bool:=
 (yB a0).bind fun r1=>bnd (if ((decide (r1<1))||(decide (20<r1)))=true then true else bnd (yW a0) fun r5=>r5) fun c5=>(if c5=true then some false else (yl.l11 a0 rounds 0))
theorem yl.ok (a0:List UInt8)(r:Bool)(h:yl a0=some r):ACalls qh 60 [.str a0] [] (fun r' _=>r'=.bool r):=by
 refine zi (rs:=[.tmp 2]) tok Tryz.func60 rfl Tryz.ntmps60 rfl Tryz.call60 (by simp) ?_;refine zm [(0,.str a0)] ⟨rfl,trivial⟩ ?_;unfold yl at h;refine rgN [0] ?_
 refine rc [0,3] fun K hK=>?_
 obtain⟨r1,hr1,h⟩:=bind_some h;refine rnN 1 ?_;refine clN rfl rfl rfl (yB.ev a0 r1 hr1 _) ?_;refine rnN 1 ?_;refine nkN hK ?_
 refine za fun Z2 hZ2=>?_
 refine rc [0,17] fun K hK=>?_
 refine rnN 3 ?_;refine zh 3 (fun L τ=>L=[(0,.str a0),(13,.bool ((decide (r1<1))||(decide (20<r1))))]∧τ=[]) ?_ ?_
 · refine yx 10 rfl (fun hg10=>?_) (fun hg10=>?_)
   · have t3:=eq_true hg10;refine rnN 3 ?_;refine zb ⟨rfl,_,_,⟨rfl,rfl⟩,.p t3⟩
   have t4:=eq_false hg10;refine rnN 3 ?_;refine zb ⟨rfl,_,_,⟨rfl,rfl⟩,.p t4⟩
 rintro _ _ ⟨rfl,rfl⟩;refine rnN 1 ?_;obtain⟨c5,hc5,h⟩:=zR h;refine zh 3 (fun L τ=>L=[(0,.str a0),(17,.bool c5)]∧τ=[]) ?_ ?_
 · refine zK (b:=((decide (r1<1))||(decide (20<r1)))) 14 rfl (fun hg14=>?_) (fun hg14=>?_)
   · rw[if_pos hg14] at hc5;refine rnN 3 ?_;subst hc5;refine zb ⟨rfl,_,_,⟨rfl,rfl⟩,.b hg14⟩
   rw[xD hg14] at hc5;obtain⟨r6,hr6,hc5⟩:=zR hc5;refine rnN 1 ?_;refine clN rfl rfl rfl (yW.ev a0 r6 hr6 _) ?_;refine rnN 1 ?_;subst hc5;refine zb ⟨rfl,_,_,⟨rfl,rfl⟩,.b hg14⟩
 rintro _ _ ⟨rfl,rfl⟩;refine nkN hK ?_;refine zn (b:=c5) rfl (fun hc7=>?_) (fun hc7=>?_)
 · rw[if_pos hc7] at h;refine rgN [2] ?_;cases h;exact rtA
 rw[xD hc7] at h;apply zd;apply hZ2
 refine za fun Z8 hZ8=>?_
 refine rgN [19] ?_;apply ze;refine zC (fun m L τ=>∃ (k11:Nat) (p9:Nat),m=0+k11∧L=[(19,.it 0)]∧τ=[.iter a0 p9]∧yl.l11 a0 k11 p9=some r) _ ⟨rounds,0,rfl,rfl,rfl,h⟩ .s ?_;rintro m L τ ⟨k11,p9,rfl,rfl,rfl,h⟩
 rcases k11 with _|k11
 · cases h
 simp only[yl.l11] at h
 by_cases hn12:p9<qb a0
 · rw[if_pos hn12] at h;have t13:=eq_true hn12
   refine rg tok [19,20,21] fun K hK=>?_
   simp only[go_sem,qc,qa,qd,XV,if_true,if_false,t13];apply hK
   refine za fun Z14 hZ14=>?_
   refine zz rfl ?_;apply zd;apply hZ14;apply ze;refine rgN [4,5,19] ?_
   refine rc [19,35] fun K hK=>?_
   obtain⟨r15,hr15,h⟩:=zR h;refine rnN 1 ?_;refine clN rfl rfl rfl (yQ.ev ((Ye a0 p9).1:Int) r15 hr15 _) ?_;refine rnN 2 ?_;obtain⟨c16,hc16,h⟩:=zR h;refine zh 8 (fun L τ=>L=[(19,.it 0),(35,.bool c16)]∧τ=[.iter a0 (p9+(Ye a0 p9).2)]) ?_ ?_
   · refine zK (b:=(!r15)) 27 rfl (fun hg27=>?_) (fun hg27=>?_)
     · rw[if_pos hg27] at hc16;refine rnN 3 ?_;obtain⟨c17,hc17,hc16⟩:=zR hc16;refine zh 4 (fun L τ=>L=[(19,.it 0),(27,.bool true),(34,.bool c17)]∧τ=[.iter a0 (p9+(Ye a0 p9).2)]) ?_ ?_
       · refine yx 30 rfl (fun hg30=>?_) (fun hg30=>?_)
         · have t18:=eq_true hg30;rw[if_pos hg30] at hc17;refine rnN 4 ?_;subst hc17;refine zb ⟨rfl,_,_,⟨rfl,rfl⟩,.p t18⟩
         have t19:=eq_false hg30;rw[if_neg hg30] at hc17;obtain⟨r20,hr20,hc17⟩:=zR hc17;refine rnN 1 ?_;refine clN rfl rfl rfl (wv.ev ((Ye a0 p9).1:Int) r20 hr20 _) ?_;refine rnN 2 ?_;subst hc17;refine zb ⟨rfl,_,_,⟨rfl,rfl⟩,.p t19⟩
       rintro _ _ ⟨rfl,rfl⟩;refine rnN 1 ?_;subst hc16;refine zb ⟨rfl,_,_,⟨rfl,rfl⟩,.b hg27⟩
     rw[xD hg27] at hc16;refine rnN 8 ?_;subst hc16;refine zb ⟨rfl,_,_,⟨rfl,rfl⟩,.b hg27⟩
   rintro _ _ ⟨rfl,rfl⟩;refine nkN hK ?_;refine zn (b:=c16) rfl (fun hc21=>?_) (fun hc21=>?_)
   · rw[if_pos hc21] at h;refine rgN [2] ?_;cases h;exact rtA
   rw[xD hc21] at h;apply zd;exact⟨_,_,_,qy (0+k11),⟨k11,p9+(Ye a0 p9).2,rfl,rfl,rfl,h⟩,.s⟩
 rw[if_neg hn12] at h;have t22:=eq_false hn12
 refine rg tok [19,20,21] fun K hK=>?_
 simp only[go_sem,qc,qa,XV,if_true,if_false,t22];apply hK
 refine za fun Z23 hZ23=>?_
 refine zw rfl ?_;apply zJ;apply hZ8;refine rgN [2] ?_;cases h;exact rtA
end
section
set_option maxRecDepth 4000
set_option maxHeartbeats 1000000
open AM
theorem yl.ev (a0:List UInt8)(r:Bool)(h:yl a0=some r)(σ:Store):ACalls qh 60 [.str a0] σ (fun r' σ'=>r'=.bool r∧σ'=σ):=
 (yl.ok a0 r h).c σ
def z7 (a0:List (List UInt8×Bool))(a1:List UInt8):Option (Bool×List (List UInt8×Bool)):=
 (yl a1).bind fun r2=>(if ((!r2)||((vao a0 a1).getD false))=true then some (false,a0) else some (true,vad a0 a1 true))
theorem z7.ok (a0:List (List UInt8×Bool))(a1:List UInt8)(r:Bool×List (List UInt8×Bool))(h:z7 a0 a1=some r):ACalls qh 63 [.mp 0,.str a1] [.map (we AV.str AV.bool a0)] (fun r' σ'=>r'=.bool r.1∧σ'=[.map (we AV.str AV.bool r.2)]):=by
 refine YD [0] (rs:=[.tmp 4]) tok Tryz.func63 rfl Tryz.ntmps63 rfl Tryz.call63 (by simp) rfl ?_;refine zm [(0,.mp 0),(1,.str a1)] ⟨rfl,rfl,trivial⟩ ?_;unfold z7 at h;refine rgN [0,1] ?_
 refine za fun Z1 hZ1=>?_
 refine rc [0,1,12] fun K hK=>?_
 obtain⟨r2,hr2,h⟩:=bind_some h;refine rnN 1 ?_;refine clN rfl rfl rfl (yl.ev a1 r2 hr2 _) ?_;refine rnN 2 ?_;refine zh 4 (fun L τ=>L=[(0,.mp 0),(1,.str a1),(12,.bool ((!r2)||((vao a0 a1).getD false)))]∧τ=[.map (we AV.str AV.bool a0)]) ?_ ?_
 · refine zK (b:=(!r2)) 8 rfl (fun hg8=>?_) (fun hg8=>?_)
   · refine zj tok 4 ?_;simp only[go_sem,qc,qa,reduceCtorEq,if_false,if_true];refine zb ⟨rfl,_,_,⟨rfl,rfl⟩,.b hg8⟩
   have f3:=fun (x:Store)=>vaX (T:=tab) (t:=117) (ek:=AV.str) (ev:=AV.bool) (z:=false) (KeyE.str rfl rfl rfl rfl) rfl rfl rfl rfl a0 a1 false (.map (we AV.str AV.bool a0)::x) 0 rfl
   refine zj tok 4 ?_;simp only[go_sem,qc,qa,reduceCtorEq,Xu,qZ,if_false,if_true,f3];refine zb ⟨rfl,_,_,⟨rfl,rfl⟩,.b hg8⟩
 rintro _ _ ⟨rfl,rfl⟩;refine nkN hK ?_;refine zn (b:=((!r2)||((vao a0 a1).getD false))) rfl (fun hc4=>?_) (fun hc4=>?_)
 · rw[if_pos hc4] at h;refine rgN [4] ?_;apply yw;cases h;simp only[Zv,yP,yZ,xJ,exists_eq_left',go_sem];refine⟨by decide,by simp,?_,?_⟩
   · first|rfl|(simp only[go_sem,qc,qe,qa,qd,ql,qm,reduceIte,reduceCtorEq,push_cast,if_true,qD,qt,qG,qx,qH,qO,qU,qL,qR,qK,qC,zE]<;>rfl)
   first|rfl|(simp only[go_sem,push_cast,qx]<;>rfl)
 rw[xD hc4] at h;apply zd;apply hZ1
 have f5:=fun (x:Store)=>vaR (T:=tab) (t:=117) (ek:=AV.str) (ev:=AV.bool) (KeyE.str rfl rfl rfl rfl) rfl rfl a0 a1 true (.map (we AV.str AV.bool a0)::x) 0 rfl
 refine rg tok [] fun K hK=>?_
 simp only[go_sem,qc,qa,reduceCtorEq,f5];apply hK
 refine rgN [4] ?_;apply yw;cases h;simp only[Zv,yP,yZ,xJ,exists_eq_left',go_sem];refine⟨by decide,by simp,?_,?_⟩
 · first|rfl|(simp only[go_sem,qc,qe,qa,qd,ql,qm,reduceIte,reduceCtorEq,push_cast,if_true,qD,qt,qG,qx,qH,qO,qU,qL,qR,qK,qC,zE]<;>rfl)
 first|rfl|(simp only[go_sem,push_cast,qx]<;>rfl)
def wF (a0:Int):Bool:=
 ((decide (1≤a0))&&(decide (a0≤500)))
theorem wF.ok (a0:Int)(r:Bool)(h:wF a0=r):ACalls qh 106 [.int .i64 a0] [] (fun r' _=>r'=.bool r):=by
 refine zi (rs:=[.tmp 2]) tok Tryz.func106 rfl Tryz.ntmps106 rfl Tryz.call106 (by simp) ?_;refine zm [(0,.int .i64 a0)] ⟨rfl,trivial⟩ ?_;unfold wF at h;refine rgN [0] ?_
 refine rc [2] fun K hK=>?_
 refine rnN 3 ?_;refine zh 3 (fun L τ=>L=[(8,.bool ((decide (1≤a0))&&(decide (a0≤500))))]∧τ=[]) ?_ ?_
 · refine yx 5 rfl (fun hg5=>?_) (fun hg5=>?_)
   · have t1:=eq_true hg5;refine rnN 3 ?_;refine zb ⟨rfl,_,_,⟨rfl,rfl⟩,.p t1⟩
   have t2:=eq_false hg5;refine rnN 3 ?_;refine zb ⟨rfl,_,_,⟨rfl,rfl⟩,.p t2⟩
 rintro _ _ ⟨rfl,rfl⟩;refine rnN 1 ?_;refine nkN hK ?_;cases h;exact rtA
theorem wF.ev (a0:Int)(r:Bool)(h:wF a0=r)(σ:Store):ACalls qh 106 [.int .i64 a0] σ (fun r' σ'=>r'=.bool r∧σ'=σ):=
 (wF.ok a0 r h).c σ
def xj.l4 (a1:List UInt8):List GEnumeration→Int→GEnumeration×Bool
 |[],x2=>((⟨[],([]:List GNamed)⟩:GEnumeration),false)
 |y4::q4,x2=>(if y4.fName=a1 then (y4,true) else ((xj.l4 a1 q4) (x2+1)))
def xj (a0:GSchema)(a1:List UInt8):GEnumeration×Bool:=
 (xj.l4 a1 a0.fEnums 0)
theorem xj.ok (a0:GSchema)(a1:List UInt8)(r:GEnumeration×Bool)(h:xj a0 a1=r):ACalls qh 140 [.agg (encGSchema a0),.str a1] [] (fun r' _=>r'=.tup [.agg (encGEnumeration r.1),.bool r.2]):=by
 refine zi (rs:=[.cell 4 84,.tmp 5]) tok Tryz.func140 rfl Tryz.ntmps140 rfl Tryz.call140 (by simp) ?_;refine zm [(0,.agg (encGSchema a0)),(1,.str a1)] ⟨rfl,rfl,trivial⟩ ?_;unfold xj at h
 refine rg tok [1,2,4] fun K hK=>?_
 simp only[go_sem,qc,qa,qd,reduceCtorEq,encGSchema];apply hK
 refine za fun Z1 hZ1=>?_
 refine rgN [1,4,9,10,11] ?_;apply ze
 refine xb 9 fun hb4=>?_
 replace hb4:qb a0.fEnums≤9223372036854775807:=hb4.1;refine zC (fun m L τ=>∃ (p4 q4:List GEnumeration) (x2:Int),m=qb q4∧L=[(1,.str a1),(4,.op 0 0 0),(9,.ds true (qf encGEnumeration a0.fEnums) (qb a0.fEnums) false),(10,.int .i64 (qb a0.fEnums:Int)),(11,.int .i64 x2)]∧τ=[.cells 0 [.str [],.ds true [] 0 true]]∧a0.fEnums=p4++q4∧x2=(qb p4:Int)∧xj.l4 a1 q4 x2=r) _ ⟨[],a0.fEnums,0,rfl,rfl,rfl,rfl,rfl,h⟩ (.t [1] false) ?_;rintro m L τ ⟨p4,q4,x2,rfl,rfl,rfl,hE4,hi4,h⟩
 rcases q4 with _|⟨y4,q4⟩
 · have hz4:=yz hE4 hi4;simp only[xj.l4] at h
   refine rg tok [1,4,9,10,11,12] fun K hK=>?_
   simp only[go_sem,qc,qa,hz4];apply hK
   refine za fun Z5 hZ5=>?_
   refine zw rfl ?_;apply zJ;apply hZ1;refine rgN [4,5] ?_;cases h;exact rtA
 obtain⟨hz4,hw4,hx4,hE'4,hi'4⟩:=yd hE4 hi4 hb4;simp only[xj.l4] at h
 refine rg tok [1,4,9,10,11,12] fun K hK=>?_
 simp only[go_sem,qc,qa,hz4];apply hK
 refine za fun Z6 hZ6=>?_
 refine zz rfl ?_;apply zd;apply hZ6
 refine za fun Z7 hZ7=>?_
 apply ze;have f8:=E23.idxS hx4;have f9:=E23.loadS rfl rfl hx4
 refine rg tok [1,4,7,9,10,11] fun K hK=>?_
 simp only[go_sem,qc,qe,qa,qd,encGEnumeration,f8,f9];apply hK
 refine rgN [1,4,7,9,10,11,18] ?_;refine zD rfl (fun hc10=>?_) (fun hc10=>?_)
 · rw[if_pos hc10] at h;have t11:=eq_true hc10
   refine rg tok [4,5] fun K hK=>?_
   simp only[go_sem,qc,qe,qa,qd,t11];apply hK
   cases h;exact rtA
 rw[if_neg hc10] at h;have t12:=eq_false hc10;apply zd;apply hZ7
 refine rgE tok [1,4,9,10,11] fun K hK=>?_
 simp only[go_sem,qc,qa,hw4,t12];apply hK
 exact⟨_,_,_,qy q4.length,⟨p4++[y4],q4,x2+1,rfl,rfl,rfl,hE'4,hi'4,h⟩,(.t [0] false)⟩
theorem xj.ev (a0:GSchema)(a1:List UInt8)(r:GEnumeration×Bool)(h:xj a0 a1=r)(σ:Store):ACalls qh 140 [.agg (encGSchema a0),.str a1] σ (fun r' σ'=>r'=.tup [.agg (encGEnumeration r.1),.bool r.2]∧σ'=σ):=
 (xj.ok a0 a1 r h).c σ
def xC (a0:GSchema)(a1:GField):Bool:=
 (if a1.fType.fKind=6 then bnd (xj a0 a1.fType.fName) fun r6=>(((decide (1≤a1.fLabel))&&(decide (a1.fLabel≤3)))&&r6.2) else (if a1.fType.fKind=7 then bnd (zx a0 a1.fType.fName) fun r10=>(((decide (1≤a1.fLabel))&&(decide (a1.fLabel≤3)))&&r10.2) else (((((decide (1≤a1.fLabel))&&(decide (a1.fLabel≤3)))&&(decide (1≤a1.fType.fKind)))&&(decide (a1.fType.fName=[])))&&(decide (a1.fType.fKind<6)))))
theorem xC.ok (a0:GSchema)(a1:GField)(r:Bool)(h:xC a0 a1=r):ACalls qh 107 [.agg (encGSchema a0),.agg (encGField a1)] [] (fun r' _=>r'=.bool r):=by
 refine zi (rs:=[.tmp 4]) tok Tryz.func107 rfl Tryz.ntmps107 rfl Tryz.call107 (by simp) ?_;refine zm [(0,.agg (encGSchema a0)),(1,.agg (encGField a1))] ⟨rfl,rfl,trivial⟩ ?_;unfold xC at h
 refine rg tok [2,3] fun K hK=>?_
 simp only[go_sem,qc,qa,qd,reduceCtorEq,encGField,encGSchema];apply hK
 refine rc [2,3,5] fun K hK=>?_
 refine rnN 4 ?_;refine zh 4 (fun L τ=>L=[(2,.op 0 0 0),(3,.op 1 0 0),(17,.bool ((decide (1≤a1.fLabel))&&(decide (a1.fLabel≤3))))]∧τ=[.cells 0 (encGSchema a0),.cells 0 (encGField a1)]) ?_ ?_
 · refine yx 13 rfl (fun hg13=>?_) (fun hg13=>?_)
   · have t1:=eq_true hg13;refine rnN 4 ?_;refine zb ⟨rfl,_,_,⟨rfl,rfl⟩,.p t1⟩
   have t2:=eq_false hg13;refine rnN 4 ?_;refine zb ⟨rfl,_,_,⟨rfl,rfl⟩,.p t2⟩
 rintro _ _ ⟨rfl,rfl⟩;refine rnN 1 ?_;refine nkN hK ?_
 refine za fun Z3 hZ3=>?_
 refine rgN [2,3,5,20] ?_;apply ze;refine rgN [2,3,5,20,21] ?_;refine zD rfl (fun hc4=>?_) (fun hc4=>?_)
 · rw[if_pos hc4] at h;have t5:=eq_true hc4
   refine rc [5,7] fun K hK=>?_
   obtain⟨r6,hr6,h⟩:=zR h;refine zj tok 4 ?_;simp only[go_sem,qc,qe,qa,qd,t5];refine clN rfl rfl rfl (xj.ev a0 a1.fType.fName r6 hr6 _) ?_;refine zj tok 6 ?_;simp only[go_sem,qc,qe,qa,qd,encGEnumeration];refine nkN hK ?_
   refine rc [4] fun K hK=>?_
   refine rnN 2 ?_;refine zh 2 (fun L τ=>L=[(34,.bool (((decide (1≤a1.fLabel))&&(decide (a1.fLabel≤3)))&&r6.2))]∧τ=[.cells 0 (encGSchema a0),.cells 0 (encGField a1),.cells 0 (encGEnumeration r6.1)]) ?_ ?_
   · refine zK (b:=((decide (1≤a1.fLabel))&&(decide (a1.fLabel≤3)))) 32 rfl (fun hg32=>?_) (fun hg32=>?_)
     · refine rnN 2 ?_;refine zb ⟨rfl,_,_,⟨rfl,rfl⟩,.b hg32⟩
     refine rnN 2 ?_;refine zb ⟨rfl,_,_,⟨rfl,rfl⟩,.b hg32⟩
   rintro _ _ ⟨rfl,rfl⟩;refine rnN 1 ?_;refine nkN hK ?_;cases h;exact rtA
 rw[if_neg hc4] at h;have t7:=eq_false hc4
 refine rg tok [2,3,5,35] fun K hK=>?_
 simp only[go_sem,qc,qa,t7];apply hK
 refine zD rfl (fun hc8=>?_) (fun hc8=>?_)
 · rw[if_pos hc8] at h;have t9:=eq_true hc8
   refine rc [5,9] fun K hK=>?_
   obtain⟨r10,hr10,h⟩:=zR h;refine zj tok 4 ?_;simp only[go_sem,qc,qe,qa,qd,t9];refine clN rfl rfl rfl (zx.ev a0 a1.fType.fName r10 hr10 _) ?_;refine zj tok 6 ?_;simp only[go_sem,qc,qe,qa,qd,encGMessage];refine nkN hK ?_
   refine rc [4] fun K hK=>?_
   refine rnN 2 ?_;refine zh 2 (fun L τ=>L=[(48,.bool (((decide (1≤a1.fLabel))&&(decide (a1.fLabel≤3)))&&r10.2))]∧τ=[.cells 0 (encGSchema a0),.cells 0 (encGField a1),.cells 0 (encGMessage r10.1)]) ?_ ?_
   · refine zK (b:=((decide (1≤a1.fLabel))&&(decide (a1.fLabel≤3)))) 46 rfl (fun hg46=>?_) (fun hg46=>?_)
     · refine rnN 2 ?_;refine zb ⟨rfl,_,_,⟨rfl,rfl⟩,.b hg46⟩
     refine rnN 2 ?_;refine zb ⟨rfl,_,_,⟨rfl,rfl⟩,.b hg46⟩
   rintro _ _ ⟨rfl,rfl⟩;refine rnN 1 ?_;refine nkN hK ?_;cases h;exact rtA
 rw[if_neg hc8] at h;have t11:=eq_false hc8;apply zd;apply hZ3
 refine rc [4] fun K hK=>?_
 refine zj tok 2 ?_;simp only[go_sem,qc,qa,t11];refine zh 5 (fun L τ=>L=[(3,.op 1 0 0),(55,.bool (((decide (1≤a1.fLabel))&&(decide (a1.fLabel≤3)))&&(decide (1≤a1.fType.fKind))))]∧τ=[.cells 0 (encGSchema a0),.cells 0 (encGField a1)]) ?_ ?_
 · refine zK (b:=((decide (1≤a1.fLabel))&&(decide (a1.fLabel≤3)))) 50 rfl (fun hg50=>?_) (fun hg50=>?_)
   · refine rnN 5 ?_;refine zb ⟨rfl,_,_,⟨rfl,rfl⟩,.b hg50⟩
   refine rnN 5 ?_;refine zb ⟨rfl,_,_,⟨rfl,rfl⟩,.b hg50⟩
 rintro _ _ ⟨rfl,rfl⟩;refine rnN 1 ?_;refine zh 8 (fun L τ=>L=[(3,.op 1 0 0),(64,.bool ((((decide (1≤a1.fLabel))&&(decide (a1.fLabel≤3)))&&(decide (1≤a1.fType.fKind)))&&(decide (a1.fType.fName=[]))))]∧τ=[.cells 0 (encGSchema a0),.cells 0 (encGField a1)]) ?_ ?_
 · refine zK (b:=(((decide (1≤a1.fLabel))&&(decide (a1.fLabel≤3)))&&(decide (1≤a1.fType.fKind)))) 56 rfl (fun hg56=>?_) (fun hg56=>?_)
   · refine zj tok 8 ?_;simp only[go_sem,qc,qe,qa,qd,evEqA,ceqL,ceq];refine zb ⟨rfl,_,_,⟨rfl,rfl⟩,.b hg56⟩
   refine rnN 8 ?_;refine zb ⟨rfl,_,_,⟨rfl,rfl⟩,.b hg56⟩
 rintro _ _ ⟨rfl,rfl⟩;refine rnN 1 ?_;refine zh 5 (fun L τ=>L=[(70,.bool (((((decide (1≤a1.fLabel))&&(decide (a1.fLabel≤3)))&&(decide (1≤a1.fType.fKind)))&&(decide (a1.fType.fName=[])))&&(decide (a1.fType.fKind<6))))]∧τ=[.cells 0 (encGSchema a0),.cells 0 (encGField a1)]) ?_ ?_
 · refine zK (b:=((((decide (1≤a1.fLabel))&&(decide (a1.fLabel≤3)))&&(decide (1≤a1.fType.fKind)))&&(decide (a1.fType.fName=[])))) 65 rfl (fun hg65=>?_) (fun hg65=>?_)
   · refine rnN 5 ?_;refine zb ⟨rfl,_,_,⟨rfl,rfl⟩,.b hg65⟩
   refine rnN 5 ?_;refine zb ⟨rfl,_,_,⟨rfl,rfl⟩,.b hg65⟩
 rintro _ _ ⟨rfl,rfl⟩;refine rnN 1 ?_;refine nkN hK ?_;cases h;exact rtA
theorem xC.ev (a0:GSchema)(a1:GField)(r:Bool)(h:xC a0 a1=r)(σ:Store):ACalls qh 107 [.agg (encGSchema a0),.agg (encGField a1)] σ (fun r' σ'=>r'=.bool r∧σ'=σ):=
 (xC.ok a0 a1 r h).c σ
def zp.l21 (a0:GSchema)(r2:Bool×List (List UInt8×Bool)):List GField→Int→List (Int×Bool)→List (List UInt8×Bool)→Option (Int×List (List UInt8×Bool))
 |[],x17,l15,l16=>some (0,r2.2)
 |y21::q21,x17,l15,l16=>(z7 l16 y21.fName).bind fun r28=>(if (!r28.1)=true then some (6,r2.2) else bnd (wF y21.fTag) fun r30=>(if ((!r30)||((vao l15 y21.fTag).getD false))=true then some (7,r2.2) else bnd (xC a0 y21) fun r33=>(if (!r33)=true then some (8,r2.2) else ((zp.l21 a0 r2 q21) (x17+1) (vad l15 y21.fTag true) r28.2))))
def zp.l12 (a0:GSchema)(a2:GMessage)(r2:Bool×List (List UInt8×Bool)):List Int→Int→List (Int×Bool)→Option (Int×List (List UInt8×Bool))
 |[],x9,l8=>(zp.l21 a0 r2 a2.fFields 0 l8 [])
 |y12::q12,x9,l8=>bnd (wF y12) fun r41=>(if ((!r41)||((vao l8 y12).getD false))=true then some (7,r2.2) else ((zp.l12 a0 a2 r2 q12) (x9+1) (vad l8 y12 true)))
def zp (a0:GSchema)(a1:List (List UInt8×Bool))(a2:GMessage):Option (Int×List (List UInt8×Bool)):=
 (z7 a1 a2.fName).bind fun r2=>(if (!r2.1)=true then some (6,r2.2) else (if ((decide (16<(qb a2.fFields:Int)))||(decide (32<(qb a2.fReserved:Int))))=true then some (4,r2.2) else (zp.l12 a0 a2 r2 a2.fReserved 0 [])))
theorem zp.ok (a0:GSchema)(a1:List (List UInt8×Bool))(a2:GMessage)(r:Int×List (List UInt8×Bool))(h:zp a0 a1 a2=some r):ACalls qh 61 [.agg (encGSchema a0),.mp 0,.agg (encGMessage a2)] [.map (we AV.str AV.bool a1)] (fun r' σ'=>r'=.int .i64 r.1∧σ'=[.map (we AV.str AV.bool r.2)]):=by
 refine YD [0] (rs:=[.tmp 6]) tok Tryz.func61 rfl Tryz.ntmps61 rfl Tryz.call61 (by simp) rfl ?_;refine zm [(0,.agg (encGSchema a0)),(1,.mp 0),(2,.agg (encGMessage a2))] ⟨rfl,rfl,rfl,trivial⟩ ?_;unfold zp at h
 refine rg tok [1,3,5] fun K hK=>?_
 simp only[go_sem,qc,qa,qd,reduceCtorEq,encGMessage,encGSchema];apply hK
 refine za fun Z1 hZ1=>?_
 apply ze
 refine rc [3,5,13] fun K hK=>?_
 obtain⟨r2,hr2,h⟩:=bind_some h;refine rnN 3 ?_;refine clN rfl rfl rfl (@id (ACalls qh 63 [.mp 0,.str a2.fName] [.map (we AV.str AV.bool a1),.cells 0 (encGSchema a0),.cells 0 (encGMessage a2)] (fun r' σ'=>r'=.bool r2.1∧σ'=[.map (we AV.str AV.bool r2.2),.cells 0 (encGSchema a0),.cells 0 (encGMessage a2)])) ((z7.ok a1 a2.fName r2 hr2).i [0])) ?_;refine rnN 2 ?_;refine nkN hK ?_;refine zn (b:=(!r2.1)) rfl (fun hc3=>?_) (fun hc3=>?_)
 · rw[if_pos hc3] at h;refine rgN [6] ?_;apply yw;cases h;simp only[Zv,yP,yZ,xJ,exists_eq_left',go_sem,qd];refine⟨by decide,by simp,?_,?_⟩
   · first|rfl|(simp only[go_sem,qc,qe,qa,qd,ql,qm,reduceIte,reduceCtorEq,push_cast,if_true,qD,qt,qG,qx,qH,qO,qU,qL,qR,qK,qC,zE]<;>rfl)
   first|rfl|(simp only[go_sem,push_cast,qx]<;>rfl)
 rw[xD hc3] at h
 refine rc [3,5,19] fun K hK=>?_
 refine rnN 5 ?_;refine zh 5 (fun L τ=>L=[(3,.op 1 0 0),(5,.op 2 0 0),(29,.bool ((decide (16<(qb a2.fFields:Int)))||(decide (32<(qb a2.fReserved:Int)))))]∧τ=[.map (we AV.str AV.bool r2.2),.cells 0 (encGSchema a0),.cells 0 (encGMessage a2)]) ?_ ?_
 · refine yx 24 rfl (fun hg24=>?_) (fun hg24=>?_)
   · have t4:=eq_true hg24;refine rnN 5 ?_;refine zb ⟨rfl,_,_,⟨rfl,rfl⟩,.p t4⟩
   have t5:=eq_false hg24;refine rnN 5 ?_;refine zb ⟨rfl,_,_,⟨rfl,rfl⟩,.p t5⟩
 rintro _ _ ⟨rfl,rfl⟩;refine rnN 1 ?_;refine nkN hK ?_;refine zn (b:=((decide (16<(qb a2.fFields:Int)))||(decide (32<(qb a2.fReserved:Int))))) rfl (fun hc6=>?_) (fun hc6=>?_)
 · rw[if_pos hc6] at h;refine rgN [6] ?_;apply yw;cases h;simp only[Zv,yP,yZ,xJ,exists_eq_left',go_sem,qd];refine⟨by decide,by simp,?_,?_⟩
   · first|rfl|(simp only[go_sem,qc,qe,qa,qd,ql,qm,reduceIte,reduceCtorEq,push_cast,if_true,qD,qt,qG,qx,qH,qO,qU,qL,qR,qK,qC,zE]<;>rfl)
   first|rfl|(simp only[go_sem,push_cast,qx]<;>rfl)
 rw[xD hc6] at h;apply zd;apply hZ1;refine rgN [3,5,7] ?_;refine yc (L:=[(3,.op 1 0 0),(5,.op 2 0 0),(7,.mp 3)]) (τ:=[.map (we AV.str AV.bool r2.2),.cells 0 (encGSchema a0),.cells 0 (encGMessage a2),.map (we (AV.int .i64) AV.bool [])]) .s ?_
 refine za fun Z7 hZ7=>?_
 refine rgN [3,5,7,32,33,34] ?_;apply ze
 refine xb 32 fun hb12=>?_
 replace hb12:qb a2.fReserved≤9223372036854775807:=hb12.1;refine zC (fun m L τ=>∃ (p12 q12:List Int) (x9:Int) (l8:List (Int×Bool)),m=qb q12∧L=[(3,.op 1 0 0),(5,.op 2 0 0),(7,.mp 3),(32,.ds true (qf encI a2.fReserved) (qb a2.fReserved) false),(33,.int .i64 (qb a2.fReserved:Int)),(34,.int .i64 x9)]∧τ=[.map (we AV.str AV.bool r2.2),.cells 0 (encGSchema a0),.cells 0 (encGMessage a2),.map (we (AV.int .i64) AV.bool l8)]∧a2.fReserved=p12++q12∧x9=(qb p12:Int)∧zp.l12 a0 a2 r2 q12 x9 l8=some r) _ ⟨[],a2.fReserved,0,[],rfl,rfl,rfl,rfl,rfl,h⟩ .s ?_;rintro m L τ ⟨p12,q12,x9,l8,rfl,rfl,rfl,hE12,hi12,h⟩
 rcases q12 with _|⟨y12,q12⟩
 · have hz12:=yz hE12 hi12;simp only[zp.l12] at h
   refine rg tok [3,5,7,32,33,34,35] fun K hK=>?_
   simp only[go_sem,qc,qa,hz12];apply hK
   refine za fun Z13 hZ13=>?_
   refine zw rfl ?_;apply zJ;apply hZ7;refine rgN [3,5,7,10] ?_;refine yc (L:=[(3,.op 1 0 0),(5,.op 2 0 0),(7,.mp 3),(10,.mp 4)]) (τ:=[.map (we AV.str AV.bool r2.2),.cells 0 (encGSchema a0),.cells 0 (encGMessage a2),.map (we (AV.int .i64) AV.bool l8),.map (we AV.str AV.bool [])]) .s ?_
   refine za fun Z14 hZ14=>?_
   refine rgN [3,7,10,51,52,53] ?_;apply ze
   refine xb 51 fun hb21=>?_
   replace hb21:qb a2.fFields≤9223372036854775807:=hb21.1;refine zC (fun m L τ=>∃ (p21 q21:List GField) (x17:Int) (l15:List (Int×Bool)) (l16:List (List UInt8×Bool)),m=qb q21∧L=[(3,.op 1 0 0),(7,.mp 2),(10,.mp 3),(51,.ds true (qf encGField a2.fFields) (qb a2.fFields) false),(52,.int .i64 (qb a2.fFields:Int)),(53,.int .i64 x17)]∧τ=[.map (we AV.str AV.bool r2.2),.cells 0 (encGSchema a0),.map (we (AV.int .i64) AV.bool l15),.map (we AV.str AV.bool l16)]∧a2.fFields=p21++q21∧x17=(qb p21:Int)∧zp.l21 a0 r2 q21 x17 l15 l16=some r) _ ⟨[],a2.fFields,0,l8,[],rfl,rfl,rfl,rfl,rfl,h⟩ (.t [0,1,3,4] false) ?_;rintro m L τ ⟨p21,q21,x17,l15,l16,rfl,rfl,rfl,hE21,hi21,h⟩
   rcases q21 with _|⟨y21,q21⟩
   · have hz21:=yz hE21 hi21;simp only[zp.l21] at h
     refine rg tok [3,7,10,51,52,53,54] fun K hK=>?_
     simp only[go_sem,qc,qa,hz21];apply hK
     refine za fun Z22 hZ22=>?_
     refine zw rfl ?_;apply zJ;apply hZ14;refine rgN [6] ?_;apply yw;cases h;simp only[Zv,yP,yZ,xJ,exists_eq_left',go_sem,qd];refine⟨by decide,by simp,?_,?_⟩
     · first|rfl|(simp only[go_sem,qc,qe,qa,qd,ql,qm,reduceIte,reduceCtorEq,push_cast,if_true,qD,qt,qG,qx,qH,qO,qU,qL,qR,qK,qC,zE]<;>rfl)
     first|rfl|(simp only[go_sem,push_cast,qx]<;>rfl)
   obtain⟨hz21,hw21,hx21,hE'21,hi'21⟩:=yd hE21 hi21 hb21;simp only[zp.l21] at h
   refine rg tok [3,7,10,51,52,53,54] fun K hK=>?_
   simp only[go_sem,qc,qa,hz21];apply hK
   refine za fun Z23 hZ23=>?_
   refine zz rfl ?_;apply zd;apply hZ23
   refine za fun Z24 hZ24=>?_
   apply ze;have f25:=E47.idxS hx21;have f26:=E47.loadS rfl rfl hx21
   refine rg tok [3,7,10,12,51,52,53] fun K hK=>?_
   simp only[go_sem,qc,qe,qa,qd,encGField,f25,f26];apply hK
   refine za fun Z27 hZ27=>?_
   apply ze
   refine rc [3,7,10,12,51,52,53,57] fun K hK=>?_
   obtain⟨r28,hr28,h⟩:=bind_some h;refine rnN 3 ?_;refine clN rfl rfl rfl (@id (ACalls qh 63 [.mp 3,.str y21.fName] [.map (we AV.str AV.bool r2.2),.cells 0 (encGSchema a0),.map (we (AV.int .i64) AV.bool l15),.map (we AV.str AV.bool l16),.cells 0 (encGField y21)] (fun r' σ'=>r'=.bool r28.1∧σ'=[.map (we AV.str AV.bool r2.2),.cells 0 (encGSchema a0),.map (we (AV.int .i64) AV.bool l15),.map (we AV.str AV.bool r28.2),.cells 0 (encGField y21)])) ((z7.ok l16 y21.fName r28 hr28).i [3])) ?_;refine rnN 2 ?_;refine nkN hK ?_;refine zn (b:=(!r28.1)) rfl (fun hc29=>?_) (fun hc29=>?_)
   · rw[if_pos hc29] at h;refine rgN [6] ?_;apply yw;cases h;simp only[Zv,yP,yZ,xJ,exists_eq_left',go_sem,qd];refine⟨by decide,by simp,?_,?_⟩
     · first|rfl|(simp only[go_sem,qc,qe,qa,qd,ql,qm,reduceIte,reduceCtorEq,push_cast,if_true,qD,qt,qG,qx,qH,qO,qU,qL,qR,qK,qC,zE]<;>rfl)
     first|rfl|(simp only[go_sem,push_cast,qx]<;>rfl)
   rw[xD hc29] at h
   refine rc [3,7,10,12,51,52,53,63] fun K hK=>?_
   obtain⟨r30,hr30,h⟩:=zR h;refine rnN 2 ?_;refine clN rfl rfl rfl (wF.ev y21.fTag r30 hr30 _) ?_;refine rnN 2 ?_;refine zh 5 (fun L τ=>L=[(3,.op 1 0 0),(7,.mp 2),(10,.mp 3),(12,.op 4 0 0),(51,.ds true (qf encGField a2.fFields) (qb a2.fFields) false),(52,.int .i64 (qb a2.fFields:Int)),(53,.int .i64 x17),(73,.bool ((!r30)||((vao l15 y21.fTag).getD false)))]∧τ=[.map (we AV.str AV.bool r2.2),.cells 0 (encGSchema a0),.map (we (AV.int .i64) AV.bool l15),.map (we AV.str AV.bool r28.2),.cells 0 (encGField y21)]) ?_ ?_
   · refine zK (b:=(!r30)) 68 rfl (fun hg68=>?_) (fun hg68=>?_)
     · refine zj tok 5 ?_;simp only[go_sem,qc,qa,if_false,if_true];refine zb ⟨rfl,_,_,⟨rfl,rfl⟩,.b hg68⟩
     have f31:=fun (o0:Zo) (o1:Zo) (x:Store)=>vaX (T:=tab) (t:=161) (ek:=(AV.int .i64)) (ev:=AV.bool) (z:=false) (KeyE.int rfl rfl rfl rfl) rfl rfl rfl rfl l15 y21.fTag false (o0::o1::.map (we (AV.int .i64) AV.bool l15)::x) 2 rfl
     refine zj tok 5 ?_;simp only[go_sem,qc,qa,qd,Xu,qZ,if_false,if_true,f31];refine zb ⟨rfl,_,_,⟨rfl,rfl⟩,.b hg68⟩
   rintro _ _ ⟨rfl,rfl⟩;refine rnN 1 ?_;refine nkN hK ?_;refine zn (b:=((!r30)||((vao l15 y21.fTag).getD false))) rfl (fun hc32=>?_) (fun hc32=>?_)
   · rw[if_pos hc32] at h;refine rgN [6] ?_;apply yw;cases h;simp only[Zv,yP,yZ,xJ,exists_eq_left',go_sem,qd];refine⟨by decide,by simp,?_,?_⟩
     · first|rfl|(simp only[go_sem,qc,qe,qa,qd,ql,qm,reduceIte,reduceCtorEq,push_cast,if_true,qD,qt,qG,qx,qH,qO,qU,qL,qR,qK,qC,zE]<;>rfl)
     first|rfl|(simp only[go_sem,push_cast,qx]<;>rfl)
   rw[xD hc32] at h
   refine rc [3,7,10,12,51,52,53,74] fun K hK=>?_
   obtain⟨r33,hr33,h⟩:=zR h;refine rnN 2 ?_;refine clN rfl rfl rfl (xC.ev a0 y21 r33 hr33 _) ?_;refine rnN 2 ?_;refine nkN hK ?_;refine zn (b:=(!r33)) rfl (fun hc34=>?_) (fun hc34=>?_)
   · rw[if_pos hc34] at h;refine rgN [6] ?_;apply yw;cases h;simp only[Zv,yP,yZ,xJ,exists_eq_left',go_sem,qd];refine⟨by decide,by simp,?_,?_⟩
     · first|rfl|(simp only[go_sem,qc,qe,qa,qd,ql,qm,reduceIte,reduceCtorEq,push_cast,if_true,qD,qt,qG,qx,qH,qO,qU,qL,qR,qK,qC,zE]<;>rfl)
     first|rfl|(simp only[go_sem,push_cast,qx]<;>rfl)
   rw[xD hc34] at h;apply zd;apply hZ27
   have f35:=fun (o0:Zo) (o1:Zo) (x:Store)=>vaR (T:=tab) (t:=161) (ek:=(AV.int .i64)) (ev:=AV.bool) (KeyE.int rfl rfl rfl rfl) rfl rfl l15 y21.fTag true (o0::o1::.map (we (AV.int .i64) AV.bool l15)::x) 2 rfl
   refine rgE tok [3,7,10,51,52,53] fun K hK=>?_
   simp only[go_sem,qc,qa,qd,f35];apply hK
   apply hZ24
   refine rgE tok [3,7,10,51,52,53] fun K hK=>?_
   simp only[go_sem,qc,qa,hw21];apply hK
   exact⟨_,_,_,qy q21.length,⟨p21++[y21],q21,x17+1,vad l15 y21.fTag true,r28.2,rfl,rfl,rfl,hE'21,hi'21,h⟩,(.t [0,1,2,3] false)⟩
 obtain⟨hz12,hw12,hx12,hE'12,hi'12⟩:=yd hE12 hi12 hb12;simp only[zp.l12] at h
 refine rg tok [3,5,7,32,33,34,35] fun K hK=>?_
 simp only[go_sem,qc,qa,hz12];apply hK
 refine za fun Z36 hZ36=>?_
 refine zz rfl ?_;apply zd;apply hZ36
 refine za fun Z37 hZ37=>?_
 apply ze;have f38:=E45.idxS hx12;have f39:=E45.fldS0 (f:=3) rfl rfl hx12
 refine rg tok [3,5,7,9,32,33,34] fun K hK=>?_
 simp only[go_sem,qc,qa,encI,f38,f39];apply hK
 refine za fun Z40 hZ40=>?_
 refine rc [3,5,7,9,32,33,34,45] fun K hK=>?_
 obtain⟨r41,hr41,h⟩:=zR h;refine rnN 1 ?_;refine clN rfl rfl rfl (wF.ev y12 r41 hr41 _) ?_;refine rnN 2 ?_;refine zh 4 (fun L τ=>L=[(3,.op 1 0 0),(5,.op 2 0 0),(7,.mp 3),(9,.int .i64 y12),(32,.ds true (qf encI a2.fReserved) (qb a2.fReserved) false),(33,.int .i64 (qb a2.fReserved:Int)),(34,.int .i64 x9),(45,.bool ((!r41)||((vao l8 y12).getD false)))]∧τ=[.map (we AV.str AV.bool r2.2),.cells 0 (encGSchema a0),.cells 0 (encGMessage a2),.map (we (AV.int .i64) AV.bool l8)]) ?_ ?_
 · refine zK (b:=(!r41)) 41 rfl (fun hg41=>?_) (fun hg41=>?_)
   · refine zj tok 4 ?_;simp only[go_sem,qc,qa,if_false,if_true];refine zb ⟨rfl,_,_,⟨rfl,rfl⟩,.b hg41⟩
   have f42:=fun (o0:Zo) (o1:Zo) (o2:Zo) (x:Store)=>vaX (T:=tab) (t:=161) (ek:=(AV.int .i64)) (ev:=AV.bool) (z:=false) (KeyE.int rfl rfl rfl rfl) rfl rfl rfl rfl l8 y12 false (o0::o1::o2::.map (we (AV.int .i64) AV.bool l8)::x) 3 rfl
   refine zj tok 4 ?_;simp only[go_sem,qc,qa,Xu,qZ,if_false,if_true,f42];refine zb ⟨rfl,_,_,⟨rfl,rfl⟩,.b hg41⟩
 rintro _ _ ⟨rfl,rfl⟩;refine nkN hK ?_;refine zn (b:=((!r41)||((vao l8 y12).getD false))) rfl (fun hc43=>?_) (fun hc43=>?_)
 · rw[if_pos hc43] at h;refine rgN [6] ?_;apply yw;cases h;simp only[Zv,yP,yZ,xJ,exists_eq_left',go_sem,qd];refine⟨by decide,by simp,?_,?_⟩
   · first|rfl|(simp only[go_sem,qc,qe,qa,qd,ql,qm,reduceIte,reduceCtorEq,push_cast,if_true,qD,qt,qG,qx,qH,qO,qU,qL,qR,qK,qC,zE]<;>rfl)
   first|rfl|(simp only[go_sem,push_cast,qx]<;>rfl)
 rw[xD hc43] at h;apply zd;apply hZ40
 have f44:=fun (o0:Zo) (o1:Zo) (o2:Zo) (x:Store)=>vaR (T:=tab) (t:=161) (ek:=(AV.int .i64)) (ev:=AV.bool) (KeyE.int rfl rfl rfl rfl) rfl rfl l8 y12 true (o0::o1::o2::.map (we (AV.int .i64) AV.bool l8)::x) 3 rfl
 refine rgE tok [3,5,7,32,33,34] fun K hK=>?_
 simp only[go_sem,qc,qa,f44];apply hK
 apply hZ37
 refine rgE tok [3,5,7,32,33,34] fun K hK=>?_
 simp only[go_sem,qc,qa,hw12];apply hK
 exact⟨_,_,_,qy q12.length,⟨p12++[y12],q12,x9+1,vad l8 y12 true,rfl,rfl,rfl,hE'12,hi'12,h⟩,.s⟩
def yf.l23 (r2:Bool×List (List UInt8×Bool)):List GNamed→Int→List (List UInt8×Bool)→List (Int×Bool)→Option (Int×List (List UInt8×Bool))
 |[],x19,l17,l18=>some (0,r2.2)
 |y23::q23,x19,l17,l18=>(z7 l17 y23.fName).bind fun r30=>(if (!r30.1)=true then some (6,r2.2) else (if (((decide (y23.fN<0))||(decide (2147483647<y23.fN)))||((vao l18 y23.fN).getD false))=true then some (11,r2.2) else ((yf.l23 r2 q23) (x19+1) r30.2 (vad l18 y23.fN true))))
def yf.l12 (a1:GEnumeration)(r2:Bool×List (List UInt8×Bool)):List GNamed→Int→Bool→Option (Int×List (List UInt8×Bool))
 |[],x9,x8=>(if (!x8)=true then some (12,r2.2) else (yf.l23 r2 a1.fValues 0 [] []))
 |y12::q12,x9,x8=>((yf.l12 a1 r2 q12) (x9+1) (x8||(decide (y12.fN=0))))
def yf (a0:List (List UInt8×Bool))(a1:GEnumeration):Option (Int×List (List UInt8×Bool)):=
 (z7 a0 a1.fName).bind fun r2=>(if (!r2.1)=true then some (6,r2.2) else (if 16<(qb a1.fValues:Int) then some (4,r2.2) else (yf.l12 a1 r2 a1.fValues 0 false)))
theorem yf.ok (a0:List (List UInt8×Bool))(a1:GEnumeration)(r:Int×List (List UInt8×Bool))(h:yf a0 a1=some r):ACalls qh 62 [.mp 0,.agg (encGEnumeration a1)] [.map (we AV.str AV.bool a0)] (fun r' σ'=>r'=.int .i64 r.1∧σ'=[.map (we AV.str AV.bool r.2)]):=by
 refine YD [0] (rs:=[.tmp 4]) tok Tryz.func62 rfl Tryz.ntmps62 rfl Tryz.call62 (by simp) rfl ?_;refine zm [(0,.mp 0),(1,.agg (encGEnumeration a1))] ⟨rfl,rfl,trivial⟩ ?_;unfold yf at h
 refine rg tok [0,3] fun K hK=>?_
 simp only[go_sem,qc,qa,qd,reduceCtorEq,encGEnumeration];apply hK
 refine za fun Z1 hZ1=>?_
 apply ze
 refine rc [3,12] fun K hK=>?_
 obtain⟨r2,hr2,h⟩:=bind_some h;refine rnN 3 ?_;refine clN rfl rfl rfl (@id (ACalls qh 63 [.mp 0,.str a1.fName] [.map (we AV.str AV.bool a0),.cells 0 (encGEnumeration a1)] (fun r' σ'=>r'=.bool r2.1∧σ'=[.map (we AV.str AV.bool r2.2),.cells 0 (encGEnumeration a1)])) ((z7.ok a0 a1.fName r2 hr2).i [0])) ?_;refine rnN 2 ?_;refine nkN hK ?_;refine zn (b:=(!r2.1)) rfl (fun hc3=>?_) (fun hc3=>?_)
 · rw[if_pos hc3] at h;refine rgN [4] ?_;apply yw;cases h;simp only[Zv,yP,yZ,xJ,exists_eq_left',go_sem,qd];refine⟨by decide,by simp,?_,?_⟩
   · first|rfl|(simp only[go_sem,qc,qe,qa,qd,ql,qm,reduceIte,reduceCtorEq,push_cast,if_true,qD,qt,qG,qx,qH,qO,qU,qL,qR,qK,qC,zE]<;>rfl)
   first|rfl|(simp only[go_sem,push_cast,qx]<;>rfl)
 rw[xD hc3] at h;refine rgN [3,18] ?_;refine zD rfl (fun hc4=>?_) (fun hc4=>?_)
 · rw[if_pos hc4] at h;have t5:=eq_true hc4
   refine rg tok [4] fun K hK=>?_
   simp only[go_sem,qc,qa,t5];apply hK
   apply yw;cases h;simp only[Zv,yP,yZ,xJ,exists_eq_left',go_sem,qd];refine⟨by decide,by simp,?_,?_⟩
   · first|rfl|(simp only[go_sem,qc,qe,qa,qd,ql,qm,reduceIte,reduceCtorEq,push_cast,if_true,qD,qt,qG,qx,qH,qO,qU,qL,qR,qK,qC,zE]<;>rfl)
   first|rfl|(simp only[go_sem,push_cast,qx]<;>rfl)
 rw[if_neg hc4] at h;have t6:=eq_false hc4;apply zd;apply hZ1
 refine rg tok [3,5] fun K hK=>?_
 simp only[go_sem,qc,qa,t6];apply hK
 refine za fun Z7 hZ7=>?_
 refine rgN [3,5,24,25,26] ?_;apply ze
 refine xb 24 fun hb12=>?_
 replace hb12:qb a1.fValues≤9223372036854775807:=hb12.1;refine zC (fun m L τ=>∃ (p12 q12:List GNamed) (x9:Int) (x8:Bool),m=qb q12∧L=[(3,.op 1 0 0),(5,.bool x8),(24,.ds true (qf encGNamed a1.fValues) (qb a1.fValues) false),(25,.int .i64 (qb a1.fValues:Int)),(26,.int .i64 x9)]∧τ=[.map (we AV.str AV.bool r2.2),.cells 0 (encGEnumeration a1)]∧a1.fValues=p12++q12∧x9=(qb p12:Int)∧yf.l12 a1 r2 q12 x9 x8=some r) _ ⟨[],a1.fValues,0,false,rfl,rfl,rfl,rfl,rfl,h⟩ .s ?_;rintro m L τ ⟨p12,q12,x9,x8,rfl,rfl,rfl,hE12,hi12,h⟩
 rcases q12 with _|⟨y12,q12⟩
 · have hz12:=yz hE12 hi12;simp only[yf.l12] at h
   refine rg tok [3,5,24,25,26,27] fun K hK=>?_
   simp only[go_sem,qc,qa,hz12];apply hK
   refine za fun Z13 hZ13=>?_
   refine zw rfl ?_;apply zJ;apply hZ7
   refine za fun Z14 hZ14=>?_
   refine rgN [3,38] ?_;refine zn (b:=(!x8)) rfl (fun hc15=>?_) (fun hc15=>?_)
   · rw[if_pos hc15] at h;refine rgN [4] ?_;apply yw;cases h;simp only[Zv,yP,yZ,xJ,exists_eq_left',go_sem,qd];refine⟨by decide,by simp,?_,?_⟩
     · first|rfl|(simp only[go_sem,qc,qe,qa,qd,ql,qm,reduceIte,reduceCtorEq,push_cast,if_true,qD,qt,qG,qx,qH,qO,qU,qL,qR,qK,qC,zE]<;>rfl)
     first|rfl|(simp only[go_sem,push_cast,qx]<;>rfl)
   rw[xD hc15] at h;apply zd;apply hZ14;refine rgN [3,8,9] ?_;refine yc (L:=[(3,.op 1 0 0),(8,.mp 2),(9,.mp 3)]) (τ:=[.map (we AV.str AV.bool r2.2),.cells 0 (encGEnumeration a1),.map (we AV.str AV.bool []),.map (we (AV.int .i64) AV.bool [])]) .s ?_
   refine za fun Z16 hZ16=>?_
   refine rgN [8,9,42,43,44] ?_;apply ze
   refine xb 42 fun hb23=>?_
   replace hb23:qb a1.fValues≤9223372036854775807:=hb23.1;refine zC (fun m L τ=>∃ (p23 q23:List GNamed) (x19:Int) (l17:List (List UInt8×Bool)) (l18:List (Int×Bool)),m=qb q23∧L=[(8,.mp 1),(9,.mp 2),(42,.ds true (qf encGNamed a1.fValues) (qb a1.fValues) false),(43,.int .i64 (qb a1.fValues:Int)),(44,.int .i64 x19)]∧τ=[.map (we AV.str AV.bool r2.2),.map (we AV.str AV.bool l17),.map (we (AV.int .i64) AV.bool l18)]∧a1.fValues=p23++q23∧x19=(qb p23:Int)∧yf.l23 r2 q23 x19 l17 l18=some r) _ ⟨[],a1.fValues,0,[],[],rfl,rfl,rfl,rfl,rfl,h⟩ (.t [0,2,3] false) ?_;rintro m L τ ⟨p23,q23,x19,l17,l18,rfl,rfl,rfl,hE23,hi23,h⟩
   rcases q23 with _|⟨y23,q23⟩
   · have hz23:=yz hE23 hi23;simp only[yf.l23] at h
     refine rg tok [8,9,42,43,44,45] fun K hK=>?_
     simp only[go_sem,qc,qa,hz23];apply hK
     refine za fun Z24 hZ24=>?_
     refine zw rfl ?_;apply zJ;apply hZ16;refine rgN [4] ?_;apply yw;cases h;simp only[Zv,yP,yZ,xJ,exists_eq_left',go_sem,qd];refine⟨by decide,by simp,?_,?_⟩
     · first|rfl|(simp only[go_sem,qc,qe,qa,qd,ql,qm,reduceIte,reduceCtorEq,push_cast,if_true,qD,qt,qG,qx,qH,qO,qU,qL,qR,qK,qC,zE]<;>rfl)
     first|rfl|(simp only[go_sem,push_cast,qx]<;>rfl)
   obtain⟨hz23,hw23,hx23,hE'23,hi'23⟩:=yd hE23 hi23 hb23;simp only[yf.l23] at h
   refine rg tok [8,9,42,43,44,45] fun K hK=>?_
   simp only[go_sem,qc,qa,hz23];apply hK
   refine za fun Z25 hZ25=>?_
   refine zz rfl ?_;apply zd;apply hZ25
   refine za fun Z26 hZ26=>?_
   apply ze;have f27:=E82.idxS hx23;have f28:=E82.loadS rfl rfl hx23
   refine rg tok [8,9,11,42,43,44] fun K hK=>?_
   simp only[go_sem,qc,qe,qa,qd,encGNamed,f27,f28];apply hK
   refine za fun Z29 hZ29=>?_
   apply ze
   refine rc [8,9,11,42,43,44,48] fun K hK=>?_
   obtain⟨r30,hr30,h⟩:=bind_some h;refine rnN 3 ?_;refine clN rfl rfl rfl (@id (ACalls qh 63 [.mp 1,.str y23.fName] [.map (we AV.str AV.bool r2.2),.map (we AV.str AV.bool l17),.map (we (AV.int .i64) AV.bool l18),.cells 0 [.str y23.fName,.int .i64 y23.fN]] (fun r' σ'=>r'=.bool r30.1∧σ'=[.map (we AV.str AV.bool r2.2),.map (we AV.str AV.bool r30.2),.map (we (AV.int .i64) AV.bool l18),.cells 0 [.str y23.fName,.int .i64 y23.fN]])) ((z7.ok l17 y23.fName r30 hr30).i [1])) ?_;refine rnN 2 ?_;refine nkN hK ?_;refine zn (b:=(!r30.1)) rfl (fun hc31=>?_) (fun hc31=>?_)
   · rw[if_pos hc31] at h;refine rgN [4] ?_;apply yw;cases h;simp only[Zv,yP,yZ,xJ,exists_eq_left',go_sem,qd];refine⟨by decide,by simp,?_,?_⟩
     · first|rfl|(simp only[go_sem,qc,qe,qa,qd,ql,qm,reduceIte,reduceCtorEq,push_cast,if_true,qD,qt,qG,qx,qH,qO,qU,qL,qR,qK,qC,zE]<;>rfl)
     first|rfl|(simp only[go_sem,push_cast,qx]<;>rfl)
   rw[xD hc31] at h
   refine rc [8,9,11,42,43,44,54] fun K hK=>?_
   refine rnN 4 ?_;refine zh 4 (fun L τ=>L=[(8,.mp 1),(9,.mp 2),(11,.op 3 0 0),(42,.ds true (qf encGNamed a1.fValues) (qb a1.fValues) false),(43,.int .i64 (qb a1.fValues:Int)),(44,.int .i64 x19),(62,.bool ((decide (y23.fN<0))||(decide (2147483647<y23.fN))))]∧τ=[.map (we AV.str AV.bool r2.2),.map (we AV.str AV.bool r30.2),.map (we (AV.int .i64) AV.bool l18),.cells 0 [.str y23.fName,.int .i64 y23.fN]]) ?_ ?_
   · refine yx 58 rfl (fun hg58=>?_) (fun hg58=>?_)
     · have t32:=eq_true hg58;refine rnN 4 ?_;refine zb ⟨rfl,_,_,⟨rfl,rfl⟩,.p t32⟩
     have t33:=eq_false hg58;refine rnN 4 ?_;refine zb ⟨rfl,_,_,⟨rfl,rfl⟩,.p t33⟩
   rintro _ _ ⟨rfl,rfl⟩;refine rnN 1 ?_;refine zh 5 (fun L τ=>L=[(8,.mp 1),(9,.mp 2),(11,.op 3 0 0),(42,.ds true (qf encGNamed a1.fValues) (qb a1.fValues) false),(43,.int .i64 (qb a1.fValues:Int)),(44,.int .i64 x19),(68,.bool (((decide (y23.fN<0))||(decide (2147483647<y23.fN)))||((vao l18 y23.fN).getD false)))]∧τ=[.map (we AV.str AV.bool r2.2),.map (we AV.str AV.bool r30.2),.map (we (AV.int .i64) AV.bool l18),.cells 0 [.str y23.fName,.int .i64 y23.fN]]) ?_ ?_
   · refine zK (b:=((decide (y23.fN<0))||(decide (2147483647<y23.fN)))) 63 rfl (fun hg63=>?_) (fun hg63=>?_)
     · refine zj tok 5 ?_;simp only[go_sem,qc,qa,if_false,if_true];refine zb ⟨rfl,_,_,⟨rfl,rfl⟩,.b hg63⟩
     have f34:=fun (o0:Zo) (o1:Zo) (x:Store)=>vaX (T:=tab) (t:=161) (ek:=(AV.int .i64)) (ev:=AV.bool) (z:=false) (KeyE.int rfl rfl rfl rfl) rfl rfl rfl rfl l18 y23.fN false (o0::o1::.map (we (AV.int .i64) AV.bool l18)::x) 2 rfl
     refine zj tok 5 ?_;simp only[go_sem,qc,qa,qd,Xu,qZ,if_false,if_true,f34];refine zb ⟨rfl,_,_,⟨rfl,rfl⟩,.b hg63⟩
   rintro _ _ ⟨rfl,rfl⟩;refine rnN 1 ?_;refine nkN hK ?_;refine zn (b:=(((decide (y23.fN<0))||(decide (2147483647<y23.fN)))||((vao l18 y23.fN).getD false))) rfl (fun hc35=>?_) (fun hc35=>?_)
   · rw[if_pos hc35] at h;refine rgN [4] ?_;apply yw;cases h;simp only[Zv,yP,yZ,xJ,exists_eq_left',go_sem,qd];refine⟨by decide,by simp,?_,?_⟩
     · first|rfl|(simp only[go_sem,qc,qe,qa,qd,ql,qm,reduceIte,reduceCtorEq,push_cast,if_true,qD,qt,qG,qx,qH,qO,qU,qL,qR,qK,qC,zE]<;>rfl)
     first|rfl|(simp only[go_sem,push_cast,qx]<;>rfl)
   rw[xD hc35] at h;apply zd;apply hZ29
   have f36:=fun (o0:Zo) (o1:Zo) (x:Store)=>vaR (T:=tab) (t:=161) (ek:=(AV.int .i64)) (ev:=AV.bool) (KeyE.int rfl rfl rfl rfl) rfl rfl l18 y23.fN true (o0::o1::.map (we (AV.int .i64) AV.bool l18)::x) 2 rfl
   refine rgE tok [8,9,42,43,44] fun K hK=>?_
   simp only[go_sem,qc,qa,qd,f36];apply hK
   apply hZ26
   refine rgE tok [8,9,42,43,44] fun K hK=>?_
   simp only[go_sem,qc,qa,hw23];apply hK
   exact⟨_,_,_,qy q23.length,⟨p23++[y23],q23,x19+1,r30.2,vad l18 y23.fN true,rfl,rfl,rfl,hE'23,hi'23,h⟩,(.t [0,1,2] false)⟩
 obtain⟨hz12,hw12,hx12,hE'12,hi'12⟩:=yd hE12 hi12 hb12;simp only[yf.l12] at h
 refine rg tok [3,5,24,25,26,27] fun K hK=>?_
 simp only[go_sem,qc,qa,hz12];apply hK
 refine za fun Z37 hZ37=>?_
 refine zz rfl ?_;apply zd;apply hZ37
 refine za fun Z38 hZ38=>?_
 apply ze;have f39:=E82.idxS hx12;have f40:=E82.loadS rfl rfl hx12
 refine rg tok [3,5,7,24,25,26] fun K hK=>?_
 simp only[go_sem,qc,qe,qa,qd,encGNamed,f39,f40];apply hK
 refine rcE [3,5,24,25,26] fun K hK=>?_
 refine rnN 2 ?_;refine zh 4 (fun L τ=>L=[(3,.op 1 0 0),(5,.bool x8),(24,.ds true (qf encGNamed a1.fValues) (qb a1.fValues) false),(25,.int .i64 (qb a1.fValues:Int)),(26,.int .i64 x9),(35,.bool (x8||(decide (y12.fN=0))))]∧τ=[.map (we AV.str AV.bool r2.2),.cells 0 (encGEnumeration a1),.cells 0 [.str y12.fName,.int .i64 y12.fN]]) ?_ ?_
 · refine zK (b:=x8) 31 rfl (fun hg31=>?_) (fun hg31=>?_)
   · refine rnN 4 ?_;refine zb ⟨rfl,_,_,⟨rfl,rfl⟩,.b hg31⟩
   refine rnN 4 ?_;refine zb ⟨rfl,_,_,⟨rfl,rfl⟩,.b hg31⟩
 rintro _ _ ⟨rfl,rfl⟩;refine rnN 1 ?_;refine nkN hK ?_;apply hZ38
 refine rgE tok [3,5,24,25,26] fun K hK=>?_
 simp only[go_sem,qc,qa,hw12];apply hK
 exact⟨_,_,_,qy q12.length,⟨p12++[y12],q12,x9+1,(x8||(decide (y12.fN=0))),rfl,rfl,rfl,hE'12,hi'12,h⟩,(.t [0,1] false)⟩
end
section
set_option maxRecDepth 4000
set_option maxHeartbeats 1000000
open AM
def zl.l29 (a0:GSchema):List GMethod→Int→List (List UInt8×Bool)→Option Int
 |[],x26,l25=>some 0
 |y29::q29,x26,l25=>bnd (zx a0 y29.fIn) fun r35=>bnd (zx a0 y29.fOut) fun r36=>(z7 l25 y29.fName).bind fun r37=>(if (!r37.1)=true then some 6 else (if ((!r35.2)||(!r36.2))=true then some 8 else ((zl.l29 a0 q29) (x26+1) r37.2)))
def zl.l22 (a0:GSchema):List GEnumeration→Int→List (List UInt8×Bool)→Option Int
 |[],x19,l18=>(zl.l29 a0 a0.fMethods 0 [])
 |y22::q22,x19,l18=>(yf l18 y22).bind fun r44=>(if r44.1=0 then ((zl.l22 a0 q22) (x19+1) r44.2) else some r44.1)
def zl.l15 (a0:GSchema):List GMessage→Int→List (List UInt8×Bool)→Option Int
 |[],x12,l11=>(zl.l22 a0 a0.fEnums 0 l11)
 |y15::q15,x12,l11=>(zp a0 l11 y15).bind fun r52=>(if r52.1=0 then ((zl.l15 a0 q15) (x12+1) r52.2) else some r52.1)
def zl (a0:GSchema):Option Int:=
 (yl a0.fName).bind fun r2=>(if (!r2)=true then some 6 else (if (qb a0.fMessages:Int)=0 then some 12 else (if (((decide (10<(qb a0.fMessages:Int)))||(decide (6<(qb a0.fEnums:Int))))||(decide (6<(qb a0.fMethods:Int))))=true then some 4 else (zl.l15 a0 a0.fMessages 0 []))))
theorem zl.ok (a0:GSchema)(r:Int)(h:zl a0=some r):ACalls qh 39 [.agg (encGSchema a0)] [] (fun r' _=>r'=.int .i64 r):=by
 refine zi (rs:=[.tmp 2]) tok Tryz.func39 rfl Tryz.ntmps39 rfl Tryz.call39 (by simp) ?_;refine zm [(0,.agg (encGSchema a0))] ⟨rfl,trivial⟩ ?_;unfold zl at h
 refine rg tok [1] fun K hK=>?_
 simp only[go_sem,qc,qa,qd,reduceCtorEq,encGSchema];apply hK
 refine za fun Z1 hZ1=>?_
 apply ze
 refine rc [1,17] fun K hK=>?_
 obtain⟨r2,hr2,h⟩:=bind_some h;refine rnN 2 ?_;refine clN rfl rfl rfl (yl.ev a0.fName r2 hr2 _) ?_;refine rnN 2 ?_;refine nkN hK ?_;refine zn (b:=(!r2)) rfl (fun hc3=>?_) (fun hc3=>?_)
 · rw[if_pos hc3] at h;refine rgN [2] ?_;cases h;exact rtA
 rw[xD hc3] at h;refine rgN [1,22] ?_;refine zD rfl (fun hc4=>?_) (fun hc4=>?_)
 · rw[if_pos hc4] at h;have t5:=eq_true hc4
   refine rg tok [2] fun K hK=>?_
   simp only[go_sem,qc,qa,t5];apply hK
   cases h;exact rtA
 rw[if_neg hc4] at h;have t6:=eq_false hc4
 refine rc [1,27] fun K hK=>?_
 refine zj tok 5 ?_;simp only[go_sem,qc,qa,qd,t6];refine zh 5 (fun L τ=>L=[(1,.op 0 0 0),(37,.bool ((decide (10<(qb a0.fMessages:Int)))||(decide (6<(qb a0.fEnums:Int)))))]∧τ=[.cells 0 (encGSchema a0)]) ?_ ?_
 · refine yx 32 rfl (fun hg32=>?_) (fun hg32=>?_)
   · have t7:=eq_true hg32;refine rnN 5 ?_;refine zb ⟨rfl,_,_,⟨rfl,rfl⟩,.p t7⟩
   have t8:=eq_false hg32;refine rnN 5 ?_;refine zb ⟨rfl,_,_,⟨rfl,rfl⟩,.p t8⟩
 rintro _ _ ⟨rfl,rfl⟩;refine rnN 1 ?_;refine zh 5 (fun L τ=>L=[(1,.op 0 0 0),(43,.bool (((decide (10<(qb a0.fMessages:Int)))||(decide (6<(qb a0.fEnums:Int))))||(decide (6<(qb a0.fMethods:Int)))))]∧τ=[.cells 0 (encGSchema a0)]) ?_ ?_
 · refine zK (b:=((decide (10<(qb a0.fMessages:Int)))||(decide (6<(qb a0.fEnums:Int))))) 38 rfl (fun hg38=>?_) (fun hg38=>?_)
   · refine rnN 5 ?_;refine zb ⟨rfl,_,_,⟨rfl,rfl⟩,.b hg38⟩
   refine rnN 5 ?_;refine zb ⟨rfl,_,_,⟨rfl,rfl⟩,.b hg38⟩
 rintro _ _ ⟨rfl,rfl⟩;refine rnN 1 ?_;refine nkN hK ?_;refine zn (b:=(((decide (10<(qb a0.fMessages:Int)))||(decide (6<(qb a0.fEnums:Int))))||(decide (6<(qb a0.fMethods:Int))))) rfl (fun hc9=>?_) (fun hc9=>?_)
 · rw[if_pos hc9] at h;refine rgN [2] ?_;cases h;exact rtA
 rw[xD hc9] at h;apply zd;apply hZ1;refine rgN [1,3] ?_;refine yc (L:=[(1,.op 0 0 0),(3,.mp 1)]) (τ:=[.cells 0 (encGSchema a0),.map (we AV.str AV.bool [])]) .s ?_
 refine za fun Z10 hZ10=>?_
 refine rgN [1,3,46,47,48] ?_;apply ze
 refine xb 46 fun hb15=>?_
 replace hb15:qb a0.fMessages≤9223372036854775807:=hb15.1;refine zC (fun m L τ=>∃ (p15 q15:List GMessage) (x12:Int) (l11:List (List UInt8×Bool)),m=qb q15∧L=[(1,.op 0 0 0),(3,.mp 1),(46,.ds true (qf encGMessage a0.fMessages) (qb a0.fMessages) false),(47,.int .i64 (qb a0.fMessages:Int)),(48,.int .i64 x12)]∧τ=[.cells 0 (encGSchema a0),.map (we AV.str AV.bool l11)]∧a0.fMessages=p15++q15∧x12=(qb p15:Int)∧zl.l15 a0 q15 x12 l11=some r) _ ⟨[],a0.fMessages,0,[],rfl,rfl,rfl,rfl,rfl,h⟩ .s ?_;rintro m L τ ⟨p15,q15,x12,l11,rfl,rfl,rfl,hE15,hi15,h⟩
 rcases q15 with _|⟨y15,q15⟩
 · have hz15:=yz hE15 hi15;simp only[zl.l15] at h
   refine rg tok [1,3,46,47,48,49] fun K hK=>?_
   simp only[go_sem,qc,qa,hz15];apply hK
   refine za fun Z16 hZ16=>?_
   refine zw rfl ?_;apply zJ;apply hZ10
   refine za fun Z17 hZ17=>?_
   refine rgN [1,3,61,62,63] ?_;apply ze
   refine xb 61 fun hb22=>?_
   replace hb22:qb a0.fEnums≤9223372036854775807:=hb22.1;refine zC (fun m L τ=>∃ (p22 q22:List GEnumeration) (x19:Int) (l18:List (List UInt8×Bool)),m=qb q22∧L=[(1,.op 0 0 0),(3,.mp 1),(61,.ds true (qf encGEnumeration a0.fEnums) (qb a0.fEnums) false),(62,.int .i64 (qb a0.fEnums:Int)),(63,.int .i64 x19)]∧τ=[.cells 0 (encGSchema a0),.map (we AV.str AV.bool l18)]∧a0.fEnums=p22++q22∧x19=(qb p22:Int)∧zl.l22 a0 q22 x19 l18=some r) _ ⟨[],a0.fEnums,0,l11,rfl,rfl,rfl,rfl,rfl,h⟩ .s ?_;rintro m L τ ⟨p22,q22,x19,l18,rfl,rfl,rfl,hE22,hi22,h⟩
   rcases q22 with _|⟨y22,q22⟩
   · have hz22:=yz hE22 hi22;simp only[zl.l22] at h
     refine rg tok [1,3,61,62,63,64] fun K hK=>?_
     simp only[go_sem,qc,qa,hz22];apply hK
     refine za fun Z23 hZ23=>?_
     refine zw rfl ?_;apply zJ;apply hZ17;refine rgN [1,10] ?_;refine yc (L:=[(1,.op 0 0 0),(10,.mp 2)]) (τ:=[.cells 0 (encGSchema a0),.map (we AV.str AV.bool l18),.map (we AV.str AV.bool [])]) .s ?_
     refine za fun Z24 hZ24=>?_
     refine rgN [1,10,76,77,78] ?_;apply ze
     refine xb 76 fun hb29=>?_
     replace hb29:qb a0.fMethods≤9223372036854775807:=hb29.1;refine zC (fun m L τ=>∃ (p29 q29:List GMethod) (x26:Int) (l25:List (List UInt8×Bool)),m=qb q29∧L=[(1,.op 0 0 0),(10,.mp 1),(76,.ds true (qf encGMethod a0.fMethods) (qb a0.fMethods) false),(77,.int .i64 (qb a0.fMethods:Int)),(78,.int .i64 x26)]∧τ=[.cells 0 (encGSchema a0),.map (we AV.str AV.bool l25)]∧a0.fMethods=p29++q29∧x26=(qb p29:Int)∧zl.l29 a0 q29 x26 l25=some r) _ ⟨[],a0.fMethods,0,[],rfl,rfl,rfl,rfl,rfl,h⟩ (.t [0,2] false) ?_;rintro m L τ ⟨p29,q29,x26,l25,rfl,rfl,rfl,hE29,hi29,h⟩
     rcases q29 with _|⟨y29,q29⟩
     · have hz29:=yz hE29 hi29;simp only[zl.l29] at h
       refine rg tok [1,10,76,77,78,79] fun K hK=>?_
       simp only[go_sem,qc,qa,hz29];apply hK
       refine za fun Z30 hZ30=>?_
       refine zw rfl ?_;apply zJ;apply hZ24;refine rgN [2] ?_;cases h;exact rtA
     obtain⟨hz29,hw29,hx29,hE'29,hi'29⟩:=yd hE29 hi29 hb29;simp only[zl.l29] at h
     refine rg tok [1,10,76,77,78,79] fun K hK=>?_
     simp only[go_sem,qc,qa,hz29];apply hK
     refine za fun Z31 hZ31=>?_
     refine zz rfl ?_;apply zd;apply hZ31
     refine za fun Z32 hZ32=>?_
     apply ze;have f33:=E24.idxS hx29;have f34:=E24.loadS rfl rfl hx29
     refine rg tok [1,10,12,76,77,78] fun K hK=>?_
     simp only[go_sem,qc,qe,qa,qd,encGMethod,f33,f34];apply hK
     refine rc [1,10,12,14,76,77,78] fun K hK=>?_
     obtain⟨r35,hr35,h⟩:=zR h;refine rnN 3 ?_;refine clN rfl rfl rfl (zx.ev a0 y29.fIn r35 hr35 _) ?_;refine zj tok 6 ?_;simp only[go_sem,qc,qe,qa,qd,encGMessage];refine nkN hK ?_
     refine rc [1,10,12,14,16,76,77,78] fun K hK=>?_
     obtain⟨r36,hr36,h⟩:=zR h;refine rnN 3 ?_;refine clN rfl rfl rfl (zx.ev a0 y29.fOut r36 hr36 _) ?_;refine zj tok 6 ?_;simp only[go_sem,qc,qe,qa,qd,encGMessage];refine nkN hK ?_;apply ze
     refine rc [1,10,14,16,76,77,78,96] fun K hK=>?_
     obtain⟨r37,hr37,h⟩:=bind_some h;refine rnN 3 ?_;refine clN rfl rfl rfl (@id (ACalls qh 63 [.mp 1,.str y29.fName] [.cells 0 (encGSchema a0),.map (we AV.str AV.bool l25),.cells 0 [.str y29.fName,.str y29.fIn,.str y29.fOut],.cells 0 (encGMessage r35.1),.cells 0 (encGMessage r36.1)] (fun r' σ'=>r'=.bool r37.1∧σ'=[.cells 0 (encGSchema a0),.map (we AV.str AV.bool r37.2),.cells 0 [.str y29.fName,.str y29.fIn,.str y29.fOut],.cells 0 (encGMessage r35.1),.cells 0 (encGMessage r36.1)])) ((z7.ok l25 y29.fName r37 hr37).i [1])) ?_;refine rnN 2 ?_;refine nkN hK ?_;refine zn (b:=(!r37.1)) rfl (fun hc38=>?_) (fun hc38=>?_)
     · rw[if_pos hc38] at h;refine rgN [2] ?_;cases h;exact rtA
     rw[xD hc38] at h
     refine rc [1,10,76,77,78,102] fun K hK=>?_
     refine rnN 3 ?_;refine zh 3 (fun L τ=>L=[(1,.op 0 0 0),(10,.mp 1),(76,.ds true (qf encGMethod a0.fMethods) (qb a0.fMethods) false),(77,.int .i64 (qb a0.fMethods:Int)),(78,.int .i64 x26),(108,.bool ((!r35.2)||(!r36.2)))]∧τ=[.cells 0 (encGSchema a0),.map (we AV.str AV.bool r37.2),.cells 0 [.str y29.fName,.str y29.fIn,.str y29.fOut],.cells 0 (encGMessage r35.1),.cells 0 (encGMessage r36.1)]) ?_ ?_
     · refine zK (b:=(!r35.2)) 105 rfl (fun hg105=>?_) (fun hg105=>?_)
       · refine rnN 3 ?_;refine zb ⟨rfl,_,_,⟨rfl,rfl⟩,.b hg105⟩
       refine rnN 3 ?_;refine zb ⟨rfl,_,_,⟨rfl,rfl⟩,.b hg105⟩
     rintro _ _ ⟨rfl,rfl⟩;refine rnN 1 ?_;refine nkN hK ?_;refine zn (b:=((!r35.2)||(!r36.2))) rfl (fun hc39=>?_) (fun hc39=>?_)
     · rw[if_pos hc39] at h;refine rgN [2] ?_;cases h;exact rtA
     rw[xD hc39] at h;apply zd;apply hZ32
     refine rgE tok [1,10,76,77,78] fun K hK=>?_
     simp only[go_sem,qc,qa,hw29];apply hK
     exact⟨_,_,_,qy q29.length,⟨p29++[y29],q29,x26+1,r37.2,rfl,rfl,rfl,hE'29,hi'29,h⟩,(.t [0,1] false)⟩
   obtain⟨hz22,hw22,hx22,hE'22,hi'22⟩:=yd hE22 hi22 hb22;simp only[zl.l22] at h
   refine rg tok [1,3,61,62,63,64] fun K hK=>?_
   simp only[go_sem,qc,qa,hz22];apply hK
   refine za fun Z40 hZ40=>?_
   refine zz rfl ?_;apply zd;apply hZ40
   refine za fun Z41 hZ41=>?_
   apply ze;have f42:=E23.idxS hx22;have f43:=E23.loadS rfl rfl hx22
   refine rg tok [1,3,8,61,62,63] fun K hK=>?_
   simp only[go_sem,qc,qe,qa,qd,encGEnumeration,f42,f43];apply hK
   refine rc [1,3,9,61,62,63] fun K hK=>?_
   obtain⟨r44,hr44,h⟩:=bind_some h;refine rnN 2 ?_;refine clN rfl rfl rfl (@id (ACalls qh 62 [.mp 1,.agg (encGEnumeration y22)] [.cells 0 (encGSchema a0),.map (we AV.str AV.bool l18),.cells 0 (encGEnumeration y22)] (fun r' σ'=>r'=.int .i64 r44.1∧σ'=[.cells 0 (encGSchema a0),.map (we AV.str AV.bool r44.2),.cells 0 (encGEnumeration y22)])) ((yf.ok l18 y22 r44 hr44).i [1])) ?_;refine rnN 1 ?_;refine nkN hK ?_;refine rgN [1,3,9,61,62,63,71] ?_;refine zD rfl (fun hc45=>?_) (fun hc45=>?_)
   · rw[if_neg hc45] at h;have t46:=eq_false hc45
     refine rg tok [2] fun K hK=>?_
     simp only[go_sem,qc,qa,t46];apply hK
     cases h;exact rtA
   rw[if_pos hc45] at h;have t47:=eq_true hc45;apply zd;apply hZ41
   refine rgE tok [1,3,61,62,63] fun K hK=>?_
   simp only[go_sem,qc,qa,hw22,t47];apply hK
   exact⟨_,_,_,qy q22.length,⟨p22++[y22],q22,x19+1,r44.2,rfl,rfl,rfl,hE'22,hi'22,h⟩,(.t [0,1] false)⟩
 obtain⟨hz15,hw15,hx15,hE'15,hi'15⟩:=yd hE15 hi15 hb15;simp only[zl.l15] at h
 refine rg tok [1,3,46,47,48,49] fun K hK=>?_
 simp only[go_sem,qc,qa,hz15];apply hK
 refine za fun Z48 hZ48=>?_
 refine zz rfl ?_;apply zd;apply hZ48
 refine za fun Z49 hZ49=>?_
 apply ze;have f50:=E22.idxS hx15;have f51:=E22.loadS rfl rfl hx15
 refine rg tok [1,3,5,46,47,48] fun K hK=>?_
 simp only[go_sem,qc,qe,qa,qd,encGMessage,f50,f51];apply hK
 refine rc [1,3,6,46,47,48] fun K hK=>?_
 obtain⟨r52,hr52,h⟩:=bind_some h;refine rnN 3 ?_;refine clN rfl rfl rfl (@id (ACalls qh 61 [.agg (encGSchema a0),.mp 1,.agg (encGMessage y15)] [.cells 0 (encGSchema a0),.map (we AV.str AV.bool l11),.cells 0 (encGMessage y15)] (fun r' σ'=>r'=.int .i64 r52.1∧σ'=[.cells 0 (encGSchema a0),.map (we AV.str AV.bool r52.2),.cells 0 (encGMessage y15)])) ((zp.ok a0 l11 y15 r52 hr52).i [1])) ?_;refine rnN 1 ?_;refine nkN hK ?_;refine rgN [1,3,6,46,47,48,57] ?_;refine zD rfl (fun hc53=>?_) (fun hc53=>?_)
 · rw[if_neg hc53] at h;have t54:=eq_false hc53
   refine rg tok [2] fun K hK=>?_
   simp only[go_sem,qc,qa,t54];apply hK
   cases h;exact rtA
 rw[if_pos hc53] at h;have t55:=eq_true hc53;apply zd;apply hZ49
 refine rgE tok [1,3,46,47,48] fun K hK=>?_
 simp only[go_sem,qc,qa,hw15,t55];apply hK
 exact⟨_,_,_,qy q15.length,⟨p15++[y15],q15,x12+1,r52.2,rfl,rfl,rfl,hE'15,hi'15,h⟩,(.t [0,1] false)⟩
theorem zl.ev (a0:GSchema)(r:Int)(h:zl a0=some r)(σ:Store):ACalls qh 39 [.agg (encGSchema a0)] σ (fun r' σ'=>r'=.int .i64 r∧σ'=σ):=
 (zl.ok a0 r h).c σ
def yI (a0:GSchema)(a1:List UInt8)(a2:List UInt8):Option (GTree×Int):=
 (zl a0).bind fun r2=>(if r2=0 then bnd (zx a0 a1) fun r6=>(if (!r6.2)=true then some ((⟨0,0,[],([]:List GEntry),([]:List GRaw)⟩:GTree),14) else (zr rounds a0 r6.1 a2 1).bind fun r9=>some (r9.1,r9.2)) else some ((⟨0,0,[],([]:List GEntry),([]:List GRaw)⟩:GTree),1))
theorem yI.ok (a0:GSchema)(a1:List UInt8)(a2:List UInt8)(r:GTree×Int)(h:yI a0 a1 a2=some r):ACalls qh 16 [.agg (encGSchema a0),.str a1,.ds true (qf encB a2) (qb a2) false] [] (fun r' _=>r'=.tup [.agg (cellsGTree r.1),.int .i64 r.2]):=by
 refine zi (rs:=[.cell 6 30,.tmp 7]) tok Tryz.func16 rfl Tryz.ntmps16 rfl Tryz.call16 (by simp) ?_;refine zm [(0,.agg (encGSchema a0)),(1,.str a1),(2,.ds true (qf encB a2) (qb a2) false)] ⟨rfl,rfl,rfl,trivial⟩ ?_;unfold yI at h
 refine rg tok [1,2,3,6] fun K hK=>?_
 simp only[go_sem,qc,qa,qd,reduceCtorEq,encGSchema];apply hK
 refine za fun Z1 hZ1=>?_
 refine rc [1,2,3,6,12] fun K hK=>?_
 obtain⟨r2,hr2,h⟩:=bind_some h;refine rnN 1 ?_;refine clN rfl rfl rfl (zl.ev a0 r2 hr2 _) ?_;refine rnN 1 ?_;refine nkN hK ?_;refine zD rfl (fun hc3=>?_) (fun hc3=>?_)
 · rw[if_neg hc3] at h;have t4:=eq_false hc3
   refine rg tok [6,7] fun K hK=>?_
   simp only[go_sem,qc,qe,qa,qd,t4];apply hK
   cases h;exact rtA
 rw[if_pos hc3] at h;have t5:=eq_true hc3;apply zd;apply hZ1
 refine rc [2,3,6,8,9] fun K hK=>?_
 obtain⟨r6,hr6,h⟩:=zR h;refine zj tok 2 ?_;simp only[go_sem,qc,qe,qa,qd,t5];refine clN rfl rfl rfl (zx.ev a0 a1 r6 hr6 _) ?_;refine zj tok 6 ?_;simp only[go_sem,qc,qe,qa,qd,encGMessage];refine nkN hK ?_
 refine za fun Z7 hZ7=>?_
 refine rgN [2,3,6,8,21] ?_;refine zn (b:=(!r6.2)) rfl (fun hc8=>?_) (fun hc8=>?_)
 · rw[if_pos hc8] at h;refine rgN [6,7] ?_;cases h;exact rtA
 rw[xD hc8] at h;apply zd;apply hZ7
 refine rc [6,7] fun K hK=>?_
 obtain⟨r9,hr9,h⟩:=bind_some h;refine rnN 3 ?_;refine clN rfl rfl rfl (zr.ev rounds a0 r6.1 a2 1 r9 hr9 _) ?_;refine zj tok 4 ?_;simp only[go_sem,qc,qe,qa,qd,cellsGTree];refine nkN hK ?_;cases h;exact rtA
theorem yI.ev (a0:GSchema)(a1:List UInt8)(a2:List UInt8)(r:GTree×Int)(h:yI a0 a1 a2=some r)(σ:Store):ACalls qh 16 [.agg (encGSchema a0),.str a1,.ds true (qf encB a2) (qb a2) false] σ (fun r' σ'=>r'=.tup [.agg (cellsGTree r.1),.int .i64 r.2]∧σ'=σ):=
 (yI.ok a0 a1 a2 r h).c σ
def zS.l20 (yM:GTree→Int→Option Int)(a1:Int)(x7:Int)(rec10:Int→Int→Option Int):List GTree→Int→Int→Option Int
 |[],x17,x16=>(rec10 (x7+1) x16)
 |y20::q20,x17,x16=>(yM y20 (IntKind.i64.wrap (a1-1))).bind fun r26=>((zS.l20 yM a1 x7 rec10 q20) (x17+1) (if x16<r26 then r26 else x16))
def zS.l10 (yM:GTree→Int→Option Int)(a1:Int):List GEntry→Int→Int→Option Int
 |[],x7,x6=>some (IntKind.i64.wrap (x6+1))
 |y10::q10,x7,x6=>(zS.l20 yM a1 x7 (zS.l10 yM a1 q10) y10.fTrees 0 x6)
def zS.body (yM:GTree→Int→Option Int)(a0:GTree)(a1:Int):Option Int:=
 (if ((!(decide (a0.fKind=3)))||(decide (a1=0)))=true then some 0 else (zS.l10 yM a1 a0.fEntries 0 0))
theorem zS.step (yM:GTree→Int→Option Int)(ih_value_deep:∀ (a0:GTree) (a1:Int) (r:Int),yM a0 a1=some r→ACalls qh 152 [.agg (cellsGTree a0),.int .i64 a1] [] (fun r' _=>r'=.int .i64 r))(a0:GTree)(a1:Int)(r:Int)(h:zS.body yM a0 a1=some r):ACalls qh 152 [.agg (cellsGTree a0),.int .i64 a1] [] (fun r' _=>r'=.int .i64 r):=by
 have ev_value_deep:=fun a0 a1 r h σ=>(ih_value_deep a0 a1 r h).c σ
 refine zi (rs:=[.tmp 4]) tok Tryz.func152 rfl Tryz.ntmps152 rfl Tryz.call152 (by simp) ?_;refine zm [(0,.agg (cellsGTree a0)),(1,.int .i64 a1)] ⟨rfl,rfl,trivial⟩ ?_;unfold zS.body at h
 refine rg tok [1,2] fun K hK=>?_
 simp only[go_sem,qc,qa,qd,reduceCtorEq,cellsGTree];apply hK
 refine za fun Z1 hZ1=>?_
 refine rc [1,2,16] fun K hK=>?_
 refine rnN 4 ?_;refine zh 3 (fun L τ=>L=[(1,.int .i64 a1),(2,.op 0 0 0),(16,.bool ((!(decide (a0.fKind=3)))||(decide (a1=0))))]∧τ=[.cells 0 (cellsGTree a0)]) ?_ ?_
 · refine yx 13 rfl (fun hg13=>?_) (fun hg13=>?_)
   · have t2:=eq_false hg13;refine rnN 3 ?_;refine zb ⟨rfl,_,_,⟨rfl,rfl⟩,.p t2⟩
   have t3:=eq_true hg13;refine rnN 3 ?_;refine zb ⟨rfl,_,_,⟨rfl,rfl⟩,.p t3⟩
 rintro _ _ ⟨rfl,rfl⟩;refine nkN hK ?_;refine zn (b:=((!(decide (a0.fKind=3)))||(decide (a1=0)))) rfl (fun hc4=>?_) (fun hc4=>?_)
 · rw[if_pos hc4] at h;refine rgN [4] ?_;cases h;exact rtA
 rw[xD hc4] at h;apply zd;apply hZ1;refine rgN [1,2,5] ?_
 refine za fun Z5 hZ5=>?_
 refine rgN [1,5,18,19,20] ?_;apply ze
 refine xb 18 fun hb10=>?_
 replace hb10:qb a0.fEntries≤9223372036854775807:=hb10.1;refine zC (fun m L τ=>∃ (p10 q10:List GEntry) (x7:Int) (x6:Int),m=qb q10∧L=[(1,.int .i64 a1),(5,.int .i64 x6),(18,.ds true (qf encGEntry a0.fEntries) (qb a0.fEntries) false),(19,.int .i64 (qb a0.fEntries:Int)),(20,.int .i64 x7)]∧τ=[]∧a0.fEntries=p10++q10∧x7=(qb p10:Int)∧zS.l10 yM a1 q10 x7 x6=some r) _ ⟨[],a0.fEntries,0,0,rfl,rfl,rfl,rfl,rfl,h⟩ (.t [] false) ?_;rintro m L τ ⟨p10,q10,x7,x6,rfl,rfl,rfl,hE10,hi10,h⟩
 rcases q10 with _|⟨y10,q10⟩
 · have hz10:=yz hE10 hi10;simp only[zS.l10] at h
   refine rg tok [1,5,18,19,20,21] fun K hK=>?_
   simp only[go_sem,qc,qa,hz10];apply hK
   refine za fun Z11 hZ11=>?_
   refine zw rfl ?_;apply zJ;apply hZ5;refine rgN [4] ?_;cases h;exact rtA
 obtain⟨hz10,hw10,hx10,hE'10,hi'10⟩:=yd hE10 hi10 hb10;simp only[zS.l10] at h
 refine rg tok [1,5,18,19,20,21] fun K hK=>?_
 simp only[go_sem,qc,qa,hz10];apply hK
 refine za fun Z12 hZ12=>?_
 refine zz rfl ?_;apply zd;apply hZ12
 refine za fun Z13 hZ13=>?_
 apply ze;have f14:=E27.idxS hx10;have f15:=E27.loadS rfl rfl hx10
 refine rg tok [1,5,7,18,19,20] fun K hK=>?_
 simp only[go_sem,qc,qe,qa,qd,cellsGEntry,yy,f14,f15];apply hK
 refine rgN [1,5,18,19,20,25,26,27] ?_;apply ze
 refine xb 25 fun hb20=>?_
 replace hb20:qb y10.fTrees≤9223372036854775807:=hb20.1;refine zC (fun m L τ=>∃ (p20 q20:List GTree) (x17:Int) (x16:Int),m=qb q20∧L=[(1,.int .i64 a1),(5,.int .i64 x16),(18,.ds true (qf encGEntry a0.fEntries) (qb a0.fEntries) false),(19,.int .i64 (qb a0.fEntries:Int)),(20,.int .i64 x7),(25,.ds true (qf encGTree y10.fTrees) (qb y10.fTrees) false),(26,.int .i64 (qb y10.fTrees:Int)),(27,.int .i64 x17)]∧τ=[]∧y10.fTrees=p20++q20∧x17=(qb p20:Int)∧zS.l20 yM a1 x7 (zS.l10 yM a1 q10) q20 x17 x16=some r) _ ⟨[],y10.fTrees,0,x6,rfl,rfl,rfl,rfl,rfl,h⟩ (.t [] false) ?_;rintro m L τ ⟨p20,q20,x17,x16,rfl,rfl,rfl,hE20,hi20,h⟩
 rcases q20 with _|⟨y20,q20⟩
 · have hz20:=yz hE20 hi20;simp only[zS.l20] at h
   refine rg tok [1,5,18,19,20,25,26,27,28] fun K hK=>?_
   simp only[go_sem,qc,qa,hz20];apply hK
   refine za fun Z21 hZ21=>?_
   refine zw rfl ?_;apply zJ;apply hZ13
   refine rgE tok [1,5,18,19,20] fun K hK=>?_
   simp only[go_sem,qc,qa,hw10];apply hK
   exact⟨_,_,_,qy q10.length,⟨p10++[y10],q10,x7+1,x16,rfl,rfl,rfl,hE'10,hi'10,h⟩,.s⟩
 obtain⟨hz20,hw20,hx20,hE'20,hi'20⟩:=yd hE20 hi20 hb20;simp only[zS.l20] at h
 refine rg tok [1,5,18,19,20,25,26,27,28] fun K hK=>?_
 simp only[go_sem,qc,qa,hz20];apply hK
 refine za fun Z22 hZ22=>?_
 refine zz rfl ?_;apply zd;apply hZ22
 refine za fun Z23 hZ23=>?_
 apply ze;have f24:=E90.idxS hx20;have f25:=E90.loadS rfl rfl hx20
 refine rg tok [1,5,9,18,19,20,25,26,27] fun K hK=>?_
 simp only[go_sem,qc,qe,qa,qd,cellsGTree,zO,f24,f25];apply hK
 refine rcE [1,5,18,19,20,25,26,27] fun K hK=>?_
 obtain⟨r26,hr26,h⟩:=bind_some h;refine rnN 4 ?_;refine clN rfl rfl rfl (ev_value_deep y20 (IntKind.i64.wrap (a1-1)) r26 hr26 _) ?_;refine zj tok 2 ?_;simp only[go_sem,qc,qa,vbB,foldO,evMax2];refine nkN hK ?_;apply hZ23
 refine rgE tok [1,5,18,19,20,25,26,27] fun K hK=>?_
 simp only[go_sem,qc,qa,hw20];apply hK
 exact⟨_,_,_,qy q20.length,⟨p20++[y20],q20,x17+1,(if x16<r26 then r26 else x16),rfl,rfl,rfl,hE'20,hi'20,h⟩,(.t [] false)⟩
def zS : Nat→GTree→Int→Option Int
 |0,_,_=>none
 |k+1,a0,a1=>zS.body (zS k) a0 a1
theorem zS.all (k:Nat):(∀ (a0:GTree) (a1:Int) (r:Int),zS k a0 a1=some r→ACalls qh 152 [.agg (cellsGTree a0),.int .i64 a1] [] (fun r' _=>r'=.int .i64 r)):=by
 induction k with
 |zero=>exact (fun a0 a1 r h=>by simp only[zS] at h; cases h)
 |succ k ih=>exact (fun a0 a1 r h=>zS.step _ ih a0 a1 r (by simpa only [zS] using h))
theorem zS.ev (k:Nat)(a0:GTree)(a1:Int)(r:Int)(h:zS k a0 a1=some r)(σ:Store):ACalls qh 152 [.agg (cellsGTree a0),.int .i64 a1] σ (fun r' σ'=>r'=.int .i64 r∧σ'=σ):=
 ((zS.all k) a0 a1 r h).c σ
def wh (a0:GTree):Option Int:=
 (zS rounds a0 101).bind fun r1=>some r1
theorem wh.ok (a0:GTree)(r:Int)(h:wh a0=some r):ACalls qh 131 [.agg (cellsGTree a0)] [] (fun r' _=>r'=.int .i64 r):=by
 refine zi (rs:=[.tmp 2]) tok Tryz.func131 rfl Tryz.ntmps131 rfl Tryz.call131 (by simp) ?_;refine zm [(0,.agg (cellsGTree a0))] ⟨rfl,trivial⟩ ?_;unfold wh at h
 refine rg tok [1] fun K hK=>?_
 simp only[go_sem,qc,qa,qd,reduceCtorEq,cellsGTree];apply hK
 refine rc [2] fun K hK=>?_
 obtain⟨r1,hr1,h⟩:=bind_some h;refine rnN 1 ?_;refine clN rfl rfl rfl (zS.ev rounds a0 101 r1 hr1 _) ?_;refine rnN 1 ?_;refine nkN hK ?_;cases h;exact rtA
theorem wh.ev (a0:GTree)(r:Int)(h:wh a0=some r)(σ:Store):ACalls qh 131 [.agg (cellsGTree a0)] σ (fun r' σ'=>r'=.int .i64 r∧σ'=σ):=
 (wh.ok a0 r h).c σ
def yu (a0:GRaw):Bool:=
 (if ((decide (a0.fTag<1))||(decide (500<a0.fTag)))=true then false else (if a0.fWire=0 then decide (a0.fB=[]) else (if a0.fWire=1 then ((decide (a0.fN=0))&&(decide ((qb a0.fB:Int)≤4096))) else false)))
theorem yu.ok (a0:GRaw)(r:Bool)(h:yu a0=r):ACalls qh 51 [.agg (encGRaw a0)] [] (fun r' _=>r'=.bool r):=by
 refine zi (rs:=[.tmp 2]) tok Tryz.func51 rfl Tryz.ntmps51 rfl Tryz.call51 (by simp) ?_;refine zm [(0,.agg (encGRaw a0))] ⟨rfl,trivial⟩ ?_;unfold yu at h
 refine rg tok [1] fun K hK=>?_
 simp only[go_sem,qc,qa,qd,reduceCtorEq,encGRaw];apply hK
 refine za fun Z1 hZ1=>?_
 refine rc [1,10] fun K hK=>?_
 refine rnN 4 ?_;refine zh 4 (fun L τ=>L=[(1,.op 0 0 0),(10,.bool ((decide (a0.fTag<1))||(decide (500<a0.fTag))))]∧τ=[.cells 0 [.int .i64 a0.fTag,.int .i64 a0.fWire,.int .i64 a0.fN,.str a0.fB]]) ?_ ?_
 · refine yx 6 rfl (fun hg6=>?_) (fun hg6=>?_)
   · have t2:=eq_true hg6;refine rnN 4 ?_;refine zb ⟨rfl,_,_,⟨rfl,rfl⟩,.p t2⟩
   have t3:=eq_false hg6;refine rnN 4 ?_;refine zb ⟨rfl,_,_,⟨rfl,rfl⟩,.p t3⟩
 rintro _ _ ⟨rfl,rfl⟩;refine nkN hK ?_;refine zn (b:=((decide (a0.fTag<1))||(decide (500<a0.fTag)))) rfl (fun hc4=>?_) (fun hc4=>?_)
 · rw[if_pos hc4] at h;refine rgN [2] ?_;cases h;exact rtA
 rw[xD hc4] at h;apply zd;apply hZ1
 refine za fun Z5 hZ5=>?_
 refine rgN [1,12] ?_;apply ze;refine rgN [1,12,13] ?_;refine zD rfl (fun hc6=>?_) (fun hc6=>?_)
 · rw[if_pos hc6] at h;have t7:=eq_true hc6
   refine rg tok [2] fun K hK=>?_
   simp only[go_sem,qc,qa,qd,t7];apply hK
   cases h;exact rtA
 rw[if_neg hc6] at h;have t8:=eq_false hc6
 refine rg tok [1,18] fun K hK=>?_
 simp only[go_sem,qc,qa,t8];apply hK
 refine zD rfl (fun hc9=>?_) (fun hc9=>?_)
 · rw[if_pos hc9] at h;have t10:=eq_true hc9
   refine rc [2] fun K hK=>?_
   refine zj tok 4 ?_;simp only[go_sem,qc,qa,qd,t10];refine zh 5 (fun L τ=>L=[(28,.bool ((decide (a0.fN=0))&&(decide ((qb a0.fB:Int)≤4096))))]∧τ=[.cells 0 [.int .i64 a0.fTag,.int .i64 a0.fWire,.int .i64 a0.fN,.str a0.fB]]) ?_ ?_
   · refine yx 23 rfl (fun hg23=>?_) (fun hg23=>?_)
     · have t11:=eq_true hg23;refine rnN 5 ?_;refine zb ⟨rfl,_,_,⟨rfl,rfl⟩,.p t11⟩
     have t12:=eq_false hg23;refine rnN 5 ?_;refine zb ⟨rfl,_,_,⟨rfl,rfl⟩,.p t12⟩
   rintro _ _ ⟨rfl,rfl⟩;refine rnN 1 ?_;refine nkN hK ?_;cases h;exact rtA
 rw[if_neg hc9] at h;have t13:=eq_false hc9;apply zd;apply hZ5
 refine rg tok [2] fun K hK=>?_
 simp only[go_sem,qc,qa,t13];apply hK
 cases h;exact rtA
theorem yu.ev (a0:GRaw)(r:Bool)(h:yu a0=r)(σ:Store):ACalls qh 51 [.agg (encGRaw a0)] σ (fun r' σ'=>r'=.bool r∧σ'=σ):=
 (yu.ok a0 r h).c σ
def xe.l4 (a0:List GRaw):Nat→Int→Option Bool
 |0,_=>none
 |k4+1,x2=>(if x2<(qb a0:Int) then (wV a0 x2).bind fun y9=>(wV a0 (IntKind.i64.wrap (x2-1))).bind fun y12=>(if y9.fTag<y12.fTag then some false else ((xe.l4 a0 k4) (IntKind.i64.wrap (x2+1)))) else some true)
def xe (a0:List GRaw):Option Bool:=
 (xe.l4 a0 rounds 1)
theorem xe.ok (a0:List GRaw)(r:Bool)(h:xe a0=some r):ACalls qh 159 [.ds true (qf encGRaw a0) (qb a0) false] [] (fun r' _=>r'=.bool r):=by
 refine zi (rs:=[.tmp 2]) tok Tryz.func159 rfl Tryz.ntmps159 rfl Tryz.call159 (by simp) ?_;refine zm [(0,.ds true (qf encGRaw a0) (qb a0) false)] ⟨rfl,trivial⟩ ?_;unfold xe at h;refine rgN [0] ?_
 refine za fun Z1 hZ1=>?_
 refine rgN [0,3] ?_;apply ze;refine zC (fun m L τ=>∃ (k4:Nat) (x2:Int),m=0+k4∧L=[(0,.ds true (qf encGRaw a0) (qb a0) false),(3,.int .i64 x2)]∧τ=[]∧xe.l4 a0 k4 x2=some r) _ ⟨rounds,1,rfl,rfl,rfl,h⟩ .s ?_;rintro m L τ ⟨k4,x2,rfl,rfl,rfl,h⟩
 rcases k4 with _|k4
 · cases h
 simp only[xe.l4] at h
 refine za fun Z5 hZ5=>?_
 refine rgN [0,3,7] ?_;refine zD rfl (fun hc6=>?_) (fun hc6=>?_)
 · rw[if_pos hc6] at h;have t7:=eq_true hc6;apply zd;apply hZ5
   refine za fun Z8 hZ8=>?_
   apply ze;obtain⟨y9,hy9,h⟩:=bind_some h;have f10:=E28.idxS hy9;have f11:=E28.fldS0 (f:=3) rfl rfl hy9;obtain⟨y12,hy12,h⟩:=bind_some h;have f13:=E28.idxS hy12;have f14:=E28.fldS0 (f:=3) rfl rfl hy12
   refine rd [0,3,21] fun K hK=>?_
   refine DW.start (T:=tab) [.any,.any,.any,.any,.at [],.any,.any,.any,.any,.any,.at [],.any] [] ?_;refine DW.runN tok 8 ?_;simp only[go_sem,qc,qa,reduceCtorEq,encGRaw,t7,f10,f11];refine DW.runN tok 4 ?_;simp only[go_sem,qc,qa,reduceCtorEq,encGRaw,f13,f14];refine DW.fin tok (by decide +kernel) rfl ?_;simp only[zt,upd,qa,reduceIte,yV,xz];apply hK
   refine zD rfl (fun hc15=>?_) (fun hc15=>?_)
   · rw[if_pos hc15] at h;have t16:=eq_true hc15
     refine rg tok [2] fun K hK=>?_
     simp only[go_sem,qc,qa,reduceCtorEq,t16];apply hK
     cases h;exact rtA
   rw[if_neg hc15] at h;have t17:=eq_false hc15;apply zd;apply hZ8
   refine rgE tok [0,3] fun K hK=>?_
   simp only[go_sem,qc,qa,reduceCtorEq,t17];apply hK
   exact⟨_,_,_,qy (0+k4),⟨k4,IntKind.i64.wrap (x2+1),rfl,rfl,rfl,h⟩,.s⟩
 rw[if_neg hc6] at h;have t18:=eq_false hc6;apply zJ;apply hZ1
 refine rg tok [2] fun K hK=>?_
 simp only[go_sem,qc,qa,reduceCtorEq,t18];apply hK
 cases h;exact rtA
theorem xe.ev (a0:List GRaw)(r:Bool)(h:xe a0=some r)(σ:Store):ACalls qh 159 [.ds true (qf encGRaw a0) (qb a0) false] σ (fun r' σ'=>r'=.bool r∧σ'=σ):=
 (xe.ok a0 r h).c σ
def yq.l16 (x2:Int)(rec4:Int→Option Bool)(y4:GRaw):List GEntry→Int→Option Bool
 |[],x14=>(rec4 (x2+1))
 |y16::q16,x14=>(if y16.fTag=y4.fTag then some false else ((yq.l16 x2 rec4 y4 q16) (x14+1)))
def yq.l4 (a0:GTree):List GRaw→Int→Option Bool
 |[],x2=>(xe a0.fRest).bind fun r6=>some r6
 |y4::q4,x2=>bnd (yu y4) fun r12=>(if (!r12)=true then some false else (yq.l16 x2 (yq.l4 a0 q4) y4 a0.fEntries 0))
def yq (a0:GTree):Option Bool:=
 (yq.l4 a0 a0.fRest 0)
theorem yq.ok (a0:GTree)(r:Bool)(h:yq a0=some r):ACalls qh 154 [.agg (cellsGTree a0)] [] (fun r' _=>r'=.bool r):=by
 refine zi (rs:=[.tmp 2]) tok Tryz.func154 rfl Tryz.ntmps154 rfl Tryz.call154 (by simp) ?_;refine zm [(0,.agg (cellsGTree a0))] ⟨rfl,trivial⟩ ?_;unfold yq at h
 refine rg tok [1] fun K hK=>?_
 simp only[go_sem,qc,qa,qd,reduceCtorEq,cellsGTree];apply hK
 refine za fun Z1 hZ1=>?_
 refine rgN [1,8,9,10] ?_;apply ze
 refine xb 8 fun hb4=>?_
 replace hb4:qb a0.fRest≤9223372036854775807:=hb4.1;refine zC (fun m L τ=>∃ (p4 q4:List GRaw) (x2:Int),m=qb q4∧L=[(1,.op 0 0 0),(8,.ds true (qf encGRaw a0.fRest) (qb a0.fRest) false),(9,.int .i64 (qb a0.fRest:Int)),(10,.int .i64 x2)]∧τ=[.cells 0 (cellsGTree a0)]∧a0.fRest=p4++q4∧x2=(qb p4:Int)∧yq.l4 a0 q4 x2=some r) _ ⟨[],a0.fRest,0,rfl,rfl,rfl,rfl,rfl,h⟩ .s ?_;rintro m L τ ⟨p4,q4,x2,rfl,rfl,rfl,hE4,hi4,h⟩
 rcases q4 with _|⟨y4,q4⟩
 · have hz4:=yz hE4 hi4;simp only[yq.l4] at h
   refine rg tok [1,8,9,10,11] fun K hK=>?_
   simp only[go_sem,qc,qa,hz4];apply hK
   refine za fun Z5 hZ5=>?_
   refine zw rfl ?_;apply zJ;apply hZ1
   refine rc [2] fun K hK=>?_
   obtain⟨r6,hr6,h⟩:=bind_some h;refine rnN 2 ?_;refine clN rfl rfl rfl (xe.ev a0.fRest r6 hr6 _) ?_;refine rnN 1 ?_;refine nkN hK ?_;cases h;exact rtA
 obtain⟨hz4,hw4,hx4,hE'4,hi'4⟩:=yd hE4 hi4 hb4;simp only[yq.l4] at h
 refine rg tok [1,8,9,10,11] fun K hK=>?_
 simp only[go_sem,qc,qa,hz4];apply hK
 refine za fun Z7 hZ7=>?_
 refine zz rfl ?_;apply zd;apply hZ7
 refine za fun Z8 hZ8=>?_
 apply ze;have f9:=E28.idxS hx4;have f10:=E28.loadS rfl rfl hx4
 refine rg tok [1,4,8,9,10] fun K hK=>?_
 simp only[go_sem,qc,qe,qa,qd,encGRaw,f9,f10];apply hK
 refine za fun Z11 hZ11=>?_
 refine rc [1,4,8,9,10,16] fun K hK=>?_
 obtain⟨r12,hr12,h⟩:=zR h;refine rnN 1 ?_;refine clN rfl rfl rfl (yu.ev y4 r12 hr12 _) ?_;refine rnN 1 ?_;refine nkN hK ?_;refine zn (b:=(!r12)) rfl (fun hc13=>?_) (fun hc13=>?_)
 · rw[if_pos hc13] at h;refine rgN [2] ?_;cases h;exact rtA
 rw[xD hc13] at h;apply zd;apply hZ11;refine rgN [1,4,8,9,10,18,19,20] ?_;apply ze
 refine xb 18 fun hb16=>?_
 replace hb16:qb a0.fEntries≤9223372036854775807:=hb16.1;refine zC (fun m L τ=>∃ (p16 q16:List GEntry) (x14:Int),m=qb q16∧L=[(1,.op 0 0 0),(4,.op 1 0 0),(8,.ds true (qf encGRaw a0.fRest) (qb a0.fRest) false),(9,.int .i64 (qb a0.fRest:Int)),(10,.int .i64 x2),(18,.ds true (qf encGEntry a0.fEntries) (qb a0.fEntries) false),(19,.int .i64 (qb a0.fEntries:Int)),(20,.int .i64 x14)]∧τ=[.cells 0 (cellsGTree a0),.cells 0 [.int .i64 y4.fTag,.int .i64 y4.fWire,.int .i64 y4.fN,.str y4.fB]]∧a0.fEntries=p16++q16∧x14=(qb p16:Int)∧yq.l16 x2 (yq.l4 a0 q4) y4 q16 x14=some r) _ ⟨[],a0.fEntries,0,rfl,rfl,rfl,rfl,rfl,h⟩ .s ?_;rintro m L τ ⟨p16,q16,x14,rfl,rfl,rfl,hE16,hi16,h⟩
 rcases q16 with _|⟨y16,q16⟩
 · have hz16:=yz hE16 hi16;simp only[yq.l16] at h
   refine rg tok [1,4,8,9,10,18,19,20,21] fun K hK=>?_
   simp only[go_sem,qc,qa,hz16];apply hK
   refine za fun Z17 hZ17=>?_
   refine zw rfl ?_;apply zJ;apply hZ8
   refine rgE tok [1,8,9,10] fun K hK=>?_
   simp only[go_sem,qc,qa,hw4];apply hK
   exact⟨_,_,_,qy q4.length,⟨p4++[y4],q4,x2+1,rfl,rfl,rfl,hE'4,hi'4,h⟩,(.t [0] false)⟩
 obtain⟨hz16,hw16,hx16,hE'16,hi'16⟩:=yd hE16 hi16 hb16;simp only[yq.l16] at h
 refine rg tok [1,4,8,9,10,18,19,20,21] fun K hK=>?_
 simp only[go_sem,qc,qa,hz16];apply hK
 refine za fun Z18 hZ18=>?_
 refine zz rfl ?_;apply zd;apply hZ18
 refine za fun Z19 hZ19=>?_
 apply ze;have f20:=E27.idxS hx16;have f21:=E27.loadS rfl rfl hx16
 refine rg tok [1,4,6,8,9,10,18,19,20] fun K hK=>?_
 simp only[go_sem,qc,qe,qa,qd,cellsGEntry,yy,f20,f21];apply hK
 refine rgN [1,4,8,9,10,18,19,20,28] ?_;refine zD rfl (fun hc22=>?_) (fun hc22=>?_)
 · rw[if_pos hc22] at h;have t23:=eq_true hc22
   refine rg tok [2] fun K hK=>?_
   simp only[go_sem,qc,qa,t23];apply hK
   cases h;exact rtA
 rw[if_neg hc22] at h;have t24:=eq_false hc22;apply zd;apply hZ19
 refine rgE tok [1,4,8,9,10,18,19,20] fun K hK=>?_
 simp only[go_sem,qc,qa,hw16,t24];apply hK
 exact⟨_,_,_,qy q16.length,⟨p16++[y16],q16,x14+1,rfl,rfl,rfl,hE'16,hi'16,h⟩,(.t [0,1] false)⟩
theorem yq.ev (a0:GTree)(r:Bool)(h:yq a0=some r)(σ:Store):ACalls qh 154 [.agg (cellsGTree a0)] σ (fun r' σ'=>r'=.bool r∧σ'=σ):=
 (yq.ok a0 r h).c σ
def zq.j25 (x16:Int)(rec18:Int→Option Bool)(x24:Bool):Option Bool:=
 (if x24=true then some false else (rec18 (x16+1)))
def zq.l18 (zV:GTree→Option Bool)(x3:Int)(rec6:Int→Int→Option Bool)(y6:GEntry):List GTree→Int→Option Bool
 |[],x16=>(rec6 (x3+1) y6.fTag)
 |y18::q18,x16=>(wV y6.fTrees 0).bind fun y27=>(if y18.fKind=y27.fKind then (zV y18).bind fun r32=>(zq.j25 x16 (zq.l18 zV x3 rec6 y6 q18) (!r32)) else (zq.j25 x16 (zq.l18 zV x3 rec6 y6 q18) true))
def zq.l6 (zV:GTree→Option Bool):List GEntry→Int→Int→Option Bool
 |[],x3,x2=>some true
 |y6::q6,x3,x2=>(if ((((decide (y6.fTag≤x2))||(decide (500<y6.fTag)))||(decide ((qb y6.fTrees:Int)<1)))||(decide (64<(qb y6.fTrees:Int))))=true then some false else (zq.l18 zV x3 (zq.l6 zV q6) y6 y6.fTrees 0))
def zq.body (xn:GTree→Option Bool)(zV:GTree→Option Bool)(a0:GTree):Option Bool:=
 (zq.l6 zV a0.fEntries 0 0)
theorem zq.step (xn:GTree→Option Bool)(zV:GTree→Option Bool)(Zx:∀ (a0:GTree) (r:Bool),xn a0=some r→ACalls qh 153 [.agg (cellsGTree a0)] [] (fun r' _=>r'=.bool r))(ZY:∀ (a0:GTree) (r:Bool),zV a0=some r→ACalls qh 132 [.agg (cellsGTree a0)] [] (fun r' _=>r'=.bool r))(a0:GTree)(r:Bool)(h:zq.body xn zV a0=some r):ACalls qh 153 [.agg (cellsGTree a0)] [] (fun r' _=>r'=.bool r):=by
 have ev_value_entries:=fun a0 r h σ=>(Zx a0 r h).c σ
 have ev_value_right:=fun a0 r h σ=>(ZY a0 r h).c σ
 refine zi (rs:=[.tmp 2]) tok Tryz.func153 rfl Tryz.ntmps153 rfl Tryz.call153 (by simp) ?_;refine zm [(0,.agg (cellsGTree a0))] ⟨rfl,trivial⟩ ?_;unfold zq.body at h
 refine rg tok [1] fun K hK=>?_
 simp only[go_sem,qc,qa,qd,reduceCtorEq,cellsGTree];apply hK
 refine rgN [1,3] ?_
 refine za fun Z1 hZ1=>?_
 refine rgN [3,9,10,11] ?_;apply ze
 refine xb 9 fun hb6=>?_
 replace hb6:qb a0.fEntries≤9223372036854775807:=hb6.1;refine zC (fun m L τ=>∃ (p6 q6:List GEntry) (x3:Int) (x2:Int),m=qb q6∧L=[(3,.int .i64 x2),(9,.ds true (qf encGEntry a0.fEntries) (qb a0.fEntries) false),(10,.int .i64 (qb a0.fEntries:Int)),(11,.int .i64 x3)]∧τ=[]∧a0.fEntries=p6++q6∧x3=(qb p6:Int)∧zq.l6 zV q6 x3 x2=some r) _ ⟨[],a0.fEntries,0,0,rfl,rfl,rfl,rfl,rfl,h⟩ (.t [] false) ?_;rintro m L τ ⟨p6,q6,x3,x2,rfl,rfl,rfl,hE6,hi6,h⟩
 rcases q6 with _|⟨y6,q6⟩
 · have hz6:=yz hE6 hi6;simp only[zq.l6] at h
   refine rg tok [3,9,10,11,12] fun K hK=>?_
   simp only[go_sem,qc,qa,hz6];apply hK
   refine za fun Z7 hZ7=>?_
   refine zw rfl ?_;apply zJ;apply hZ1;refine rgN [2] ?_;cases h;exact rtA
 obtain⟨hz6,hw6,hx6,hE'6,hi'6⟩:=yd hE6 hi6 hb6;simp only[zq.l6] at h
 refine rg tok [3,9,10,11,12] fun K hK=>?_
 simp only[go_sem,qc,qa,hz6];apply hK
 refine za fun Z8 hZ8=>?_
 refine zz rfl ?_;apply zd;apply hZ8
 refine za fun Z9 hZ9=>?_
 apply ze;have f10:=E27.idxS hx6;have f11:=E27.loadS rfl rfl hx6
 refine rg tok [3,5,9,10,11] fun K hK=>?_
 simp only[go_sem,qc,qe,qa,qd,cellsGEntry,yy,f10,f11];apply hK
 refine za fun Z12 hZ12=>?_
 refine rc [5,9,10,11,35] fun K hK=>?_
 refine rnN 5 ?_;refine zh 4 (fun L τ=>L=[(5,.op 0 0 0),(9,.ds true (qf encGEntry a0.fEntries) (qb a0.fEntries) false),(10,.int .i64 (qb a0.fEntries:Int)),(11,.int .i64 x3),(23,.bool ((decide (y6.fTag≤x2))||(decide (500<y6.fTag))))]∧τ=[.cells 0 (cellsGEntry y6)]) ?_ ?_
 · refine yx 19 rfl (fun hg19=>?_) (fun hg19=>?_)
   · have t13:=eq_true hg19;refine rnN 4 ?_;refine zb ⟨rfl,_,_,⟨rfl,rfl⟩,.p t13⟩
   have t14:=eq_false hg19;refine rnN 4 ?_;refine zb ⟨rfl,_,_,⟨rfl,rfl⟩,.p t14⟩
 rintro _ _ ⟨rfl,rfl⟩;refine rnN 1 ?_;refine zh 5 (fun L τ=>L=[(5,.op 0 0 0),(9,.ds true (qf encGEntry a0.fEntries) (qb a0.fEntries) false),(10,.int .i64 (qb a0.fEntries:Int)),(11,.int .i64 x3),(29,.bool (((decide (y6.fTag≤x2))||(decide (500<y6.fTag)))||(decide ((qb y6.fTrees:Int)<1))))]∧τ=[.cells 0 (cellsGEntry y6)]) ?_ ?_
 · refine zK (b:=((decide (y6.fTag≤x2))||(decide (500<y6.fTag)))) 24 rfl (fun hg24=>?_) (fun hg24=>?_)
   · refine rnN 5 ?_;refine zb ⟨rfl,_,_,⟨rfl,rfl⟩,.b hg24⟩
   refine rnN 5 ?_;refine zb ⟨rfl,_,_,⟨rfl,rfl⟩,.b hg24⟩
 rintro _ _ ⟨rfl,rfl⟩;refine rnN 1 ?_;refine zh 5 (fun L τ=>L=[(5,.op 0 0 0),(9,.ds true (qf encGEntry a0.fEntries) (qb a0.fEntries) false),(10,.int .i64 (qb a0.fEntries:Int)),(11,.int .i64 x3),(35,.bool ((((decide (y6.fTag≤x2))||(decide (500<y6.fTag)))||(decide ((qb y6.fTrees:Int)<1)))||(decide (64<(qb y6.fTrees:Int)))))]∧τ=[.cells 0 (cellsGEntry y6)]) ?_ ?_
 · refine zK (b:=(((decide (y6.fTag≤x2))||(decide (500<y6.fTag)))||(decide ((qb y6.fTrees:Int)<1)))) 30 rfl (fun hg30=>?_) (fun hg30=>?_)
   · refine rnN 5 ?_;refine zb ⟨rfl,_,_,⟨rfl,rfl⟩,.b hg30⟩
   refine rnN 5 ?_;refine zb ⟨rfl,_,_,⟨rfl,rfl⟩,.b hg30⟩
 rintro _ _ ⟨rfl,rfl⟩;refine nkN hK ?_;refine zn (b:=((((decide (y6.fTag≤x2))||(decide (500<y6.fTag)))||(decide ((qb y6.fTrees:Int)<1)))||(decide (64<(qb y6.fTrees:Int))))) rfl (fun hc15=>?_) (fun hc15=>?_)
 · rw[if_pos hc15] at h;refine rgN [2] ?_;cases h;exact rtA
 rw[xD hc15] at h;apply zd;apply hZ12;refine rgN [3,5,9,10,11] ?_;refine rgN [3,5,9,10,11,39,40,41] ?_;apply ze
 refine xb 39 fun hb18=>?_
 replace hb18:qb y6.fTrees≤9223372036854775807:=hb18.1;refine zC (fun m L τ=>∃ (p18 q18:List GTree) (x16:Int),m=qb q18∧L=[(3,.int .i64 y6.fTag),(5,.op 0 0 0),(9,.ds true (qf encGEntry a0.fEntries) (qb a0.fEntries) false),(10,.int .i64 (qb a0.fEntries:Int)),(11,.int .i64 x3),(39,.ds true (qf encGTree y6.fTrees) (qb y6.fTrees) false),(40,.int .i64 (qb y6.fTrees:Int)),(41,.int .i64 x16)]∧τ=[.cells 0 (cellsGEntry y6)]∧y6.fTrees=p18++q18∧x16=(qb p18:Int)∧zq.l18 zV x3 (zq.l6 zV q6) y6 q18 x16=some r) _ ⟨[],y6.fTrees,0,rfl,rfl,rfl,rfl,rfl,h⟩ .s ?_;rintro m L τ ⟨p18,q18,x16,rfl,rfl,rfl,hE18,hi18,h⟩
 rcases q18 with _|⟨y18,q18⟩
 · have hz18:=yz hE18 hi18;simp only[zq.l18] at h
   refine rg tok [3,5,9,10,11,39,40,41,42] fun K hK=>?_
   simp only[go_sem,qc,qa,hz18];apply hK
   refine za fun Z19 hZ19=>?_
   refine zw rfl ?_;apply zJ;apply hZ9
   refine rgE tok [3,9,10,11] fun K hK=>?_
   simp only[go_sem,qc,qa,hw6];apply hK
   exact⟨_,_,_,qy q6.length,⟨p6++[y6],q6,x3+1,y6.fTag,rfl,rfl,rfl,hE'6,hi'6,h⟩,(.t [] false)⟩
 obtain⟨hz18,hw18,hx18,hE'18,hi'18⟩:=yd hE18 hi18 hb18;simp only[zq.l18] at h
 refine rg tok [3,5,9,10,11,39,40,41,42] fun K hK=>?_
 simp only[go_sem,qc,qa,hz18];apply hK
 refine za fun Z20 hZ20=>?_
 refine zz rfl ?_;apply zd;apply hZ20
 refine za fun Z21 hZ21=>?_
 apply ze;have f22:=E90.idxS hx18;have f23:=E90.loadS rfl rfl hx18
 refine rg tok [3,5,7,9,10,11,39,40,41] fun K hK=>?_
 simp only[go_sem,qc,qe,qa,qd,cellsGTree,zO,f22,f23];apply hK
 refine xG (fun L τ=>∃ (x24:Bool),L=[(3,.int .i64 y6.fTag),(5,.op 0 0 0),(9,.ds true (qf encGEntry a0.fEntries) (qb a0.fEntries) false),(10,.int .i64 (qb a0.fEntries:Int)),(11,.int .i64 x3),(39,.ds true (qf encGTree y6.fTrees) (qb y6.fTrees) false),(40,.int .i64 (qb y6.fTrees:Int)),(41,.int .i64 x16),(57,.bool x24)]∧τ=[.cells 0 (cellsGEntry y6)]∧zq.j25 x16 (zq.l18 zV x3 (zq.l6 zV q6) y6 q18) x24=some r) ?_ ?_
 · refine rdE [3,5,9,10,11,39,40,41,57] fun K hK=>?_
   refine DW.start (T:=tab) [.any,.at [],.any,.at [],.any,.any,.at [],.any,.any,.at [],.eff,.any,.any] [] ?_;obtain⟨y27,hy27,h⟩:=bind_some h;have f28:=E90.idxS hy27;have f29:=E90.fldS0 (f:=3) rfl rfl hy27;refine DW.runN tok 8 ?_;simp only[go_sem,qc,qa,qd,cellsGTree,zO,f28,f29];refine DW.runN tok 1 ?_;simp only[go_sem,qc,qa]
   refine DW.if 53 rfl (fun hg53=>?_) (fun hg53=>?_)
   · rw[if_neg hg53] at h;have t30:=eq_false hg53;refine DW.runN tok 4 ?_;simp only[go_sem,qc,qa,t30];refine DW.fin tok (by decide +kernel) rfl ?_;simp only[zt,upd,qa,reduceIte,yV,xz];apply hK
     exact⟨_,_,⟨true,rfl,rfl,h⟩,(.t [0] false)⟩
   rw[if_pos hg53] at h;have t31:=eq_true hg53;obtain⟨r32,hr32,h⟩:=bind_some h;refine DW.runN tok 1 ?_;simp only[go_sem,qc,qe,qa,qd,t31];refine DW.call rfl rfl rfl (ev_value_right y18 r32 hr32 _) ?_;refine DW.runN tok 2 ?_;simp only[go_sem,qc,qa];refine DW.fin tok (by decide +kernel) rfl ?_;simp only[zt,upd,qa,reduceIte,yV,xz];apply hK
   exact⟨_,_,⟨!r32,rfl,rfl,h⟩,(.t [0] false)⟩
 rintro _ _ ⟨x24,rfl,rfl,h⟩;unfold zq.j25 at h;refine zn (b:=x24) rfl (fun hc26=>?_) (fun hc26=>?_)
 · rw[if_pos hc26] at h;refine rgN [2] ?_;cases h;exact rtA
 rw[xD hc26] at h;apply zd;apply hZ21
 refine rgE tok [3,5,9,10,11,39,40,41] fun K hK=>?_
 simp only[go_sem,qc,qa,hw18];apply hK
 exact⟨_,_,_,qy q18.length,⟨p18++[y18],q18,x16+1,rfl,rfl,rfl,hE'18,hi'18,h⟩,.s⟩
end
end Go.Proofs.YtaddlmlpeghonaaGreatDoor
